/- A layer over the walk's rules. This text: a table of types is in order: by a test. -/
import Derived.Test.YtlpakbhlpgpiaaaAmA
set_option linter.unusedVariables false
namespace Go.Am

def wfFields (P : Program) (n sz : Nat) : List Field → Nat → Bool
  | [], _ => true
  | f :: fs, lo => Nat.blt f.type n && Nat.ble lo f.offset && Nat.ble (f.offset + szOf P f.type) sz && wfFields P n sz fs (f.offset + szOf P f.type)
def wfTy (P : Program) (n : Nat) (ty : TypeId) : Bool :=
  (P.info? ty).isSome && match P.underlying ty with
  | some (.struct fs) => wfFields P n (szOf P ty) fs.toList 0
  | some (.array k e) => Nat.blt e n && Nat.beq (szOf P ty) (k * szOf P e)
  | some (.slice e) => Nat.blt e n
  | _ => true
def wfAll (P : Program) (n : Nat) : Nat → Bool
  | 0 => true
  | k + 1 => wfTy P n k && wfAll P n k
theorem wfAll_at {P : Program} {n : Nat} : ∀ {k : Nat}, wfAll P n k = true → ∀ t, t < k → wfTy P n t = true
  | 0, _, t, ht => by omega
  | k + 1, h, t, ht => by
    simp only [wfAll, Bool.and_eq_true] at h
    by_cases e : t = k
    · subst e; exact h.1
    · exact wfAll_at h.2 t (by omega)
theorem wfFields_get {P : Program} {n sz : Nat} : ∀ {fs : List Field} {lo : Nat}, wfFields P n sz fs lo = true → ∀ (i : Nat) (f : Field), fs[i]? = some f → f.type < n ∧ lo ≤ f.offset ∧ f.offset + szOf P f.type ≤ sz
  | [], _, _, i, f, hf => by simp at hf
  | a :: fs, lo, h, i, f, hf => by
    simp only [wfFields, Bool.and_eq_true, Nat.blt_eq, Nat.ble_eq] at h
    cases i with
    | zero => simp at hf; subst hf; exact ⟨h.1.1.1, h.1.1.2, h.1.2⟩
    | succ i =>
      simp only [List.getElem?_cons_succ] at hf
      obtain ⟨q1, q2, q3⟩ := wfFields_get h.2 i f hf
      exact ⟨q1, by omega, q3⟩
theorem wfFields_apart {P : Program} {n sz : Nat} : ∀ {fs : List Field} {lo : Nat}, wfFields P n sz fs lo = true → ∀ (i j : Nat) (f k : Field), i < j → fs[i]? = some f → fs[j]? = some k → f.offset + szOf P f.type ≤ k.offset
  | [], _, _, i, j, f, k, _, hf, _ => by simp at hf
  | a :: fs, lo, h, i, j, f, k, hij, hf, hk => by
    simp only [wfFields, Bool.and_eq_true, Nat.blt_eq, Nat.ble_eq] at h
    cases j with
    | zero => omega
    | succ j =>
      simp only [List.getElem?_cons_succ] at hk
      cases i with
      | zero => simp at hf; subst hf; exact (wfFields_get h.2 j k hk).2.1
      | succ i =>
        simp only [List.getElem?_cons_succ] at hf
        exact wfFields_apart h.2 i j f k (by omega) hf hk
theorem wf_of {P : Program} {n : Nat} (hn : P.types.size = n) (h : wfAll P n n = true) : WfP P := by
  subst hn
  have key := fun t ht => wfAll_at h t ht
  refine ⟨fun ty fs hty hu i f hf => ?_, fun ty fs hty hu i j f k hij hf hk => ?_, fun ty k e hty hu => ?_, fun ty e hty hu => ?_, fun ty hty => ?_⟩
  · have h1 := key ty hty
    simp only [wfTy, hu, Bool.and_eq_true] at h1
    obtain ⟨q1, _, q3⟩ := wfFields_get h1.2 i f (by simpa using hf)
    exact ⟨q1, q3⟩
  · have h1 := key ty hty
    simp only [wfTy, hu, Bool.and_eq_true] at h1
    exact wfFields_apart h1.2 i j f k hij (by simpa using hf) (by simpa using hk)
  · have h1 := key ty hty
    simp only [wfTy, hu, Bool.and_eq_true, Nat.blt_eq] at h1
    exact ⟨h1.2.1, Nat.eq_of_beq_eq_true h1.2.2⟩
  · have h1 := key ty hty
    simp only [wfTy, hu, Bool.and_eq_true, Nat.blt_eq] at h1
    exact h1.2
  · have h1 := key ty hty
    simp only [wfTy, Bool.and_eq_true] at h1
    obtain ⟨i, hi⟩ := Option.isSome_iff_exists.1 h1.1
    exact ⟨i, hi, by simp [szOf, hi]⟩
end Go.Am
