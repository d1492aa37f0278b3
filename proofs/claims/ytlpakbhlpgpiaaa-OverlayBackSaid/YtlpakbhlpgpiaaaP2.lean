/- Overlays: what is got, what is put on blocks: plain law. -/
import Derived.Test.YtlpakbhlpgpiaaaS4
set_option linter.unusedVariables false
set_option linter.unusedSimpArgs false
namespace Go.Proofs.Ytlpakbhlpgpiaaa
open Go.Am
theorem getF_ins (w : Wr) : ∀ ws, getF (ins ws w) w.b = some w
  | [] => by simp [ins, getF]
  | x :: r => by
    have ih := getF_ins w r
    simp only [ins]
    split
    · rename_i h
      have : ¬ x.b = w.b := by omega
      simpa [getF, this] using ih
    · split <;> simp [getF]
theorem getF_other (w : Wr) (k : Int) (hk : k ≠ w.b) : ∀ ws, getF (ins ws w) k = getF ws k
  | [] => by simp [ins, getF]; omega
  | x :: r => by
    have ih := getF_other w k hk r
    have hk' : ¬ w.b = k := fun h => hk h.symm
    simp only [ins]
    split
    · unfold getF at ih ⊢
      simp only [List.find?_cons]
      cases decide (x.b = k) with
      | true => rfl
      | false => exact ih
    · split
      · rename_i h
        have : ¬ x.b = k := by omega
        simp [getF, this, hk']
      · simp [getF, hk']
theorem getF_at : ∀ {ws : List Wr} {l : Int} {i : Nat} {x : Wr}, wrB l ws = true → ws[i]? = some x → getF ws x.b = some x
  | [], _, _, _, _, h => by simp at h
  | y :: r, l, i, x, hw, h => by
    obtain ⟨h1, h2, h3⟩ := wrB_cons.1 hw
    cases i with
    | zero => simp at h; subst h; simp [getF]
    | succ i =>
      simp only [List.getElem?_cons_succ] at h
      have := wrB_lt h3 x (List.mem_of_getElem? h)
      have hne : ¬ y.b = x.b := by omega
      have ih := getF_at h3 h
      simpa [getF, hne] using ih
theorem ins_mem {ws : List Wr} {w x : Wr} (h : x ∈ ins ws w) : x = w ∨ x ∈ ws := by
  induction ws with
  | nil => simp [ins] at h; exact .inl h
  | cons y r ih =>
    simp only [ins] at h
    split at h
    · rcases List.mem_cons.1 h with rfl | h
      · exact .inr (.head _)
      · exact (ih h).imp id (.tail _)
    · split at h
      · rcases List.mem_cons.1 h with rfl | h
        · exact .inl rfl
        · exact .inr (.tail _ h)
      · rcases List.mem_cons.1 h with rfl | h
        · exact .inl rfl
        · exact .inr h
theorem foldP_err : ∀ {ys : List Wr} {out : List Wr}, WnB out = true → (∀ w ∈ ys, 0 ≤ w.b ∧ w.b < 32) → (foldP out ys).2 = 0 ∨ (foldP out ys).2 = 50
  | [], _, _, _ => .inl rfl
  | w :: r, out, h, hb => by
    obtain ⟨b0, b32⟩ := hb w (.head _)
    simp only [foldP]
    by_cases ho : Ok out w
    · rw [putF_ok ho]
      exact foldP_err ho.wn' (fun x hx => hb x (.tail _ hx))
    · rw [putF_full h b0 b32 ho]
      exact .inr rfl
theorem onF_set {k : Nat} {v : List Int} : ∀ {ws : List Wr} {h : List (List Int)}, (∀ w ∈ ws, w.b ≠ k) → onF (h.set k v) ws = (onF h ws).set k v
  | [], _, _ => rfl
  | x :: r, h, hx => by
    simp only [onF]
    have hk := hx x (.head _)
    have ih := fun h => onF_set (k := k) (v := v) (ws := r) (h := h) (fun w hw => hx w (.tail _ hw))
    split
    · rename_i hb
      rw [← ih, List.set_comm]
      omega
    · exact ih h
theorem onF_ins (w : Wr) (h0 : 0 ≤ w.b) (h32 : w.b < 32) : ∀ {ws : List Wr} {l : Int} (h : List (List Int)), wrB l ws = true → onF h (ins ws w) = (onF h ws).set w.b.toNat w.v
  | [], l, h, _ => by simp only [ins, onF, if_pos (And.intro h0 h32)]
  | x :: r, l, h, hw => by
    obtain ⟨h1, h2, h3⟩ := wrB_cons.1 hw
    have hr : w.b ≤ x.b → ∀ y ∈ r, y.b ≠ ((w.b.toNat : Nat) : Int) := fun hx y hy => by have := wrB_lt h3 y hy; omega
    simp only [ins]
    split
    · simp only [onF]
      exact onF_ins w h0 h32 _ h3
    · split
      · rename_i hx
        simp only [onF, if_pos (And.intro h0 h32), hx]
        rw [onF_set (hr (by omega)), onF_set (hr (by omega)), List.set_set]
      · rename_i hx hx2
        show onF (if 0 ≤ w.b ∧ w.b < 32 then h.set w.b.toNat w.v else h) (x :: r) = _
        rw [if_pos (And.intro h0 h32)]
        refine onF_set fun y hy => ?_
        rcases List.mem_cons.1 hy with rfl | hy
        · omega
        · exact hr (by omega) y hy
theorem foldP_ok (home : List (List Int)) : ∀ {ys : List Wr} {out : List Wr}, WnB out = true → (foldP out ys).2 = 0 → WnB (foldP out ys).1 = true ∧ onF home (foldP out ys).1 = onF (onF home out) ys ∧ (∀ x ∈ (foldP out ys).1, x ∈ out ∨ x ∈ ys)
  | [], _, h, _ => ⟨h, rfl, fun x hx => .inl hx⟩
  | w :: r, out, h, h0 => by
    simp only [foldP] at h0 ⊢
    by_cases hz : (putF out w).2 = 0
    · have ho := putF_err.1 hz
      rw [putF_ok ho] at h0 ⊢
      simp only [decide_true, cond_true] at h0 ⊢
      obtain ⟨h1, h2, h3⟩ := foldP_ok home ho.wn' h0
      refine ⟨h1, ?_, fun x hx => ?_⟩
      · rw [h2, onF_ins w ho.b0 ho.b32 home (WnB_split.1 ho.wn).1, onF, if_pos (And.intro ho.b0 ho.b32)]
      · rcases h3 x hx with hx | hx
        · rcases ins_mem hx with rfl | hx
          · exact .inr (.head _)
          · exact .inl hx
        · exact .inr (.tail _ hx)
    · rw [decide_eq_false hz] at h0
      exact absurd h0 hz
theorem onF_len : ∀ {ws : List Wr} {h : List (List Int)}, (onF h ws).length = h.length
  | [], _ => rfl
  | x :: r, h => by
    simp only [onF]
    split
    · rw [onF_len, List.length_set]
    · exact onF_len
theorem onF_all : ∀ {ws : List Wr} {h : List (List Int)}, (∀ v ∈ h, v.length = 8) → (∀ w ∈ ws, w.v.length = 8) → ∀ v ∈ onF h ws, v.length = 8
  | [], _, h1, _ => h1
  | x :: r, h, h1, h2 => by
    simp only [onF]
    split
    · refine onF_all (fun v hv => ?_) (fun w hw => h2 w (.tail _ hw))
      rcases List.mem_or_eq_of_mem_set hv with hv | rfl
      · exact h1 v hv
      · exact h2 x (.head _)
    · exact onF_all h1 (fun w hw => h2 w (.tail _ hw))
end Go.Proofs.Ytlpakbhlpgpiaaa
