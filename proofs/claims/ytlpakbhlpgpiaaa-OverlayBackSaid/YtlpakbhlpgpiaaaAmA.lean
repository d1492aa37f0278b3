/- A layer over the walk's rules. This text: a list written out. -/
import Derived.Test.YtlpakbhlpgpiaaaAm9
set_option linter.unusedVariables false
set_option linter.unusedSimpArgs false
namespace Go.Am
variable {P : Program} {σ : St}
variable {d : Option Nat} {ty : TypeId} {p : String} {af : Array Edge} {g : Option (Nat × Bool)} {Kp : X → List AO → (Tips) → Prop}

/-- A new list of one's own: its capacity is its length. -/
theorem WR.lit {κ : K} {w : World} {h : List AO} {u : Tips} (H : WR P κ w h u) {xs : List T} {e : TypeId} {us : List Value} (hv : VA P κ xs e us) :
    ∃ κ', Ext κ u w κ' u (w.alloc (.cells us.toArray e (0, 0))) ∧ WR P κ' (w.alloc (.cells us.toArray e (0, 0))) h u ∧ HoldsAt κ' w.heap.size 0 us := by
  obtain ⟨h1, h2, h3⟩ := H.row0 us [] e
  rw [List.append_nil] at h1 h2
  exact ⟨_, h1, h2, h3⟩

/-- Parts that fill a list from 0 on. -/
inductive Parts (P : Program) (σ : St) (e : TypeId) : Nat → List (Nat × Operand) → List T → Prop where
  | nil {i : Nat} : Parts P σ e i [] []
  | cons {i : Nat} {o : Operand} {ps : List (Nat × Operand)} {x : T} {xs : List T} (h : ArgAt P σ o e x) (hsz : x.aggB = true ∨ szOf P e = 1) (k : Parts P σ e (i + 1) ps xs) : Parts P σ e i ((i, o) :: ps) (x :: xs)

theorem foldl_set (us : List Value) (off : Nat) : ∀ (k : Nat) (cs : Array Value), off + k + us.length ≤ cs.size →
    ((us.zipIdx k).foldl (fun cs (x : Value × Nat) => cs.setIfInBounds (off + x.2) x.1) cs).toList = splice cs.toList (off + k) us := by
  induction us with
  | nil => intro k cs h; simp [splice]
  | cons u us ih =>
    intro k cs h
    simp only [List.zipIdx_cons, List.foldl_cons]
    rw [ih (k + 1) _ (by simp at h ⊢; omega)]
    apply List.ext_getElem?
    intro j
    have h1 : off + (k + 1) + us.length ≤ (cs.setIfInBounds (off + k) u).toList.length := by simp at h ⊢; omega
    have h2 : off + k + (u :: us).length ≤ cs.toList.length := by simp at h ⊢; omega
    rw [splice_get h1, splice_get h2]
    by_cases a : j < off + k
    · rw [if_pos (by omega), if_pos a]
      simp [List.getElem?_set]
      omega
    · rw [if_neg a]
      by_cases b : j = off + k
      · subst b
        rw [if_pos (by omega), if_pos (by simp)]
        simp at h
        simp [List.getElem?_set]
        omega
      · rw [if_neg (by omega)]
        by_cases c : j < off + (k + 1) + us.length
        · rw [if_pos c, if_pos (by simp; omega)]
          rw [show j - (off + k) = (j - (off + (k + 1))) + 1 by omega]
          simp
        · rw [if_neg c, if_neg (by simp; omega)]
          simp [List.getElem?_set]
          omega

/-- What 'fill' makes of parts that lie one behind the other. -/
theorem fill_parts {κ : K} {a : Act} {w : World} (hs : SR P κ σ a w) {e : TypeId} : ∀ {i : Nat} {ps : List (Nat × Operand)} {xs : List T} (cells : Array Value), Parts P σ e i ps xs → i * szOf P e + xs.length * szOf P e ≤ cells.size →
    ∃ us, VA P κ xs e us ∧ us.length = xs.length * szOf P e ∧ Instr.fill (fun i => some (i * szOf P e, szOf P e)) cells (ps.map fun x => (x.1, a.eval x.2)) = some (splice cells.toList (i * szOf P e) us).toArray
  | i, _, _, cells, .nil => fun _ => ⟨[], by simp [VA], by simp, by simp [Instr.fill, splice]⟩
  | i, _, _, cells, .cons (ps := ps) (xs := xs) (o := o) (x := x) h hsz k => fun hle => by
    have hv := h.eval hs
    have hl := VV_len hv hsz
    simp only [List.length_cons, Nat.succ_mul] at hle
    have hle1 : i * szOf P e + (a.eval o).cells.toList.length ≤ cells.toList.length := by simp at hl ⊢; omega
    obtain ⟨us, h1, h2, h3⟩ := fill_parts hs (splice cells.toList (i * szOf P e) (a.eval o).cells.toList).toArray k (by simp only [List.size_toArray, splice_length hle1, Nat.succ_mul, Array.length_toList]; omega)
    refine ⟨(a.eval o).cells.toList ++ us, ?_, by simp only [List.length_append, List.length_cons, Nat.succ_mul]; omega, ?_⟩
    · simp only [VA]
      refine ⟨by simp at hl ⊢; omega, ?_, ?_⟩
      · rw [List.take_append_of_le_length (by omega), List.take_of_length_le (by omega)]; exact hv.1
      · rw [List.drop_append_of_le_length (by omega), List.drop_of_length_le (by omega)]; simpa using h1
    · simp only [List.map_cons, Instr.fill]
      have hc : (a.eval o).cells.size = szOf P e := by simpa using hl
      rw [if_neg (by simp [hc]; simp at hle1; omega)]
      have hf : ((a.eval o).cells.zipIdx.foldl (fun cs (x : Value × Nat) => cs.setIfInBounds (i * szOf P e + x.2) x.1) cells) = (splice cells.toList (i * szOf P e) (a.eval o).cells.toList).toArray := by
        apply Array.ext'
        have := foldl_set (a.eval o).cells.toList (i * szOf P e) 0 cells (by simp at hle1 ⊢; omega)
        rw [Nat.add_zero] at this
        rw [← this, ← Array.foldl_toList, Array.toList_zipIdx]
      refine Eq.trans ?_ (h3.trans ?_)
      · exact congrArg (fun c => Instr.fill _ c _) hf
      · congr 1
        apply Array.ext'
        simp only []
        apply List.ext_getElem?
        intro j
        have hle2 : (i + 1) * szOf P e + us.length ≤ (splice cells.toList (i * szOf P e) (a.eval o).cells.toList).length := by rw [splice_length hle1, Nat.succ_mul]; simp; omega
        have hle3 : i * szOf P e + ((a.eval o).cells.toList ++ us).length ≤ cells.toList.length := by simp at hl ⊢; omega
        rw [splice_get hle2, splice_get hle1, splice_get hle3, Nat.succ_mul]
        by_cases b1 : j < i * szOf P e
        · rw [if_pos (by omega), if_pos b1, if_pos b1]
        · rw [if_neg b1, if_neg b1]
          by_cases b2 : j < i * szOf P e + szOf P e
          · rw [if_pos b2, if_pos (by omega), if_pos (by simp at hl ⊢; omega), List.getElem?_append_left (by omega)]
          · rw [if_neg b2]
            by_cases b3 : j < i * szOf P e + szOf P e + us.length
            · rw [if_pos b3, if_pos (by simp at hl ⊢; omega), List.getElem?_append_right (by omega)]; congr 1; omega
            · rw [if_neg b3, if_neg (by omega), if_neg (by simp at hl ⊢; omega)]

theorem OPE.buildSlice (hP : WfP P) {t e : TypeId} {n : Nat} {ps : List (Nat × Operand)} {xs : List T} (hu : P.underlying t = some (.slice e)) (ht : t < P.types.size) (hps : Parts P σ e 0 ps xs) (hn : xs.length = n) (hsz : szOf P e ≠ 0) (hbig : n * szOf P e ≤ 16777216)
    (hz : ∃ i z, P.info? e = some i ∧ i.zero = some z) (hk : Kp (.lst xs .full, t) σ.h σ.u) : OPE P ⟨d, .buildSlice t n ps.toArray, ty, p, af, g⟩ σ Kp :=
  .run fun κ a w hs => by
    have he := hP.sli t e ht hu
    obtain ⟨i, z, hz1, hz2⟩ := hz
    obtain ⟨us, h1, h2, h3⟩ := fill_parts hs ((Array.range (n * szOf P e)).map (z.cells[· % z.cells.size]!)) hps (by simp [hn])
    have h4 : splice ((Array.range (n * szOf P e)).map (z.cells[· % z.cells.size]!)).toList (0 * szOf P e) us = us := by
      rw [Nat.zero_mul]; exact splice_whole (by simp [h2, hn])
    rw [h4] at h3
    obtain ⟨κ', e1, e2, e3⟩ := hs.wr.lit h1
    refine ⟨.slice (some ⟨w.heap.size, 0, none⟩) n n, κ', _, (.lst xs .full, t), σ.h, σ.u, ?_, e1, e2, VV_lst_mk hu hn.symm rfl (VA_mono e1.le _ _ _ h1) (.inr ⟨_, _, rfl, e3⟩), hk⟩
    have hlim : ¬ (n * szOf P e > 2 ^ 24) := by omega
    simp only [execOp, Instr.buildSlice, Sem.run_bind, Go.run_underlying hu, Result.andThen_ok, run_sizeOf hP he]
    rw [if_neg hlim]
    by_cases hn0 : n * szOf P e = 0
    · have hx : xs = [] := by
        rcases Nat.mul_eq_zero.1 hn0 with h | h
        · exact List.length_eq_zero_iff.1 (hn.trans h)
        · exact absurd h hsz
      subst hx
      cases hps
      have hn' : n = 0 := by simpa using hn.symm
      subst hn'
      have hus : us = [] := by simpa using h2
      subst hus
      simp only [List.map_toArray, List.map_nil, Instr.fill]
      simp
      rw [show Array.map (fun (_ : Nat) => (default : Value)) (Array.range 0) = #[] from by simp [Array.range]]
      rfl
    · rw [if_neg hn0]
      simp only [Sem.run_bind, zeroValue, typeInfo, run_program, Result.andThen_ok, hz1, hz2, Sem.run_pure]
      have h5 : (ps.toArray.map fun (x : Nat × Operand) => (x.1, a.eval x.2)).toList = ps.map fun x => (x.1, a.eval x.2) := by simp
      rw [h5, h3]
      rfl
end Go.Am
