/- Package route: the law that moves make it even. -/
import Derived.Test.YtpjaijenjkcleaaS6
set_option linter.unusedVariables false
namespace Go.Proofs.Ytpjaijenjkcleaa
open Go.Am
theorem next_none (ms : List Int) (s : Nat) (hl : ms.length = 8) (hm : ms.all sh = true) (hs1 : 1 ≤ s) (hs4 : s ≤ 4) (h : stepH (ld ms 8) s = none) : Ans Try.prog 7 [(A ms, 22), (I (s : Int), 3)] (.tup [Ch 0 0, B false], 26) := by
  have hlen := (ld_ok ms 8).1
  unfold stepH at h
  cases hf : ((ld ms 8).drop s).findIdx? (fun p => decide (0 < p.1)) with
  | some k => rw [hf] at h; cases h
  | none =>
    rw [hf] at h
    have hz := List.findIdx?_eq_none_iff.1 hf
    have h0 : 0 < ((ld ms 8).take s).length := by rw [List.length_take]; omega
    obtain ⟨x, hx⟩ : ∃ x, ((ld ms 8).take s)[bst mr ((ld ms 8).take s) ((ld ms 8).take s).length]? = some x := ⟨_, List.getElem?_eq_getElem (bst_lt mr _ h0 _)⟩
    obtain ⟨y, hy⟩ : ∃ y, ((ld ms 8).take s)[bst fr ((ld ms 8).take s) ((ld ms 8).take s).length]? = some y := ⟨_, List.getElem?_eq_getElem (bst_lt fr _ h0 _)⟩
    simp only [hx, hy] at h
    cases hb : Nat.ble x.1 (y.1 + 1) with
    | false => rw [hb] at h; cases h
    | true =>
      refine next_no ms s hl hm hs1 hs4 (fun j p hp => ?_) x y hx hy (Nat.le_of_ble_eq_true hb)
      have := hz p (List.mem_of_getElem? hp)
      simpa using this
theorem next_some (ms : List Int) (s : Nat) (hl : ms.length = 8) (hm : ms.all sh = true) (hs1 : 1 ≤ s) (hs4 : s ≤ 4) {k : Nat} (h : stepH (ld ms 8) s = some k) {p : Nat × Nat} (hp : (ld ms 8)[k]? = some p) : Ans Try.prog 7 [(A ms, 22), (I (s : Int), 3)] (.tup [Ch (p.2 : Nat) (1 + (lowT (ld ms 8) s : Nat)), B true], 26) := by
  have hlen := (ld_ok ms 8).1
  unfold stepH at h
  cases hf : ((ld ms 8).drop s).findIdx? (fun p => decide (0 < p.1)) with
  | some j =>
    rw [hf] at h
    cases h
    obtain ⟨hj, h1, h2⟩ := List.findIdx?_eq_some_iff_getElem.1 hf
    have hg : ((ld ms 8).drop s)[j]? = some p := by rw [List.getElem?_drop]; exact hp
    refine next_far ms s hl hm hs1 hs4 j p hg ?_ (fun i q hi hq => ?_)
    · have := List.getElem?_eq_some_iff.1 hg
      obtain ⟨_, e⟩ := this
      rw [e] at h1
      simpa using h1
    · obtain ⟨hi2, e⟩ := List.getElem?_eq_some_iff.1 hq
      have := h2 i hi
      rw [e] at this
      simpa using this
  | none =>
    rw [hf] at h
    have hz := List.findIdx?_eq_none_iff.1 hf
    have h0 : 0 < ((ld ms 8).take s).length := by rw [List.length_take]; omega
    obtain ⟨x, hx⟩ : ∃ x, ((ld ms 8).take s)[bst mr ((ld ms 8).take s) ((ld ms 8).take s).length]? = some x := ⟨_, List.getElem?_eq_getElem (bst_lt mr _ h0 _)⟩
    obtain ⟨y, hy⟩ : ∃ y, ((ld ms 8).take s)[bst fr ((ld ms 8).take s) ((ld ms 8).take s).length]? = some y := ⟨_, List.getElem?_eq_getElem (bst_lt fr _ h0 _)⟩
    simp only [hx, hy] at h
    cases hb : Nat.ble x.1 (y.1 + 1) with
    | true => rw [hb] at h; cases h
    | false =>
      rw [hb] at h
      cases h
      have hxp : x = p := by
        rw [List.getElem?_take] at hx
        split at hx
        · rw [hp] at hx; cases hx; rfl
        · cases hx
      subst hxp
      refine next_yes ms s hl hm hs1 hs4 (fun j p hp => ?_) x y hx hy ?_
      · have := hz p (List.mem_of_getElem? hp)
        simpa using this
      · have := Nat.lt_of_not_le (fun hh : x.1 ≤ y.1 + 1 => by rw [Nat.ble_eq_true_of_le hh] at hb; cases hb); exact this
theorem c4_at (ms : List Int) {j : Nat} (hj : j < 4) : (c4 ms).getD j 0 = cnt ms ((j + 1 : Nat) : Int) 8 := by
  match j, hj with
  | 0, _ => rfl
  | 1, _ => rfl
  | 2, _ => rfl
  | 3, _ => rfl
theorem mx_le (c : List Nat) (s : Nat) (h : ∀ j, c.getD j 0 ≤ 8) : ∀ j, mxC c s j ≤ 8
  | 0 => by simp [mxC]
  | j + 1 => by
    have := mx_le c s h j
    have := h j
    unfold mxC
    cases Nat.ble (j + 1) s <;> simp only [cond_true, cond_false] <;> omega
theorem mn_le (c : List Nat) (s : Nat) : ∀ j, mnC c s j ≤ 8
  | 0 => by simp [mnC]
  | j + 1 => by
    have := mn_le c s j
    unfold mnC
    cases Nat.ble (j + 1) s <;> simp only [cond_true, cond_false] <;> omega
theorem c4_le (ms : List Int) (j : Nat) : (c4 ms).getD j 0 ≤ 8 := by
  match j with
  | 0 => exact cnt_le ms 1 8
  | 1 => exact cnt_le ms 2 8
  | 2 => exact cnt_le ms 3 8
  | 3 => exact cnt_le ms 4 8
  | j + 4 => exact Nat.zero_le 8
theorem maxI (a b : Nat) : (if (a : Int) < b then (b : Int) else a) = ((max a b : Nat) : Int) := by split <;> omega
theorem minI (a b : Nat) : (if (b : Int) < a then (b : Int) else a) = ((min a b : Nat) : Int) := by split <;> omega
theorem c4_set (ms : List Int) (i h t : Nat) (hi8 : i < 8) (hi : ms[i]? = some ((h + 1 : Nat) : Int)) (h4 : h < 4) (ht : t < 4) (hne : h ≠ t) : c4 (ms.set i ((t + 1 : Nat) : Int)) = moveC (c4 ms) h t := by
  have hs : ∀ k : Int, cnt (ms.set i ((t + 1 : Nat) : Int)) k 8 + (if ((h + 1 : Nat) : Int) = k then 1 else 0) = cnt ms k 8 + (if ((t + 1 : Nat) : Int) = k then 1 else 0) := fun k => by
    have := cnt_set ms k ((t + 1 : Nat) : Int) _ i hi 8
    simpa [hi8] using this
  have h1 := hs 1
  have h2 := hs 2
  have h3 := hs 3
  have h4' := hs 4
  unfold c4
  match h, h4, t, ht, hne with
  | 0, _, 1, _, _ | 0, _, 2, _, _ | 0, _, 3, _, _ | 1, _, 0, _, _ | 1, _, 2, _, _ | 1, _, 3, _, _ | 2, _, 0, _, _ | 2, _, 1, _, _ | 2, _, 3, _, _ | 3, _, 0, _, _ | 3, _, 1, _, _ | 3, _, 2, _, _ => simp [moveC] at h1 h2 h3 h4' ⊢; omega
  | 0, _, 0, _, hn | 1, _, 1, _, hn | 2, _, 2, _, hn | 3, _, 3, _, hn => exact absurd rfl hn
/-- What stands at the head of a round. -/
structure Rd (ms : List Int) (s n : Nat) : Prop where
  len : ms.length = 8
  may : ms.all sh = true
  n8 : n ≤ 8
  good : good (8 - n) (c4 ms) s = true
theorem Rd.none {ms : List Int} {s n : Nat} (r : Rd ms s n) (h : stepH (ld ms 8) s = none) : evenC (c4 ms) s = true := by
  have g := r.good
  rw [← stepH_z, c4_ld ms r.len r.may] at h
  unfold Go.Proofs.Ytpjaijenjkcleaa.good at g
  rw [h] at g
  exact g
theorem Rd.some {ms : List Int} {s n : Nat} (hs4 : s ≤ 4) (r : Rd ms s n) {k : Nat} (h : stepH (ld ms 8) s = some k) : n < 8 ∧ lowT (ld ms 8) s < s ∧ ∃ p, (ld ms 8)[k]? = some p ∧ p.2 < 8 ∧ ms[p.2]? = some ((k + 1 : Nat) : Int) ∧ k ≠ lowT (ld ms 8) s ∧ Rd (ms.set p.2 ((lowT (ld ms 8) s + 1 : Nat) : Int)) s (n + 1) := by
  have g := r.good
  have hz := h
  rw [← stepH_z, c4_ld ms r.len r.may] at hz
  unfold Go.Proofs.Ytpjaijenjkcleaa.good at g
  rw [hz] at g
  have hlo : lowT (zc (c4 ms)) s = lowT (ld ms 8) s := by rw [← c4_ld ms r.len r.may, lowT_z]
  rw [hlo] at g
  simp only [Bool.and_eq_true, Bool.not_eq_true', Nat.blt_eq] at g
  obtain ⟨⟨⟨⟨g1, g2⟩, g3⟩, g4⟩, g5⟩ := g
  have hne : k ≠ lowT (ld ms 8) s := Nat.ne_of_beq_eq_false g1
  have hlen := (ld_ok ms 8).1
  obtain ⟨p, hp⟩ : ∃ p, (ld ms 8)[k]? = .some p := ⟨_, List.getElem?_eq_getElem (by omega)⟩
  obtain ⟨q1, q2⟩ := ld_spec ms r.len r.may 8 (Nat.le_refl 8) k p hp
  rw [c4_at ms g2, ← q1] at g3
  obtain ⟨q3, q4⟩ := q2 g3
  have hn8 : n < 8 := by
    have := r.n8
    by_cases hn : n = 8
    · subst hn; cases g5
    · omega
  refine ⟨hn8, g4, p, hp, q3, q4, hne, by rw [List.length_set]; exact r.len, List.all_eq_true.2 (fun x hx => ?_), by omega, ?_⟩
  · rcases List.mem_or_eq_of_mem_set hx with hx | rfl
    · exact List.all_eq_true.1 r.may x hx
    · simp [sh]; omega
  · rw [c4_set ms p.2 k _ q3 q4 g2 (by omega) hne]
    rw [show 8 - n = (8 - (n + 1)) + 1 by omega] at g5
    exact g5

set_option maxHeartbeats 8000000 in
theorem routeEven_may (ms : List Int) (s : Int) (hl : ms.length = 8) (hm : ms.all sh = false) : Ans Try.prog 3 [(A ms, 22), (I s, 3)] (B true, 4) := by

  refine Ans.body1 wf Try.func3 rfl rfl rfl (by simp only [List.map, npL, np, A_npL]; rfl) rfl (fun u => ?_)

  repeat (first
    | ((with_reducible apply O.cmp); (· rfl); (· (first | exact .tmp rfl | exact .const)); (· (first | exact .tmp rfl | exact .const)); (· (first | exact eqT (by omega) | exact eqF (by omega) | exact neT (by omega) | exact neF (by omega) | exact ltT (by omega) | exact ltF (by omega) | exact leT (by omega) | exact leF (by omega) | exact gtT (by omega) | exact gtF (by omega) | exact geT (by omega) | exact geF (by omega))))
    | ((with_reducible apply O.move); (· rfl); (· rfl))
    | ((with_reducible apply O.assign); (· rfl); (· rfl))
    | ((with_reducible apply O.assignC); (· rfl); (· rfl))
    | ((with_reducible apply O.assignN); (· rfl); (· rfl))
    | ((with_reducible apply O.load); (· rfl); (· exact wf); (· rfl); (· rfl); (· rfl); (· rfl); (· rfl); (· rfl))
    | ((with_reducible apply O.loadE); (· rfl); (· exact wf); (· rfl); (· decide); (· rfl); (· (first | exact .inl rfl | exact .inr rfl)); (· rfl))
    | ((with_reducible apply O.fieldAddr); (· rfl); (· exact wf); (· rfl); (· rfl); (· rfl); (· decide); (· rfl); (· rfl); (· decide))
    | ((with_reducible apply O.fieldAddrE); (· rfl); (· exact wf); (· rfl); (· decide); (· rfl); (· rfl); (· rfl); (· decide))
    | ((with_reducible apply O.gT); (· rfl); (· rfl); (· rfl))
    | ((with_reducible apply O.gF); (· rfl); (· rfl); (· rfl); (· rfl))
    | ((with_reducible apply O.cmp); (· rfl); (· (first | exact .tmp rfl | exact .const)); (· (first | exact .tmp rfl | exact .const)); (· rfl))
    | ((with_reducible apply O.arith); (· rfl); (· (first | exact .tmp rfl | exact .const)); (· (first | exact .tmp rfl | exact .const)); (· rfl); (· exact wrapI (by omega) (by omega)))
    | ((with_reducible apply O.not); (· rfl); (· (first | exact .tmp rfl | exact .const)))
    | ((with_reducible apply O.pickT); (· rfl); (· (first | exact .tmp rfl | exact .const)); (· (first | exact .tmp rfl | exact .const)))
    | ((with_reducible apply O.pickF); (· rfl); (· (first | exact .tmp rfl | exact .const)); (· (first | exact .tmp rfl | exact .const)))
    | ((with_reducible apply O.pickB); (· rfl); (· (first | exact .tmp rfl | exact .const)); (· (first | exact .tmp rfl | exact .const)); (· (first | exact .tmp rfl | exact .const)))
    | ((with_reducible apply O.extract); (· rfl); (· rfl); (· rfl); (· rfl); (· rfl))
    | ((with_reducible apply O.len); (· rfl); (· rfl); (· rfl))
    | ((with_reducible apply O.indexL); (· rfl); (· exact wf); (· rfl); (· (first | exact .tmp rfl | exact .const)); (· exact ⟨rfl, rfl⟩); (· decide); (· rfl); (· decide); (· omega); (· rfl))
    | ((with_reducible apply O.box); (· rfl); (· rfl); (· exact ⟨rfl, rfl⟩); (· decide); (· (first | exact .inl rfl | exact .inr rfl)))
    | ((with_reducible apply O.store); (· exact wf); (· rfl); (· exact ArgAt.tmp rfl ⟨rfl, rfl⟩); (· rfl); (· rfl); (· decide); (· rfl); (· rfl); (· (first | exact .inl rfl | exact .inr rfl)))
    | ((with_reducible apply O.store); (· exact wf); (· rfl); (· exact ArgAt.const rfl); (· rfl); (· rfl); (· decide); (· rfl); (· rfl); (· (first | exact .inl rfl | exact .inr rfl)))
    | ((with_reducible apply O.buildSlice); (· rfl); (· exact wf); (· rfl); (· decide); (· repeat (first | exact Parts.nil | apply Parts.cons (ArgAt.tmp rfl ⟨rfl, rfl⟩) (Or.inr rfl) | apply Parts.cons (ArgAt.tmp rfl ⟨rfl, rfl⟩) (Or.inl rfl) | apply Parts.cons (ArgAt.const rfl) (Or.inr rfl))); (· rfl); (· decide); (· decide); (· exact ⟨_, _, rfl, rfl⟩))
    | ((with_reducible apply O.min2); (· rfl); (· (first | exact .tmp rfl | exact .const)); (· (first | exact .tmp rfl | exact .const)))
    | ((with_reducible apply O.max2); (· rfl); (· (first | exact .tmp rfl | exact .const)); (· (first | exact .tmp rfl | exact .const)))
    | ((with_reducible apply O.indexV); (· rfl); (· exact wf); (· rfl); (· (first | exact .tmp rfl | exact .const)); (· exact ⟨rfl, rfl⟩); (· decide); (· rfl); (· omega); (· omega); (· first | exact hx0 | rfl); (· rfl); (· rfl))
    | ((with_reducible apply O.indexA); (· rfl); (· exact wf); (· rfl); (· (first | exact .tmp rfl | exact .const)); (· rfl); (· rfl); (· decide); (· rfl); (· omega); (· omega))
    | ((with_reducible apply O.indexVw); (· rfl); (· exact wf); (· rfl); (· (first | exact .tmp rfl | exact .const)); (· exact ⟨rfl, rfl⟩); (· decide); (· rfl); (· omega); (· omega))
    | ((with_reducible apply O.assignF); (· rfl))
    | ((with_reducible apply O.moveC); (· rfl); (· rfl))
    | ((with_reducible apply Then.n))
    | ((with_reducible apply Then.r))
    | ((with_reducible apply Then.e))
    | ((with_reducible apply Then.g))
    | ((with_reducible apply InB.n))
    | ((with_reducible apply InB.r))
    | ((with_reducible apply InB.g))
    | ((with_reducible apply InB.here))
    | ((with_reducible apply OPS.nil))
    | ((with_reducible apply AW.seq))
    | ((with_reducible apply AW.region))
    | ((with_reducible apply AW.skip))
    | ((with_reducible apply AW.ret))
    | ((with_reducible apply AW.exit))
    | ((with_reducible apply AW.block))
    | ((with_reducible apply AW.label))
    | ((with_reducible apply AW.goto))
    | ((with_reducible apply AW.scope))
    | ((with_reducible apply NG.n))
    | ((with_reducible apply NG.r))
    | ((with_reducible apply NG.e))
    | ((with_reducible apply InB.past); (· rfl))
    | ((with_reducible apply AW.condT); (· rfl))
    | ((with_reducible apply AW.condF); (· rfl))
    | (apply O.fn rfl (may_f hl hm) rfl; (· repeat (first | exact Args.nil | refine Args.cons (ArgAt.tmp rfl ⟨rfl, rfl⟩) ?_ | refine Args.cons (ArgAt.const rfl) ?_)))
    | (apply O.fn rfl (next_may ms s hl hm) rfl; (· repeat (first | exact Args.nil | refine Args.cons (ArgAt.tmp rfl ⟨rfl, rfl⟩) ?_ | refine Args.cons (ArgAt.const rfl) ?_)))
    | (apply O.fn rfl (wakes_c) rfl; (· repeat (first | exact Args.nil | refine Args.cons (ArgAt.tmp rfl ⟨rfl, rfl⟩) ?_ | refine Args.cons (ArgAt.const rfl) ?_)))
    | (refine O.alloc rfl zero25 ?_)
    | (refine O.alloc rfl zero22 ?_))
  exact ⟨.inr rfl, .tmp rfl, (fun _ _ e => (by cases e)), fun _ h => h⟩

set_option maxHeartbeats 8000000 in
theorem routeEven_low (ms : List Int) (s : Int) (hl : ms.length = 8) (hm : ms.all sh = true) (hs : s < 1) : Ans Try.prog 3 [(A ms, 22), (I s, 3)] (B true, 4) := by

  refine Ans.body1 wf Try.func3 rfl rfl rfl (by simp only [List.map, npL, np, A_npL]; rfl) rfl (fun u => ?_)

  have hsf : sh s = false := by simp [sh]; omega
  repeat (first
    | ((with_reducible apply O.cmp); (· rfl); (· (first | exact .tmp rfl | exact .const)); (· (first | exact .tmp rfl | exact .const)); (· (first | exact eqT (by omega) | exact eqF (by omega) | exact neT (by omega) | exact neF (by omega) | exact ltT (by omega) | exact ltF (by omega) | exact leT (by omega) | exact leF (by omega) | exact gtT (by omega) | exact gtF (by omega) | exact geT (by omega) | exact geF (by omega))))
    | ((with_reducible apply O.move); (· rfl); (· rfl))
    | ((with_reducible apply O.assign); (· rfl); (· rfl))
    | ((with_reducible apply O.assignC); (· rfl); (· rfl))
    | ((with_reducible apply O.assignN); (· rfl); (· rfl))
    | ((with_reducible apply O.load); (· rfl); (· exact wf); (· rfl); (· rfl); (· rfl); (· rfl); (· rfl); (· rfl))
    | ((with_reducible apply O.loadE); (· rfl); (· exact wf); (· rfl); (· decide); (· rfl); (· (first | exact .inl rfl | exact .inr rfl)); (· rfl))
    | ((with_reducible apply O.fieldAddr); (· rfl); (· exact wf); (· rfl); (· rfl); (· rfl); (· decide); (· rfl); (· rfl); (· decide))
    | ((with_reducible apply O.fieldAddrE); (· rfl); (· exact wf); (· rfl); (· decide); (· rfl); (· rfl); (· rfl); (· decide))
    | ((with_reducible apply O.gT); (· rfl); (· rfl); (· rfl))
    | ((with_reducible apply O.gF); (· rfl); (· rfl); (· rfl); (· rfl))
    | ((with_reducible apply O.cmp); (· rfl); (· (first | exact .tmp rfl | exact .const)); (· (first | exact .tmp rfl | exact .const)); (· rfl))
    | ((with_reducible apply O.arith); (· rfl); (· (first | exact .tmp rfl | exact .const)); (· (first | exact .tmp rfl | exact .const)); (· rfl); (· exact wrapI (by omega) (by omega)))
    | ((with_reducible apply O.not); (· rfl); (· (first | exact .tmp rfl | exact .const)))
    | ((with_reducible apply O.pickT); (· rfl); (· (first | exact .tmp rfl | exact .const)); (· (first | exact .tmp rfl | exact .const)))
    | ((with_reducible apply O.pickF); (· rfl); (· (first | exact .tmp rfl | exact .const)); (· (first | exact .tmp rfl | exact .const)))
    | ((with_reducible apply O.pickB); (· rfl); (· (first | exact .tmp rfl | exact .const)); (· (first | exact .tmp rfl | exact .const)); (· (first | exact .tmp rfl | exact .const)))
    | ((with_reducible apply O.extract); (· rfl); (· rfl); (· rfl); (· rfl); (· rfl))
    | ((with_reducible apply O.len); (· rfl); (· rfl); (· rfl))
    | ((with_reducible apply O.indexL); (· rfl); (· exact wf); (· rfl); (· (first | exact .tmp rfl | exact .const)); (· exact ⟨rfl, rfl⟩); (· decide); (· rfl); (· decide); (· omega); (· rfl))
    | ((with_reducible apply O.box); (· rfl); (· rfl); (· exact ⟨rfl, rfl⟩); (· decide); (· (first | exact .inl rfl | exact .inr rfl)))
    | ((with_reducible apply O.store); (· exact wf); (· rfl); (· exact ArgAt.tmp rfl ⟨rfl, rfl⟩); (· rfl); (· rfl); (· decide); (· rfl); (· rfl); (· (first | exact .inl rfl | exact .inr rfl)))
    | ((with_reducible apply O.store); (· exact wf); (· rfl); (· exact ArgAt.const rfl); (· rfl); (· rfl); (· decide); (· rfl); (· rfl); (· (first | exact .inl rfl | exact .inr rfl)))
    | ((with_reducible apply O.buildSlice); (· rfl); (· exact wf); (· rfl); (· decide); (· repeat (first | exact Parts.nil | apply Parts.cons (ArgAt.tmp rfl ⟨rfl, rfl⟩) (Or.inr rfl) | apply Parts.cons (ArgAt.tmp rfl ⟨rfl, rfl⟩) (Or.inl rfl) | apply Parts.cons (ArgAt.const rfl) (Or.inr rfl))); (· rfl); (· decide); (· decide); (· exact ⟨_, _, rfl, rfl⟩))
    | ((with_reducible apply O.min2); (· rfl); (· (first | exact .tmp rfl | exact .const)); (· (first | exact .tmp rfl | exact .const)))
    | ((with_reducible apply O.max2); (· rfl); (· (first | exact .tmp rfl | exact .const)); (· (first | exact .tmp rfl | exact .const)))
    | ((with_reducible apply O.indexV); (· rfl); (· exact wf); (· rfl); (· (first | exact .tmp rfl | exact .const)); (· exact ⟨rfl, rfl⟩); (· decide); (· rfl); (· omega); (· omega); (· first | exact hx0 | rfl); (· rfl); (· rfl))
    | ((with_reducible apply O.indexA); (· rfl); (· exact wf); (· rfl); (· (first | exact .tmp rfl | exact .const)); (· rfl); (· rfl); (· decide); (· rfl); (· omega); (· omega))
    | ((with_reducible apply O.indexVw); (· rfl); (· exact wf); (· rfl); (· (first | exact .tmp rfl | exact .const)); (· exact ⟨rfl, rfl⟩); (· decide); (· rfl); (· omega); (· omega))
    | ((with_reducible apply O.assignF); (· rfl))
    | ((with_reducible apply O.moveC); (· rfl); (· rfl))
    | ((with_reducible apply Then.n))
    | ((with_reducible apply Then.r))
    | ((with_reducible apply Then.e))
    | ((with_reducible apply Then.g))
    | ((with_reducible apply InB.n))
    | ((with_reducible apply InB.r))
    | ((with_reducible apply InB.g))
    | ((with_reducible apply InB.here))
    | ((with_reducible apply OPS.nil))
    | ((with_reducible apply AW.seq))
    | ((with_reducible apply AW.region))
    | ((with_reducible apply AW.skip))
    | ((with_reducible apply AW.ret))
    | ((with_reducible apply AW.exit))
    | ((with_reducible apply AW.block))
    | ((with_reducible apply AW.label))
    | ((with_reducible apply AW.goto))
    | ((with_reducible apply AW.scope))
    | ((with_reducible apply NG.n))
    | ((with_reducible apply NG.r))
    | ((with_reducible apply NG.e))
    | ((with_reducible apply InB.past); (· rfl))
    | ((with_reducible apply AW.condT); (· rfl))
    | ((with_reducible apply AW.condF); (· rfl))
    | (apply O.fn rfl (may_t hl hm) rfl; (· repeat (first | exact Args.nil | refine Args.cons (ArgAt.tmp rfl ⟨rfl, rfl⟩) ?_ | refine Args.cons (ArgAt.const rfl) ?_)))
    | (apply O.fn rfl (next_sh ms s hl hm hsf) rfl; (· repeat (first | exact Args.nil | refine Args.cons (ArgAt.tmp rfl ⟨rfl, rfl⟩) ?_ | refine Args.cons (ArgAt.const rfl) ?_)))
    | (apply O.fn rfl (wakes_c) rfl; (· repeat (first | exact Args.nil | refine Args.cons (ArgAt.tmp rfl ⟨rfl, rfl⟩) ?_ | refine Args.cons (ArgAt.const rfl) ?_)))
    | (refine O.alloc rfl zero25 ?_)
    | (refine O.alloc rfl zero22 ?_))
  exact ⟨.inr rfl, .tmp rfl, (fun _ _ e => (by cases e)), fun _ h => h⟩

set_option maxHeartbeats 8000000 in
theorem routeEven_high (ms : List Int) (s : Int) (hl : ms.length = 8) (hm : ms.all sh = true) (hs0 : 1 ≤ s) (hs : 4 < s) : Ans Try.prog 3 [(A ms, 22), (I s, 3)] (B true, 4) := by

  refine Ans.body1 wf Try.func3 rfl rfl rfl (by simp only [List.map, npL, np, A_npL]; rfl) rfl (fun u => ?_)

  have hsf : sh s = false := by simp [sh]; omega
  repeat (first
    | ((with_reducible apply O.cmp); (· rfl); (· (first | exact .tmp rfl | exact .const)); (· (first | exact .tmp rfl | exact .const)); (· (first | exact eqT (by omega) | exact eqF (by omega) | exact neT (by omega) | exact neF (by omega) | exact ltT (by omega) | exact ltF (by omega) | exact leT (by omega) | exact leF (by omega) | exact gtT (by omega) | exact gtF (by omega) | exact geT (by omega) | exact geF (by omega))))
    | ((with_reducible apply O.move); (· rfl); (· rfl))
    | ((with_reducible apply O.assign); (· rfl); (· rfl))
    | ((with_reducible apply O.assignC); (· rfl); (· rfl))
    | ((with_reducible apply O.assignN); (· rfl); (· rfl))
    | ((with_reducible apply O.load); (· rfl); (· exact wf); (· rfl); (· rfl); (· rfl); (· rfl); (· rfl); (· rfl))
    | ((with_reducible apply O.loadE); (· rfl); (· exact wf); (· rfl); (· decide); (· rfl); (· (first | exact .inl rfl | exact .inr rfl)); (· rfl))
    | ((with_reducible apply O.fieldAddr); (· rfl); (· exact wf); (· rfl); (· rfl); (· rfl); (· decide); (· rfl); (· rfl); (· decide))
    | ((with_reducible apply O.fieldAddrE); (· rfl); (· exact wf); (· rfl); (· decide); (· rfl); (· rfl); (· rfl); (· decide))
    | ((with_reducible apply O.gT); (· rfl); (· rfl); (· rfl))
    | ((with_reducible apply O.gF); (· rfl); (· rfl); (· rfl); (· rfl))
    | ((with_reducible apply O.cmp); (· rfl); (· (first | exact .tmp rfl | exact .const)); (· (first | exact .tmp rfl | exact .const)); (· rfl))
    | ((with_reducible apply O.arith); (· rfl); (· (first | exact .tmp rfl | exact .const)); (· (first | exact .tmp rfl | exact .const)); (· rfl); (· exact wrapI (by omega) (by omega)))
    | ((with_reducible apply O.not); (· rfl); (· (first | exact .tmp rfl | exact .const)))
    | ((with_reducible apply O.pickT); (· rfl); (· (first | exact .tmp rfl | exact .const)); (· (first | exact .tmp rfl | exact .const)))
    | ((with_reducible apply O.pickF); (· rfl); (· (first | exact .tmp rfl | exact .const)); (· (first | exact .tmp rfl | exact .const)))
    | ((with_reducible apply O.pickB); (· rfl); (· (first | exact .tmp rfl | exact .const)); (· (first | exact .tmp rfl | exact .const)); (· (first | exact .tmp rfl | exact .const)))
    | ((with_reducible apply O.extract); (· rfl); (· rfl); (· rfl); (· rfl); (· rfl))
    | ((with_reducible apply O.len); (· rfl); (· rfl); (· rfl))
    | ((with_reducible apply O.indexL); (· rfl); (· exact wf); (· rfl); (· (first | exact .tmp rfl | exact .const)); (· exact ⟨rfl, rfl⟩); (· decide); (· rfl); (· decide); (· omega); (· rfl))
    | ((with_reducible apply O.box); (· rfl); (· rfl); (· exact ⟨rfl, rfl⟩); (· decide); (· (first | exact .inl rfl | exact .inr rfl)))
    | ((with_reducible apply O.store); (· exact wf); (· rfl); (· exact ArgAt.tmp rfl ⟨rfl, rfl⟩); (· rfl); (· rfl); (· decide); (· rfl); (· rfl); (· (first | exact .inl rfl | exact .inr rfl)))
    | ((with_reducible apply O.store); (· exact wf); (· rfl); (· exact ArgAt.const rfl); (· rfl); (· rfl); (· decide); (· rfl); (· rfl); (· (first | exact .inl rfl | exact .inr rfl)))
    | ((with_reducible apply O.buildSlice); (· rfl); (· exact wf); (· rfl); (· decide); (· repeat (first | exact Parts.nil | apply Parts.cons (ArgAt.tmp rfl ⟨rfl, rfl⟩) (Or.inr rfl) | apply Parts.cons (ArgAt.tmp rfl ⟨rfl, rfl⟩) (Or.inl rfl) | apply Parts.cons (ArgAt.const rfl) (Or.inr rfl))); (· rfl); (· decide); (· decide); (· exact ⟨_, _, rfl, rfl⟩))
    | ((with_reducible apply O.min2); (· rfl); (· (first | exact .tmp rfl | exact .const)); (· (first | exact .tmp rfl | exact .const)))
    | ((with_reducible apply O.max2); (· rfl); (· (first | exact .tmp rfl | exact .const)); (· (first | exact .tmp rfl | exact .const)))
    | ((with_reducible apply O.indexV); (· rfl); (· exact wf); (· rfl); (· (first | exact .tmp rfl | exact .const)); (· exact ⟨rfl, rfl⟩); (· decide); (· rfl); (· omega); (· omega); (· first | exact hx0 | rfl); (· rfl); (· rfl))
    | ((with_reducible apply O.indexA); (· rfl); (· exact wf); (· rfl); (· (first | exact .tmp rfl | exact .const)); (· rfl); (· rfl); (· decide); (· rfl); (· omega); (· omega))
    | ((with_reducible apply O.indexVw); (· rfl); (· exact wf); (· rfl); (· (first | exact .tmp rfl | exact .const)); (· exact ⟨rfl, rfl⟩); (· decide); (· rfl); (· omega); (· omega))
    | ((with_reducible apply O.assignF); (· rfl))
    | ((with_reducible apply O.moveC); (· rfl); (· rfl))
    | ((with_reducible apply Then.n))
    | ((with_reducible apply Then.r))
    | ((with_reducible apply Then.e))
    | ((with_reducible apply Then.g))
    | ((with_reducible apply InB.n))
    | ((with_reducible apply InB.r))
    | ((with_reducible apply InB.g))
    | ((with_reducible apply InB.here))
    | ((with_reducible apply OPS.nil))
    | ((with_reducible apply AW.seq))
    | ((with_reducible apply AW.region))
    | ((with_reducible apply AW.skip))
    | ((with_reducible apply AW.ret))
    | ((with_reducible apply AW.exit))
    | ((with_reducible apply AW.block))
    | ((with_reducible apply AW.label))
    | ((with_reducible apply AW.goto))
    | ((with_reducible apply AW.scope))
    | ((with_reducible apply NG.n))
    | ((with_reducible apply NG.r))
    | ((with_reducible apply NG.e))
    | ((with_reducible apply InB.past); (· rfl))
    | ((with_reducible apply AW.condT); (· rfl))
    | ((with_reducible apply AW.condF); (· rfl))
    | (apply O.fn rfl (may_t hl hm) rfl; (· repeat (first | exact Args.nil | refine Args.cons (ArgAt.tmp rfl ⟨rfl, rfl⟩) ?_ | refine Args.cons (ArgAt.const rfl) ?_)))
    | (apply O.fn rfl (next_sh ms s hl hm hsf) rfl; (· repeat (first | exact Args.nil | refine Args.cons (ArgAt.tmp rfl ⟨rfl, rfl⟩) ?_ | refine Args.cons (ArgAt.const rfl) ?_)))
    | (apply O.fn rfl (wakes_c) rfl; (· repeat (first | exact Args.nil | refine Args.cons (ArgAt.tmp rfl ⟨rfl, rfl⟩) ?_ | refine Args.cons (ArgAt.const rfl) ?_)))
    | (refine O.alloc rfl zero25 ?_)
    | (refine O.alloc rfl zero22 ?_))
  exact ⟨.inr rfl, .tmp rfl, (fun _ _ e => (by cases e)), fun _ h => h⟩

set_option maxHeartbeats 8000000 in
theorem routeEven_yes (ms0 : List Int) (s : Nat) (hl0 : ms0.length = 8) (hm0 : ms0.all sh = true) (hs1 : 1 ≤ s) (hs4 : s ≤ 4) : Ans Try.prog 3 [(A ms0, 22), (I (s : Int), 3)] (B true, 4) := by

  refine Ans.body1 wf Try.func3 rfl rfl rfl (by simp only [List.map, npL, np, A_npL]; rfl) rfl (fun u => ?_)

  repeat (first
    | ((with_reducible apply O.cmp); (· rfl); (· (first | exact .tmp rfl | exact .const)); (· (first | exact .tmp rfl | exact .const)); (· (first | exact eqT (by omega) | exact eqF (by omega) | exact neT (by omega) | exact neF (by omega) | exact ltT (by omega) | exact ltF (by omega) | exact leT (by omega) | exact leF (by omega) | exact gtT (by omega) | exact gtF (by omega) | exact geT (by omega) | exact geF (by omega))))
    | ((with_reducible apply O.move); (· rfl); (· rfl))
    | ((with_reducible apply O.assign); (· rfl); (· rfl))
    | ((with_reducible apply O.assignC); (· rfl); (· rfl))
    | ((with_reducible apply O.assignN); (· rfl); (· rfl))
    | ((with_reducible apply O.load); (· rfl); (· exact wf); (· rfl); (· rfl); (· rfl); (· rfl); (· rfl); (· rfl))
    | ((with_reducible apply O.loadE); (· rfl); (· exact wf); (· rfl); (· decide); (· rfl); (· (first | exact .inl rfl | exact .inr rfl)); (· rfl))
    | ((with_reducible apply O.fieldAddr); (· rfl); (· exact wf); (· rfl); (· rfl); (· rfl); (· decide); (· rfl); (· rfl); (· decide))
    | ((with_reducible apply O.fieldAddrE); (· rfl); (· exact wf); (· rfl); (· decide); (· rfl); (· rfl); (· rfl); (· decide))
    | ((with_reducible apply O.gT); (· rfl); (· rfl); (· rfl))
    | ((with_reducible apply O.gF); (· rfl); (· rfl); (· rfl); (· rfl))
    | ((with_reducible apply O.cmp); (· rfl); (· (first | exact .tmp rfl | exact .const)); (· (first | exact .tmp rfl | exact .const)); (· rfl))
    | ((with_reducible apply O.arith); (· rfl); (· (first | exact .tmp rfl | exact .const)); (· (first | exact .tmp rfl | exact .const)); (· rfl); (· exact wrapI (by omega) (by omega)))
    | ((with_reducible apply O.not); (· rfl); (· (first | exact .tmp rfl | exact .const)))
    | ((with_reducible apply O.pickT); (· rfl); (· (first | exact .tmp rfl | exact .const)); (· (first | exact .tmp rfl | exact .const)))
    | ((with_reducible apply O.pickF); (· rfl); (· (first | exact .tmp rfl | exact .const)); (· (first | exact .tmp rfl | exact .const)))
    | ((with_reducible apply O.pickB); (· rfl); (· (first | exact .tmp rfl | exact .const)); (· (first | exact .tmp rfl | exact .const)); (· (first | exact .tmp rfl | exact .const)))
    | ((with_reducible apply O.extract); (· rfl); (· rfl); (· rfl); (· rfl); (· rfl))
    | ((with_reducible apply O.len); (· rfl); (· rfl); (· rfl))
    | ((with_reducible apply O.indexL); (· rfl); (· exact wf); (· rfl); (· (first | exact .tmp rfl | exact .const)); (· exact ⟨rfl, rfl⟩); (· decide); (· rfl); (· decide); (· omega); (· rfl))
    | ((with_reducible apply O.box); (· rfl); (· rfl); (· exact ⟨rfl, rfl⟩); (· decide); (· (first | exact .inl rfl | exact .inr rfl)))
    | ((with_reducible apply O.store); (· exact wf); (· rfl); (· exact ArgAt.tmp rfl ⟨rfl, rfl⟩); (· rfl); (· rfl); (· decide); (· rfl); (· rfl); (· (first | exact .inl rfl | exact .inr rfl)))
    | ((with_reducible apply O.store); (· exact wf); (· rfl); (· exact ArgAt.const rfl); (· rfl); (· rfl); (· decide); (· rfl); (· rfl); (· (first | exact .inl rfl | exact .inr rfl)))
    | ((with_reducible apply O.buildSlice); (· rfl); (· exact wf); (· rfl); (· decide); (· repeat (first | exact Parts.nil | apply Parts.cons (ArgAt.tmp rfl ⟨rfl, rfl⟩) (Or.inr rfl) | apply Parts.cons (ArgAt.tmp rfl ⟨rfl, rfl⟩) (Or.inl rfl) | apply Parts.cons (ArgAt.const rfl) (Or.inr rfl))); (· rfl); (· decide); (· decide); (· exact ⟨_, _, rfl, rfl⟩))
    | ((with_reducible apply O.min2); (· rfl); (· (first | exact .tmp rfl | exact .const)); (· (first | exact .tmp rfl | exact .const)))
    | ((with_reducible apply O.max2); (· rfl); (· (first | exact .tmp rfl | exact .const)); (· (first | exact .tmp rfl | exact .const)))
    | ((with_reducible apply O.indexV); (· rfl); (· exact wf); (· rfl); (· (first | exact .tmp rfl | exact .const)); (· exact ⟨rfl, rfl⟩); (· decide); (· rfl); (· omega); (· omega); (· first | exact hx0 | rfl); (· rfl); (· rfl))
    | ((with_reducible apply O.indexA); (· rfl); (· exact wf); (· rfl); (· (first | exact .tmp rfl | exact .const)); (· rfl); (· rfl); (· decide); (· rfl); (· omega); (· omega))
    | ((with_reducible apply O.indexVw); (· rfl); (· exact wf); (· rfl); (· (first | exact .tmp rfl | exact .const)); (· exact ⟨rfl, rfl⟩); (· decide); (· rfl); (· omega); (· omega))
    | ((with_reducible apply O.assignF); (· rfl))
    | ((with_reducible apply O.moveC); (· rfl); (· rfl))
    | ((with_reducible apply Then.n))
    | ((with_reducible apply Then.r))
    | ((with_reducible apply Then.e))
    | ((with_reducible apply Then.g))
    | ((with_reducible apply InB.n))
    | ((with_reducible apply InB.r))
    | ((with_reducible apply InB.g))
    | ((with_reducible apply InB.here))
    | ((with_reducible apply OPS.nil))
    | ((with_reducible apply AW.seq))
    | ((with_reducible apply AW.region))
    | ((with_reducible apply AW.skip))
    | ((with_reducible apply AW.ret))
    | ((with_reducible apply AW.exit))
    | ((with_reducible apply AW.block))
    | ((with_reducible apply AW.label))
    | ((with_reducible apply AW.goto))
    | ((with_reducible apply AW.scope))
    | ((with_reducible apply NG.n))
    | ((with_reducible apply NG.r))
    | ((with_reducible apply NG.e))
    | ((with_reducible apply InB.past); (· rfl))
    | ((with_reducible apply AW.condT); (· rfl))
    | ((with_reducible apply AW.condF); (· rfl))
    | (apply O.fn rfl (may_t hl0 hm0) rfl; (· repeat (first | exact Args.nil | refine Args.cons (ArgAt.tmp rfl ⟨rfl, rfl⟩) ?_ | refine Args.cons (ArgAt.const rfl) ?_))))
  refine AW.loopF (fun m t h u' => u' = u ∧ ∃ (n : Nat) (ms : List Int), m = 8 - n ∧ Rd ms s n ∧ h = [⟨.one 22, A ms⟩] ∧ t = [(1, (I (s : Nat), 3)), (2, (.ptr 0 [], 0)), (7, (I (n : Nat), 3))]) 8 [(1, (I (s : Nat), 3)), (2, (.ptr 0 [], 0)), (7, (I (0 : Nat), 3))] (.cons rfl (.cons rfl (.cons rfl .nil))) ⟨rfl, 0, ms0, rfl, ⟨hl0, hm0, by omega, c4_good ms0 hl0 hm0 hs1 hs4⟩, rfl, rfl⟩ ?_
  rintro m t h u' ⟨rfl, n, ms, rfl, r, rfl, rfl⟩
  have hn8 := r.n8
  cases hst : stepH (ld ms 8) s with
  | none =>
    have hev := r.none hst
    unfold evenC at hev
    rw [Bool.and_eq_true] at hev
    have hev1 := Nat.le_of_ble_eq_true hev.1
    have hev2 := hev.2
    repeat (first
      | ((with_reducible apply O.cmp); (· rfl); (· (first | exact .tmp rfl | exact .const)); (· (first | exact .tmp rfl | exact .const)); (· (first | exact eqT (by omega) | exact eqF (by omega) | exact neT (by omega) | exact neF (by omega) | exact ltT (by omega) | exact ltF (by omega) | exact leT (by omega) | exact leF (by omega) | exact gtT (by omega) | exact gtF (by omega) | exact geT (by omega) | exact geF (by omega))))
      | ((with_reducible apply O.move); (· rfl); (· rfl))
      | ((with_reducible apply O.assign); (· rfl); (· rfl))
      | ((with_reducible apply O.assignC); (· rfl); (· rfl))
      | ((with_reducible apply O.assignN); (· rfl); (· rfl))
      | ((with_reducible apply O.load); (· rfl); (· exact wf); (· rfl); (· rfl); (· rfl); (· rfl); (· rfl); (· rfl))
      | ((with_reducible apply O.loadE); (· rfl); (· exact wf); (· rfl); (· decide); (· rfl); (· (first | exact .inl rfl | exact .inr rfl)); (· rfl))
      | ((with_reducible apply O.fieldAddr); (· rfl); (· exact wf); (· rfl); (· rfl); (· rfl); (· decide); (· rfl); (· rfl); (· decide))
      | ((with_reducible apply O.fieldAddrE); (· rfl); (· exact wf); (· rfl); (· decide); (· rfl); (· rfl); (· rfl); (· decide))
      | ((with_reducible apply O.gT); (· rfl); (· rfl); (· rfl))
      | ((with_reducible apply O.gF); (· rfl); (· rfl); (· rfl); (· rfl))
      | ((with_reducible apply O.cmp); (· rfl); (· (first | exact .tmp rfl | exact .const)); (· (first | exact .tmp rfl | exact .const)); (· rfl))
      | ((with_reducible apply O.arith); (· rfl); (· (first | exact .tmp rfl | exact .const)); (· (first | exact .tmp rfl | exact .const)); (· rfl); (· exact wrapI (by omega) (by omega)))
      | ((with_reducible apply O.not); (· rfl); (· (first | exact .tmp rfl | exact .const)))
      | ((with_reducible apply O.pickT); (· rfl); (· (first | exact .tmp rfl | exact .const)); (· (first | exact .tmp rfl | exact .const)))
      | ((with_reducible apply O.pickF); (· rfl); (· (first | exact .tmp rfl | exact .const)); (· (first | exact .tmp rfl | exact .const)))
      | ((with_reducible apply O.pickB); (· rfl); (· (first | exact .tmp rfl | exact .const)); (· (first | exact .tmp rfl | exact .const)); (· (first | exact .tmp rfl | exact .const)))
      | ((with_reducible apply O.extract); (· rfl); (· rfl); (· rfl); (· rfl); (· rfl))
      | ((with_reducible apply O.len); (· rfl); (· rfl); (· rfl))
      | ((with_reducible apply O.indexL); (· rfl); (· exact wf); (· rfl); (· (first | exact .tmp rfl | exact .const)); (· exact ⟨rfl, rfl⟩); (· decide); (· rfl); (· decide); (· omega); (· rfl))
      | ((with_reducible apply O.box); (· rfl); (· rfl); (· exact ⟨rfl, rfl⟩); (· decide); (· (first | exact .inl rfl | exact .inr rfl)))
      | ((with_reducible apply O.store); (· exact wf); (· rfl); (· exact ArgAt.tmp rfl ⟨rfl, rfl⟩); (· rfl); (· rfl); (· decide); (· rfl); (· rfl); (· (first | exact .inl rfl | exact .inr rfl)))
      | ((with_reducible apply O.store); (· exact wf); (· rfl); (· exact ArgAt.const rfl); (· rfl); (· rfl); (· decide); (· rfl); (· rfl); (· (first | exact .inl rfl | exact .inr rfl)))
      | ((with_reducible apply O.buildSlice); (· rfl); (· exact wf); (· rfl); (· decide); (· repeat (first | exact Parts.nil | apply Parts.cons (ArgAt.tmp rfl ⟨rfl, rfl⟩) (Or.inr rfl) | apply Parts.cons (ArgAt.tmp rfl ⟨rfl, rfl⟩) (Or.inl rfl) | apply Parts.cons (ArgAt.const rfl) (Or.inr rfl))); (· rfl); (· decide); (· decide); (· exact ⟨_, _, rfl, rfl⟩))
      | ((with_reducible apply O.min2); (· rfl); (· (first | exact .tmp rfl | exact .const)); (· (first | exact .tmp rfl | exact .const)))
      | ((with_reducible apply O.max2); (· rfl); (· (first | exact .tmp rfl | exact .const)); (· (first | exact .tmp rfl | exact .const)))
      | ((with_reducible apply O.indexV); (· rfl); (· exact wf); (· rfl); (· (first | exact .tmp rfl | exact .const)); (· exact ⟨rfl, rfl⟩); (· decide); (· rfl); (· omega); (· omega); (· first | exact hx0 | rfl); (· rfl); (· rfl))
      | ((with_reducible apply O.indexA); (· rfl); (· exact wf); (· rfl); (· (first | exact .tmp rfl | exact .const)); (· rfl); (· rfl); (· decide); (· rfl); (· omega); (· omega))
      | ((with_reducible apply O.indexVw); (· rfl); (· exact wf); (· rfl); (· (first | exact .tmp rfl | exact .const)); (· exact ⟨rfl, rfl⟩); (· decide); (· rfl); (· omega); (· omega))
      | ((with_reducible apply O.assignF); (· rfl))
      | ((with_reducible apply O.moveC); (· rfl); (· rfl))
      | ((with_reducible apply Then.n))
      | ((with_reducible apply Then.r))
      | ((with_reducible apply Then.e))
      | ((with_reducible apply Then.g))
      | ((with_reducible apply InB.n))
      | ((with_reducible apply InB.r))
      | ((with_reducible apply InB.g))
      | ((with_reducible apply InB.here))
      | ((with_reducible apply OPS.nil))
      | ((with_reducible apply AW.seq))
      | ((with_reducible apply AW.region))
      | ((with_reducible apply AW.skip))
      | ((with_reducible apply AW.ret))
      | ((with_reducible apply AW.exit))
      | ((with_reducible apply AW.block))
      | ((with_reducible apply AW.label))
      | ((with_reducible apply AW.goto))
      | ((with_reducible apply AW.scope))
      | ((with_reducible apply NG.n))
      | ((with_reducible apply NG.r))
      | ((with_reducible apply NG.e))
      | ((with_reducible apply InB.past); (· rfl))
      | ((with_reducible apply AW.condT); (· rfl))
      | ((with_reducible apply AW.condF); (· rfl))
      | (apply O.fn rfl (next_none ms s r.len r.may hs1 hs4 hst) rfl; (· repeat (first | exact Args.nil | refine Args.cons (ArgAt.tmp rfl ⟨rfl, rfl⟩) ?_ | refine Args.cons (ArgAt.const rfl) ?_)))
      | (refine O.alloc rfl zero25 ?_)
      | (refine O.alloc rfl zero22 ?_))
    refine AW.loopF (fun m t h u'' => u'' = u' ∧ ∃ j : Nat, m = 4 - j ∧ j ≤ 4 ∧ h = [⟨.one 22, A ms⟩, ⟨.one 25, Ch 0 0⟩] ∧ t = [(1, (I (s : Nat), 3)), (2, (.ptr 0 [], 0)), (12, (I (mxC (c4 ms) s j : Nat), 3)), (13, (I (mnC (c4 ms) s j : Nat), 3)), (14, (I (j + 1 : Nat), 3))]) 4 [(1, (I (s : Nat), 3)), (2, (.ptr 0 [], 0)), (12, (I (mxC (c4 ms) s 0 : Nat), 3)), (13, (I (mnC (c4 ms) s 0 : Nat), 3)), (14, (I (0 + 1 : Nat), 3))] (.cons rfl (.cons rfl (.cons rfl (.cons rfl (.cons rfl .nil))))) ⟨rfl, 0, rfl, by omega, rfl, rfl⟩ ?_
    rintro m t h u'' ⟨rfl, j, rfl, hj, rfl, rfl⟩
    have hmx := mx_le (c4 ms) s (c4_le ms) j
    have hmn := mn_le (c4 ms) s j
    by_cases he : j = 4
    · subst he
      repeat (first
        | ((with_reducible apply O.cmp); (· rfl); (· (first | exact .tmp rfl | exact .const)); (· (first | exact .tmp rfl | exact .const)); (· (first | exact eqT (by omega) | exact eqF (by omega) | exact neT (by omega) | exact neF (by omega) | exact ltT (by omega) | exact ltF (by omega) | exact leT (by omega) | exact leF (by omega) | exact gtT (by omega) | exact gtF (by omega) | exact geT (by omega) | exact geF (by omega))))
        | ((with_reducible apply O.move); (· rfl); (· rfl))
        | ((with_reducible apply O.assign); (· rfl); (· rfl))
        | ((with_reducible apply O.assignC); (· rfl); (· rfl))
        | ((with_reducible apply O.assignN); (· rfl); (· rfl))
        | ((with_reducible apply O.load); (· rfl); (· exact wf); (· rfl); (· rfl); (· rfl); (· rfl); (· rfl); (· rfl))
        | ((with_reducible apply O.loadE); (· rfl); (· exact wf); (· rfl); (· decide); (· rfl); (· (first | exact .inl rfl | exact .inr rfl)); (· rfl))
        | ((with_reducible apply O.fieldAddr); (· rfl); (· exact wf); (· rfl); (· rfl); (· rfl); (· decide); (· rfl); (· rfl); (· decide))
        | ((with_reducible apply O.fieldAddrE); (· rfl); (· exact wf); (· rfl); (· decide); (· rfl); (· rfl); (· rfl); (· decide))
        | ((with_reducible apply O.gT); (· rfl); (· rfl); (· rfl))
        | ((with_reducible apply O.gF); (· rfl); (· rfl); (· rfl); (· rfl))
        | ((with_reducible apply O.cmp); (· rfl); (· (first | exact .tmp rfl | exact .const)); (· (first | exact .tmp rfl | exact .const)); (· rfl))
        | ((with_reducible apply O.arith); (· rfl); (· (first | exact .tmp rfl | exact .const)); (· (first | exact .tmp rfl | exact .const)); (· rfl); (· exact wrapI (by omega) (by omega)))
        | ((with_reducible apply O.not); (· rfl); (· (first | exact .tmp rfl | exact .const)))
        | ((with_reducible apply O.pickT); (· rfl); (· (first | exact .tmp rfl | exact .const)); (· (first | exact .tmp rfl | exact .const)))
        | ((with_reducible apply O.pickF); (· rfl); (· (first | exact .tmp rfl | exact .const)); (· (first | exact .tmp rfl | exact .const)))
        | ((with_reducible apply O.pickB); (· rfl); (· (first | exact .tmp rfl | exact .const)); (· (first | exact .tmp rfl | exact .const)); (· (first | exact .tmp rfl | exact .const)))
        | ((with_reducible apply O.extract); (· rfl); (· rfl); (· rfl); (· rfl); (· rfl))
        | ((with_reducible apply O.len); (· rfl); (· rfl); (· rfl))
        | ((with_reducible apply O.indexL); (· rfl); (· exact wf); (· rfl); (· (first | exact .tmp rfl | exact .const)); (· exact ⟨rfl, rfl⟩); (· decide); (· rfl); (· decide); (· omega); (· rfl))
        | ((with_reducible apply O.box); (· rfl); (· rfl); (· exact ⟨rfl, rfl⟩); (· decide); (· (first | exact .inl rfl | exact .inr rfl)))
        | ((with_reducible apply O.store); (· exact wf); (· rfl); (· exact ArgAt.tmp rfl ⟨rfl, rfl⟩); (· rfl); (· rfl); (· decide); (· rfl); (· rfl); (· (first | exact .inl rfl | exact .inr rfl)))
        | ((with_reducible apply O.store); (· exact wf); (· rfl); (· exact ArgAt.const rfl); (· rfl); (· rfl); (· decide); (· rfl); (· rfl); (· (first | exact .inl rfl | exact .inr rfl)))
        | ((with_reducible apply O.buildSlice); (· rfl); (· exact wf); (· rfl); (· decide); (· repeat (first | exact Parts.nil | apply Parts.cons (ArgAt.tmp rfl ⟨rfl, rfl⟩) (Or.inr rfl) | apply Parts.cons (ArgAt.tmp rfl ⟨rfl, rfl⟩) (Or.inl rfl) | apply Parts.cons (ArgAt.const rfl) (Or.inr rfl))); (· rfl); (· decide); (· decide); (· exact ⟨_, _, rfl, rfl⟩))
        | ((with_reducible apply O.min2); (· rfl); (· (first | exact .tmp rfl | exact .const)); (· (first | exact .tmp rfl | exact .const)))
        | ((with_reducible apply O.max2); (· rfl); (· (first | exact .tmp rfl | exact .const)); (· (first | exact .tmp rfl | exact .const)))
        | ((with_reducible apply O.indexV); (· rfl); (· exact wf); (· rfl); (· (first | exact .tmp rfl | exact .const)); (· exact ⟨rfl, rfl⟩); (· decide); (· rfl); (· omega); (· omega); (· first | exact hx0 | rfl); (· rfl); (· rfl))
        | ((with_reducible apply O.indexA); (· rfl); (· exact wf); (· rfl); (· (first | exact .tmp rfl | exact .const)); (· rfl); (· rfl); (· decide); (· rfl); (· omega); (· omega))
        | ((with_reducible apply O.indexVw); (· rfl); (· exact wf); (· rfl); (· (first | exact .tmp rfl | exact .const)); (· exact ⟨rfl, rfl⟩); (· decide); (· rfl); (· omega); (· omega))
        | ((with_reducible apply O.assignF); (· rfl))
        | ((with_reducible apply O.moveC); (· rfl); (· rfl))
        | ((with_reducible apply Then.n))
        | ((with_reducible apply Then.r))
        | ((with_reducible apply Then.e))
        | ((with_reducible apply Then.g))
        | ((with_reducible apply InB.n))
        | ((with_reducible apply InB.r))
        | ((with_reducible apply InB.g))
        | ((with_reducible apply InB.here))
        | ((with_reducible apply OPS.nil))
        | ((with_reducible apply AW.seq))
        | ((with_reducible apply AW.region))
        | ((with_reducible apply AW.skip))
        | ((with_reducible apply AW.ret))
        | ((with_reducible apply AW.exit))
        | ((with_reducible apply AW.block))
        | ((with_reducible apply AW.label))
        | ((with_reducible apply AW.goto))
        | ((with_reducible apply AW.scope))
        | ((with_reducible apply NG.n))
        | ((with_reducible apply NG.r))
        | ((with_reducible apply NG.e))
        | ((with_reducible apply InB.past); (· rfl))
        | ((with_reducible apply AW.condT); (· rfl))
        | ((with_reducible apply AW.condF); (· rfl))
        | (apply O.fn rfl (wakes_c) rfl; (· repeat (first | exact Args.nil | refine Args.cons (ArgAt.tmp rfl ⟨rfl, rfl⟩) ?_ | refine Args.cons (ArgAt.const rfl) ?_))))
      exact ⟨.inr rfl, .tmp rfl, (fun _ _ e => (by cases e)), fun _ h => h⟩
    have hj4 : j < 4 := by omega
    repeat (first
      | ((with_reducible apply O.cmp); (· rfl); (· (first | exact .tmp rfl | exact .const)); (· (first | exact .tmp rfl | exact .const)); (· (first | exact eqT (by omega) | exact eqF (by omega) | exact neT (by omega) | exact neF (by omega) | exact ltT (by omega) | exact ltF (by omega) | exact leT (by omega) | exact leF (by omega) | exact gtT (by omega) | exact gtF (by omega) | exact geT (by omega) | exact geF (by omega))))
      | ((with_reducible apply O.move); (· rfl); (· rfl))
      | ((with_reducible apply O.assign); (· rfl); (· rfl))
      | ((with_reducible apply O.assignC); (· rfl); (· rfl))
      | ((with_reducible apply O.assignN); (· rfl); (· rfl))
      | ((with_reducible apply O.load); (· rfl); (· exact wf); (· rfl); (· rfl); (· rfl); (· rfl); (· rfl); (· rfl))
      | ((with_reducible apply O.loadE); (· rfl); (· exact wf); (· rfl); (· decide); (· rfl); (· (first | exact .inl rfl | exact .inr rfl)); (· rfl))
      | ((with_reducible apply O.fieldAddr); (· rfl); (· exact wf); (· rfl); (· rfl); (· rfl); (· decide); (· rfl); (· rfl); (· decide))
      | ((with_reducible apply O.fieldAddrE); (· rfl); (· exact wf); (· rfl); (· decide); (· rfl); (· rfl); (· rfl); (· decide))
      | ((with_reducible apply O.gT); (· rfl); (· rfl); (· rfl))
      | ((with_reducible apply O.gF); (· rfl); (· rfl); (· rfl); (· rfl))
      | ((with_reducible apply O.cmp); (· rfl); (· (first | exact .tmp rfl | exact .const)); (· (first | exact .tmp rfl | exact .const)); (· rfl))
      | ((with_reducible apply O.arith); (· rfl); (· (first | exact .tmp rfl | exact .const)); (· (first | exact .tmp rfl | exact .const)); (· rfl); (· exact wrapI (by omega) (by omega)))
      | ((with_reducible apply O.not); (· rfl); (· (first | exact .tmp rfl | exact .const)))
      | ((with_reducible apply O.pickT); (· rfl); (· (first | exact .tmp rfl | exact .const)); (· (first | exact .tmp rfl | exact .const)))
      | ((with_reducible apply O.pickF); (· rfl); (· (first | exact .tmp rfl | exact .const)); (· (first | exact .tmp rfl | exact .const)))
      | ((with_reducible apply O.pickB); (· rfl); (· (first | exact .tmp rfl | exact .const)); (· (first | exact .tmp rfl | exact .const)); (· (first | exact .tmp rfl | exact .const)))
      | ((with_reducible apply O.extract); (· rfl); (· rfl); (· rfl); (· rfl); (· rfl))
      | ((with_reducible apply O.len); (· rfl); (· rfl); (· rfl))
      | ((with_reducible apply O.indexL); (· rfl); (· exact wf); (· rfl); (· (first | exact .tmp rfl | exact .const)); (· exact ⟨rfl, rfl⟩); (· decide); (· rfl); (· decide); (· omega); (· rfl))
      | ((with_reducible apply O.box); (· rfl); (· rfl); (· exact ⟨rfl, rfl⟩); (· decide); (· (first | exact .inl rfl | exact .inr rfl)))
      | ((with_reducible apply O.store); (· exact wf); (· rfl); (· exact ArgAt.tmp rfl ⟨rfl, rfl⟩); (· rfl); (· rfl); (· decide); (· rfl); (· rfl); (· (first | exact .inl rfl | exact .inr rfl)))
      | ((with_reducible apply O.store); (· exact wf); (· rfl); (· exact ArgAt.const rfl); (· rfl); (· rfl); (· decide); (· rfl); (· rfl); (· (first | exact .inl rfl | exact .inr rfl)))
      | ((with_reducible apply O.buildSlice); (· rfl); (· exact wf); (· rfl); (· decide); (· repeat (first | exact Parts.nil | apply Parts.cons (ArgAt.tmp rfl ⟨rfl, rfl⟩) (Or.inr rfl) | apply Parts.cons (ArgAt.tmp rfl ⟨rfl, rfl⟩) (Or.inl rfl) | apply Parts.cons (ArgAt.const rfl) (Or.inr rfl))); (· rfl); (· decide); (· decide); (· exact ⟨_, _, rfl, rfl⟩))
      | ((with_reducible apply O.min2); (· rfl); (· (first | exact .tmp rfl | exact .const)); (· (first | exact .tmp rfl | exact .const)))
      | ((with_reducible apply O.max2); (· rfl); (· (first | exact .tmp rfl | exact .const)); (· (first | exact .tmp rfl | exact .const)))
      | ((with_reducible apply O.indexV); (· rfl); (· exact wf); (· rfl); (· (first | exact .tmp rfl | exact .const)); (· exact ⟨rfl, rfl⟩); (· decide); (· rfl); (· omega); (· omega); (· first | exact hx0 | rfl); (· rfl); (· rfl))
      | ((with_reducible apply O.indexA); (· rfl); (· exact wf); (· rfl); (· (first | exact .tmp rfl | exact .const)); (· rfl); (· rfl); (· decide); (· rfl); (· omega); (· omega))
      | ((with_reducible apply O.indexVw); (· rfl); (· exact wf); (· rfl); (· (first | exact .tmp rfl | exact .const)); (· exact ⟨rfl, rfl⟩); (· decide); (· rfl); (· omega); (· omega))
      | ((with_reducible apply O.assignF); (· rfl))
      | ((with_reducible apply O.moveC); (· rfl); (· rfl))
      | ((with_reducible apply Then.n))
      | ((with_reducible apply Then.r))
      | ((with_reducible apply Then.e))
      | ((with_reducible apply Then.g))
      | ((with_reducible apply InB.n))
      | ((with_reducible apply InB.r))
      | ((with_reducible apply InB.g))
      | ((with_reducible apply InB.here))
      | ((with_reducible apply OPS.nil))
      | ((with_reducible apply AW.seq))
      | ((with_reducible apply AW.region))
      | ((with_reducible apply AW.skip))
      | ((with_reducible apply AW.ret))
      | ((with_reducible apply AW.exit))
      | ((with_reducible apply AW.block))
      | ((with_reducible apply AW.label))
      | ((with_reducible apply AW.goto))
      | ((with_reducible apply AW.scope))
      | ((with_reducible apply NG.n))
      | ((with_reducible apply NG.r))
      | ((with_reducible apply NG.e))
      | ((with_reducible apply InB.past); (· rfl))
      | ((with_reducible apply AW.condT); (· rfl))
      | ((with_reducible apply AW.condF); (· rfl))
      | (apply O.fn rfl (owned_c ms ((j + 1 : Nat) : Int) r.len) rfl; (· repeat (first | exact Args.nil | refine Args.cons (ArgAt.tmp rfl ⟨rfl, rfl⟩) ?_ | refine Args.cons (ArgAt.const rfl) ?_))))
    refine AW.loopF (fun m t h u3 => u3 = u'' ∧ ∃ i : Nat, m = 8 - i ∧ i ≤ 8 ∧ h = [⟨.one 22, A ms⟩, ⟨.one 25, Ch 0 0⟩] ∧ t = [(1, (I (s : Nat), 3)), (2, (.ptr 0 [], 0)), (12, (I (mxC (c4 ms) s j : Nat), 3)), (13, (I (mnC (c4 ms) s j : Nat), 3)), (14, (I (j + 1 : Nat), 3)), (15, (I (own ms ((j + 1 : Nat) : Int) 8 / 2 ^ i : Nat), 3)), (16, (I (cnt ms ((j + 1 : Nat) : Int) i : Nat), 3))]) 8 [(1, (I (s : Nat), 3)), (2, (.ptr 0 [], 0)), (12, (I (mxC (c4 ms) s j : Nat), 3)), (13, (I (mnC (c4 ms) s j : Nat), 3)), (14, (I (j + 1 : Nat), 3)), (15, (I (own ms ((j + 1 : Nat) : Int) 8 / 2 ^ 0 : Nat), 3)), (16, (I (cnt ms ((j + 1 : Nat) : Int) 0 : Nat), 3))] (.cons rfl (.cons rfl (.cons rfl (.cons rfl (.cons rfl (.cons (by rw [Nat.pow_zero, Nat.div_one]; rfl) (.cons rfl .nil))))))) ⟨rfl, 0, rfl, by omega, rfl, rfl⟩ ?_
    rintro m t h u3 ⟨rfl, i, rfl, hi, rfl, rfl⟩
    have hci := cnt_le ms ((j + 1 : Nat) : Int) i
    by_cases hb0 : own ms ((j + 1 : Nat) : Int) 8 / 2 ^ i = 0
    · have hrest := cnt_rest ms ((j + 1 : Nat) : Int) (8 - i) i (by omega) hb0
      have hat := c4_at ms hj4
      rw [← hrest]
      have hc8 := cnt_le ms ((j + 1 : Nat) : Int) 8
      by_cases hjs : j + 1 ≤ s
      · have hble : Nat.ble (j + 1) s = true := Nat.ble_eq_true_of_le hjs
        repeat (first
          | ((with_reducible apply O.cmp); (· rfl); (· (first | exact .tmp rfl | exact .const)); (· (first | exact .tmp rfl | exact .const)); (· (first | exact eqT (by omega) | exact eqF (by omega) | exact neT (by omega) | exact neF (by omega) | exact ltT (by omega) | exact ltF (by omega) | exact leT (by omega) | exact leF (by omega) | exact gtT (by omega) | exact gtF (by omega) | exact geT (by omega) | exact geF (by omega))))
          | ((with_reducible apply O.move); (· rfl); (· rfl))
          | ((with_reducible apply O.assign); (· rfl); (· rfl))
          | ((with_reducible apply O.assignC); (· rfl); (· rfl))
          | ((with_reducible apply O.assignN); (· rfl); (· rfl))
          | ((with_reducible apply O.load); (· rfl); (· exact wf); (· rfl); (· rfl); (· rfl); (· rfl); (· rfl); (· rfl))
          | ((with_reducible apply O.loadE); (· rfl); (· exact wf); (· rfl); (· decide); (· rfl); (· (first | exact .inl rfl | exact .inr rfl)); (· rfl))
          | ((with_reducible apply O.fieldAddr); (· rfl); (· exact wf); (· rfl); (· rfl); (· rfl); (· decide); (· rfl); (· rfl); (· decide))
          | ((with_reducible apply O.fieldAddrE); (· rfl); (· exact wf); (· rfl); (· decide); (· rfl); (· rfl); (· rfl); (· decide))
          | ((with_reducible apply O.gT); (· rfl); (· rfl); (· rfl))
          | ((with_reducible apply O.gF); (· rfl); (· rfl); (· rfl); (· rfl))
          | ((with_reducible apply O.cmp); (· rfl); (· (first | exact .tmp rfl | exact .const)); (· (first | exact .tmp rfl | exact .const)); (· rfl))
          | ((with_reducible apply O.arith); (· rfl); (· (first | exact .tmp rfl | exact .const)); (· (first | exact .tmp rfl | exact .const)); (· rfl); (· exact wrapI (by omega) (by omega)))
          | ((with_reducible apply O.not); (· rfl); (· (first | exact .tmp rfl | exact .const)))
          | ((with_reducible apply O.pickT); (· rfl); (· (first | exact .tmp rfl | exact .const)); (· (first | exact .tmp rfl | exact .const)))
          | ((with_reducible apply O.pickF); (· rfl); (· (first | exact .tmp rfl | exact .const)); (· (first | exact .tmp rfl | exact .const)))
          | ((with_reducible apply O.pickB); (· rfl); (· (first | exact .tmp rfl | exact .const)); (· (first | exact .tmp rfl | exact .const)); (· (first | exact .tmp rfl | exact .const)))
          | ((with_reducible apply O.extract); (· rfl); (· rfl); (· rfl); (· rfl); (· rfl))
          | ((with_reducible apply O.len); (· rfl); (· rfl); (· rfl))
          | ((with_reducible apply O.indexL); (· rfl); (· exact wf); (· rfl); (· (first | exact .tmp rfl | exact .const)); (· exact ⟨rfl, rfl⟩); (· decide); (· rfl); (· decide); (· omega); (· rfl))
          | ((with_reducible apply O.box); (· rfl); (· rfl); (· exact ⟨rfl, rfl⟩); (· decide); (· (first | exact .inl rfl | exact .inr rfl)))
          | ((with_reducible apply O.store); (· exact wf); (· rfl); (· exact ArgAt.tmp rfl ⟨rfl, rfl⟩); (· rfl); (· rfl); (· decide); (· rfl); (· rfl); (· (first | exact .inl rfl | exact .inr rfl)))
          | ((with_reducible apply O.store); (· exact wf); (· rfl); (· exact ArgAt.const rfl); (· rfl); (· rfl); (· decide); (· rfl); (· rfl); (· (first | exact .inl rfl | exact .inr rfl)))
          | ((with_reducible apply O.buildSlice); (· rfl); (· exact wf); (· rfl); (· decide); (· repeat (first | exact Parts.nil | apply Parts.cons (ArgAt.tmp rfl ⟨rfl, rfl⟩) (Or.inr rfl) | apply Parts.cons (ArgAt.tmp rfl ⟨rfl, rfl⟩) (Or.inl rfl) | apply Parts.cons (ArgAt.const rfl) (Or.inr rfl))); (· rfl); (· decide); (· decide); (· exact ⟨_, _, rfl, rfl⟩))
          | ((with_reducible apply O.min2); (· rfl); (· (first | exact .tmp rfl | exact .const)); (· (first | exact .tmp rfl | exact .const)))
          | ((with_reducible apply O.max2); (· rfl); (· (first | exact .tmp rfl | exact .const)); (· (first | exact .tmp rfl | exact .const)))
          | ((with_reducible apply O.indexV); (· rfl); (· exact wf); (· rfl); (· (first | exact .tmp rfl | exact .const)); (· exact ⟨rfl, rfl⟩); (· decide); (· rfl); (· omega); (· omega); (· first | exact hx0 | rfl); (· rfl); (· rfl))
          | ((with_reducible apply O.indexA); (· rfl); (· exact wf); (· rfl); (· (first | exact .tmp rfl | exact .const)); (· rfl); (· rfl); (· decide); (· rfl); (· omega); (· omega))
          | ((with_reducible apply O.indexVw); (· rfl); (· exact wf); (· rfl); (· (first | exact .tmp rfl | exact .const)); (· exact ⟨rfl, rfl⟩); (· decide); (· rfl); (· omega); (· omega))
          | ((with_reducible apply O.assignF); (· rfl))
          | ((with_reducible apply O.moveC); (· rfl); (· rfl))
          | ((with_reducible apply Then.n))
          | ((with_reducible apply Then.r))
          | ((with_reducible apply Then.e))
          | ((with_reducible apply Then.g))
          | ((with_reducible apply InB.n))
          | ((with_reducible apply InB.r))
          | ((with_reducible apply InB.g))
          | ((with_reducible apply InB.here))
          | ((with_reducible apply OPS.nil))
          | ((with_reducible apply AW.seq))
          | ((with_reducible apply AW.region))
          | ((with_reducible apply AW.skip))
          | ((with_reducible apply AW.ret))
          | ((with_reducible apply AW.exit))
          | ((with_reducible apply AW.block))
          | ((with_reducible apply AW.label))
          | ((with_reducible apply AW.goto))
          | ((with_reducible apply AW.scope))
          | ((with_reducible apply NG.n))
          | ((with_reducible apply NG.r))
          | ((with_reducible apply NG.e))
          | ((with_reducible apply InB.past); (· rfl))
          | ((with_reducible apply AW.condT); (· rfl))
          | ((with_reducible apply AW.condF); (· rfl)))
        exact ⟨rfl, 4 - (j + 1), [(1, (I (s : Nat), 3)), (2, (.ptr 0 [], 0)), (12, (I (mxC (c4 ms) s (j + 1) : Nat), 3)), (13, (I (mnC (c4 ms) s (j + 1) : Nat), 3)), (14, (I ((j + 1) + 1 : Nat), 3))], [⟨.one 22, A ms⟩, ⟨.one 25, Ch 0 0⟩], _, by omega, .cons rfl (.cons rfl (.cons (by simp only [mxC, hble, cond_true, hat, ← maxI]; rfl) (.cons (by simp only [mnC, hble, cond_true, hat, ← minI]; rfl) (.cons rfl .nil)))), rfl, rfl, rfl, by simp only [hbB, pb, A_pbL]; rfl, rfl, j + 1, rfl, by omega, rfl, rfl⟩
      · have hble : Nat.ble (j + 1) s = false := by
          cases hb : Nat.ble (j + 1) s with
          | false => rfl
          | true => exact absurd (Nat.le_of_ble_eq_true hb) hjs
        have hc0 : cnt ms ((j + 1 : Nat) : Int) 8 = 0 := by
          have := List.all_eq_true.1 hev2 j (List.mem_range.2 hj4)
          rw [hble, Bool.false_or, hat] at this
          exact Nat.eq_of_beq_eq_true this
        rw [hc0]
        repeat (first
          | ((with_reducible apply O.cmp); (· rfl); (· (first | exact .tmp rfl | exact .const)); (· (first | exact .tmp rfl | exact .const)); (· (first | exact eqT (by omega) | exact eqF (by omega) | exact neT (by omega) | exact neF (by omega) | exact ltT (by omega) | exact ltF (by omega) | exact leT (by omega) | exact leF (by omega) | exact gtT (by omega) | exact gtF (by omega) | exact geT (by omega) | exact geF (by omega))))
          | ((with_reducible apply O.move); (· rfl); (· rfl))
          | ((with_reducible apply O.assign); (· rfl); (· rfl))
          | ((with_reducible apply O.assignC); (· rfl); (· rfl))
          | ((with_reducible apply O.assignN); (· rfl); (· rfl))
          | ((with_reducible apply O.load); (· rfl); (· exact wf); (· rfl); (· rfl); (· rfl); (· rfl); (· rfl); (· rfl))
          | ((with_reducible apply O.loadE); (· rfl); (· exact wf); (· rfl); (· decide); (· rfl); (· (first | exact .inl rfl | exact .inr rfl)); (· rfl))
          | ((with_reducible apply O.fieldAddr); (· rfl); (· exact wf); (· rfl); (· rfl); (· rfl); (· decide); (· rfl); (· rfl); (· decide))
          | ((with_reducible apply O.fieldAddrE); (· rfl); (· exact wf); (· rfl); (· decide); (· rfl); (· rfl); (· rfl); (· decide))
          | ((with_reducible apply O.gT); (· rfl); (· rfl); (· rfl))
          | ((with_reducible apply O.gF); (· rfl); (· rfl); (· rfl); (· rfl))
          | ((with_reducible apply O.cmp); (· rfl); (· (first | exact .tmp rfl | exact .const)); (· (first | exact .tmp rfl | exact .const)); (· rfl))
          | ((with_reducible apply O.arith); (· rfl); (· (first | exact .tmp rfl | exact .const)); (· (first | exact .tmp rfl | exact .const)); (· rfl); (· exact wrapI (by omega) (by omega)))
          | ((with_reducible apply O.not); (· rfl); (· (first | exact .tmp rfl | exact .const)))
          | ((with_reducible apply O.pickT); (· rfl); (· (first | exact .tmp rfl | exact .const)); (· (first | exact .tmp rfl | exact .const)))
          | ((with_reducible apply O.pickF); (· rfl); (· (first | exact .tmp rfl | exact .const)); (· (first | exact .tmp rfl | exact .const)))
          | ((with_reducible apply O.pickB); (· rfl); (· (first | exact .tmp rfl | exact .const)); (· (first | exact .tmp rfl | exact .const)); (· (first | exact .tmp rfl | exact .const)))
          | ((with_reducible apply O.extract); (· rfl); (· rfl); (· rfl); (· rfl); (· rfl))
          | ((with_reducible apply O.len); (· rfl); (· rfl); (· rfl))
          | ((with_reducible apply O.indexL); (· rfl); (· exact wf); (· rfl); (· (first | exact .tmp rfl | exact .const)); (· exact ⟨rfl, rfl⟩); (· decide); (· rfl); (· decide); (· omega); (· rfl))
          | ((with_reducible apply O.box); (· rfl); (· rfl); (· exact ⟨rfl, rfl⟩); (· decide); (· (first | exact .inl rfl | exact .inr rfl)))
          | ((with_reducible apply O.store); (· exact wf); (· rfl); (· exact ArgAt.tmp rfl ⟨rfl, rfl⟩); (· rfl); (· rfl); (· decide); (· rfl); (· rfl); (· (first | exact .inl rfl | exact .inr rfl)))
          | ((with_reducible apply O.store); (· exact wf); (· rfl); (· exact ArgAt.const rfl); (· rfl); (· rfl); (· decide); (· rfl); (· rfl); (· (first | exact .inl rfl | exact .inr rfl)))
          | ((with_reducible apply O.buildSlice); (· rfl); (· exact wf); (· rfl); (· decide); (· repeat (first | exact Parts.nil | apply Parts.cons (ArgAt.tmp rfl ⟨rfl, rfl⟩) (Or.inr rfl) | apply Parts.cons (ArgAt.tmp rfl ⟨rfl, rfl⟩) (Or.inl rfl) | apply Parts.cons (ArgAt.const rfl) (Or.inr rfl))); (· rfl); (· decide); (· decide); (· exact ⟨_, _, rfl, rfl⟩))
          | ((with_reducible apply O.min2); (· rfl); (· (first | exact .tmp rfl | exact .const)); (· (first | exact .tmp rfl | exact .const)))
          | ((with_reducible apply O.max2); (· rfl); (· (first | exact .tmp rfl | exact .const)); (· (first | exact .tmp rfl | exact .const)))
          | ((with_reducible apply O.indexV); (· rfl); (· exact wf); (· rfl); (· (first | exact .tmp rfl | exact .const)); (· exact ⟨rfl, rfl⟩); (· decide); (· rfl); (· omega); (· omega); (· first | exact hx0 | rfl); (· rfl); (· rfl))
          | ((with_reducible apply O.indexA); (· rfl); (· exact wf); (· rfl); (· (first | exact .tmp rfl | exact .const)); (· rfl); (· rfl); (· decide); (· rfl); (· omega); (· omega))
          | ((with_reducible apply O.indexVw); (· rfl); (· exact wf); (· rfl); (· (first | exact .tmp rfl | exact .const)); (· exact ⟨rfl, rfl⟩); (· decide); (· rfl); (· omega); (· omega))
          | ((with_reducible apply O.assignF); (· rfl))
          | ((with_reducible apply O.moveC); (· rfl); (· rfl))
          | ((with_reducible apply Then.n))
          | ((with_reducible apply Then.r))
          | ((with_reducible apply Then.e))
          | ((with_reducible apply Then.g))
          | ((with_reducible apply InB.n))
          | ((with_reducible apply InB.r))
          | ((with_reducible apply InB.g))
          | ((with_reducible apply InB.here))
          | ((with_reducible apply OPS.nil))
          | ((with_reducible apply AW.seq))
          | ((with_reducible apply AW.region))
          | ((with_reducible apply AW.skip))
          | ((with_reducible apply AW.ret))
          | ((with_reducible apply AW.exit))
          | ((with_reducible apply AW.block))
          | ((with_reducible apply AW.label))
          | ((with_reducible apply AW.goto))
          | ((with_reducible apply AW.scope))
          | ((with_reducible apply NG.n))
          | ((with_reducible apply NG.r))
          | ((with_reducible apply NG.e))
          | ((with_reducible apply InB.past); (· rfl))
          | ((with_reducible apply AW.condT); (· rfl))
          | ((with_reducible apply AW.condF); (· rfl)))
        exact ⟨rfl, 4 - (j + 1), [(1, (I (s : Nat), 3)), (2, (.ptr 0 [], 0)), (12, (I (mxC (c4 ms) s (j + 1) : Nat), 3)), (13, (I (mnC (c4 ms) s (j + 1) : Nat), 3)), (14, (I ((j + 1) + 1 : Nat), 3))], [⟨.one 22, A ms⟩, ⟨.one 25, Ch 0 0⟩], _, by omega, .cons rfl (.cons rfl (.cons (by simp only [mxC, hble, cond_false]; rfl) (.cons (by simp only [mnC, hble, cond_false]; rfl) (.cons rfl .nil)))), rfl, rfl, rfl, by simp only [hbB, pb, A_pbL]; rfl, rfl, j + 1, rfl, by omega, rfl, rfl⟩
    have hi8 : i < 8 := by
      by_cases h8 : i = 8
      · exfalso
        apply hb0
        rw [h8]
        exact Nat.div_eq_of_lt (own_lt ms _ 8)
      · omega
    have hand := own_and ms ((j + 1 : Nat) : Int) hi8
    have hsh : own ms ((j + 1 : Nat) : Int) 8 / 2 ^ i / 2 ^ 1 = own ms ((j + 1 : Nat) : Int) 8 / 2 ^ (i + 1) := by rw [Nat.div_div_eq_div_mul, ← Nat.pow_add]
    have hpos : (0 : Int) < (own ms ((j + 1 : Nat) : Int) 8 / 2 ^ i : Nat) := Int.natCast_pos.2 (Nat.pos_of_ne_zero hb0)
    by_cases hbit : ms[i]? = some ((j + 1 : Nat) : Int)
    · rw [if_pos hbit] at hand
      have hcn : cnt ms ((j + 1 : Nat) : Int) (i + 1) = cnt ms ((j + 1 : Nat) : Int) i + 1 := by simp only [cnt, if_pos hbit]
      repeat (first
        | ((with_reducible apply O.bits); (· rfl); (· (first | exact .tmp rfl | exact .const)); (· (first | exact .tmp rfl | exact .const)); (· exact hand); (· exact own_sm ms _ _); (· decide))
        | ((with_reducible apply O.shr); (· rfl); (· (first | exact .tmp rfl | exact .const)); (· (first | exact .tmp rfl | exact .const)); (· decide); (· exact hsh))
        | ((with_reducible apply O.cmp); (· rfl); (· (first | exact .tmp rfl | exact .const)); (· (first | exact .tmp rfl | exact .const)); (· (first | exact eqT (by omega) | exact eqF (by omega) | exact neT (by omega) | exact neF (by omega) | exact ltT (by omega) | exact ltF (by omega) | exact leT (by omega) | exact leF (by omega) | exact gtT (by omega) | exact gtF (by omega) | exact geT (by omega) | exact geF (by omega))))
        | ((with_reducible apply O.move); (· rfl); (· rfl))
        | ((with_reducible apply O.assign); (· rfl); (· rfl))
        | ((with_reducible apply O.assignC); (· rfl); (· rfl))
        | ((with_reducible apply O.assignN); (· rfl); (· rfl))
        | ((with_reducible apply O.load); (· rfl); (· exact wf); (· rfl); (· rfl); (· rfl); (· rfl); (· rfl); (· rfl))
        | ((with_reducible apply O.loadE); (· rfl); (· exact wf); (· rfl); (· decide); (· rfl); (· (first | exact .inl rfl | exact .inr rfl)); (· rfl))
        | ((with_reducible apply O.fieldAddr); (· rfl); (· exact wf); (· rfl); (· rfl); (· rfl); (· decide); (· rfl); (· rfl); (· decide))
        | ((with_reducible apply O.fieldAddrE); (· rfl); (· exact wf); (· rfl); (· decide); (· rfl); (· rfl); (· rfl); (· decide))
        | ((with_reducible apply O.gT); (· rfl); (· rfl); (· rfl))
        | ((with_reducible apply O.gF); (· rfl); (· rfl); (· rfl); (· rfl))
        | ((with_reducible apply O.cmp); (· rfl); (· (first | exact .tmp rfl | exact .const)); (· (first | exact .tmp rfl | exact .const)); (· rfl))
        | ((with_reducible apply O.arith); (· rfl); (· (first | exact .tmp rfl | exact .const)); (· (first | exact .tmp rfl | exact .const)); (· rfl); (· exact wrapI (by omega) (by omega)))
        | ((with_reducible apply O.not); (· rfl); (· (first | exact .tmp rfl | exact .const)))
        | ((with_reducible apply O.pickT); (· rfl); (· (first | exact .tmp rfl | exact .const)); (· (first | exact .tmp rfl | exact .const)))
        | ((with_reducible apply O.pickF); (· rfl); (· (first | exact .tmp rfl | exact .const)); (· (first | exact .tmp rfl | exact .const)))
        | ((with_reducible apply O.pickB); (· rfl); (· (first | exact .tmp rfl | exact .const)); (· (first | exact .tmp rfl | exact .const)); (· (first | exact .tmp rfl | exact .const)))
        | ((with_reducible apply O.extract); (· rfl); (· rfl); (· rfl); (· rfl); (· rfl))
        | ((with_reducible apply O.len); (· rfl); (· rfl); (· rfl))
        | ((with_reducible apply O.indexL); (· rfl); (· exact wf); (· rfl); (· (first | exact .tmp rfl | exact .const)); (· exact ⟨rfl, rfl⟩); (· decide); (· rfl); (· decide); (· omega); (· rfl))
        | ((with_reducible apply O.box); (· rfl); (· rfl); (· exact ⟨rfl, rfl⟩); (· decide); (· (first | exact .inl rfl | exact .inr rfl)))
        | ((with_reducible apply O.store); (· exact wf); (· rfl); (· exact ArgAt.tmp rfl ⟨rfl, rfl⟩); (· rfl); (· rfl); (· decide); (· rfl); (· rfl); (· (first | exact .inl rfl | exact .inr rfl)))
        | ((with_reducible apply O.store); (· exact wf); (· rfl); (· exact ArgAt.const rfl); (· rfl); (· rfl); (· decide); (· rfl); (· rfl); (· (first | exact .inl rfl | exact .inr rfl)))
        | ((with_reducible apply O.buildSlice); (· rfl); (· exact wf); (· rfl); (· decide); (· repeat (first | exact Parts.nil | apply Parts.cons (ArgAt.tmp rfl ⟨rfl, rfl⟩) (Or.inr rfl) | apply Parts.cons (ArgAt.tmp rfl ⟨rfl, rfl⟩) (Or.inl rfl) | apply Parts.cons (ArgAt.const rfl) (Or.inr rfl))); (· rfl); (· decide); (· decide); (· exact ⟨_, _, rfl, rfl⟩))
        | ((with_reducible apply O.min2); (· rfl); (· (first | exact .tmp rfl | exact .const)); (· (first | exact .tmp rfl | exact .const)))
        | ((with_reducible apply O.max2); (· rfl); (· (first | exact .tmp rfl | exact .const)); (· (first | exact .tmp rfl | exact .const)))
        | ((with_reducible apply O.indexV); (· rfl); (· exact wf); (· rfl); (· (first | exact .tmp rfl | exact .const)); (· exact ⟨rfl, rfl⟩); (· decide); (· rfl); (· omega); (· omega); (· first | exact hx0 | rfl); (· rfl); (· rfl))
        | ((with_reducible apply O.indexA); (· rfl); (· exact wf); (· rfl); (· (first | exact .tmp rfl | exact .const)); (· rfl); (· rfl); (· decide); (· rfl); (· omega); (· omega))
        | ((with_reducible apply O.indexVw); (· rfl); (· exact wf); (· rfl); (· (first | exact .tmp rfl | exact .const)); (· exact ⟨rfl, rfl⟩); (· decide); (· rfl); (· omega); (· omega))
        | ((with_reducible apply O.assignF); (· rfl))
        | ((with_reducible apply O.moveC); (· rfl); (· rfl))
        | ((with_reducible apply Then.n))
        | ((with_reducible apply Then.r))
        | ((with_reducible apply Then.e))
        | ((with_reducible apply Then.g))
        | ((with_reducible apply InB.n))
        | ((with_reducible apply InB.r))
        | ((with_reducible apply InB.g))
        | ((with_reducible apply InB.here))
        | ((with_reducible apply OPS.nil))
        | ((with_reducible apply AW.seq))
        | ((with_reducible apply AW.region))
        | ((with_reducible apply AW.skip))
        | ((with_reducible apply AW.ret))
        | ((with_reducible apply AW.exit))
        | ((with_reducible apply AW.block))
        | ((with_reducible apply AW.label))
        | ((with_reducible apply AW.goto))
        | ((with_reducible apply AW.scope))
        | ((with_reducible apply NG.n))
        | ((with_reducible apply NG.r))
        | ((with_reducible apply NG.e))
        | ((with_reducible apply InB.past); (· rfl))
        | ((with_reducible apply AW.condT); (· rfl))
        | ((with_reducible apply AW.condF); (· rfl)))
      exact ⟨rfl, 8 - (i + 1), [(1, (I (s : Nat), 3)), (2, (.ptr 0 [], 0)), (12, (I (mxC (c4 ms) s j : Nat), 3)), (13, (I (mnC (c4 ms) s j : Nat), 3)), (14, (I (j + 1 : Nat), 3)), (15, (I (own ms ((j + 1 : Nat) : Int) 8 / 2 ^ (i + 1) : Nat), 3)), (16, (I (cnt ms ((j + 1 : Nat) : Int) (i + 1) : Nat), 3))], [⟨.one 22, A ms⟩, ⟨.one 25, Ch 0 0⟩], _, by omega, .cons rfl (.cons rfl (.cons rfl (.cons rfl (.cons rfl (.cons rfl (.cons (by rw [hcn]; rfl) .nil)))))), rfl, rfl, rfl, by simp only [hbB, pb, A_pbL]; rfl, rfl, i + 1, rfl, by omega, rfl, rfl⟩
    · rw [if_neg hbit] at hand
      have hcn : cnt ms ((j + 1 : Nat) : Int) (i + 1) = cnt ms ((j + 1 : Nat) : Int) i + 0 := by simp only [cnt, if_neg hbit]; rfl
      repeat (first
        | ((with_reducible apply O.bits); (· rfl); (· (first | exact .tmp rfl | exact .const)); (· (first | exact .tmp rfl | exact .const)); (· exact hand); (· exact own_sm ms _ _); (· decide))
        | ((with_reducible apply O.shr); (· rfl); (· (first | exact .tmp rfl | exact .const)); (· (first | exact .tmp rfl | exact .const)); (· decide); (· exact hsh))
        | ((with_reducible apply O.cmp); (· rfl); (· (first | exact .tmp rfl | exact .const)); (· (first | exact .tmp rfl | exact .const)); (· (first | exact eqT (by omega) | exact eqF (by omega) | exact neT (by omega) | exact neF (by omega) | exact ltT (by omega) | exact ltF (by omega) | exact leT (by omega) | exact leF (by omega) | exact gtT (by omega) | exact gtF (by omega) | exact geT (by omega) | exact geF (by omega))))
        | ((with_reducible apply O.move); (· rfl); (· rfl))
        | ((with_reducible apply O.assign); (· rfl); (· rfl))
        | ((with_reducible apply O.assignC); (· rfl); (· rfl))
        | ((with_reducible apply O.assignN); (· rfl); (· rfl))
        | ((with_reducible apply O.load); (· rfl); (· exact wf); (· rfl); (· rfl); (· rfl); (· rfl); (· rfl); (· rfl))
        | ((with_reducible apply O.loadE); (· rfl); (· exact wf); (· rfl); (· decide); (· rfl); (· (first | exact .inl rfl | exact .inr rfl)); (· rfl))
        | ((with_reducible apply O.fieldAddr); (· rfl); (· exact wf); (· rfl); (· rfl); (· rfl); (· decide); (· rfl); (· rfl); (· decide))
        | ((with_reducible apply O.fieldAddrE); (· rfl); (· exact wf); (· rfl); (· decide); (· rfl); (· rfl); (· rfl); (· decide))
        | ((with_reducible apply O.gT); (· rfl); (· rfl); (· rfl))
        | ((with_reducible apply O.gF); (· rfl); (· rfl); (· rfl); (· rfl))
        | ((with_reducible apply O.cmp); (· rfl); (· (first | exact .tmp rfl | exact .const)); (· (first | exact .tmp rfl | exact .const)); (· rfl))
        | ((with_reducible apply O.arith); (· rfl); (· (first | exact .tmp rfl | exact .const)); (· (first | exact .tmp rfl | exact .const)); (· rfl); (· exact wrapI (by omega) (by omega)))
        | ((with_reducible apply O.not); (· rfl); (· (first | exact .tmp rfl | exact .const)))
        | ((with_reducible apply O.pickT); (· rfl); (· (first | exact .tmp rfl | exact .const)); (· (first | exact .tmp rfl | exact .const)))
        | ((with_reducible apply O.pickF); (· rfl); (· (first | exact .tmp rfl | exact .const)); (· (first | exact .tmp rfl | exact .const)))
        | ((with_reducible apply O.pickB); (· rfl); (· (first | exact .tmp rfl | exact .const)); (· (first | exact .tmp rfl | exact .const)); (· (first | exact .tmp rfl | exact .const)))
        | ((with_reducible apply O.extract); (· rfl); (· rfl); (· rfl); (· rfl); (· rfl))
        | ((with_reducible apply O.len); (· rfl); (· rfl); (· rfl))
        | ((with_reducible apply O.indexL); (· rfl); (· exact wf); (· rfl); (· (first | exact .tmp rfl | exact .const)); (· exact ⟨rfl, rfl⟩); (· decide); (· rfl); (· decide); (· omega); (· rfl))
        | ((with_reducible apply O.box); (· rfl); (· rfl); (· exact ⟨rfl, rfl⟩); (· decide); (· (first | exact .inl rfl | exact .inr rfl)))
        | ((with_reducible apply O.store); (· exact wf); (· rfl); (· exact ArgAt.tmp rfl ⟨rfl, rfl⟩); (· rfl); (· rfl); (· decide); (· rfl); (· rfl); (· (first | exact .inl rfl | exact .inr rfl)))
        | ((with_reducible apply O.store); (· exact wf); (· rfl); (· exact ArgAt.const rfl); (· rfl); (· rfl); (· decide); (· rfl); (· rfl); (· (first | exact .inl rfl | exact .inr rfl)))
        | ((with_reducible apply O.buildSlice); (· rfl); (· exact wf); (· rfl); (· decide); (· repeat (first | exact Parts.nil | apply Parts.cons (ArgAt.tmp rfl ⟨rfl, rfl⟩) (Or.inr rfl) | apply Parts.cons (ArgAt.tmp rfl ⟨rfl, rfl⟩) (Or.inl rfl) | apply Parts.cons (ArgAt.const rfl) (Or.inr rfl))); (· rfl); (· decide); (· decide); (· exact ⟨_, _, rfl, rfl⟩))
        | ((with_reducible apply O.min2); (· rfl); (· (first | exact .tmp rfl | exact .const)); (· (first | exact .tmp rfl | exact .const)))
        | ((with_reducible apply O.max2); (· rfl); (· (first | exact .tmp rfl | exact .const)); (· (first | exact .tmp rfl | exact .const)))
        | ((with_reducible apply O.indexV); (· rfl); (· exact wf); (· rfl); (· (first | exact .tmp rfl | exact .const)); (· exact ⟨rfl, rfl⟩); (· decide); (· rfl); (· omega); (· omega); (· first | exact hx0 | rfl); (· rfl); (· rfl))
        | ((with_reducible apply O.indexA); (· rfl); (· exact wf); (· rfl); (· (first | exact .tmp rfl | exact .const)); (· rfl); (· rfl); (· decide); (· rfl); (· omega); (· omega))
        | ((with_reducible apply O.indexVw); (· rfl); (· exact wf); (· rfl); (· (first | exact .tmp rfl | exact .const)); (· exact ⟨rfl, rfl⟩); (· decide); (· rfl); (· omega); (· omega))
        | ((with_reducible apply O.assignF); (· rfl))
        | ((with_reducible apply O.moveC); (· rfl); (· rfl))
        | ((with_reducible apply Then.n))
        | ((with_reducible apply Then.r))
        | ((with_reducible apply Then.e))
        | ((with_reducible apply Then.g))
        | ((with_reducible apply InB.n))
        | ((with_reducible apply InB.r))
        | ((with_reducible apply InB.g))
        | ((with_reducible apply InB.here))
        | ((with_reducible apply OPS.nil))
        | ((with_reducible apply AW.seq))
        | ((with_reducible apply AW.region))
        | ((with_reducible apply AW.skip))
        | ((with_reducible apply AW.ret))
        | ((with_reducible apply AW.exit))
        | ((with_reducible apply AW.block))
        | ((with_reducible apply AW.label))
        | ((with_reducible apply AW.goto))
        | ((with_reducible apply AW.scope))
        | ((with_reducible apply NG.n))
        | ((with_reducible apply NG.r))
        | ((with_reducible apply NG.e))
        | ((with_reducible apply InB.past); (· rfl))
        | ((with_reducible apply AW.condT); (· rfl))
        | ((with_reducible apply AW.condF); (· rfl)))
      exact ⟨rfl, 8 - (i + 1), [(1, (I (s : Nat), 3)), (2, (.ptr 0 [], 0)), (12, (I (mxC (c4 ms) s j : Nat), 3)), (13, (I (mnC (c4 ms) s j : Nat), 3)), (14, (I (j + 1 : Nat), 3)), (15, (I (own ms ((j + 1 : Nat) : Int) 8 / 2 ^ (i + 1) : Nat), 3)), (16, (I (cnt ms ((j + 1 : Nat) : Int) (i + 1) : Nat), 3))], [⟨.one 22, A ms⟩, ⟨.one 25, Ch 0 0⟩], _, by omega, .cons rfl (.cons rfl (.cons rfl (.cons rfl (.cons rfl (.cons rfl (.cons (by rw [hcn]; rfl) .nil)))))), rfl, rfl, rfl, by simp only [hbB, pb, A_pbL]; rfl, rfl, i + 1, rfl, by omega, rfl, rfl⟩
  | some k =>
    obtain ⟨hn, hlt, p, hp, hp8, hpm, hne, r'⟩ := r.some hs4 hst
    have hnx := next_some ms s r.len r.may hs1 hs4 hst hp
    rw [show (1 : Int) + (lowT (ld ms 8) s : Nat) = ((lowT (ld ms 8) s + 1 : Nat) : Int) by omega] at hnx
    generalize hT : lowT (ld ms 8) s = T at *
    have hmv := moved_yes ms (p.2 : Nat) ((T + 1 : Nat) : Int) r.len r.may (by omega) (by omega) (by simp [sh]; omega)
    rw [Int.toNat_natCast] at hmv
    have hg1 := A_at hpm
    have hwk := walk22 (i := p.2) hp8
    generalize hms' : ms.set p.2 ((T + 1 : Nat) : Int) = ms' at *
    repeat (first
      | ((with_reducible apply O.cmp); (· rfl); (· (first | exact .tmp rfl | exact .const)); (· (first | exact .tmp rfl | exact .const)); (· (first | exact eqT (by omega) | exact eqF (by omega) | exact neT (by omega) | exact neF (by omega) | exact ltT (by omega) | exact ltF (by omega) | exact leT (by omega) | exact leF (by omega) | exact gtT (by omega) | exact gtF (by omega) | exact geT (by omega) | exact geF (by omega))))
      | ((with_reducible apply O.move); (· rfl); (· rfl))
      | ((with_reducible apply O.assign); (· rfl); (· rfl))
      | ((with_reducible apply O.assignC); (· rfl); (· rfl))
      | ((with_reducible apply O.assignN); (· rfl); (· rfl))
      | ((with_reducible apply O.load); (· rfl); (· exact wf); (· rfl); (· rfl); (· rfl); (· rfl); (· rfl); (· rfl))
      | ((with_reducible apply O.loadE); (· rfl); (· exact wf); (· rfl); (· decide); (· rfl); (· (first | exact .inl rfl | exact .inr rfl)); (· rfl))
      | ((with_reducible apply O.fieldAddr); (· rfl); (· exact wf); (· rfl); (· rfl); (· rfl); (· decide); (· rfl); (· rfl); (· decide))
      | ((with_reducible apply O.fieldAddrE); (· rfl); (· exact wf); (· rfl); (· decide); (· rfl); (· rfl); (· rfl); (· decide))
      | ((with_reducible apply O.gT); (· rfl); (· rfl); (· rfl))
      | ((with_reducible apply O.gF); (· rfl); (· rfl); (· rfl); (· rfl))
      | ((with_reducible apply O.cmp); (· rfl); (· (first | exact .tmp rfl | exact .const)); (· (first | exact .tmp rfl | exact .const)); (· rfl))
      | ((with_reducible apply O.arith); (· rfl); (· (first | exact .tmp rfl | exact .const)); (· (first | exact .tmp rfl | exact .const)); (· rfl); (· exact wrapI (by omega) (by omega)))
      | ((with_reducible apply O.not); (· rfl); (· (first | exact .tmp rfl | exact .const)))
      | ((with_reducible apply O.pickT); (· rfl); (· (first | exact .tmp rfl | exact .const)); (· (first | exact .tmp rfl | exact .const)))
      | ((with_reducible apply O.pickF); (· rfl); (· (first | exact .tmp rfl | exact .const)); (· (first | exact .tmp rfl | exact .const)))
      | ((with_reducible apply O.pickB); (· rfl); (· (first | exact .tmp rfl | exact .const)); (· (first | exact .tmp rfl | exact .const)); (· (first | exact .tmp rfl | exact .const)))
      | ((with_reducible apply O.extract); (· rfl); (· rfl); (· rfl); (· rfl); (· rfl))
      | ((with_reducible apply O.len); (· rfl); (· rfl); (· rfl))
      | ((with_reducible apply O.indexL); (· rfl); (· exact wf); (· rfl); (· (first | exact .tmp rfl | exact .const)); (· exact ⟨rfl, rfl⟩); (· decide); (· rfl); (· decide); (· omega); (· rfl))
      | ((with_reducible apply O.box); (· rfl); (· rfl); (· exact ⟨rfl, rfl⟩); (· decide); (· (first | exact .inl rfl | exact .inr rfl)))
      | ((with_reducible apply O.store); (· exact wf); (· rfl); (· exact ArgAt.tmp rfl ⟨rfl, rfl⟩); (· rfl); (· rfl); (· decide); (· rfl); (· rfl); (· (first | exact .inl rfl | exact .inr rfl)))
      | ((with_reducible apply O.store); (· exact wf); (· rfl); (· exact ArgAt.const rfl); (· rfl); (· rfl); (· decide); (· rfl); (· rfl); (· (first | exact .inl rfl | exact .inr rfl)))
      | ((with_reducible apply O.buildSlice); (· rfl); (· exact wf); (· rfl); (· decide); (· repeat (first | exact Parts.nil | apply Parts.cons (ArgAt.tmp rfl ⟨rfl, rfl⟩) (Or.inr rfl) | apply Parts.cons (ArgAt.tmp rfl ⟨rfl, rfl⟩) (Or.inl rfl) | apply Parts.cons (ArgAt.const rfl) (Or.inr rfl))); (· rfl); (· decide); (· decide); (· exact ⟨_, _, rfl, rfl⟩))
      | ((with_reducible apply O.min2); (· rfl); (· (first | exact .tmp rfl | exact .const)); (· (first | exact .tmp rfl | exact .const)))
      | ((with_reducible apply O.max2); (· rfl); (· (first | exact .tmp rfl | exact .const)); (· (first | exact .tmp rfl | exact .const)))
      | ((with_reducible apply O.indexV); (· rfl); (· exact wf); (· rfl); (· (first | exact .tmp rfl | exact .const)); (· exact ⟨rfl, rfl⟩); (· decide); (· rfl); (· omega); (· omega); (· first | exact hx0 | rfl); (· rfl); (· rfl))
      | ((with_reducible apply O.indexA); (· rfl); (· exact wf); (· rfl); (· (first | exact .tmp rfl | exact .const)); (· rfl); (· rfl); (· decide); (· rfl); (· omega); (· omega))
      | ((with_reducible apply O.indexVw); (· rfl); (· exact wf); (· rfl); (· (first | exact .tmp rfl | exact .const)); (· exact ⟨rfl, rfl⟩); (· decide); (· rfl); (· omega); (· omega))
      | ((with_reducible apply O.assignF); (· rfl))
      | ((with_reducible apply O.moveC); (· rfl); (· rfl))
      | ((with_reducible apply Then.n))
      | ((with_reducible apply Then.r))
      | ((with_reducible apply Then.e))
      | ((with_reducible apply Then.g))
      | ((with_reducible apply InB.n))
      | ((with_reducible apply InB.r))
      | ((with_reducible apply InB.g))
      | ((with_reducible apply InB.here))
      | ((with_reducible apply OPS.nil))
      | ((with_reducible apply AW.seq))
      | ((with_reducible apply AW.region))
      | ((with_reducible apply AW.skip))
      | ((with_reducible apply AW.ret))
      | ((with_reducible apply AW.exit))
      | ((with_reducible apply AW.block))
      | ((with_reducible apply AW.label))
      | ((with_reducible apply AW.goto))
      | ((with_reducible apply AW.scope))
      | ((with_reducible apply NG.n))
      | ((with_reducible apply NG.r))
      | ((with_reducible apply NG.e))
      | ((with_reducible apply InB.past); (· rfl))
      | ((with_reducible apply AW.condT); (· rfl))
      | ((with_reducible apply AW.condF); (· rfl))
      | (apply O.fn rfl (hnx) rfl; (· repeat (first | exact Args.nil | refine Args.cons (ArgAt.tmp rfl ⟨rfl, rfl⟩) ?_ | refine Args.cons (ArgAt.const rfl) ?_)))
      | (refine O.alloc rfl zero25 ?_)
      | (refine O.alloc rfl zero22 ?_))
    refine AW.drawP [([], [7]), ([0], [47]), ([1, 0], [48]), ([2, 1, 0], [8, 49]), ([3, 2, 1, 0], [50, 49]), ([4, 3, 2, 1, 0], [51, 49]), ([2, 1, 0, 5, 4, 3], [49, 52]), ([6, 2, 1, 0, 5, 4, 3], [53]), ([7, 6, 2, 1, 0, 5, 4, 3], [8, 54]), ([8, 7, 6, 2, 1, 0, 5, 4, 3], [55, 54]), ([9, 8, 7, 6, 2, 1, 0, 5, 4, 3], [56, 54]), ([7, 6, 2, 1, 0, 5, 4, 3, 10, 9, 8], [54, 57]), ([11, 7, 6, 2, 1, 0, 5, 4, 3, 10, 9, 8], [58]), ([12, 11, 7, 6, 2, 1, 0, 5, 4, 3, 10, 9, 8], [8, 59]), ([13, 12, 11, 7, 6, 2, 1, 0, 5, 4, 3, 10, 9, 8], [60, 59]), ([14, 13, 12, 11, 7, 6, 2, 1, 0, 5, 4, 3, 10, 9, 8], [2, 61, 59]), ([15, 14, 13, 12, 11, 7, 6, 2, 1, 0, 5, 4, 3, 10, 9, 8], [62, 59]), ([12, 11, 7, 6, 2, 1, 0, 5, 4, 3, 10, 9, 8], [8, 59]), ([17, 12, 11, 7, 6, 2, 1, 0, 5, 4, 3, 10, 9, 8], [64, 59]), ([16, 15, 14, 13, 12, 11, 7, 6, 2, 1, 0, 5, 4, 3, 10, 9, 8, 18, 17], [63, 65, 59]), ([12, 11, 7, 6, 2, 1, 0, 5, 4, 3, 10, 9, 8, 19, 16, 15, 14, 13, 18, 17], [59, 66]), ([20, 12, 11, 7, 6, 2, 1, 0, 5, 4, 3, 10, 9, 8, 19, 16, 15, 14, 13, 18, 17], [67]), ([21, 20, 12, 11, 7, 6, 2, 1, 0, 5, 4, 3, 10, 9, 8, 19, 16, 15, 14, 13, 18, 17], [8, 68]), ([22, 21, 20, 12, 11, 7, 6, 2, 1, 0, 5, 4, 3, 10, 9, 8, 19, 16, 15, 14, 13, 18, 17], [69, 68]), ([23, 22, 21, 20, 12, 11, 7, 6, 2, 1, 0, 5, 4, 3, 10, 9, 8, 19, 16, 15, 14, 13, 18, 17], [70, 68]), ([21, 20, 12, 11, 7, 6, 2, 1, 0, 5, 4, 3, 10, 9, 8, 19, 16, 15, 14, 13, 18, 17, 24, 23, 22], [68, 71]), ([25, 21, 20, 12, 11, 7, 6, 2, 1, 0, 5, 4, 3, 10, 9, 8, 19, 16, 15, 14, 13, 18, 17, 24, 23, 22], [72]), ([26, 25, 21, 20, 12, 11, 7, 6, 2, 1, 0, 5, 4, 3, 10, 9, 8, 19, 16, 15, 14, 13, 18, 17, 24, 23, 22], [8, 73]), ([27, 26, 25, 21, 20, 12, 11, 7, 6, 2, 1, 0, 5, 4, 3, 10, 9, 8, 19, 16, 15, 14, 13, 18, 17, 24, 23, 22], [74, 73]), ([26, 25, 21, 20, 12, 11, 7, 6, 2, 1, 0, 5, 4, 3, 10, 9, 8, 19, 16, 15, 14, 13, 18, 17, 24, 23, 22], [1, 73]), ([28, 27, 26, 25, 21, 20, 12, 11, 7, 6, 2, 1, 0, 5, 4, 3, 10, 9, 8, 19, 16, 15, 14, 13, 18, 17, 24, 23, 22, 29], [75, 76, 73]), ([26, 25, 21, 20, 12, 11, 7, 6, 2, 1, 0, 5, 4, 3, 10, 9, 8, 19, 16, 15, 14, 13, 18, 17, 24, 23, 22, 30, 28, 27, 29], [73, 77])] [3, 4, 8, 9, 13, 14, 15, 16, 17, 18, 22, 23, 27, 28] [] rfl (by kernel_rfl) ?_
    repeat (first
      | ((with_reducible apply D.cmp); (· rfl); (· rfl); (· (first | exact trivial | exact ⟨_, _, rfl, rfl⟩)); (· (intro _ _; first | exact .tmp rfl | exact .const)); (· (intro _ _; first | exact .tmp rfl | exact .const)); (· (first | exact eqT (by omega) | exact eqF (by omega) | exact neT (by omega) | exact neF (by omega) | exact ltT (by omega) | exact ltF (by omega) | exact leT (by omega) | exact leF (by omega) | exact gtT (by omega) | exact gtF (by omega) | exact geT (by omega) | exact geF (by omega))))
      | ((with_reducible apply D.indexA); (· rfl); (· rfl); (· rfl); (· (first | exact trivial | exact ⟨_, _, rfl, rfl⟩)); (· exact wf); (· rfl); (· (first | exact .tmp rfl | exact .const)); (· rfl); (· rfl); (· decide); (· rfl); (· omega); (· omega))
      | ((with_reducible apply D.load); (· rfl); (· rfl); (· rfl); (· (first | exact trivial | exact ⟨_, _, rfl, rfl⟩)); (· exact wf); (· rfl); (· rfl); (· exact hg1); (· exact hwk); (· rfl); (· rfl))
      | ((with_reducible apply D.nil))
      | ((with_reducible apply D.move); (· rfl); (· rfl); (· (first | exact trivial | exact ⟨_, _, rfl, rfl⟩)); (· rfl))
      | ((with_reducible apply D.assign); (· rfl); (· rfl); (· (first | exact trivial | exact ⟨_, _, rfl, rfl⟩)); (· rfl))
      | ((with_reducible apply D.assignC); (· rfl); (· rfl); (· (first | exact trivial | exact ⟨_, _, rfl, rfl⟩)); (· rfl))
      | ((with_reducible apply D.assignN); (· rfl); (· rfl); (· (first | exact trivial | exact ⟨_, _, rfl, rfl⟩)); (· rfl))
      | ((with_reducible apply D.load); (· rfl); (· rfl); (· rfl); (· (first | exact trivial | exact ⟨_, _, rfl, rfl⟩)); (· exact wf); (· rfl); (· rfl); (· rfl); (· rfl); (· rfl); (· rfl))
      | ((with_reducible apply D.loadE); (· rfl); (· rfl); (· (first | exact trivial | exact ⟨_, _, rfl, rfl⟩)); (· exact wf); (· rfl); (· decide); (· rfl); (· (first | exact .inl rfl | exact .inr rfl)); (· rfl))
      | ((with_reducible apply D.fieldAddr); (· rfl); (· rfl); (· rfl); (· (first | exact trivial | exact ⟨_, _, rfl, rfl⟩)); (· exact wf); (· rfl); (· rfl); (· rfl); (· decide); (· rfl); (· rfl); (· decide))
      | ((with_reducible apply D.fieldAddrE); (· rfl); (· rfl); (· (first | exact trivial | exact ⟨_, _, rfl, rfl⟩)); (· exact wf); (· rfl); (· decide); (· rfl); (· rfl); (· rfl); (· decide))
      | ((with_reducible apply D.cmp); (· rfl); (· rfl); (· (first | exact trivial | exact ⟨_, _, rfl, rfl⟩)); (· (intro _ _; first | exact .tmp rfl | exact .const)); (· (intro _ _; first | exact .tmp rfl | exact .const)); (· rfl))
      | ((with_reducible apply D.arith); (· rfl); (· rfl); (· (first | exact trivial | exact ⟨_, _, rfl, rfl⟩)); (· (intro _ _; first | exact .tmp rfl | exact .const)); (· (intro _ _; first | exact .tmp rfl | exact .const)); (· rfl); (· exact wrapI (by omega) (by omega)))
      | ((with_reducible apply D.not); (· rfl); (· rfl); (· (first | exact trivial | exact ⟨_, _, rfl, rfl⟩)); (· (intro _ _; first | exact .tmp rfl | exact .const)))
      | ((with_reducible apply D.pickT); (· rfl); (· rfl); (· (first | exact trivial | exact ⟨_, _, rfl, rfl⟩)); (· (intro _ _; first | exact .tmp rfl | exact .const)); (· (intro _ _; first | exact .tmp rfl | exact .const)))
      | ((with_reducible apply D.pickF); (· rfl); (· rfl); (· (first | exact trivial | exact ⟨_, _, rfl, rfl⟩)); (· (intro _ _; first | exact .tmp rfl | exact .const)); (· (intro _ _; first | exact .tmp rfl | exact .const)))
      | ((with_reducible apply D.pickB); (· rfl); (· rfl); (· (first | exact trivial | exact ⟨_, _, rfl, rfl⟩)); (· (intro _ _; first | exact .tmp rfl | exact .const)); (· (intro _ _; first | exact .tmp rfl | exact .const)); (· (intro _ _; first | exact .tmp rfl | exact .const)))
      | ((with_reducible apply D.extract); (· rfl); (· rfl); (· (first | exact trivial | exact ⟨_, _, rfl, rfl⟩)); (· rfl); (· rfl); (· rfl); (· rfl))
      | ((with_reducible apply D.len); (· rfl); (· rfl); (· (first | exact trivial | exact ⟨_, _, rfl, rfl⟩)); (· rfl); (· rfl))
      | ((with_reducible apply D.indexL); (· rfl); (· rfl); (· (first | exact trivial | exact ⟨_, _, rfl, rfl⟩)); (· exact wf); (· rfl); (· (intro _ _; first | exact .tmp rfl | exact .const)); (· exact ⟨rfl, rfl⟩); (· decide); (· rfl); (· decide); (· omega); (· rfl))
      | ((with_reducible apply D.skip); (· rfl); (· rfl); (· rfl); (· rfl); (· rfl))
      | ((with_reducible apply D.store); (· rfl); (· rfl); (· rfl); (· (first | exact trivial | exact ⟨_, _, rfl, rfl⟩)); (· exact wf); (· rfl); (· exact ArgAt.tmp rfl ⟨rfl, rfl⟩); (· rfl); (· rfl); (· decide); (· rfl); (· rfl); (· (first | exact .inl rfl | exact .inr rfl)); (· rfl))
      | ((with_reducible apply D.store); (· rfl); (· rfl); (· rfl); (· (first | exact trivial | exact ⟨_, _, rfl, rfl⟩)); (· exact wf); (· rfl); (· exact ArgAt.const rfl); (· rfl); (· rfl); (· decide); (· rfl); (· rfl); (· (first | exact .inl rfl | exact .inr rfl)); (· rfl)))
    repeat (first
      | ((with_reducible apply O.cmp); (· rfl); (· (first | exact .tmp rfl | exact .const)); (· (first | exact .tmp rfl | exact .const)); (· (first | exact eqT (by omega) | exact eqF (by omega) | exact neT (by omega) | exact neF (by omega) | exact ltT (by omega) | exact ltF (by omega) | exact leT (by omega) | exact leF (by omega) | exact gtT (by omega) | exact gtF (by omega) | exact geT (by omega) | exact geF (by omega))))
      | ((with_reducible apply O.move); (· rfl); (· rfl))
      | ((with_reducible apply O.assign); (· rfl); (· rfl))
      | ((with_reducible apply O.assignC); (· rfl); (· rfl))
      | ((with_reducible apply O.assignN); (· rfl); (· rfl))
      | ((with_reducible apply O.load); (· rfl); (· exact wf); (· rfl); (· rfl); (· rfl); (· rfl); (· rfl); (· rfl))
      | ((with_reducible apply O.loadE); (· rfl); (· exact wf); (· rfl); (· decide); (· rfl); (· (first | exact .inl rfl | exact .inr rfl)); (· rfl))
      | ((with_reducible apply O.fieldAddr); (· rfl); (· exact wf); (· rfl); (· rfl); (· rfl); (· decide); (· rfl); (· rfl); (· decide))
      | ((with_reducible apply O.fieldAddrE); (· rfl); (· exact wf); (· rfl); (· decide); (· rfl); (· rfl); (· rfl); (· decide))
      | ((with_reducible apply O.gT); (· rfl); (· rfl); (· rfl))
      | ((with_reducible apply O.gF); (· rfl); (· rfl); (· rfl); (· rfl))
      | ((with_reducible apply O.cmp); (· rfl); (· (first | exact .tmp rfl | exact .const)); (· (first | exact .tmp rfl | exact .const)); (· rfl))
      | ((with_reducible apply O.arith); (· rfl); (· (first | exact .tmp rfl | exact .const)); (· (first | exact .tmp rfl | exact .const)); (· rfl); (· exact wrapI (by omega) (by omega)))
      | ((with_reducible apply O.not); (· rfl); (· (first | exact .tmp rfl | exact .const)))
      | ((with_reducible apply O.pickT); (· rfl); (· (first | exact .tmp rfl | exact .const)); (· (first | exact .tmp rfl | exact .const)))
      | ((with_reducible apply O.pickF); (· rfl); (· (first | exact .tmp rfl | exact .const)); (· (first | exact .tmp rfl | exact .const)))
      | ((with_reducible apply O.pickB); (· rfl); (· (first | exact .tmp rfl | exact .const)); (· (first | exact .tmp rfl | exact .const)); (· (first | exact .tmp rfl | exact .const)))
      | ((with_reducible apply O.extract); (· rfl); (· rfl); (· rfl); (· rfl); (· rfl))
      | ((with_reducible apply O.len); (· rfl); (· rfl); (· rfl))
      | ((with_reducible apply O.indexL); (· rfl); (· exact wf); (· rfl); (· (first | exact .tmp rfl | exact .const)); (· exact ⟨rfl, rfl⟩); (· decide); (· rfl); (· decide); (· omega); (· rfl))
      | ((with_reducible apply O.box); (· rfl); (· rfl); (· exact ⟨rfl, rfl⟩); (· decide); (· (first | exact .inl rfl | exact .inr rfl)))
      | ((with_reducible apply O.store); (· exact wf); (· rfl); (· exact ArgAt.tmp rfl ⟨rfl, rfl⟩); (· rfl); (· rfl); (· decide); (· rfl); (· rfl); (· (first | exact .inl rfl | exact .inr rfl)))
      | ((with_reducible apply O.store); (· exact wf); (· rfl); (· exact ArgAt.const rfl); (· rfl); (· rfl); (· decide); (· rfl); (· rfl); (· (first | exact .inl rfl | exact .inr rfl)))
      | ((with_reducible apply O.buildSlice); (· rfl); (· exact wf); (· rfl); (· decide); (· repeat (first | exact Parts.nil | apply Parts.cons (ArgAt.tmp rfl ⟨rfl, rfl⟩) (Or.inr rfl) | apply Parts.cons (ArgAt.tmp rfl ⟨rfl, rfl⟩) (Or.inl rfl) | apply Parts.cons (ArgAt.const rfl) (Or.inr rfl))); (· rfl); (· decide); (· decide); (· exact ⟨_, _, rfl, rfl⟩))
      | ((with_reducible apply O.min2); (· rfl); (· (first | exact .tmp rfl | exact .const)); (· (first | exact .tmp rfl | exact .const)))
      | ((with_reducible apply O.max2); (· rfl); (· (first | exact .tmp rfl | exact .const)); (· (first | exact .tmp rfl | exact .const)))
      | ((with_reducible apply O.indexV); (· rfl); (· exact wf); (· rfl); (· (first | exact .tmp rfl | exact .const)); (· exact ⟨rfl, rfl⟩); (· decide); (· rfl); (· omega); (· omega); (· first | exact hx0 | rfl); (· rfl); (· rfl))
      | ((with_reducible apply O.indexA); (· rfl); (· exact wf); (· rfl); (· (first | exact .tmp rfl | exact .const)); (· rfl); (· rfl); (· decide); (· rfl); (· omega); (· omega))
      | ((with_reducible apply O.indexVw); (· rfl); (· exact wf); (· rfl); (· (first | exact .tmp rfl | exact .const)); (· exact ⟨rfl, rfl⟩); (· decide); (· rfl); (· omega); (· omega))
      | ((with_reducible apply O.assignF); (· rfl))
      | ((with_reducible apply O.moveC); (· rfl); (· rfl))
      | ((with_reducible apply Then.n))
      | ((with_reducible apply Then.r))
      | ((with_reducible apply Then.e))
      | ((with_reducible apply Then.g))
      | ((with_reducible apply InB.n))
      | ((with_reducible apply InB.r))
      | ((with_reducible apply InB.g))
      | ((with_reducible apply InB.here))
      | ((with_reducible apply OPS.nil))
      | ((with_reducible apply AW.seq))
      | ((with_reducible apply AW.region))
      | ((with_reducible apply AW.skip))
      | ((with_reducible apply AW.ret))
      | ((with_reducible apply AW.exit))
      | ((with_reducible apply AW.block))
      | ((with_reducible apply AW.label))
      | ((with_reducible apply AW.goto))
      | ((with_reducible apply AW.scope))
      | ((with_reducible apply NG.n))
      | ((with_reducible apply NG.r))
      | ((with_reducible apply NG.e))
      | ((with_reducible apply InB.past); (· rfl))
      | ((with_reducible apply AW.condT); (· rfl))
      | ((with_reducible apply AW.condF); (· rfl))
      | (apply O.fn rfl (hmv) rfl; (· repeat (first | exact Args.nil | refine Args.cons (ArgAt.tmp rfl ⟨rfl, rfl⟩) ?_ | refine Args.cons (ArgAt.const rfl) ?_)))
      | (refine O.alloc rfl zero25 ?_)
      | (refine O.alloc rfl zero22 ?_))
    exact ⟨rfl, 8 - (n + 1), [(1, (I (s : Nat), 3)), (2, (.ptr 0 [], 0)), (7, (I ((n + 1) : Nat), 3))], [⟨.one 22, A ms'⟩], _, by omega, (.cons rfl (.cons rfl (.cons rfl .nil))), rfl, rfl, rfl, by simp only [hbB, pb, A_pbL]; rfl, rfl, n + 1, ms', rfl, r', rfl, rfl⟩


theorem routeEven_c (ms : List Int) (s : Int) (hl : ms.length = 8) : Ans Try.prog 3 [(A ms, 22), (I s, 3)] (B true, 4) := by
  cases hm : ms.all sh with
  | false => exact routeEven_may ms s hl hm
  | true =>
    by_cases h0 : s < 1
    · exact routeEven_low ms s hl hm h0
    · by_cases h1 : 4 < s
      · exact routeEven_high ms s hl hm (by omega) h1
      · obtain ⟨k, rfl⟩ : ∃ k : Nat, s = k := ⟨s.toNat, by omega⟩
        exact routeEven_yes ms k hl hm (by omega) (by omega)

end Go.Proofs.Ytpjaijenjkcleaa
