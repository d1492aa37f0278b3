/- Package route: loads, best, and what Next answers. -/
import Derived.Test.YtpjaijenjkcleaaF
import Derived.Test.YtpjaijenjkcleaaAmN
set_option linter.unusedVariables false
namespace Go.Proofs.Ytpjaijenjkcleaa
open Go.Am
abbrev C (p : Nat × Nat) : T := .s (.complex .f64 (F p.1) (F p.2))
abbrev CLs (ps : List (Nat × Nat)) : List T := ps.map C
def upd (ps : List (Nat × Nat)) (k i : Nat) : List (Nat × Nat) := match ps[k]? with
  | some p => ps.set k (p.1 + 1, i)
  | none => ps
def ld (ms : List Int) : Nat → List (Nat × Nat)
  | 0 => [(0, 0), (0, 0), (0, 0), (0, 0)]
  | i + 1 => match ms[i]? with
    | some n => upd (ld ms i) (n.toNat - 1) i
    | none => ld ms i
theorem ld_ok (ms : List Int) : ∀ i, (ld ms i).length = 4 ∧ ∀ p ∈ ld ms i, p.1 ≤ i ∧ p.2 ≤ i
  | 0 => ⟨rfl, by intro p hp; simp [ld] at hp; subst hp; simp⟩
  | i + 1 => by
    obtain ⟨h1, h2⟩ := ld_ok ms i
    have h3 : ∀ p ∈ ld ms i, p.1 ≤ i + 1 ∧ p.2 ≤ i + 1 := fun p hp => by have := h2 p hp; omega
    unfold ld
    cases ms[i]? with
    | none => exact ⟨h1, h3⟩
    | some n =>
      simp only [upd]
      cases hk : (ld ms i)[n.toNat - 1]? with
      | none => exact ⟨h1, h3⟩
      | some q =>
        refine ⟨by simpa using h1, fun p hp => ?_⟩
        rcases List.mem_or_eq_of_mem_set hp with hp | hp
        · exact h3 p hp
        · subst hp
          have := h2 q (List.mem_of_getElem? hk)
          constructor <;> simp <;> omega
theorem CL_np (ps : List (Nat × Nat)) : npL (CLs ps) = true := npL_iff.2 (fun x hx => by obtain ⟨n, _, rfl⟩ := List.mem_map.1 hx; rfl)
theorem CL_pb (k : Nat) (ps : List (Nat × Nat)) : pbL k (CLs ps) = true := pbL_iff.2 (fun x hx => by obtain ⟨n, _, rfl⟩ := List.mem_map.1 hx; rfl)
theorem CL_get {ps : List (Nat × Nat)} {i : Nat} {p : Nat × Nat} (h : ps[i]? = some p) : (CLs ps)[((i : Int)).toNat]? = some (C p) := by
  rw [Int.toNat_natCast, List.getElem?_map, h]; rfl
theorem CA_get {ps : List (Nat × Nat)} {i j : Nat} {p : Nat × Nat} (hj : j = i) (h : ps[i]? = some p) : (T.arr (CLs ps)).get [j] = some (C p) := by
  subst hj
  have : (CLs ps)[j]? = some (C p) := by rw [List.getElem?_map, h]; rfl
  simp only [T.get, T.kids, this]
theorem CA_put {ps : List (Nat × Nat)} {i j : Nat} {p : Nat × Nat} (q : Nat × Nat) (hj : j = i) (h : ps[i]? = some p) : (T.arr (CLs ps)).put [j] (C q) = some (.arr (CLs (ps.set i q))) := by
  subst hj
  have : (CLs ps)[j]? = some (C p) := by rw [List.getElem?_map, h]; rfl
  simp only [T.put, this]
  rw [show CLs (ps.set j q) = (CLs ps).set j (C q) by simp [CLs, List.map_set]]
theorem walk43 {k : Nat} (h : k < 4) : walkO Try.prog (.row 43 4) [k] = some (k * szOf Try.prog 43 + 0, 43) := by
  have : Nat.blt k 4 = true := by rw [Nat.blt_eq]; exact h
  simp only [walkO, walkPath, this]
theorem zero43 : ZeroOk Try.prog 43 (C (0, 0)) := ⟨by decide, rfl, _, _, rfl, rfl, rfl, fun κ => ⟨by simp only [VT]; exact ⟨rfl, rfl⟩, rfl⟩⟩
theorem A_pbL (k : Nat) (ms : List Int) : pbL k (ms.map I) = true := pbL_iff.2 (fun x hx => by obtain ⟨n, _, rfl⟩ := List.mem_map.1 hx; rfl)
theorem sh_at {ms : List Int} (hm : ms.all sh = true) {i : Nat} {n : Int} (h : ms[i]? = some n) : 1 ≤ n ∧ n ≤ 4 := sh_yes (List.all_eq_true.1 hm n (List.mem_of_getElem? h))

set_option maxHeartbeats 2000000 in
theorem loads_c (ms : List Int) (hl : ms.length = 8) (hm : ms.all sh = true) : Ans Try.prog 14 [(A ms, 41)] (.lst (CLs (ld ms 8)) .no, 40) := by

  refine Ans.body1 wf Try.func14 rfl rfl rfl (by simp only [List.map, npL, A_np]; rfl) (by simp only [np, CL_np]) (fun u => ?_)

  repeat (first
    | ((with_reducible apply O.cmp); (· rfl); (· (first | exact .tmp rfl | exact .const)); (· (first | exact .tmp rfl | exact .const)); (· (first | exact eqT (by omega) | exact eqF (by omega) | exact neT (by omega) | exact neF (by omega) | exact ltT (by omega) | exact ltF (by omega) | exact leT (by omega) | exact leF (by omega) | exact gtT (by omega) | exact gtF (by omega) | exact geT (by omega) | exact geF (by omega))))
    | ((with_reducible apply O.move); (· rfl); (· rfl))
    | ((with_reducible apply O.assign); (· rfl); (· rfl))
    | ((with_reducible apply O.assignC); (· rfl); (· rfl))
    | ((with_reducible apply O.assignN); (· rfl); (· rfl))
    | ((with_reducible apply O.load); (· rfl); (· exact wf); (· rfl); (· rfl); (· rfl); (· rfl); (· rfl); (· rfl))
    | ((with_reducible apply O.loadE); (· rfl); (· exact wf); (· rfl); (· decide); (· rfl); (· (first | exact .inl rfl | exact .inr rfl)); (· rfl))
    | ((with_reducible apply O.fieldAddr); (· rfl); (· exact wf); (· rfl); (· rfl); (· rfl); (· decide); (· rfl); (· rfl); (· decide))
    | ((with_reducible apply O.fieldAddrE); (· rfl); (· exact wf); (· rfl); (· decide); (· rfl); (· rfl); (· rfl); (· decide))
    | ((with_reducible apply O.gT); (· rfl); (· rfl); (· rfl))
    | ((with_reducible apply O.gF); (· rfl); (· rfl); (· rfl); (· rfl))
    | ((with_reducible apply O.cmp); (· rfl); (· (first | exact .tmp rfl | exact .const)); (· (first | exact .tmp rfl | exact .const)); (· rfl))
    | ((with_reducible apply O.arith); (· rfl); (· (first | exact .tmp rfl | exact .const)); (· (first | exact .tmp rfl | exact .const)); (· rfl); (· exact wrapI (by omega) (by omega)))
    | ((with_reducible apply O.not); (· rfl); (· (first | exact .tmp rfl | exact .const)))
    | ((with_reducible apply O.pickT); (· rfl); (· (first | exact .tmp rfl | exact .const)); (· (first | exact .tmp rfl | exact .const)))
    | ((with_reducible apply O.pickF); (· rfl); (· (first | exact .tmp rfl | exact .const)); (· (first | exact .tmp rfl | exact .const)))
    | ((with_reducible apply O.pickB); (· rfl); (· (first | exact .tmp rfl | exact .const)); (· (first | exact .tmp rfl | exact .const)); (· (first | exact .tmp rfl | exact .const)))
    | ((with_reducible apply O.extract); (· rfl); (· rfl); (· rfl); (· rfl); (· rfl))
    | ((with_reducible apply O.len); (· rfl); (· rfl); (· rfl))
    | ((with_reducible apply O.indexL); (· rfl); (· exact wf); (· rfl); (· (first | exact .tmp rfl | exact .const)); (· exact ⟨rfl, rfl⟩); (· decide); (· rfl); (· decide); (· omega); (· rfl))
    | ((with_reducible apply O.box); (· rfl); (· rfl); (· exact ⟨rfl, rfl⟩); (· decide); (· (first | exact .inl rfl | exact .inr rfl)))
    | ((with_reducible apply O.store); (· exact wf); (· rfl); (· exact ArgAt.tmp rfl ⟨rfl, rfl⟩); (· rfl); (· rfl); (· decide); (· rfl); (· rfl); (· (first | exact .inl rfl | exact .inr rfl)))
    | ((with_reducible apply O.store); (· exact wf); (· rfl); (· exact ArgAt.const rfl); (· rfl); (· rfl); (· decide); (· rfl); (· rfl); (· (first | exact .inl rfl | exact .inr rfl)))
    | ((with_reducible apply O.buildSlice); (· rfl); (· exact wf); (· rfl); (· decide); (· repeat (first | exact Parts.nil | apply Parts.cons (ArgAt.tmp rfl ⟨rfl, rfl⟩) (Or.inr rfl) | apply Parts.cons (ArgAt.tmp rfl ⟨rfl, rfl⟩) (Or.inl rfl) | apply Parts.cons (ArgAt.const rfl) (Or.inr rfl))); (· rfl); (· decide); (· decide); (· exact ⟨_, _, rfl, rfl⟩))
    | ((with_reducible apply O.min2); (· rfl); (· (first | exact .tmp rfl | exact .const)); (· (first | exact .tmp rfl | exact .const)))
    | ((with_reducible apply O.max2); (· rfl); (· (first | exact .tmp rfl | exact .const)); (· (first | exact .tmp rfl | exact .const)))
    | ((with_reducible apply O.indexV); (· rfl); (· exact wf); (· rfl); (· (first | exact .tmp rfl | exact .const)); (· exact ⟨rfl, rfl⟩); (· decide); (· rfl); (· omega); (· omega); (· first | exact hx0 | rfl); (· rfl); (· rfl))
    | ((with_reducible apply O.indexA); (· rfl); (· exact wf); (· rfl); (· (first | exact .tmp rfl | exact .const)); (· rfl); (· rfl); (· decide); (· rfl); (· omega); (· omega))
    | ((with_reducible apply O.indexVw); (· rfl); (· exact wf); (· rfl); (· (first | exact .tmp rfl | exact .const)); (· exact ⟨rfl, rfl⟩); (· decide); (· rfl); (· omega); (· omega))
    | ((with_reducible apply O.assignF); (· rfl))
    | ((with_reducible apply O.moveC); (· rfl); (· rfl))
    | ((with_reducible apply Then.n))
    | ((with_reducible apply Then.r))
    | ((with_reducible apply Then.e))
    | ((with_reducible apply Then.g))
    | ((with_reducible apply InB.n))
    | ((with_reducible apply InB.r))
    | ((with_reducible apply InB.g))
    | ((with_reducible apply InB.here))
    | ((with_reducible apply OPS.nil))
    | ((with_reducible apply AW.seq))
    | ((with_reducible apply AW.region))
    | ((with_reducible apply AW.skip))
    | ((with_reducible apply AW.ret))
    | ((with_reducible apply AW.exit))
    | ((with_reducible apply AW.block))
    | ((with_reducible apply AW.label))
    | ((with_reducible apply AW.goto))
    | ((with_reducible apply AW.scope))
    | ((with_reducible apply NG.n))
    | ((with_reducible apply NG.r))
    | ((with_reducible apply NG.e))
    | ((with_reducible apply InB.past); (· rfl))
    | ((with_reducible apply AW.condT); (· rfl))
    | ((with_reducible apply AW.condF); (· rfl))
    | (refine O.makeSlice (x := C (0, 0)) rfl wf .const .const rfl zero43 rfl (by decide) (by decide) (by decide) (by decide) (by decide) ?_))
  refine AW.loopF (fun m t h u' => u' = u ∧ ∃ i : Nat, m = 8 - i ∧ i ≤ 8 ∧ h = [⟨.one 41, A ms⟩, ⟨.row 43 4, .arr (CLs (ld ms i))⟩] ∧ t = [(7, (A ms, 41)), (8, (I (i : Int), 3)), (3, (.vw 1 0 4 4, 40))]) 8 [(7, (A ms, 41)), (8, (I ((0 : Nat) : Int), 3)), (3, (.vw 1 0 4 4, 40))] (.cons rfl (.cons rfl (.cons rfl .nil))) ⟨rfl, 0, rfl, by omega, rfl, rfl⟩ ?_
  rintro m t h u' ⟨rfl, i, rfl, hi, rfl, rfl⟩
  by_cases he : i = 8
  · subst he
    have hlen : (ld ms 8).length = 4 := (ld_ok ms 8).1
    apply AW.freeze (b := 1) (e := 43) (n := 4) (xs := CLs (ld ms 8)) (t' := [(3, (.lst (CLs (ld ms 8)) .no, 40)), (8, (I ((8 : Nat) : Int), 3))])
    · rfl
    · decide
    · intro k y hk
      simp only [lk] at hk
      split at hk
      · rename_i hb
        cases hk
        have := Nat.eq_of_beq_eq_true hb
        subst this
        exact ⟨_, rfl, .inr ⟨0, 4, 4, rfl, by rw [List.drop_zero, List.take_of_length_le (by rw [List.length_map, hlen]; exact Nat.le_refl _)]⟩⟩
      · split at hk
        · rename_i hb
          cases hk
          have := Nat.eq_of_beq_eq_true hb
          subst this
          exact ⟨_, rfl, .inl rfl⟩
        · cases hk
    repeat (first
      | ((with_reducible apply O.cmp); (· rfl); (· (first | exact .tmp rfl | exact .const)); (· (first | exact .tmp rfl | exact .const)); (· (first | exact eqT (by omega) | exact eqF (by omega) | exact neT (by omega) | exact neF (by omega) | exact ltT (by omega) | exact ltF (by omega) | exact leT (by omega) | exact leF (by omega) | exact gtT (by omega) | exact gtF (by omega) | exact geT (by omega) | exact geF (by omega))))
      | ((with_reducible apply O.move); (· rfl); (· rfl))
      | ((with_reducible apply O.assign); (· rfl); (· rfl))
      | ((with_reducible apply O.assignC); (· rfl); (· rfl))
      | ((with_reducible apply O.assignN); (· rfl); (· rfl))
      | ((with_reducible apply O.load); (· rfl); (· exact wf); (· rfl); (· rfl); (· rfl); (· rfl); (· rfl); (· rfl))
      | ((with_reducible apply O.loadE); (· rfl); (· exact wf); (· rfl); (· decide); (· rfl); (· (first | exact .inl rfl | exact .inr rfl)); (· rfl))
      | ((with_reducible apply O.fieldAddr); (· rfl); (· exact wf); (· rfl); (· rfl); (· rfl); (· decide); (· rfl); (· rfl); (· decide))
      | ((with_reducible apply O.fieldAddrE); (· rfl); (· exact wf); (· rfl); (· decide); (· rfl); (· rfl); (· rfl); (· decide))
      | ((with_reducible apply O.gT); (· rfl); (· rfl); (· rfl))
      | ((with_reducible apply O.gF); (· rfl); (· rfl); (· rfl); (· rfl))
      | ((with_reducible apply O.cmp); (· rfl); (· (first | exact .tmp rfl | exact .const)); (· (first | exact .tmp rfl | exact .const)); (· rfl))
      | ((with_reducible apply O.arith); (· rfl); (· (first | exact .tmp rfl | exact .const)); (· (first | exact .tmp rfl | exact .const)); (· rfl); (· exact wrapI (by omega) (by omega)))
      | ((with_reducible apply O.not); (· rfl); (· (first | exact .tmp rfl | exact .const)))
      | ((with_reducible apply O.pickT); (· rfl); (· (first | exact .tmp rfl | exact .const)); (· (first | exact .tmp rfl | exact .const)))
      | ((with_reducible apply O.pickF); (· rfl); (· (first | exact .tmp rfl | exact .const)); (· (first | exact .tmp rfl | exact .const)))
      | ((with_reducible apply O.pickB); (· rfl); (· (first | exact .tmp rfl | exact .const)); (· (first | exact .tmp rfl | exact .const)); (· (first | exact .tmp rfl | exact .const)))
      | ((with_reducible apply O.extract); (· rfl); (· rfl); (· rfl); (· rfl); (· rfl))
      | ((with_reducible apply O.len); (· rfl); (· rfl); (· rfl))
      | ((with_reducible apply O.indexL); (· rfl); (· exact wf); (· rfl); (· (first | exact .tmp rfl | exact .const)); (· exact ⟨rfl, rfl⟩); (· decide); (· rfl); (· decide); (· omega); (· rfl))
      | ((with_reducible apply O.box); (· rfl); (· rfl); (· exact ⟨rfl, rfl⟩); (· decide); (· (first | exact .inl rfl | exact .inr rfl)))
      | ((with_reducible apply O.store); (· exact wf); (· rfl); (· exact ArgAt.tmp rfl ⟨rfl, rfl⟩); (· rfl); (· rfl); (· decide); (· rfl); (· rfl); (· (first | exact .inl rfl | exact .inr rfl)))
      | ((with_reducible apply O.store); (· exact wf); (· rfl); (· exact ArgAt.const rfl); (· rfl); (· rfl); (· decide); (· rfl); (· rfl); (· (first | exact .inl rfl | exact .inr rfl)))
      | ((with_reducible apply O.buildSlice); (· rfl); (· exact wf); (· rfl); (· decide); (· repeat (first | exact Parts.nil | apply Parts.cons (ArgAt.tmp rfl ⟨rfl, rfl⟩) (Or.inr rfl) | apply Parts.cons (ArgAt.tmp rfl ⟨rfl, rfl⟩) (Or.inl rfl) | apply Parts.cons (ArgAt.const rfl) (Or.inr rfl))); (· rfl); (· decide); (· decide); (· exact ⟨_, _, rfl, rfl⟩))
      | ((with_reducible apply O.min2); (· rfl); (· (first | exact .tmp rfl | exact .const)); (· (first | exact .tmp rfl | exact .const)))
      | ((with_reducible apply O.max2); (· rfl); (· (first | exact .tmp rfl | exact .const)); (· (first | exact .tmp rfl | exact .const)))
      | ((with_reducible apply O.indexV); (· rfl); (· exact wf); (· rfl); (· (first | exact .tmp rfl | exact .const)); (· exact ⟨rfl, rfl⟩); (· decide); (· rfl); (· omega); (· omega); (· first | exact hx0 | rfl); (· rfl); (· rfl))
      | ((with_reducible apply O.indexA); (· rfl); (· exact wf); (· rfl); (· (first | exact .tmp rfl | exact .const)); (· rfl); (· rfl); (· decide); (· rfl); (· omega); (· omega))
      | ((with_reducible apply O.indexVw); (· rfl); (· exact wf); (· rfl); (· (first | exact .tmp rfl | exact .const)); (· exact ⟨rfl, rfl⟩); (· decide); (· rfl); (· omega); (· omega))
      | ((with_reducible apply O.assignF); (· rfl))
      | ((with_reducible apply O.moveC); (· rfl); (· rfl))
      | ((with_reducible apply Then.n))
      | ((with_reducible apply Then.r))
      | ((with_reducible apply Then.e))
      | ((with_reducible apply Then.g))
      | ((with_reducible apply InB.n))
      | ((with_reducible apply InB.r))
      | ((with_reducible apply InB.g))
      | ((with_reducible apply InB.here))
      | ((with_reducible apply OPS.nil))
      | ((with_reducible apply AW.seq))
      | ((with_reducible apply AW.region))
      | ((with_reducible apply AW.skip))
      | ((with_reducible apply AW.ret))
      | ((with_reducible apply AW.exit))
      | ((with_reducible apply AW.block))
      | ((with_reducible apply AW.label))
      | ((with_reducible apply AW.goto))
      | ((with_reducible apply AW.scope))
      | ((with_reducible apply NG.n))
      | ((with_reducible apply NG.r))
      | ((with_reducible apply NG.e))
      | ((with_reducible apply InB.past); (· rfl))
      | ((with_reducible apply AW.condT); (· rfl))
      | ((with_reducible apply AW.condF); (· rfl)))
    exact ⟨.inr rfl, .tmp rfl, (fun _ _ e => (by cases e)), fun _ h => h⟩
  have hi2 : i < ms.length := by omega
  obtain ⟨n, hn⟩ : ∃ n, ms[i]? = some n := ⟨_, List.getElem?_eq_getElem hi2⟩
  have hx0 := A_get hn
  obtain ⟨hn1, hn4⟩ := sh_at hm hn
  obtain ⟨hlen, hall⟩ := ld_ok ms i
  obtain ⟨q, hq⟩ : ∃ q, (ld ms i)[n.toNat - 1]? = some q := ⟨_, List.getElem?_eq_getElem (by omega)⟩
  have hql := hall q (List.mem_of_getElem? hq)
  have hi8 : i ≤ 8 := hi
  have hle : q.1 ≤ 7 := by omega
  have hwk := walk43 (k := 0 + (n - 1).toNat) (by omega)
  have hget := CA_get (j := 0 + (n - 1).toNat) (by omega) hq
  have hput := CA_put (j := 0 + (n - 1).toNat) (q.1 + 1, i) (by omega) hq
  have hld : ld ms (i + 1) = (ld ms i).set (n.toNat - 1) (q.1 + 1, i) := by simp only [ld, hn, upd, hq]
  repeat (first
    | ((with_reducible apply O.load); (· rfl); (· exact wf); (· rfl); (· rfl); (· exact hget); (· exact hwk); (· rfl); (· rfl))
    | ((with_reducible apply O.store); (· exact wf); (· rfl); (· exact ArgAt.tmp rfl ⟨rfl, rfl⟩); (· rfl); (· exact hwk); (· decide); (· exact hput); (· rfl); (· (first | exact .inl rfl | exact .inr rfl)))
    | ((with_reducible apply O.cmp); (· rfl); (· (first | exact .tmp rfl | exact .const)); (· (first | exact .tmp rfl | exact .const)); (· (first | exact eqT (by omega) | exact eqF (by omega) | exact neT (by omega) | exact neF (by omega) | exact ltT (by omega) | exact ltF (by omega) | exact leT (by omega) | exact leF (by omega) | exact gtT (by omega) | exact gtF (by omega) | exact geT (by omega) | exact geF (by omega))))
    | ((with_reducible apply O.bi); (· rfl); (· repeat (first | exact ScAll.nil | apply ScAll.cons (by first | exact .tmp rfl | exact .const))); (· (intro w; rfl)); (· rfl))
    | ((with_reducible apply O.bin); (· rfl); (· (first | exact .tmp rfl | exact .const)); (· (first | exact .tmp rfl | exact .const)); (· exact F_add hle _ _); (· rfl))
    | ((with_reducible apply O.conv); (· rfl); (· (first | exact .tmp rfl | exact .const)); (· exact F_conv hi8); (· rfl))
    | ((with_reducible apply O.move); (· rfl); (· rfl))
    | ((with_reducible apply O.assign); (· rfl); (· rfl))
    | ((with_reducible apply O.assignC); (· rfl); (· rfl))
    | ((with_reducible apply O.assignN); (· rfl); (· rfl))
    | ((with_reducible apply O.load); (· rfl); (· exact wf); (· rfl); (· rfl); (· rfl); (· rfl); (· rfl); (· rfl))
    | ((with_reducible apply O.loadE); (· rfl); (· exact wf); (· rfl); (· decide); (· rfl); (· (first | exact .inl rfl | exact .inr rfl)); (· rfl))
    | ((with_reducible apply O.fieldAddr); (· rfl); (· exact wf); (· rfl); (· rfl); (· rfl); (· decide); (· rfl); (· rfl); (· decide))
    | ((with_reducible apply O.fieldAddrE); (· rfl); (· exact wf); (· rfl); (· decide); (· rfl); (· rfl); (· rfl); (· decide))
    | ((with_reducible apply O.gT); (· rfl); (· rfl); (· rfl))
    | ((with_reducible apply O.gF); (· rfl); (· rfl); (· rfl); (· rfl))
    | ((with_reducible apply O.cmp); (· rfl); (· (first | exact .tmp rfl | exact .const)); (· (first | exact .tmp rfl | exact .const)); (· rfl))
    | ((with_reducible apply O.arith); (· rfl); (· (first | exact .tmp rfl | exact .const)); (· (first | exact .tmp rfl | exact .const)); (· rfl); (· exact wrapI (by omega) (by omega)))
    | ((with_reducible apply O.not); (· rfl); (· (first | exact .tmp rfl | exact .const)))
    | ((with_reducible apply O.pickT); (· rfl); (· (first | exact .tmp rfl | exact .const)); (· (first | exact .tmp rfl | exact .const)))
    | ((with_reducible apply O.pickF); (· rfl); (· (first | exact .tmp rfl | exact .const)); (· (first | exact .tmp rfl | exact .const)))
    | ((with_reducible apply O.pickB); (· rfl); (· (first | exact .tmp rfl | exact .const)); (· (first | exact .tmp rfl | exact .const)); (· (first | exact .tmp rfl | exact .const)))
    | ((with_reducible apply O.extract); (· rfl); (· rfl); (· rfl); (· rfl); (· rfl))
    | ((with_reducible apply O.len); (· rfl); (· rfl); (· rfl))
    | ((with_reducible apply O.indexL); (· rfl); (· exact wf); (· rfl); (· (first | exact .tmp rfl | exact .const)); (· exact ⟨rfl, rfl⟩); (· decide); (· rfl); (· decide); (· omega); (· rfl))
    | ((with_reducible apply O.box); (· rfl); (· rfl); (· exact ⟨rfl, rfl⟩); (· decide); (· (first | exact .inl rfl | exact .inr rfl)))
    | ((with_reducible apply O.store); (· exact wf); (· rfl); (· exact ArgAt.tmp rfl ⟨rfl, rfl⟩); (· rfl); (· rfl); (· decide); (· rfl); (· rfl); (· (first | exact .inl rfl | exact .inr rfl)))
    | ((with_reducible apply O.store); (· exact wf); (· rfl); (· exact ArgAt.const rfl); (· rfl); (· rfl); (· decide); (· rfl); (· rfl); (· (first | exact .inl rfl | exact .inr rfl)))
    | ((with_reducible apply O.buildSlice); (· rfl); (· exact wf); (· rfl); (· decide); (· repeat (first | exact Parts.nil | apply Parts.cons (ArgAt.tmp rfl ⟨rfl, rfl⟩) (Or.inr rfl) | apply Parts.cons (ArgAt.tmp rfl ⟨rfl, rfl⟩) (Or.inl rfl) | apply Parts.cons (ArgAt.const rfl) (Or.inr rfl))); (· rfl); (· decide); (· decide); (· exact ⟨_, _, rfl, rfl⟩))
    | ((with_reducible apply O.min2); (· rfl); (· (first | exact .tmp rfl | exact .const)); (· (first | exact .tmp rfl | exact .const)))
    | ((with_reducible apply O.max2); (· rfl); (· (first | exact .tmp rfl | exact .const)); (· (first | exact .tmp rfl | exact .const)))
    | ((with_reducible apply O.indexV); (· rfl); (· exact wf); (· rfl); (· (first | exact .tmp rfl | exact .const)); (· exact ⟨rfl, rfl⟩); (· decide); (· rfl); (· omega); (· omega); (· first | exact hx0 | rfl); (· rfl); (· rfl))
    | ((with_reducible apply O.indexA); (· rfl); (· exact wf); (· rfl); (· (first | exact .tmp rfl | exact .const)); (· rfl); (· rfl); (· decide); (· rfl); (· omega); (· omega))
    | ((with_reducible apply O.indexVw); (· rfl); (· exact wf); (· rfl); (· (first | exact .tmp rfl | exact .const)); (· exact ⟨rfl, rfl⟩); (· decide); (· rfl); (· omega); (· omega))
    | ((with_reducible apply O.assignF); (· rfl))
    | ((with_reducible apply O.moveC); (· rfl); (· rfl))
    | ((with_reducible apply Then.n))
    | ((with_reducible apply Then.r))
    | ((with_reducible apply Then.e))
    | ((with_reducible apply Then.g))
    | ((with_reducible apply InB.n))
    | ((with_reducible apply InB.r))
    | ((with_reducible apply InB.g))
    | ((with_reducible apply InB.here))
    | ((with_reducible apply OPS.nil))
    | ((with_reducible apply AW.seq))
    | ((with_reducible apply AW.region))
    | ((with_reducible apply AW.skip))
    | ((with_reducible apply AW.ret))
    | ((with_reducible apply AW.exit))
    | ((with_reducible apply AW.block))
    | ((with_reducible apply AW.label))
    | ((with_reducible apply AW.goto))
    | ((with_reducible apply AW.scope))
    | ((with_reducible apply NG.n))
    | ((with_reducible apply NG.r))
    | ((with_reducible apply NG.e))
    | ((with_reducible apply InB.past); (· rfl))
    | ((with_reducible apply AW.condT); (· rfl))
    | ((with_reducible apply AW.condF); (· rfl)))
  exact ⟨rfl, 8 - (i + 1), [(7, (A ms, 41)), (8, (I ((i + 1 : Nat) : Int), 3)), (3, (.vw 1 0 4 4, 40))], [⟨.one 41, A ms⟩, ⟨.row 43 4, .arr (CLs (ld ms (i + 1)))⟩], _, by omega, .cons rfl (.cons rfl (.cons rfl .nil)), by rw [hld]; rfl, rfl, by simp only [tb, pb, A_pbL]; rfl, by simp only [hbB, pb, A_pbL, CL_pb]; rfl, rfl, i + 1, rfl, by omega, rfl, rfl⟩

set_option maxHeartbeats 2000000 in
theorem more_c (p q : Nat × Nat) (hp : p.1 ≤ 8) (hq : q.1 ≤ 8) : Ans Try.prog 15 [(C p, 43), (C q, 43)] (B (decide (q.1 < p.1)), 4) := by

  refine Ans.body1 wf Try.func15 rfl rfl rfl rfl rfl (fun u => ?_)

  repeat (first
    | ((with_reducible apply O.bin); (· rfl); (· (first | exact .tmp rfl | exact .const)); (· (first | exact .tmp rfl | exact .const)); (· exact F_gtr hp hq _ _); (· rfl))
    | ((with_reducible apply O.bi); (· rfl); (· repeat (first | exact ScAll.nil | apply ScAll.cons (by first | exact .tmp rfl | exact .const))); (· (intro w; rfl)); (· rfl))
    | ((with_reducible apply O.move); (· rfl); (· rfl))
    | ((with_reducible apply O.assign); (· rfl); (· rfl))
    | ((with_reducible apply O.assignC); (· rfl); (· rfl))
    | ((with_reducible apply O.assignN); (· rfl); (· rfl))
    | ((with_reducible apply O.load); (· rfl); (· exact wf); (· rfl); (· rfl); (· rfl); (· rfl); (· rfl); (· rfl))
    | ((with_reducible apply O.loadE); (· rfl); (· exact wf); (· rfl); (· decide); (· rfl); (· (first | exact .inl rfl | exact .inr rfl)); (· rfl))
    | ((with_reducible apply O.fieldAddr); (· rfl); (· exact wf); (· rfl); (· rfl); (· rfl); (· decide); (· rfl); (· rfl); (· decide))
    | ((with_reducible apply O.fieldAddrE); (· rfl); (· exact wf); (· rfl); (· decide); (· rfl); (· rfl); (· rfl); (· decide))
    | ((with_reducible apply O.gT); (· rfl); (· rfl); (· rfl))
    | ((with_reducible apply O.gF); (· rfl); (· rfl); (· rfl); (· rfl))
    | ((with_reducible apply O.cmp); (· rfl); (· (first | exact .tmp rfl | exact .const)); (· (first | exact .tmp rfl | exact .const)); (· rfl))
    | ((with_reducible apply O.arith); (· rfl); (· (first | exact .tmp rfl | exact .const)); (· (first | exact .tmp rfl | exact .const)); (· rfl); (· exact wrapI (by omega) (by omega)))
    | ((with_reducible apply O.not); (· rfl); (· (first | exact .tmp rfl | exact .const)))
    | ((with_reducible apply O.pickT); (· rfl); (· (first | exact .tmp rfl | exact .const)); (· (first | exact .tmp rfl | exact .const)))
    | ((with_reducible apply O.pickF); (· rfl); (· (first | exact .tmp rfl | exact .const)); (· (first | exact .tmp rfl | exact .const)))
    | ((with_reducible apply O.pickB); (· rfl); (· (first | exact .tmp rfl | exact .const)); (· (first | exact .tmp rfl | exact .const)); (· (first | exact .tmp rfl | exact .const)))
    | ((with_reducible apply O.extract); (· rfl); (· rfl); (· rfl); (· rfl); (· rfl))
    | ((with_reducible apply O.len); (· rfl); (· rfl); (· rfl))
    | ((with_reducible apply O.indexL); (· rfl); (· exact wf); (· rfl); (· (first | exact .tmp rfl | exact .const)); (· exact ⟨rfl, rfl⟩); (· decide); (· rfl); (· decide); (· omega); (· rfl))
    | ((with_reducible apply O.box); (· rfl); (· rfl); (· exact ⟨rfl, rfl⟩); (· decide); (· (first | exact .inl rfl | exact .inr rfl)))
    | ((with_reducible apply O.store); (· exact wf); (· rfl); (· exact ArgAt.tmp rfl ⟨rfl, rfl⟩); (· rfl); (· rfl); (· decide); (· rfl); (· rfl); (· (first | exact .inl rfl | exact .inr rfl)))
    | ((with_reducible apply O.store); (· exact wf); (· rfl); (· exact ArgAt.const rfl); (· rfl); (· rfl); (· decide); (· rfl); (· rfl); (· (first | exact .inl rfl | exact .inr rfl)))
    | ((with_reducible apply O.buildSlice); (· rfl); (· exact wf); (· rfl); (· decide); (· repeat (first | exact Parts.nil | apply Parts.cons (ArgAt.tmp rfl ⟨rfl, rfl⟩) (Or.inr rfl) | apply Parts.cons (ArgAt.tmp rfl ⟨rfl, rfl⟩) (Or.inl rfl) | apply Parts.cons (ArgAt.const rfl) (Or.inr rfl))); (· rfl); (· decide); (· decide); (· exact ⟨_, _, rfl, rfl⟩))
    | ((with_reducible apply O.min2); (· rfl); (· (first | exact .tmp rfl | exact .const)); (· (first | exact .tmp rfl | exact .const)))
    | ((with_reducible apply O.max2); (· rfl); (· (first | exact .tmp rfl | exact .const)); (· (first | exact .tmp rfl | exact .const)))
    | ((with_reducible apply O.indexV); (· rfl); (· exact wf); (· rfl); (· (first | exact .tmp rfl | exact .const)); (· exact ⟨rfl, rfl⟩); (· decide); (· rfl); (· omega); (· omega); (· first | exact hx0 | rfl); (· rfl); (· rfl))
    | ((with_reducible apply O.indexA); (· rfl); (· exact wf); (· rfl); (· (first | exact .tmp rfl | exact .const)); (· rfl); (· rfl); (· decide); (· rfl); (· omega); (· omega))
    | ((with_reducible apply O.indexVw); (· rfl); (· exact wf); (· rfl); (· (first | exact .tmp rfl | exact .const)); (· exact ⟨rfl, rfl⟩); (· decide); (· rfl); (· omega); (· omega))
    | ((with_reducible apply O.assignF); (· rfl))
    | ((with_reducible apply O.moveC); (· rfl); (· rfl))
    | ((with_reducible apply Then.n))
    | ((with_reducible apply Then.r))
    | ((with_reducible apply Then.e))
    | ((with_reducible apply Then.g))
    | ((with_reducible apply InB.n))
    | ((with_reducible apply InB.r))
    | ((with_reducible apply InB.g))
    | ((with_reducible apply InB.here))
    | ((with_reducible apply OPS.nil))
    | ((with_reducible apply AW.seq))
    | ((with_reducible apply AW.region))
    | ((with_reducible apply AW.skip))
    | ((with_reducible apply AW.ret))
    | ((with_reducible apply AW.exit))
    | ((with_reducible apply AW.block))
    | ((with_reducible apply AW.label))
    | ((with_reducible apply AW.goto))
    | ((with_reducible apply AW.scope))
    | ((with_reducible apply NG.n))
    | ((with_reducible apply NG.r))
    | ((with_reducible apply NG.e))
    | ((with_reducible apply InB.past); (· rfl))
    | ((with_reducible apply AW.condT); (· rfl))
    | ((with_reducible apply AW.condF); (· rfl)))
  exact ⟨.inr rfl, .tmp rfl, (fun _ _ e => (by cases e)), fun _ h => h⟩

set_option maxHeartbeats 2000000 in
theorem fewer_c (p q : Nat × Nat) (hp : p.1 ≤ 8) (hq : q.1 ≤ 8) : Ans Try.prog 16 [(C p, 43), (C q, 43)] (B (decide (p.1 < q.1)), 4) := by

  refine Ans.body1 wf Try.func16 rfl rfl rfl rfl rfl (fun u => ?_)

  repeat (first
    | ((with_reducible apply O.bin); (· rfl); (· (first | exact .tmp rfl | exact .const)); (· (first | exact .tmp rfl | exact .const)); (· exact F_lss hp hq _ _); (· rfl))
    | ((with_reducible apply O.bi); (· rfl); (· repeat (first | exact ScAll.nil | apply ScAll.cons (by first | exact .tmp rfl | exact .const))); (· (intro w; rfl)); (· rfl))
    | ((with_reducible apply O.move); (· rfl); (· rfl))
    | ((with_reducible apply O.assign); (· rfl); (· rfl))
    | ((with_reducible apply O.assignC); (· rfl); (· rfl))
    | ((with_reducible apply O.assignN); (· rfl); (· rfl))
    | ((with_reducible apply O.load); (· rfl); (· exact wf); (· rfl); (· rfl); (· rfl); (· rfl); (· rfl); (· rfl))
    | ((with_reducible apply O.loadE); (· rfl); (· exact wf); (· rfl); (· decide); (· rfl); (· (first | exact .inl rfl | exact .inr rfl)); (· rfl))
    | ((with_reducible apply O.fieldAddr); (· rfl); (· exact wf); (· rfl); (· rfl); (· rfl); (· decide); (· rfl); (· rfl); (· decide))
    | ((with_reducible apply O.fieldAddrE); (· rfl); (· exact wf); (· rfl); (· decide); (· rfl); (· rfl); (· rfl); (· decide))
    | ((with_reducible apply O.gT); (· rfl); (· rfl); (· rfl))
    | ((with_reducible apply O.gF); (· rfl); (· rfl); (· rfl); (· rfl))
    | ((with_reducible apply O.cmp); (· rfl); (· (first | exact .tmp rfl | exact .const)); (· (first | exact .tmp rfl | exact .const)); (· rfl))
    | ((with_reducible apply O.arith); (· rfl); (· (first | exact .tmp rfl | exact .const)); (· (first | exact .tmp rfl | exact .const)); (· rfl); (· exact wrapI (by omega) (by omega)))
    | ((with_reducible apply O.not); (· rfl); (· (first | exact .tmp rfl | exact .const)))
    | ((with_reducible apply O.pickT); (· rfl); (· (first | exact .tmp rfl | exact .const)); (· (first | exact .tmp rfl | exact .const)))
    | ((with_reducible apply O.pickF); (· rfl); (· (first | exact .tmp rfl | exact .const)); (· (first | exact .tmp rfl | exact .const)))
    | ((with_reducible apply O.pickB); (· rfl); (· (first | exact .tmp rfl | exact .const)); (· (first | exact .tmp rfl | exact .const)); (· (first | exact .tmp rfl | exact .const)))
    | ((with_reducible apply O.extract); (· rfl); (· rfl); (· rfl); (· rfl); (· rfl))
    | ((with_reducible apply O.len); (· rfl); (· rfl); (· rfl))
    | ((with_reducible apply O.indexL); (· rfl); (· exact wf); (· rfl); (· (first | exact .tmp rfl | exact .const)); (· exact ⟨rfl, rfl⟩); (· decide); (· rfl); (· decide); (· omega); (· rfl))
    | ((with_reducible apply O.box); (· rfl); (· rfl); (· exact ⟨rfl, rfl⟩); (· decide); (· (first | exact .inl rfl | exact .inr rfl)))
    | ((with_reducible apply O.store); (· exact wf); (· rfl); (· exact ArgAt.tmp rfl ⟨rfl, rfl⟩); (· rfl); (· rfl); (· decide); (· rfl); (· rfl); (· (first | exact .inl rfl | exact .inr rfl)))
    | ((with_reducible apply O.store); (· exact wf); (· rfl); (· exact ArgAt.const rfl); (· rfl); (· rfl); (· decide); (· rfl); (· rfl); (· (first | exact .inl rfl | exact .inr rfl)))
    | ((with_reducible apply O.buildSlice); (· rfl); (· exact wf); (· rfl); (· decide); (· repeat (first | exact Parts.nil | apply Parts.cons (ArgAt.tmp rfl ⟨rfl, rfl⟩) (Or.inr rfl) | apply Parts.cons (ArgAt.tmp rfl ⟨rfl, rfl⟩) (Or.inl rfl) | apply Parts.cons (ArgAt.const rfl) (Or.inr rfl))); (· rfl); (· decide); (· decide); (· exact ⟨_, _, rfl, rfl⟩))
    | ((with_reducible apply O.min2); (· rfl); (· (first | exact .tmp rfl | exact .const)); (· (first | exact .tmp rfl | exact .const)))
    | ((with_reducible apply O.max2); (· rfl); (· (first | exact .tmp rfl | exact .const)); (· (first | exact .tmp rfl | exact .const)))
    | ((with_reducible apply O.indexV); (· rfl); (· exact wf); (· rfl); (· (first | exact .tmp rfl | exact .const)); (· exact ⟨rfl, rfl⟩); (· decide); (· rfl); (· omega); (· omega); (· first | exact hx0 | rfl); (· rfl); (· rfl))
    | ((with_reducible apply O.indexA); (· rfl); (· exact wf); (· rfl); (· (first | exact .tmp rfl | exact .const)); (· rfl); (· rfl); (· decide); (· rfl); (· omega); (· omega))
    | ((with_reducible apply O.indexVw); (· rfl); (· exact wf); (· rfl); (· (first | exact .tmp rfl | exact .const)); (· exact ⟨rfl, rfl⟩); (· decide); (· rfl); (· omega); (· omega))
    | ((with_reducible apply O.assignF); (· rfl))
    | ((with_reducible apply O.moveC); (· rfl); (· rfl))
    | ((with_reducible apply Then.n))
    | ((with_reducible apply Then.r))
    | ((with_reducible apply Then.e))
    | ((with_reducible apply Then.g))
    | ((with_reducible apply InB.n))
    | ((with_reducible apply InB.r))
    | ((with_reducible apply InB.g))
    | ((with_reducible apply InB.here))
    | ((with_reducible apply OPS.nil))
    | ((with_reducible apply AW.seq))
    | ((with_reducible apply AW.region))
    | ((with_reducible apply AW.skip))
    | ((with_reducible apply AW.ret))
    | ((with_reducible apply AW.exit))
    | ((with_reducible apply AW.block))
    | ((with_reducible apply AW.label))
    | ((with_reducible apply AW.goto))
    | ((with_reducible apply AW.scope))
    | ((with_reducible apply NG.n))
    | ((with_reducible apply NG.r))
    | ((with_reducible apply NG.e))
    | ((with_reducible apply InB.past); (· rfl))
    | ((with_reducible apply AW.condT); (· rfl))
    | ((with_reducible apply AW.condF); (· rfl)))
  exact ⟨.inr rfl, .tmp rfl, (fun _ _ e => (by cases e)), fun _ h => h⟩


def bst (r : Nat × Nat → Nat × Nat → Bool) (ps : List (Nat × Nat)) : Nat → Nat
  | 0 => 0
  | i + 1 => match ps[i]?, ps[bst r ps i]? with
    | some p, some q => bif r p q then i else bst r ps i
    | _, _ => bst r ps i
theorem bst_lt (r : Nat × Nat → Nat × Nat → Bool) (ps : List (Nat × Nat)) (h0 : 0 < ps.length) : ∀ i, bst r ps i < ps.length
  | 0 => h0
  | i + 1 => by
    have h := bst_lt r ps h0 i
    unfold bst
    split
    · rename_i hp _
      cases r _ _ with
      | true => exact (List.getElem?_eq_some_iff.1 hp).1
      | false => exact h
    · exact h
theorem fn_np (f : Fn) : np (.fn f [] []) = true := rfl

set_option maxHeartbeats 2000000 in
theorem best_c (fid : FuncId) (r : Nat × Nat → Nat × Nat → Bool) (he_ : enters Try.prog fid = true) (ps : List (Nat × Nat)) (tag : Tag) (hl : ps.length ≤ 4) (hf : ∀ p q, p ∈ ps → q ∈ ps → Ans Try.prog fid [(C p, 43), (C q, 43)] (B (r p q), 4)) : Ans Try.prog 17 [(.lst (CLs ps) tag, 40), (.fn (.func fid) [] [], 45)] (I (bst r ps ps.length : Nat), 3) := by

  refine Ans.body1 wf Try.func17 rfl rfl rfl (by simp only [List.map, npL, np, CL_np]; rfl) rfl (fun u => ?_)

  repeat (first
    | ((with_reducible apply O.cmp); (· rfl); (· (first | exact .tmp rfl | exact .const)); (· (first | exact .tmp rfl | exact .const)); (· (first | exact eqT (by omega) | exact eqF (by omega) | exact neT (by omega) | exact neF (by omega) | exact ltT (by omega) | exact ltF (by omega) | exact leT (by omega) | exact leF (by omega) | exact gtT (by omega) | exact gtF (by omega) | exact geT (by omega) | exact geF (by omega))))
    | ((with_reducible apply O.move); (· rfl); (· rfl))
    | ((with_reducible apply O.assign); (· rfl); (· rfl))
    | ((with_reducible apply O.assignC); (· rfl); (· rfl))
    | ((with_reducible apply O.assignN); (· rfl); (· rfl))
    | ((with_reducible apply O.load); (· rfl); (· exact wf); (· rfl); (· rfl); (· rfl); (· rfl); (· rfl); (· rfl))
    | ((with_reducible apply O.loadE); (· rfl); (· exact wf); (· rfl); (· decide); (· rfl); (· (first | exact .inl rfl | exact .inr rfl)); (· rfl))
    | ((with_reducible apply O.fieldAddr); (· rfl); (· exact wf); (· rfl); (· rfl); (· rfl); (· decide); (· rfl); (· rfl); (· decide))
    | ((with_reducible apply O.fieldAddrE); (· rfl); (· exact wf); (· rfl); (· decide); (· rfl); (· rfl); (· rfl); (· decide))
    | ((with_reducible apply O.gT); (· rfl); (· rfl); (· rfl))
    | ((with_reducible apply O.gF); (· rfl); (· rfl); (· rfl); (· rfl))
    | ((with_reducible apply O.cmp); (· rfl); (· (first | exact .tmp rfl | exact .const)); (· (first | exact .tmp rfl | exact .const)); (· rfl))
    | ((with_reducible apply O.arith); (· rfl); (· (first | exact .tmp rfl | exact .const)); (· (first | exact .tmp rfl | exact .const)); (· rfl); (· exact wrapI (by omega) (by omega)))
    | ((with_reducible apply O.not); (· rfl); (· (first | exact .tmp rfl | exact .const)))
    | ((with_reducible apply O.pickT); (· rfl); (· (first | exact .tmp rfl | exact .const)); (· (first | exact .tmp rfl | exact .const)))
    | ((with_reducible apply O.pickF); (· rfl); (· (first | exact .tmp rfl | exact .const)); (· (first | exact .tmp rfl | exact .const)))
    | ((with_reducible apply O.pickB); (· rfl); (· (first | exact .tmp rfl | exact .const)); (· (first | exact .tmp rfl | exact .const)); (· (first | exact .tmp rfl | exact .const)))
    | ((with_reducible apply O.extract); (· rfl); (· rfl); (· rfl); (· rfl); (· rfl))
    | ((with_reducible apply O.len); (· rfl); (· rfl); (· rfl))
    | ((with_reducible apply O.indexL); (· rfl); (· exact wf); (· rfl); (· (first | exact .tmp rfl | exact .const)); (· exact ⟨rfl, rfl⟩); (· decide); (· rfl); (· decide); (· omega); (· rfl))
    | ((with_reducible apply O.box); (· rfl); (· rfl); (· exact ⟨rfl, rfl⟩); (· decide); (· (first | exact .inl rfl | exact .inr rfl)))
    | ((with_reducible apply O.store); (· exact wf); (· rfl); (· exact ArgAt.tmp rfl ⟨rfl, rfl⟩); (· rfl); (· rfl); (· decide); (· rfl); (· rfl); (· (first | exact .inl rfl | exact .inr rfl)))
    | ((with_reducible apply O.store); (· exact wf); (· rfl); (· exact ArgAt.const rfl); (· rfl); (· rfl); (· decide); (· rfl); (· rfl); (· (first | exact .inl rfl | exact .inr rfl)))
    | ((with_reducible apply O.buildSlice); (· rfl); (· exact wf); (· rfl); (· decide); (· repeat (first | exact Parts.nil | apply Parts.cons (ArgAt.tmp rfl ⟨rfl, rfl⟩) (Or.inr rfl) | apply Parts.cons (ArgAt.tmp rfl ⟨rfl, rfl⟩) (Or.inl rfl) | apply Parts.cons (ArgAt.const rfl) (Or.inr rfl))); (· rfl); (· decide); (· decide); (· exact ⟨_, _, rfl, rfl⟩))
    | ((with_reducible apply O.min2); (· rfl); (· (first | exact .tmp rfl | exact .const)); (· (first | exact .tmp rfl | exact .const)))
    | ((with_reducible apply O.max2); (· rfl); (· (first | exact .tmp rfl | exact .const)); (· (first | exact .tmp rfl | exact .const)))
    | ((with_reducible apply O.indexV); (· rfl); (· exact wf); (· rfl); (· (first | exact .tmp rfl | exact .const)); (· exact ⟨rfl, rfl⟩); (· decide); (· rfl); (· omega); (· omega); (· first | exact hx0 | rfl); (· rfl); (· rfl))
    | ((with_reducible apply O.indexA); (· rfl); (· exact wf); (· rfl); (· (first | exact .tmp rfl | exact .const)); (· rfl); (· rfl); (· decide); (· rfl); (· omega); (· omega))
    | ((with_reducible apply O.indexVw); (· rfl); (· exact wf); (· rfl); (· (first | exact .tmp rfl | exact .const)); (· exact ⟨rfl, rfl⟩); (· decide); (· rfl); (· omega); (· omega))
    | ((with_reducible apply O.assignF); (· rfl))
    | ((with_reducible apply O.moveC); (· rfl); (· rfl))
    | ((with_reducible apply Then.n))
    | ((with_reducible apply Then.r))
    | ((with_reducible apply Then.e))
    | ((with_reducible apply Then.g))
    | ((with_reducible apply InB.n))
    | ((with_reducible apply InB.r))
    | ((with_reducible apply InB.g))
    | ((with_reducible apply InB.here))
    | ((with_reducible apply OPS.nil))
    | ((with_reducible apply AW.seq))
    | ((with_reducible apply AW.region))
    | ((with_reducible apply AW.skip))
    | ((with_reducible apply AW.ret))
    | ((with_reducible apply AW.exit))
    | ((with_reducible apply AW.block))
    | ((with_reducible apply AW.label))
    | ((with_reducible apply AW.goto))
    | ((with_reducible apply AW.scope))
    | ((with_reducible apply NG.n))
    | ((with_reducible apply NG.r))
    | ((with_reducible apply NG.e))
    | ((with_reducible apply InB.past); (· rfl))
    | ((with_reducible apply AW.condT); (· rfl))
    | ((with_reducible apply AW.condF); (· rfl)))
  refine AW.loopF (fun m t h u' => u' = u ∧ ∃ i : Nat, m = ps.length - i ∧ i ≤ ps.length ∧ h = [] ∧ t = [(0, (.lst (CLs ps) tag, 40)), (1, (.fn (.func fid) [] [], 45)), (9, (I (i : Nat), 3)), (8, (I ((CLs ps).length : Nat), 3)), (5, (I (bst r ps i : Nat), 3))]) ps.length [(0, (.lst (CLs ps) tag, 40)), (1, (.fn (.func fid) [] [], 45)), (9, (I (0 : Nat), 3)), (8, (I ((CLs ps).length : Nat), 3)), (5, (I (bst r ps 0 : Nat), 3))] (.cons rfl (.cons rfl (.cons rfl (.cons rfl (.cons rfl .nil))))) ⟨rfl, 0, rfl, Nat.zero_le _, rfl, rfl⟩ ?_
  rintro m t h u' ⟨rfl, i, rfl, hi, rfl, rfl⟩
  have hcl : (CLs ps).length = ps.length := List.length_map _
  by_cases he : i = ps.length
  · rw [← he]
    repeat (first
      | ((with_reducible apply O.cmp); (· rfl); (· (first | exact .tmp rfl | exact .const)); (· (first | exact .tmp rfl | exact .const)); (· (first | exact eqT (by omega) | exact eqF (by omega) | exact neT (by omega) | exact neF (by omega) | exact ltT (by omega) | exact ltF (by omega) | exact leT (by omega) | exact leF (by omega) | exact gtT (by omega) | exact gtF (by omega) | exact geT (by omega) | exact geF (by omega))))
      | ((with_reducible apply O.move); (· rfl); (· rfl))
      | ((with_reducible apply O.assign); (· rfl); (· rfl))
      | ((with_reducible apply O.assignC); (· rfl); (· rfl))
      | ((with_reducible apply O.assignN); (· rfl); (· rfl))
      | ((with_reducible apply O.load); (· rfl); (· exact wf); (· rfl); (· rfl); (· rfl); (· rfl); (· rfl); (· rfl))
      | ((with_reducible apply O.loadE); (· rfl); (· exact wf); (· rfl); (· decide); (· rfl); (· (first | exact .inl rfl | exact .inr rfl)); (· rfl))
      | ((with_reducible apply O.fieldAddr); (· rfl); (· exact wf); (· rfl); (· rfl); (· rfl); (· decide); (· rfl); (· rfl); (· decide))
      | ((with_reducible apply O.fieldAddrE); (· rfl); (· exact wf); (· rfl); (· decide); (· rfl); (· rfl); (· rfl); (· decide))
      | ((with_reducible apply O.gT); (· rfl); (· rfl); (· rfl))
      | ((with_reducible apply O.gF); (· rfl); (· rfl); (· rfl); (· rfl))
      | ((with_reducible apply O.cmp); (· rfl); (· (first | exact .tmp rfl | exact .const)); (· (first | exact .tmp rfl | exact .const)); (· rfl))
      | ((with_reducible apply O.arith); (· rfl); (· (first | exact .tmp rfl | exact .const)); (· (first | exact .tmp rfl | exact .const)); (· rfl); (· exact wrapI (by omega) (by omega)))
      | ((with_reducible apply O.not); (· rfl); (· (first | exact .tmp rfl | exact .const)))
      | ((with_reducible apply O.pickT); (· rfl); (· (first | exact .tmp rfl | exact .const)); (· (first | exact .tmp rfl | exact .const)))
      | ((with_reducible apply O.pickF); (· rfl); (· (first | exact .tmp rfl | exact .const)); (· (first | exact .tmp rfl | exact .const)))
      | ((with_reducible apply O.pickB); (· rfl); (· (first | exact .tmp rfl | exact .const)); (· (first | exact .tmp rfl | exact .const)); (· (first | exact .tmp rfl | exact .const)))
      | ((with_reducible apply O.extract); (· rfl); (· rfl); (· rfl); (· rfl); (· rfl))
      | ((with_reducible apply O.len); (· rfl); (· rfl); (· rfl))
      | ((with_reducible apply O.indexL); (· rfl); (· exact wf); (· rfl); (· (first | exact .tmp rfl | exact .const)); (· exact ⟨rfl, rfl⟩); (· decide); (· rfl); (· decide); (· omega); (· rfl))
      | ((with_reducible apply O.box); (· rfl); (· rfl); (· exact ⟨rfl, rfl⟩); (· decide); (· (first | exact .inl rfl | exact .inr rfl)))
      | ((with_reducible apply O.store); (· exact wf); (· rfl); (· exact ArgAt.tmp rfl ⟨rfl, rfl⟩); (· rfl); (· rfl); (· decide); (· rfl); (· rfl); (· (first | exact .inl rfl | exact .inr rfl)))
      | ((with_reducible apply O.store); (· exact wf); (· rfl); (· exact ArgAt.const rfl); (· rfl); (· rfl); (· decide); (· rfl); (· rfl); (· (first | exact .inl rfl | exact .inr rfl)))
      | ((with_reducible apply O.buildSlice); (· rfl); (· exact wf); (· rfl); (· decide); (· repeat (first | exact Parts.nil | apply Parts.cons (ArgAt.tmp rfl ⟨rfl, rfl⟩) (Or.inr rfl) | apply Parts.cons (ArgAt.tmp rfl ⟨rfl, rfl⟩) (Or.inl rfl) | apply Parts.cons (ArgAt.const rfl) (Or.inr rfl))); (· rfl); (· decide); (· decide); (· exact ⟨_, _, rfl, rfl⟩))
      | ((with_reducible apply O.min2); (· rfl); (· (first | exact .tmp rfl | exact .const)); (· (first | exact .tmp rfl | exact .const)))
      | ((with_reducible apply O.max2); (· rfl); (· (first | exact .tmp rfl | exact .const)); (· (first | exact .tmp rfl | exact .const)))
      | ((with_reducible apply O.indexV); (· rfl); (· exact wf); (· rfl); (· (first | exact .tmp rfl | exact .const)); (· exact ⟨rfl, rfl⟩); (· decide); (· rfl); (· omega); (· omega); (· first | exact hx0 | rfl); (· rfl); (· rfl))
      | ((with_reducible apply O.indexA); (· rfl); (· exact wf); (· rfl); (· (first | exact .tmp rfl | exact .const)); (· rfl); (· rfl); (· decide); (· rfl); (· omega); (· omega))
      | ((with_reducible apply O.indexVw); (· rfl); (· exact wf); (· rfl); (· (first | exact .tmp rfl | exact .const)); (· exact ⟨rfl, rfl⟩); (· decide); (· rfl); (· omega); (· omega))
      | ((with_reducible apply O.assignF); (· rfl))
      | ((with_reducible apply O.moveC); (· rfl); (· rfl))
      | ((with_reducible apply Then.n))
      | ((with_reducible apply Then.r))
      | ((with_reducible apply Then.e))
      | ((with_reducible apply Then.g))
      | ((with_reducible apply InB.n))
      | ((with_reducible apply InB.r))
      | ((with_reducible apply InB.g))
      | ((with_reducible apply InB.here))
      | ((with_reducible apply OPS.nil))
      | ((with_reducible apply AW.seq))
      | ((with_reducible apply AW.region))
      | ((with_reducible apply AW.skip))
      | ((with_reducible apply AW.ret))
      | ((with_reducible apply AW.exit))
      | ((with_reducible apply AW.block))
      | ((with_reducible apply AW.label))
      | ((with_reducible apply AW.goto))
      | ((with_reducible apply AW.scope))
      | ((with_reducible apply NG.n))
      | ((with_reducible apply NG.r))
      | ((with_reducible apply NG.e))
      | ((with_reducible apply InB.past); (· rfl))
      | ((with_reducible apply AW.condT); (· rfl))
      | ((with_reducible apply AW.condF); (· rfl)))
    exact ⟨.inr rfl, .tmp rfl, (fun _ _ e => (by cases e)), fun _ h => h⟩
  have hi2 : i < ps.length := by omega
  obtain ⟨p, hp⟩ : ∃ p, ps[i]? = some p := ⟨_, List.getElem?_eq_getElem hi2⟩
  obtain ⟨q, hq⟩ : ∃ q, ps[bst r ps i]? = some q := ⟨_, List.getElem?_eq_getElem (bst_lt r ps (by omega) i)⟩
  have hx0 := CL_get hp
  have hx1 := CL_get hq
  have hcall := hf p q (List.mem_of_getElem? hp) (List.mem_of_getElem? hq)
  repeat (first
    | ((with_reducible apply O.cmp); (· rfl); (· (first | exact .tmp rfl | exact .const)); (· (first | exact .tmp rfl | exact .const)); (· (first | exact eqT (by omega) | exact eqF (by omega) | exact neT (by omega) | exact neF (by omega) | exact ltT (by omega) | exact ltF (by omega) | exact leT (by omega) | exact leF (by omega) | exact gtT (by omega) | exact gtF (by omega) | exact geT (by omega) | exact geF (by omega))))
    | ((with_reducible apply O.move); (· rfl); (· rfl))
    | ((with_reducible apply O.assign); (· rfl); (· rfl))
    | ((with_reducible apply O.assignC); (· rfl); (· rfl))
    | ((with_reducible apply O.assignN); (· rfl); (· rfl))
    | ((with_reducible apply O.load); (· rfl); (· exact wf); (· rfl); (· rfl); (· rfl); (· rfl); (· rfl); (· rfl))
    | ((with_reducible apply O.loadE); (· rfl); (· exact wf); (· rfl); (· decide); (· rfl); (· (first | exact .inl rfl | exact .inr rfl)); (· rfl))
    | ((with_reducible apply O.fieldAddr); (· rfl); (· exact wf); (· rfl); (· rfl); (· rfl); (· decide); (· rfl); (· rfl); (· decide))
    | ((with_reducible apply O.fieldAddrE); (· rfl); (· exact wf); (· rfl); (· decide); (· rfl); (· rfl); (· rfl); (· decide))
    | ((with_reducible apply O.gT); (· rfl); (· rfl); (· rfl))
    | ((with_reducible apply O.gF); (· rfl); (· rfl); (· rfl); (· rfl))
    | ((with_reducible apply O.cmp); (· rfl); (· (first | exact .tmp rfl | exact .const)); (· (first | exact .tmp rfl | exact .const)); (· rfl))
    | ((with_reducible apply O.arith); (· rfl); (· (first | exact .tmp rfl | exact .const)); (· (first | exact .tmp rfl | exact .const)); (· rfl); (· exact wrapI (by omega) (by omega)))
    | ((with_reducible apply O.not); (· rfl); (· (first | exact .tmp rfl | exact .const)))
    | ((with_reducible apply O.pickT); (· rfl); (· (first | exact .tmp rfl | exact .const)); (· (first | exact .tmp rfl | exact .const)))
    | ((with_reducible apply O.pickF); (· rfl); (· (first | exact .tmp rfl | exact .const)); (· (first | exact .tmp rfl | exact .const)))
    | ((with_reducible apply O.pickB); (· rfl); (· (first | exact .tmp rfl | exact .const)); (· (first | exact .tmp rfl | exact .const)); (· (first | exact .tmp rfl | exact .const)))
    | ((with_reducible apply O.extract); (· rfl); (· rfl); (· rfl); (· rfl); (· rfl))
    | ((with_reducible apply O.len); (· rfl); (· rfl); (· rfl))
    | ((with_reducible apply O.indexL); (· rfl); (· exact wf); (· rfl); (· (first | exact .tmp rfl | exact .const)); (· exact ⟨rfl, rfl⟩); (· decide); (· rfl); (· decide); (· omega); (· rfl))
    | ((with_reducible apply O.box); (· rfl); (· rfl); (· exact ⟨rfl, rfl⟩); (· decide); (· (first | exact .inl rfl | exact .inr rfl)))
    | ((with_reducible apply O.store); (· exact wf); (· rfl); (· exact ArgAt.tmp rfl ⟨rfl, rfl⟩); (· rfl); (· rfl); (· decide); (· rfl); (· rfl); (· (first | exact .inl rfl | exact .inr rfl)))
    | ((with_reducible apply O.store); (· exact wf); (· rfl); (· exact ArgAt.const rfl); (· rfl); (· rfl); (· decide); (· rfl); (· rfl); (· (first | exact .inl rfl | exact .inr rfl)))
    | ((with_reducible apply O.buildSlice); (· rfl); (· exact wf); (· rfl); (· decide); (· repeat (first | exact Parts.nil | apply Parts.cons (ArgAt.tmp rfl ⟨rfl, rfl⟩) (Or.inr rfl) | apply Parts.cons (ArgAt.tmp rfl ⟨rfl, rfl⟩) (Or.inl rfl) | apply Parts.cons (ArgAt.const rfl) (Or.inr rfl))); (· rfl); (· decide); (· decide); (· exact ⟨_, _, rfl, rfl⟩))
    | ((with_reducible apply O.min2); (· rfl); (· (first | exact .tmp rfl | exact .const)); (· (first | exact .tmp rfl | exact .const)))
    | ((with_reducible apply O.max2); (· rfl); (· (first | exact .tmp rfl | exact .const)); (· (first | exact .tmp rfl | exact .const)))
    | ((with_reducible apply O.indexV); (· rfl); (· exact wf); (· rfl); (· (first | exact .tmp rfl | exact .const)); (· exact ⟨rfl, rfl⟩); (· decide); (· rfl); (· omega); (· omega); (· first | exact hx0 | rfl); (· rfl); (· rfl))
    | ((with_reducible apply O.indexA); (· rfl); (· exact wf); (· rfl); (· (first | exact .tmp rfl | exact .const)); (· rfl); (· rfl); (· decide); (· rfl); (· omega); (· omega))
    | ((with_reducible apply O.indexVw); (· rfl); (· exact wf); (· rfl); (· (first | exact .tmp rfl | exact .const)); (· exact ⟨rfl, rfl⟩); (· decide); (· rfl); (· omega); (· omega))
    | ((with_reducible apply O.assignF); (· rfl))
    | ((with_reducible apply O.moveC); (· rfl); (· rfl))
    | ((with_reducible apply Then.n))
    | ((with_reducible apply Then.r))
    | ((with_reducible apply Then.e))
    | ((with_reducible apply Then.g))
    | ((with_reducible apply InB.n))
    | ((with_reducible apply InB.r))
    | ((with_reducible apply InB.g))
    | ((with_reducible apply InB.here))
    | ((with_reducible apply OPS.nil))
    | ((with_reducible apply AW.seq))
    | ((with_reducible apply AW.region))
    | ((with_reducible apply AW.skip))
    | ((with_reducible apply AW.ret))
    | ((with_reducible apply AW.exit))
    | ((with_reducible apply AW.block))
    | ((with_reducible apply AW.label))
    | ((with_reducible apply AW.goto))
    | ((with_reducible apply AW.scope))
    | ((with_reducible apply NG.n))
    | ((with_reducible apply NG.r))
    | ((with_reducible apply NG.e))
    | ((with_reducible apply InB.past); (· rfl))
    | ((with_reducible apply AW.condT); (· rfl))
    | ((with_reducible apply AW.condF); (· rfl)))
  refine AW.drawP [([], [1]), ([], [0]), ([], [6]), ([1, 2], [13, 14]), ([3, 1, 2], [15]), ([], [0]), ([], [5]), ([5, 6], [17, 18]), ([7, 5, 6], [19]), ([0, 4, 3, 1, 2, 8, 7, 5, 6], [12, 16, 20])] [3, 4, 7, 8] [] rfl (by kernel_rfl) ?_
  repeat (first
    | ((with_reducible apply D.indexL); (· rfl); (· rfl); (· (first | exact trivial | exact ⟨_, _, rfl, rfl⟩)); (· exact wf); (· rfl); (· (intro _ _; first | exact .tmp rfl | exact .const)); (· exact ⟨rfl, rfl⟩); (· decide); (· rfl); (· decide); (· omega); (· first | exact hx0 | exact hx1 | rfl))
    | ((with_reducible apply D.nil))
    | ((with_reducible apply D.move); (· rfl); (· rfl); (· (first | exact trivial | exact ⟨_, _, rfl, rfl⟩)); (· rfl))
    | ((with_reducible apply D.assign); (· rfl); (· rfl); (· (first | exact trivial | exact ⟨_, _, rfl, rfl⟩)); (· rfl))
    | ((with_reducible apply D.assignC); (· rfl); (· rfl); (· (first | exact trivial | exact ⟨_, _, rfl, rfl⟩)); (· rfl))
    | ((with_reducible apply D.assignN); (· rfl); (· rfl); (· (first | exact trivial | exact ⟨_, _, rfl, rfl⟩)); (· rfl))
    | ((with_reducible apply D.load); (· rfl); (· rfl); (· rfl); (· (first | exact trivial | exact ⟨_, _, rfl, rfl⟩)); (· exact wf); (· rfl); (· rfl); (· rfl); (· rfl); (· rfl); (· rfl))
    | ((with_reducible apply D.loadE); (· rfl); (· rfl); (· (first | exact trivial | exact ⟨_, _, rfl, rfl⟩)); (· exact wf); (· rfl); (· decide); (· rfl); (· (first | exact .inl rfl | exact .inr rfl)); (· rfl))
    | ((with_reducible apply D.fieldAddr); (· rfl); (· rfl); (· rfl); (· (first | exact trivial | exact ⟨_, _, rfl, rfl⟩)); (· exact wf); (· rfl); (· rfl); (· rfl); (· decide); (· rfl); (· rfl); (· decide))
    | ((with_reducible apply D.fieldAddrE); (· rfl); (· rfl); (· (first | exact trivial | exact ⟨_, _, rfl, rfl⟩)); (· exact wf); (· rfl); (· decide); (· rfl); (· rfl); (· rfl); (· decide))
    | ((with_reducible apply D.cmp); (· rfl); (· rfl); (· (first | exact trivial | exact ⟨_, _, rfl, rfl⟩)); (· (intro _ _; first | exact .tmp rfl | exact .const)); (· (intro _ _; first | exact .tmp rfl | exact .const)); (· rfl))
    | ((with_reducible apply D.arith); (· rfl); (· rfl); (· (first | exact trivial | exact ⟨_, _, rfl, rfl⟩)); (· (intro _ _; first | exact .tmp rfl | exact .const)); (· (intro _ _; first | exact .tmp rfl | exact .const)); (· rfl); (· exact wrapI (by omega) (by omega)))
    | ((with_reducible apply D.not); (· rfl); (· rfl); (· (first | exact trivial | exact ⟨_, _, rfl, rfl⟩)); (· (intro _ _; first | exact .tmp rfl | exact .const)))
    | ((with_reducible apply D.pickT); (· rfl); (· rfl); (· (first | exact trivial | exact ⟨_, _, rfl, rfl⟩)); (· (intro _ _; first | exact .tmp rfl | exact .const)); (· (intro _ _; first | exact .tmp rfl | exact .const)))
    | ((with_reducible apply D.pickF); (· rfl); (· rfl); (· (first | exact trivial | exact ⟨_, _, rfl, rfl⟩)); (· (intro _ _; first | exact .tmp rfl | exact .const)); (· (intro _ _; first | exact .tmp rfl | exact .const)))
    | ((with_reducible apply D.pickB); (· rfl); (· rfl); (· (first | exact trivial | exact ⟨_, _, rfl, rfl⟩)); (· (intro _ _; first | exact .tmp rfl | exact .const)); (· (intro _ _; first | exact .tmp rfl | exact .const)); (· (intro _ _; first | exact .tmp rfl | exact .const)))
    | ((with_reducible apply D.extract); (· rfl); (· rfl); (· (first | exact trivial | exact ⟨_, _, rfl, rfl⟩)); (· rfl); (· rfl); (· rfl); (· rfl))
    | ((with_reducible apply D.len); (· rfl); (· rfl); (· (first | exact trivial | exact ⟨_, _, rfl, rfl⟩)); (· rfl); (· rfl))
    | ((with_reducible apply D.indexL); (· rfl); (· rfl); (· (first | exact trivial | exact ⟨_, _, rfl, rfl⟩)); (· exact wf); (· rfl); (· (intro _ _; first | exact .tmp rfl | exact .const)); (· exact ⟨rfl, rfl⟩); (· decide); (· rfl); (· decide); (· omega); (· rfl))
    | ((with_reducible apply D.skip); (· rfl); (· rfl); (· rfl); (· rfl); (· rfl))
    | ((with_reducible apply D.store); (· rfl); (· rfl); (· rfl); (· (first | exact trivial | exact ⟨_, _, rfl, rfl⟩)); (· exact wf); (· rfl); (· exact ArgAt.tmp rfl ⟨rfl, rfl⟩); (· rfl); (· rfl); (· decide); (· rfl); (· rfl); (· (first | exact .inl rfl | exact .inr rfl)); (· rfl))
    | ((with_reducible apply D.store); (· rfl); (· rfl); (· rfl); (· (first | exact trivial | exact ⟨_, _, rfl, rfl⟩)); (· exact wf); (· rfl); (· exact ArgAt.const rfl); (· rfl); (· rfl); (· decide); (· rfl); (· rfl); (· (first | exact .inl rfl | exact .inr rfl)); (· rfl))
    | (apply D.fnV0 rfl rfl rfl hcall he_ (by (first | exact trivial | exact ⟨_, _, rfl, rfl⟩)); (· intro _ _; repeat (first | exact Args.nil | refine Args.cons (ArgAt.tmp rfl ⟨rfl, rfl⟩) ?_ | refine Args.cons (ArgAt.const rfl) ?_))))
  cases hr : r p q with
  | true =>
    have hb : bst r ps (i + 1) = i := by simp only [bst, hp, hq, hr, cond_true]
    repeat (first
      | ((with_reducible apply O.cmp); (· rfl); (· (first | exact .tmp rfl | exact .const)); (· (first | exact .tmp rfl | exact .const)); (· (first | exact eqT (by omega) | exact eqF (by omega) | exact neT (by omega) | exact neF (by omega) | exact ltT (by omega) | exact ltF (by omega) | exact leT (by omega) | exact leF (by omega) | exact gtT (by omega) | exact gtF (by omega) | exact geT (by omega) | exact geF (by omega))))
      | ((with_reducible apply O.move); (· rfl); (· rfl))
      | ((with_reducible apply O.assign); (· rfl); (· rfl))
      | ((with_reducible apply O.assignC); (· rfl); (· rfl))
      | ((with_reducible apply O.assignN); (· rfl); (· rfl))
      | ((with_reducible apply O.load); (· rfl); (· exact wf); (· rfl); (· rfl); (· rfl); (· rfl); (· rfl); (· rfl))
      | ((with_reducible apply O.loadE); (· rfl); (· exact wf); (· rfl); (· decide); (· rfl); (· (first | exact .inl rfl | exact .inr rfl)); (· rfl))
      | ((with_reducible apply O.fieldAddr); (· rfl); (· exact wf); (· rfl); (· rfl); (· rfl); (· decide); (· rfl); (· rfl); (· decide))
      | ((with_reducible apply O.fieldAddrE); (· rfl); (· exact wf); (· rfl); (· decide); (· rfl); (· rfl); (· rfl); (· decide))
      | ((with_reducible apply O.gT); (· rfl); (· rfl); (· rfl))
      | ((with_reducible apply O.gF); (· rfl); (· rfl); (· rfl); (· rfl))
      | ((with_reducible apply O.cmp); (· rfl); (· (first | exact .tmp rfl | exact .const)); (· (first | exact .tmp rfl | exact .const)); (· rfl))
      | ((with_reducible apply O.arith); (· rfl); (· (first | exact .tmp rfl | exact .const)); (· (first | exact .tmp rfl | exact .const)); (· rfl); (· exact wrapI (by omega) (by omega)))
      | ((with_reducible apply O.not); (· rfl); (· (first | exact .tmp rfl | exact .const)))
      | ((with_reducible apply O.pickT); (· rfl); (· (first | exact .tmp rfl | exact .const)); (· (first | exact .tmp rfl | exact .const)))
      | ((with_reducible apply O.pickF); (· rfl); (· (first | exact .tmp rfl | exact .const)); (· (first | exact .tmp rfl | exact .const)))
      | ((with_reducible apply O.pickB); (· rfl); (· (first | exact .tmp rfl | exact .const)); (· (first | exact .tmp rfl | exact .const)); (· (first | exact .tmp rfl | exact .const)))
      | ((with_reducible apply O.extract); (· rfl); (· rfl); (· rfl); (· rfl); (· rfl))
      | ((with_reducible apply O.len); (· rfl); (· rfl); (· rfl))
      | ((with_reducible apply O.indexL); (· rfl); (· exact wf); (· rfl); (· (first | exact .tmp rfl | exact .const)); (· exact ⟨rfl, rfl⟩); (· decide); (· rfl); (· decide); (· omega); (· rfl))
      | ((with_reducible apply O.box); (· rfl); (· rfl); (· exact ⟨rfl, rfl⟩); (· decide); (· (first | exact .inl rfl | exact .inr rfl)))
      | ((with_reducible apply O.store); (· exact wf); (· rfl); (· exact ArgAt.tmp rfl ⟨rfl, rfl⟩); (· rfl); (· rfl); (· decide); (· rfl); (· rfl); (· (first | exact .inl rfl | exact .inr rfl)))
      | ((with_reducible apply O.store); (· exact wf); (· rfl); (· exact ArgAt.const rfl); (· rfl); (· rfl); (· decide); (· rfl); (· rfl); (· (first | exact .inl rfl | exact .inr rfl)))
      | ((with_reducible apply O.buildSlice); (· rfl); (· exact wf); (· rfl); (· decide); (· repeat (first | exact Parts.nil | apply Parts.cons (ArgAt.tmp rfl ⟨rfl, rfl⟩) (Or.inr rfl) | apply Parts.cons (ArgAt.tmp rfl ⟨rfl, rfl⟩) (Or.inl rfl) | apply Parts.cons (ArgAt.const rfl) (Or.inr rfl))); (· rfl); (· decide); (· decide); (· exact ⟨_, _, rfl, rfl⟩))
      | ((with_reducible apply O.min2); (· rfl); (· (first | exact .tmp rfl | exact .const)); (· (first | exact .tmp rfl | exact .const)))
      | ((with_reducible apply O.max2); (· rfl); (· (first | exact .tmp rfl | exact .const)); (· (first | exact .tmp rfl | exact .const)))
      | ((with_reducible apply O.indexV); (· rfl); (· exact wf); (· rfl); (· (first | exact .tmp rfl | exact .const)); (· exact ⟨rfl, rfl⟩); (· decide); (· rfl); (· omega); (· omega); (· first | exact hx0 | rfl); (· rfl); (· rfl))
      | ((with_reducible apply O.indexA); (· rfl); (· exact wf); (· rfl); (· (first | exact .tmp rfl | exact .const)); (· rfl); (· rfl); (· decide); (· rfl); (· omega); (· omega))
      | ((with_reducible apply O.indexVw); (· rfl); (· exact wf); (· rfl); (· (first | exact .tmp rfl | exact .const)); (· exact ⟨rfl, rfl⟩); (· decide); (· rfl); (· omega); (· omega))
      | ((with_reducible apply O.assignF); (· rfl))
      | ((with_reducible apply O.moveC); (· rfl); (· rfl))
      | ((with_reducible apply Then.n))
      | ((with_reducible apply Then.r))
      | ((with_reducible apply Then.e))
      | ((with_reducible apply Then.g))
      | ((with_reducible apply InB.n))
      | ((with_reducible apply InB.r))
      | ((with_reducible apply InB.g))
      | ((with_reducible apply InB.here))
      | ((with_reducible apply OPS.nil))
      | ((with_reducible apply AW.seq))
      | ((with_reducible apply AW.region))
      | ((with_reducible apply AW.skip))
      | ((with_reducible apply AW.ret))
      | ((with_reducible apply AW.exit))
      | ((with_reducible apply AW.block))
      | ((with_reducible apply AW.label))
      | ((with_reducible apply AW.goto))
      | ((with_reducible apply AW.scope))
      | ((with_reducible apply NG.n))
      | ((with_reducible apply NG.r))
      | ((with_reducible apply NG.e))
      | ((with_reducible apply InB.past); (· rfl))
      | ((with_reducible apply AW.condT); (· rfl))
      | ((with_reducible apply AW.condF); (· rfl)))
    exact ⟨rfl, ps.length - (i + 1), [(0, (.lst (CLs ps) tag, 40)), (1, (.fn (.func fid) [] [], 45)), (9, (I ((i + 1) : Nat), 3)), (8, (I ((CLs ps).length : Nat), 3)), (5, (I (bst r ps (i + 1) : Nat), 3))], [], _, by omega, .cons rfl (.cons rfl (.cons rfl (.cons rfl (.cons (by rw [hb]; rfl) .nil)))), rfl, rfl, by simp only [tb, pb, CL_pb]; rfl, rfl, rfl, i + 1, rfl, by omega, rfl, rfl⟩
  | false =>
    have hb : bst r ps (i + 1) = bst r ps i := by simp only [bst, hp, hq, hr, cond_false]
    repeat (first
      | ((with_reducible apply O.cmp); (· rfl); (· (first | exact .tmp rfl | exact .const)); (· (first | exact .tmp rfl | exact .const)); (· (first | exact eqT (by omega) | exact eqF (by omega) | exact neT (by omega) | exact neF (by omega) | exact ltT (by omega) | exact ltF (by omega) | exact leT (by omega) | exact leF (by omega) | exact gtT (by omega) | exact gtF (by omega) | exact geT (by omega) | exact geF (by omega))))
      | ((with_reducible apply O.move); (· rfl); (· rfl))
      | ((with_reducible apply O.assign); (· rfl); (· rfl))
      | ((with_reducible apply O.assignC); (· rfl); (· rfl))
      | ((with_reducible apply O.assignN); (· rfl); (· rfl))
      | ((with_reducible apply O.load); (· rfl); (· exact wf); (· rfl); (· rfl); (· rfl); (· rfl); (· rfl); (· rfl))
      | ((with_reducible apply O.loadE); (· rfl); (· exact wf); (· rfl); (· decide); (· rfl); (· (first | exact .inl rfl | exact .inr rfl)); (· rfl))
      | ((with_reducible apply O.fieldAddr); (· rfl); (· exact wf); (· rfl); (· rfl); (· rfl); (· decide); (· rfl); (· rfl); (· decide))
      | ((with_reducible apply O.fieldAddrE); (· rfl); (· exact wf); (· rfl); (· decide); (· rfl); (· rfl); (· rfl); (· decide))
      | ((with_reducible apply O.gT); (· rfl); (· rfl); (· rfl))
      | ((with_reducible apply O.gF); (· rfl); (· rfl); (· rfl); (· rfl))
      | ((with_reducible apply O.cmp); (· rfl); (· (first | exact .tmp rfl | exact .const)); (· (first | exact .tmp rfl | exact .const)); (· rfl))
      | ((with_reducible apply O.arith); (· rfl); (· (first | exact .tmp rfl | exact .const)); (· (first | exact .tmp rfl | exact .const)); (· rfl); (· exact wrapI (by omega) (by omega)))
      | ((with_reducible apply O.not); (· rfl); (· (first | exact .tmp rfl | exact .const)))
      | ((with_reducible apply O.pickT); (· rfl); (· (first | exact .tmp rfl | exact .const)); (· (first | exact .tmp rfl | exact .const)))
      | ((with_reducible apply O.pickF); (· rfl); (· (first | exact .tmp rfl | exact .const)); (· (first | exact .tmp rfl | exact .const)))
      | ((with_reducible apply O.pickB); (· rfl); (· (first | exact .tmp rfl | exact .const)); (· (first | exact .tmp rfl | exact .const)); (· (first | exact .tmp rfl | exact .const)))
      | ((with_reducible apply O.extract); (· rfl); (· rfl); (· rfl); (· rfl); (· rfl))
      | ((with_reducible apply O.len); (· rfl); (· rfl); (· rfl))
      | ((with_reducible apply O.indexL); (· rfl); (· exact wf); (· rfl); (· (first | exact .tmp rfl | exact .const)); (· exact ⟨rfl, rfl⟩); (· decide); (· rfl); (· decide); (· omega); (· rfl))
      | ((with_reducible apply O.box); (· rfl); (· rfl); (· exact ⟨rfl, rfl⟩); (· decide); (· (first | exact .inl rfl | exact .inr rfl)))
      | ((with_reducible apply O.store); (· exact wf); (· rfl); (· exact ArgAt.tmp rfl ⟨rfl, rfl⟩); (· rfl); (· rfl); (· decide); (· rfl); (· rfl); (· (first | exact .inl rfl | exact .inr rfl)))
      | ((with_reducible apply O.store); (· exact wf); (· rfl); (· exact ArgAt.const rfl); (· rfl); (· rfl); (· decide); (· rfl); (· rfl); (· (first | exact .inl rfl | exact .inr rfl)))
      | ((with_reducible apply O.buildSlice); (· rfl); (· exact wf); (· rfl); (· decide); (· repeat (first | exact Parts.nil | apply Parts.cons (ArgAt.tmp rfl ⟨rfl, rfl⟩) (Or.inr rfl) | apply Parts.cons (ArgAt.tmp rfl ⟨rfl, rfl⟩) (Or.inl rfl) | apply Parts.cons (ArgAt.const rfl) (Or.inr rfl))); (· rfl); (· decide); (· decide); (· exact ⟨_, _, rfl, rfl⟩))
      | ((with_reducible apply O.min2); (· rfl); (· (first | exact .tmp rfl | exact .const)); (· (first | exact .tmp rfl | exact .const)))
      | ((with_reducible apply O.max2); (· rfl); (· (first | exact .tmp rfl | exact .const)); (· (first | exact .tmp rfl | exact .const)))
      | ((with_reducible apply O.indexV); (· rfl); (· exact wf); (· rfl); (· (first | exact .tmp rfl | exact .const)); (· exact ⟨rfl, rfl⟩); (· decide); (· rfl); (· omega); (· omega); (· first | exact hx0 | rfl); (· rfl); (· rfl))
      | ((with_reducible apply O.indexA); (· rfl); (· exact wf); (· rfl); (· (first | exact .tmp rfl | exact .const)); (· rfl); (· rfl); (· decide); (· rfl); (· omega); (· omega))
      | ((with_reducible apply O.indexVw); (· rfl); (· exact wf); (· rfl); (· (first | exact .tmp rfl | exact .const)); (· exact ⟨rfl, rfl⟩); (· decide); (· rfl); (· omega); (· omega))
      | ((with_reducible apply O.assignF); (· rfl))
      | ((with_reducible apply O.moveC); (· rfl); (· rfl))
      | ((with_reducible apply Then.n))
      | ((with_reducible apply Then.r))
      | ((with_reducible apply Then.e))
      | ((with_reducible apply Then.g))
      | ((with_reducible apply InB.n))
      | ((with_reducible apply InB.r))
      | ((with_reducible apply InB.g))
      | ((with_reducible apply InB.here))
      | ((with_reducible apply OPS.nil))
      | ((with_reducible apply AW.seq))
      | ((with_reducible apply AW.region))
      | ((with_reducible apply AW.skip))
      | ((with_reducible apply AW.ret))
      | ((with_reducible apply AW.exit))
      | ((with_reducible apply AW.block))
      | ((with_reducible apply AW.label))
      | ((with_reducible apply AW.goto))
      | ((with_reducible apply AW.scope))
      | ((with_reducible apply NG.n))
      | ((with_reducible apply NG.r))
      | ((with_reducible apply NG.e))
      | ((with_reducible apply InB.past); (· rfl))
      | ((with_reducible apply AW.condT); (· rfl))
      | ((with_reducible apply AW.condF); (· rfl)))
    exact ⟨rfl, ps.length - (i + 1), [(0, (.lst (CLs ps) tag, 40)), (1, (.fn (.func fid) [] [], 45)), (9, (I ((i + 1) : Nat), 3)), (8, (I ((CLs ps).length : Nat), 3)), (5, (I (bst r ps (i + 1) : Nat), 3))], [], _, by omega, .cons rfl (.cons rfl (.cons rfl (.cons rfl (.cons (by rw [hb]; rfl) .nil)))), rfl, rfl, by simp only [tb, pb, CL_pb]; rfl, rfl, rfl, i + 1, rfl, by omega, rfl, rfl⟩


end Go.Proofs.Ytpjaijenjkcleaa
