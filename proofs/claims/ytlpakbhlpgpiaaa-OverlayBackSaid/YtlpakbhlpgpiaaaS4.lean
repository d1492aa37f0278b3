/- Package overlay: Get, Same, Over, On; wakes. -/
import Derived.Test.YtlpakbhlpgpiaaaP1
set_option linter.unusedVariables false
set_option linter.unusedSimpArgs false
namespace Go.Proofs.Ytlpakbhlpgpiaaa
open Go.Am
def getF (ws : List Wr) (k : Int) : Option Wr := ws.find? fun x => decide (x.b = k)
theorem get_c (ws : List Wr) (hm : ws.length < 4611686018427387904) (key : Int) : Ans Try.prog 8 [(Ls ws, 22), (I key, 3)] (.tup [match getF ws key with | some w => V w.v | none => V0, B (getF ws key).isSome], 32) := by
  cases h : getF ws key with
  | none =>
    refine get_no ws hm key fun w hw => ?_
    have := List.find?_eq_none.1 h w hw
    simpa using this
  | some w =>
    obtain ⟨h1, i, hi, h2, h3⟩ := List.find?_eq_some_iff_getElem.1 h
    refine get_yes ws hm key i w (by rw [List.getElem?_eq_getElem hi, h2]) (by simpa using h1) fun j x hj hx => ?_
    have := h3 j hj
    obtain ⟨hjl, e⟩ := List.getElem?_eq_some_iff.1 hx
    rw [e] at this
    simpa using this
theorem getF_has (ws : List Wr) (k : Int) : (getF ws k).isSome = hasB ws k := by
  unfold getF hasB
  rw [Bool.eq_iff_iff, List.find?_isSome]
  simp
theorem eqV : ∀ {n : Nat} (v u : List Int), v.length = u.length → EqA Try.prog (n + 1) 5 (v.map U8) (u.map U8) (decide (v = u))
  | n, [], [], _ => by have := EqA.nil (P := Try.prog) (n := n + 1) (e := 5); simpa using this
  | n, a :: v, b :: u, h => by
    have := EqA.cons (P := Try.prog) (n := n + 1) (e := 5) (x := U8 a) (y := U8 b) rfl rfl (.int rfl) (eqV v u (by simpa using h))
    have e : decide (a :: v = b :: u) = (decide (a = b) && decide (v = u)) := by simp
    rw [e]; exact this
theorem eq24 (v u : List Int) (h : v.length = u.length) : EqT Try.prog 10000 24 (V v) (V u) (decide (v = u)) :=
  EqT.arr WFC.wf (by decide) Try.underlying24 rfl rfl (eqV v u h)
theorem eqH : ∀ {n : Nat} (v u : List (List Int)), v.length = u.length → (∀ x ∈ v, x.length = 8) → (∀ x ∈ u, x.length = 8) → EqA Try.prog (n + 2) 24 (v.map V) (u.map V) (decide (v = u))
  | n, [], [], _, _, _ => by have := EqA.nil (P := Try.prog) (n := n + 2) (e := 24); simpa using this
  | n, a :: v, b :: u, h, h1, h2 => by
    have := EqA.cons (P := Try.prog) (n := n + 2) (e := 24) (x := V a) (y := V b) rfl rfl (EqT.arr WFC.wf (by decide) Try.underlying24 rfl rfl (eqV a b ((h1 a (.head _)).trans (h2 b (.head _)).symm))) (eqH v u (by simpa using h) (fun x hx => h1 x (.tail _ hx)) (fun x hx => h2 x (.tail _ hx)))
    have e : decide (a :: v = b :: u) = (decide (a = b) && decide (v = u)) := by simp
    rw [e]; exact this
theorem eq36 (v u : List (List Int)) (h : v.length = u.length) (h1 : ∀ x ∈ v, x.length = 8) (h2 : ∀ x ∈ u, x.length = 8) : EqT Try.prog 10000 36 (.arr (v.map V)) (.arr (u.map V)) (decide (v = u)) :=
  EqT.arr WFC.wf (by decide) Try.underlying36 rfl rfl (eqH v u h h1 h2)
abbrev HT (h : List (List Int)) : T := .arr (h.map V)
theorem npH (h : List (List Int)) : npL (h.map V) = true := npL_iff.2 (fun x hx => by obtain ⟨n, _, rfl⟩ := List.mem_map.1 hx; simp [np, npV])
theorem pbH (k : Nat) (h : List (List Int)) : pbL k (h.map V) = true := pbL_iff.2 (fun x hx => by obtain ⟨n, _, rfl⟩ := List.mem_map.1 hx; simp [pb, pbV])

set_option maxHeartbeats 4000000 in
theorem eqw_c (x y : Wr) (hv : x.v.length = y.v.length) : Ans Try.prog 19 [(tW x, 26), (tW y, 26)] (B (decide (x = y)), 4) := by
  refine Ans.body1 WFC.wf Try.func19 rfl rfl rfl (by simp [npL, np, npV, npW, Tag.nt]) (by simp [npL, np, npV, npW, Tag.nt]) ?_
  have he := eq24 x.v y.v hv
  by_cases hb : x.b = y.b
  · have hr : decide (x = y) = decide (x.v = y.v) := by
      cases x; cases y; simp at hb ⊢; simp [hb]
    rw [hr]
    refine walkD ?_
    exact ⟨.inr rfl, .tmp rfl, (fun _ _ e => (by cases e))⟩
  · have hr : decide (x = y) = false := by
      cases x; cases y; simp at hb ⊢; intro h; exact absurd h hb
    rw [hr]
    refine walkD ?_
    exact ⟨.inr rfl, .tmp rfl, (fun _ _ e => (by cases e))⟩

set_option maxHeartbeats 4000000 in
theorem eqf_c (xs ys : List Wr) (hm : xs.length < 4611686018427387904) (hx : ∀ w ∈ xs, w.v.length = 8) (hy : ∀ w ∈ ys, w.v.length = 8) (r : Bool) (hr : r = true ↔ xs = ys) : Ans Try.prog 18 [(Ls xs, 22), (Ls ys, 22), (.fn (.func 19) [] [], 46)] (B r, 4) := by
  refine Ans.body1 WFC.wf Try.func18 rfl rfl rfl (by simp [npL, np, npV, npW, Tag.nt]) (by simp [npL, np, npV, npW, Tag.nt]) ?_
  have hlx := Ls_len xs
  have hly := Ls_len ys
  by_cases hne : xs.length = ys.length
  · skip
    refine walkD ?_
    refine AW.loopF (fun m t h u' => u' = ⟨[], 0⟩ ∧ ∃ i : Nat, m = xs.length - i ∧ i ≤ xs.length ∧ h = [] ∧ t = [(0, (Ls xs, 22)), (1, (Ls ys, 22)), (2, (.fn (.func 19) [] [], 46)), (15, (Ls xs, 22)), (16, (I ((xs.map tW).length : Nat), 3)), (17, (I (i : Nat), 3))] ∧ (∀ j, j < i → xs[j]? = ys[j]?)) (xs.length) [(0, (Ls xs, 22)), (1, (Ls ys, 22)), (2, (.fn (.func 19) [] [], 46)), (15, (Ls xs, 22)), (16, (I ((xs.map tW).length : Nat), 3)), (17, (I (0 : Nat), 3))] (.cons rfl (.cons rfl (.cons rfl (.cons rfl (.cons rfl (.cons rfl .nil)))))) ⟨rfl, 0, rfl, Nat.zero_le _, rfl, rfl, (fun j h => by omega)⟩ ?_
    rintro m t h u' ⟨rfl, i, rfl, hi, rfl, rfl, hinv⟩
    by_cases he : i = xs.length
    · subst he
      have ht : r = true := hr.2 (List.ext_getElem? fun j => by
        by_cases hj : j < xs.length
        · exact hinv j hj
        · rw [List.getElem?_eq_none (by omega), List.getElem?_eq_none (by omega)])
      subst ht
      refine walkD ?_
      exact ⟨.inr rfl, .tmp rfl, (fun _ _ e => (by cases e))⟩
    obtain ⟨x, hxw⟩ : ∃ x, xs[i]? = some x := ⟨_, List.getElem?_eq_getElem (by omega)⟩
    obtain ⟨y, hyw⟩ : ∃ y, ys[i]? = some y := ⟨_, List.getElem?_eq_getElem (by omega)⟩
    have hx0 := Ls_get hxw
    have hx1 := Ls_get hyw
    have hcall := eqw_c x y ((hx x (List.mem_of_getElem? hxw)).trans (hy y (List.mem_of_getElem? hyw)).symm)
    by_cases hxy : x = y
    · rw [decide_eq_true hxy] at hcall
      refine walkD ?_
      exact ⟨rfl, xs.length - (i + 1), [(0, (Ls xs, 22)), (1, (Ls ys, 22)), (2, (.fn (.func 19) [] [], 46)), (15, (Ls xs, 22)), (16, (I ((xs.map tW).length : Nat), 3)), (17, (I ((i + 1) : Nat), 3))], [], _, by omega, (.cons rfl (.cons rfl (.cons rfl (.cons rfl (.cons rfl (.cons rfl .nil)))))), rfl, rfl, (by simp [tb, hbB, pb, pbL, pbV, pbW, pbH]), (by simp [tb, hbB, pb, pbL, pbV, pbW, pbH]), rfl, i + 1, rfl, by omega, rfl, rfl, fun j hj => by
        by_cases hji : j = i
        · subst hji; rw [hxw, hyw, hxy]
        · exact hinv j (by omega)⟩
    · rw [decide_eq_false hxy] at hcall
      have hf : r = false := by rw [Bool.eq_false_iff]; intro h; have := hr.1 h; subst this; rw [hxw] at hyw; cases hyw; exact hxy rfl
      subst hf
      refine walkD ?_
      exact ⟨.inr rfl, .tmp rfl, (fun _ _ e => (by cases e))⟩
  · have hf : r = false := by rw [Bool.eq_false_iff]; intro h; have := hr.1 h; subst this; exact hne rfl
    subst hf
    refine walkD ?_
    exact ⟨.inr rfl, .tmp rfl, (fun _ _ e => (by cases e))⟩

set_option maxHeartbeats 4000000 in
theorem same_c (xs ys : List Wr) (hm : xs.length < 4611686018427387904) (hx : ∀ w ∈ xs, w.v.length = 8) (hy : ∀ w ∈ ys, w.v.length = 8) (r : Bool) (hr : r = true ↔ xs = ys) : Ans Try.prog 9 [(Ls xs, 22), (Ls ys, 22)] (B r, 4) := by
  refine Ans.body1 WFC.wf Try.func9 rfl rfl rfl (by simp [npL, np, npV, npW, Tag.nt]) (by simp [npL, np, npV, npW, Tag.nt]) ?_
  have he := eqf_c xs ys hm hx hy r hr
  refine walkD ?_
  exact ⟨.inr rfl, .tmp rfl, (fun _ _ e => (by cases e))⟩


def foldP : List Wr → List Wr → List Wr × Int
  | out, [] => (out, 0)
  | out, w :: r => bif decide ((putF out w).2 = 0) then foldP (putF out w).1 r else ([], (putF out w).2)
def overF (xs ys : List Wr) : List Wr × Int := bif WnB xs && WnB ys then foldP xs ys else ([], 2)
theorem WnB_r (ws : List Wr) {r : Bool} (h : WnB ws = r) : r = true ↔ Wn ws := by rw [← h]; exact WnB_iff ws
theorem putF_len {ws : List Wr} {w : Wr} (h : (putF ws w).2 = 0) : (putF ws w).1.length ≤ 8 := by
  have h1 := putF_err.1 h
  rw [putF_ok h1]
  exact (WnB_split.1 h1.wn').2
theorem foldP_at {out ys : List Wr} {i : Nat} {w : Wr} (h : ys[i]? = some w) : foldP out (ys.drop i) = bif decide ((putF out w).2 = 0) then foldP (putF out w).1 (ys.drop (i + 1)) else ([], (putF out w).2) := by
  obtain ⟨hl, e⟩ := List.getElem?_eq_some_iff.1 h
  rw [List.drop_eq_getElem_cons hl, e]
  rfl

set_option maxHeartbeats 4000000 in
theorem over_x (xs ys : List Wr) (hm1 : xs.length < 4611686018427387904) (hm2 : ys.length < 4611686018427387904) (h : WnB xs = false) : Ans Try.prog 11 [(Ls xs, 22), (Ls ys, 22)] (.tup [Ls [], I 2], 30) := by
  refine Ans.bodyN (rs := [(Ls [], 22), (I 2, 29)]) WFC.wf 30 Try.func11 rfl rfl (by decide) rfl rfl (by simp [npL, np, npV, npW, Tag.nt]) (by simp [npL, np, npV, npW, Tag.nt]) ?_
  have hw := written_c xs hm1 false (WnB_r xs h)
  refine walkD ?_
  exact ⟨.inr rfl, (.cons (.tmpW rfl (Wk.noS rfl)) (.cons (.tmp rfl) .nil)), ⟨(fun _ _ e => (by cases e)), ⟨(fun _ _ e => (by cases e)), trivial⟩⟩⟩

set_option maxHeartbeats 4000000 in
theorem over_y (xs ys : List Wr) (hm1 : xs.length < 4611686018427387904) (hm2 : ys.length < 4611686018427387904) (h : WnB xs = true) (h2 : WnB ys = false) : Ans Try.prog 11 [(Ls xs, 22), (Ls ys, 22)] (.tup [Ls [], I 2], 30) := by
  refine Ans.bodyN (rs := [(Ls [], 22), (I 2, 29)]) WFC.wf 30 Try.func11 rfl rfl (by decide) rfl rfl (by simp [npL, np, npV, npW, Tag.nt]) (by simp [npL, np, npV, npW, Tag.nt]) ?_
  have hw := written_c xs hm1 true (WnB_r xs h)
  have hw2 := written_c ys hm2 false (WnB_r ys h2)
  refine walkD ?_
  exact ⟨.inr rfl, (.cons (.tmpW rfl (Wk.noS rfl)) (.cons (.tmp rfl) .nil)), ⟨(fun _ _ e => (by cases e)), ⟨(fun _ _ e => (by cases e)), trivial⟩⟩⟩

set_option maxHeartbeats 4000000 in
theorem over_some (xs ys : List Wr) (hm1 : xs.length < 4611686018427387904) (hm2 : ys.length < 4611686018427387904) (h : WnB xs = true) (h2 : WnB ys = true) (hx : xs ≠ []) : Ans Try.prog 11 [(Ls xs, 22), (Ls ys, 22)] (.tup [Ls (foldP xs ys).1, I (foldP xs ys).2], 30) := by
  refine Ans.bodyN (rs := [(Ls (foldP xs ys).1, 22), (I (foldP xs ys).2, 29)]) WFC.wf 30 Try.func11 rfl rfl (by decide) rfl rfl (by simp [npL, np, npV, npW, Tag.nt]) (by simp [npL, np, npW, Tag.nt]) ?_
  have hw := written_c xs hm1 true (WnB_r xs h)
  have hw2 := written_c ys hm2 true (WnB_r ys h2)
  have hl1 := Ls_len xs
  have hl2 := Ls_len ys
  have h8 := (WnB_split.1 h).2
  refine walkD ?_
  refine O.appendG (xs := []) (ys := xs.map tW) (tag := .nil) (tag2 := .no) rfl WFC.wf (ArgAt.tmp rfl ⟨rfl, rfl⟩) (ArgAt.tmp rfl ⟨rfl, rfl⟩) rfl rfl ZC.zero (by decide) (.inr rfl) ?_ ?_ ?_ ?_
  · intro hn; rw [hn] at hl1; simp at hl1; exact hx (List.eq_nil_of_length_eq_zero (by omega))
  · simp only [List.length_nil]; omega
  · show (_ + _) * 16 ≤ _; simp only [List.length_nil]; omega
  refine walkD ?_
  refine AW.retag (t' := [(1, (Ls ys, 22)), (4, (Ls xs, 22)), (19, (Ls ys, 22)), (20, (I ((ys.map tW).length : Nat), 3)), (21, (I (0 : Nat), 3))]) (.cons rfl .refl (.cons rfl (Wk.noS rfl) (.cons rfl .refl (.cons rfl .refl (.cons rfl .refl .nil))))) ?_
  refine AW.loopF (fun m t h u' => u' = (Tips.more ⟨[], 0⟩) ∧ ∃ (i : Nat) (out : List Wr), m = ys.length - i ∧ i ≤ ys.length ∧ h = [] ∧ t = [(1, (Ls ys, 22)), (4, (Ls out, 22)), (19, (Ls ys, 22)), (20, (I ((ys.map tW).length : Nat), 3)), (21, (I (i : Nat), 3))] ∧ out.length ≤ 8 ∧ foldP xs ys = foldP out (ys.drop i)) ys.length [(1, (Ls ys, 22)), (4, (Ls xs, 22)), (19, (Ls ys, 22)), (20, (I ((ys.map tW).length : Nat), 3)), (21, (I (0 : Nat), 3))] (.cons rfl (.cons rfl (.cons rfl (.cons rfl (.cons rfl .nil))))) ⟨rfl, 0, xs, rfl, Nat.zero_le _, rfl, rfl, h8, rfl⟩ ?_
  rintro m t h u' ⟨rfl, i, out, rfl, hi, rfl, rfl, ho8, hinv⟩
  rw [hinv]
  by_cases he : i = ys.length
  · subst he
    rw [List.drop_length]
    refine walkD ?_
    exact ⟨.inr rfl, (.cons (.tmp rfl) (.cons (.tmp rfl) .nil)), ⟨(fun _ _ e => (by cases e)), ⟨(fun _ _ e => (by cases e)), trivial⟩⟩⟩
  obtain ⟨w, hyw⟩ : ∃ w, ys[i]? = some w := ⟨_, List.getElem?_eq_getElem (by omega)⟩
  have hx0 := Ls_get hyw
  have hput := put_c out (by omega) w
  rw [foldP_at hyw] at hinv ⊢
  by_cases hz : (putF out w).2 = 0
  · rw [decide_eq_true hz, cond_true] at hinv ⊢
    have hl8 := putF_len hz
    rw [hz] at hput
    refine walkD ?_
    exact ⟨rfl, ys.length - (i + 1), [(1, (Ls ys, 22)), (4, (Ls (putF out w).1, 22)), (19, (Ls ys, 22)), (20, (I ((ys.map tW).length : Nat), 3)), (21, (I ((i + 1) : Nat), 3))], [], _, by omega, (.cons rfl (.cons rfl (.cons rfl (.cons rfl (.cons rfl .nil))))), rfl, rfl, (by simp [tb, hbB, pb, pbL, pbV, pbW, pbH]), rfl, rfl, i + 1, (putF out w).1, rfl, by omega, rfl, rfl, hl8, rfl⟩
  · rw [decide_eq_false hz, cond_false] at hinv ⊢
    refine walkD ?_
    exact ⟨.inr rfl, (.cons (.tmpW rfl (Wk.noS rfl)) (.cons (.tmp rfl) .nil)), ⟨(fun _ _ e => (by cases e)), ⟨(fun _ _ e => (by cases e)), trivial⟩⟩⟩

set_option maxHeartbeats 4000000 in
theorem over_nil (xs ys : List Wr) (hm1 : xs.length < 4611686018427387904) (hm2 : ys.length < 4611686018427387904) (h : WnB xs = true) (h2 : WnB ys = true) (hx : xs = []) : Ans Try.prog 11 [(Ls xs, 22), (Ls ys, 22)] (.tup [Ls (foldP xs ys).1, I (foldP xs ys).2], 30) := by
  refine Ans.bodyN (rs := [(Ls (foldP xs ys).1, 22), (I (foldP xs ys).2, 29)]) WFC.wf 30 Try.func11 rfl rfl (by decide) rfl rfl (by simp [npL, np, npV, npW, Tag.nt]) (by simp [npL, np, npW, Tag.nt]) ?_
  have hw := written_c xs hm1 true (WnB_r xs h)
  have hw2 := written_c ys hm2 true (WnB_r ys h2)
  have hl1 := Ls_len xs
  have hl2 := Ls_len ys
  have h8 := (WnB_split.1 h).2
  refine walkD ?_
  subst hx
  refine O.appendE (xs := []) (tag := .nil) (tag2 := .no) rfl WFC.wf (ArgAt.tmp rfl ⟨rfl, rfl⟩) (ArgAt.tmp rfl ⟨rfl, rfl⟩) rfl rfl (by decide) ?_
  refine walkD ?_
  refine AW.retag (t' := [(1, (Ls ys, 22)), (4, (Ls ([] : List Wr), 22)), (19, (Ls ys, 22)), (20, (I ((ys.map tW).length : Nat), 3)), (21, (I (0 : Nat), 3))]) (.cons rfl .refl (.cons rfl (Wk.noS rfl) (.cons rfl .refl (.cons rfl .refl (.cons rfl .refl .nil))))) ?_
  refine AW.loopF (fun m t h u' => u' = ⟨[], 0⟩ ∧ ∃ (i : Nat) (out : List Wr), m = ys.length - i ∧ i ≤ ys.length ∧ h = [] ∧ t = [(1, (Ls ys, 22)), (4, (Ls out, 22)), (19, (Ls ys, 22)), (20, (I ((ys.map tW).length : Nat), 3)), (21, (I (i : Nat), 3))] ∧ out.length ≤ 8 ∧ foldP ([] : List Wr) ys = foldP out (ys.drop i)) ys.length [(1, (Ls ys, 22)), (4, (Ls ([] : List Wr), 22)), (19, (Ls ys, 22)), (20, (I ((ys.map tW).length : Nat), 3)), (21, (I (0 : Nat), 3))] (.cons rfl (.cons rfl (.cons rfl (.cons rfl (.cons rfl .nil))))) ⟨rfl, 0, ([] : List Wr), rfl, Nat.zero_le _, rfl, rfl, h8, rfl⟩ ?_
  rintro m t h u' ⟨rfl, i, out, rfl, hi, rfl, rfl, ho8, hinv⟩
  rw [hinv]
  by_cases he : i = ys.length
  · subst he
    rw [List.drop_length]
    refine walkD ?_
    exact ⟨.inr rfl, (.cons (.tmp rfl) (.cons (.tmp rfl) .nil)), ⟨(fun _ _ e => (by cases e)), ⟨(fun _ _ e => (by cases e)), trivial⟩⟩⟩
  obtain ⟨w, hyw⟩ : ∃ w, ys[i]? = some w := ⟨_, List.getElem?_eq_getElem (by omega)⟩
  have hx0 := Ls_get hyw
  have hput := put_c out (by omega) w
  rw [foldP_at hyw] at hinv ⊢
  by_cases hz : (putF out w).2 = 0
  · rw [decide_eq_true hz, cond_true] at hinv ⊢
    have hl8 := putF_len hz
    rw [hz] at hput
    refine walkD ?_
    exact ⟨rfl, ys.length - (i + 1), [(1, (Ls ys, 22)), (4, (Ls (putF out w).1, 22)), (19, (Ls ys, 22)), (20, (I ((ys.map tW).length : Nat), 3)), (21, (I ((i + 1) : Nat), 3))], [], _, by omega, (.cons rfl (.cons rfl (.cons rfl (.cons rfl (.cons rfl .nil))))), rfl, rfl, (by simp [tb, hbB, pb, pbL, pbV, pbW, pbH]), rfl, rfl, i + 1, (putF out w).1, rfl, by omega, rfl, rfl, hl8, rfl⟩
  · rw [decide_eq_false hz, cond_false] at hinv ⊢
    refine walkD ?_
    exact ⟨.inr rfl, (.cons (.tmpW rfl (Wk.noS rfl)) (.cons (.tmp rfl) .nil)), ⟨(fun _ _ e => (by cases e)), ⟨(fun _ _ e => (by cases e)), trivial⟩⟩⟩


theorem over_c (xs ys : List Wr) (hm1 : xs.length < 4611686018427387904) (hm2 : ys.length < 4611686018427387904) : Ans Try.prog 11 [(Ls xs, 22), (Ls ys, 22)] (.tup [Ls (overF xs ys).1, I (overF xs ys).2], 30) := by
  unfold overF
  cases h : WnB xs with
  | false => exact over_x xs ys hm1 hm2 h
  | true =>
    cases h2 : WnB ys with
    | false => exact over_y xs ys hm1 hm2 h h2
    | true =>
      by_cases hx : xs = []
      · exact over_nil xs ys hm1 hm2 h h2 hx
      · exact over_some xs ys hm1 hm2 h h2 hx
def onF : List (List Int) → List Wr → List (List Int)
  | h, [] => h
  | h, w :: r => onF (if 0 ≤ w.b ∧ w.b < 32 then h.set w.b.toNat w.v else h) r
theorem onF_at {h : List (List Int)} {l : List Wr} {i : Nat} {w : Wr} (hw : l[i]? = some w) : onF h (l.drop i) = onF (if 0 ≤ w.b ∧ w.b < 32 then h.set w.b.toNat w.v else h) (l.drop (i + 1)) := by
  obtain ⟨hl, e⟩ := List.getElem?_eq_some_iff.1 hw
  rw [List.drop_eq_getElem_cons hl, e]
  rfl
theorem walk36 {i : Nat} (h : i < 32) : walkO Try.prog (.one 36) ([] ++ [i]) = some (i * szOf Try.prog 24 + 0, 24) := by
  simp only [walkO, List.nil_append, walkPath, stepPath, Try.underlying36, if_pos h]
theorem HT_put {h : List (List Int)} {i : Nat} (v : List Int) (hi : i < h.length) : (HT h).put ([] ++ [i]) (V v) = some (HT (h.set i v)) := by
  have : (h.map V)[i]? = some (V h[i]) := by rw [List.getElem?_map, List.getElem?_eq_getElem hi]; rfl
  simp only [List.nil_append, T.put, this]
  rw [show HT (h.set i v) = T.arr ((h.set i v).map V) from rfl, List.map_set]
abbrev H0 : T := .arr (List.replicate 32 V0)

set_option maxHeartbeats 4000000 in
theorem on_c (home : List (List Int)) (l : List Wr) (hl : home.length = 32) (hm : l.length < 4611686018427387904) : Ans Try.prog 12 [(HT home, 36), (Ls l, 22)] (HT (onF home l), 36) := by
  refine Ans.body1 WFC.wf Try.func12 rfl rfl rfl (by simp [npL, np, npV, npW, npH, Tag.nt]) (by simp [npL, np, npV, npW, npH, Tag.nt]) ?_
  have hll := Ls_len l
  refine walkD ?_
  refine AW.loopF (fun m t h u' => u' = ⟨[], 0⟩ ∧ ∃ (i : Nat) (cur : List (List Int)), m = l.length - i ∧ i ≤ l.length ∧ h = [⟨.one 36, HT cur⟩, ⟨.one 36, H0⟩] ∧ t = [(2, (.ptr 0 [], 0)), (4, (.ptr 1 [], 0)), (7, (Ls l, 22)), (8, (I ((l.map tW).length : Nat), 3)), (9, (I (i : Nat), 3))] ∧ cur.length = 32 ∧ onF home l = onF cur (l.drop i)) l.length [(2, (.ptr 0 [], 0)), (4, (.ptr 1 [], 0)), (7, (Ls l, 22)), (8, (I ((l.map tW).length : Nat), 3)), (9, (I (0 : Nat), 3))] (.cons rfl (.cons rfl (.cons rfl (.cons rfl (.cons rfl .nil))))) ⟨rfl, 0, home, rfl, Nat.zero_le _, rfl, rfl, hl, rfl⟩ ?_
  rintro m t h u' ⟨rfl, i, cur, rfl, hi, rfl, rfl, hcl, hinv⟩
  by_cases he : i = l.length
  · subst he
    rw [hinv, List.drop_length]
    refine walkD ?_
    exact ⟨.inr rfl, .cell rfl rfl, (fun _ _ _ => ⟨rfl, rfl⟩)⟩
  obtain ⟨w, hw⟩ : ∃ w, l[i]? = some w := ⟨_, List.getElem?_eq_getElem (by omega)⟩
  have hx0 := Ls_get hw
  rw [onF_at hw] at hinv
  by_cases h0 : w.b < 0
  · rw [if_neg (by omega)] at hinv
    refine walkD ?_
    exact ⟨rfl, l.length - (i + 1), [(2, (.ptr 0 [], 0)), (4, (.ptr 1 [], 0)), (7, (Ls l, 22)), (8, (I ((l.map tW).length : Nat), 3)), (9, (I ((i + 1) : Nat), 3))], [⟨.one 36, HT cur⟩, ⟨.one 36, H0⟩], _, by omega, (.cons rfl (.cons rfl (.cons rfl (.cons rfl (.cons rfl .nil))))), rfl, rfl, (by simp [tb, hbB, pb, pbL, pbV, pbW, pbH]), (by simp only [List.length, tb, hbB, pb, pbL, pbV, pbW, pbH]; rfl), rfl, i + 1, cur, rfl, by omega, rfl, rfl, hcl, hinv⟩
  by_cases h32 : 32 ≤ w.b
  · rw [if_neg (by omega)] at hinv
    refine walkD ?_
    exact ⟨rfl, l.length - (i + 1), [(2, (.ptr 0 [], 0)), (4, (.ptr 1 [], 0)), (7, (Ls l, 22)), (8, (I ((l.map tW).length : Nat), 3)), (9, (I ((i + 1) : Nat), 3))], [⟨.one 36, HT cur⟩, ⟨.one 36, H0⟩], _, by omega, (.cons rfl (.cons rfl (.cons rfl (.cons rfl (.cons rfl .nil))))), rfl, rfl, (by simp [tb, hbB, pb, pbL, pbV, pbW, pbH]), (by simp only [List.length, tb, hbB, pb, pbL, pbV, pbW, pbH]; rfl), rfl, i + 1, cur, rfl, by omega, rfl, rfl, hcl, hinv⟩
  · rw [if_pos (by omega)] at hinv
    have hwk := walk36 (i := w.b.toNat) (by omega)
    have hput := HT_put (h := cur) (i := w.b.toNat) w.v (by omega)
    refine walkD ?_
    exact ⟨rfl, l.length - (i + 1), [(2, (.ptr 0 [], 0)), (4, (.ptr 1 [], 0)), (7, (Ls l, 22)), (8, (I ((l.map tW).length : Nat), 3)), (9, (I ((i + 1) : Nat), 3))], [⟨.one 36, HT (cur.set w.b.toNat w.v)⟩, ⟨.one 36, H0⟩], _, by omega, (.cons rfl (.cons rfl (.cons rfl (.cons rfl (.cons rfl .nil))))), rfl, rfl, (by simp [tb, hbB, pb, pbL, pbV, pbW, pbH]), (by simp only [List.length, tb, hbB, pb, pbL, pbV, pbW, pbH]; rfl), rfl, i + 1, (cur.set w.b.toNat w.v), rfl, by omega, rfl, rfl, by rw [List.length_set]; exact hcl, hinv⟩



abbrev w1 : Wr := ⟨5, [1, 0, 0, 0, 0, 0, 0, 0]⟩
abbrev w2 : Wr := ⟨3, [2, 0, 0, 0, 0, 0, 0, 0]⟩
abbrev w3 : Wr := ⟨5, [3, 0, 0, 0, 0, 0, 0, 0]⟩
theorem p1 : Ans Try.prog 7 [(Ls [], 22), (tW w1, 26)] (.tup [Ls [w1], I 0], 30) := put_c [] (by decide) w1
theorem p2 : Ans Try.prog 7 [(Ls [w1], 22), (tW w2, 26)] (.tup [Ls [w2, w1], I 0], 30) := put_c [w1] (by decide) w2
theorem p3 : Ans Try.prog 7 [(Ls [w2, w1], 22), (tW w3, 26)] (.tup [Ls [w2, w3], I 0], 30) := put_c [w2, w1] (by decide) w3

set_option maxHeartbeats 4000000 in
theorem wakes_c  : Ans Try.prog 6 [] (B true, 4) := by
  refine Ans.body1 WFC.wf Try.func6 rfl rfl rfl (by simp [npL, np, npV, npW, Tag.nt]) (by simp [npL, np, npV, npW, Tag.nt]) ?_
  have q1 := p1
  refine walk ?_
  have q2 := p2
  refine walk ?_
  have q3 := p3
  refine walk ?_
  exact ⟨.inr rfl, .tmp rfl, (fun _ _ e => (by cases e))⟩

end Go.Proofs.Ytlpakbhlpgpiaaa
