/- Law 10: what it calls. -/
import Derived.Test.YtecacooabofloaaT4
/- Law 10: what it calls. -/
set_option linter.unusedVariables false
set_option linter.unusedSimpArgs false
set_option maxRecDepth 100000
namespace Go.Proofs.Ytecacooabofloaa
open Go.Am

set_option maxRecDepth 100000 in
set_option maxHeartbeats 4000000 in
theorem great_c (r : Rc) : Ans Try.prog 5 [(tR r, 43)] (B (decide (40 < ((r.ws.map tW).length : Int))), 4) := by
  refine Ans.body1 WFC.wf Try.func5 rfl rfl rfl (by simp [npL, npRc]) rfl ?_
  refine walkD ?_
  exact ⟨.inr rfl, .tmp rfl, (fun _ _ e => (by cases e))⟩

set_option maxRecDepth 100000 in
set_option maxHeartbeats 4000000 in
theorem name7_c (n : Int) : Ans Try.prog 7 [(I n, 3)] (.st [I n, I 1, I 1], 38) := by
  refine Ans.body1 WFC.wf Try.func7 rfl rfl rfl rfl rfl ?_
  refine walkD ?_
  exact ⟨.inr rfl, .cell rfl rfl, (fun _ _ e => (by cases e; exact ⟨rfl, rfl⟩))⟩

abbrev wk1 : Rc := ⟨2, ⟨1, 1, 1⟩, false, [⟨3, [7, 0, 0, 0, 0, 0, 0, 0]⟩], 0, 0, 0, 0, 0, 0⟩
abbrev wk2 : Rc := ⟨2, ⟨2, 1, 1⟩, false, [], 0, 0, 0, 0, 0, 0⟩
abbrev wk3 : Rc := ⟨3, ⟨1, 1, 1⟩, true, [], 0, 0, 0, 0, 0, 0⟩
abbrev ws0 : Sx := ⟨0, List.replicate 32 (List.replicate 8 0), [], 0⟩
abbrev ws1 : Sx := ⟨0, List.replicate 32 (List.replicate 8 0), [PR wk1], 1⟩
abbrev ws2 : Sx := ⟨0, List.replicate 32 (List.replicate 8 0), [PR wk1, PR wk2], 2⟩
abbrev ws3 : Sx := ⟨0, (List.replicate 32 (List.replicate 8 0)).set 3 [7, 0, 0, 0, 0, 0, 0, 0], [PR wk2], 3⟩
theorem wkm1 : mayB wk1 = true := by kernel_rfl
theorem wkm2 : mayB wk2 = true := by kernel_rfl
theorem wkm3 : mayB wk3 = true := by kernel_rfl
theorem wka1 : Ans Try.prog 6 [(tX ws0, 34), (tR wk1, 43)] (.tup [tX ws1, I 0], 45) := by
  have h := may_c wk1 (by decide) (by decide) (by decide) (by decide)
  rw [wkm1] at h
  exact apply_x ws0 wk1 true h (by decide) rfl (by decide) (fun p hp => by cases hp) (by decide)
theorem wka2 : Ans Try.prog 6 [(tX ws1, 34), (tR wk2, 43)] (.tup [tX ws2, I 0], 45) := by
  have h := may_c wk2 (by decide) (by decide) (by decide) (by decide)
  rw [wkm2] at h
  exact apply_x ws1 wk2 true h (by decide) rfl (by decide) (by decide) (by decide)
theorem wka3 : Ans Try.prog 6 [(tX ws2, 34), (tR wk3, 43)] (.tup [tX ws3, I 0], 45) := by
  have h := may_c wk3 (by decide) (by decide) (by decide) (by decide)
  rw [wkm3] at h
  exact apply_x ws2 wk3 true h (by decide) rfl (by decide) (by decide) (by decide)

set_option maxRecDepth 100000 in
set_option maxHeartbeats 4000000 in
theorem wakes_c : Ans Try.prog 4 [] (B true, 4) := by
  have a1 := wka1
  have a2 := wka2
  have a3 := wka3
  have n1 := name7_c 1
  have n2 := name7_c 2
  refine Ans.body1 WFC.wf Try.func4 rfl rfl rfl rfl rfl ?_
  refine walkD ?_
  refine AW.drawR (fun h => h[0]? = some ⟨.one 34, ZS⟩) [([], [1]), ([], []), ([], [2]), ([1, 2], [14, 15]), ([0, 3, 1, 2], [13, 16]), ([4, 0, 3, 1, 2], [17]), ([5, 4, 0, 3, 1, 2], [12]), ([5, 4, 0, 3, 1, 2], [12]), ([], []), ([8, 6, 5, 4, 0, 3, 1, 2], [3, 18]), ([7, 5, 4, 0, 3, 1, 2, 9, 8, 6], [19])] [8, 9] [8, 9] rfl rfl (by kernel_rfl) ?_
  refine walkG ?_
  refine D.fn (r := (.tup [tX ws1, I 0], 45)) rfl a1 rfl rfl trivial (fun _ _ => .cons (.wk rfl ⟨rfl, rfl⟩ (wkS (tU 0 0 0 0 0 Z8) LG (List.replicate 32 (List.replicate 8 0)) [] .nil 0)) (.cons (.wk rfl ⟨rfl, rfl⟩ (wkR wk1 .full)) .nil)) ?_
  refine walkG ?_
  refine walkD ?_
  refine AW.drawR (fun h => h[1]? = some ⟨.one 34, tX ws1⟩) [([], [3]), ([], []), ([1], [22]), ([0, 2, 1], [21, 23]), ([3, 0, 2, 1], [24]), ([4, 3, 0, 2, 1], [20]), ([4, 3, 0, 2, 1], [20]), ([], []), ([7, 5, 4, 3, 0, 2, 1], [5, 25]), ([6, 4, 3, 0, 2, 1, 8, 7, 5], [26])] [7, 8] [7, 8] rfl rfl (by kernel_rfl) ?_
  refine walkG ?_
  refine D.fn (r := (.tup [tX ws2, I 0], 45)) rfl a2 rfl rfl trivial (fun _ _ => .cons (.tmp rfl ⟨rfl, rfl⟩) (.cons (.wk rfl ⟨rfl, rfl⟩ (wkR wk2 .nil)) .nil)) ?_
  refine walkG ?_
  refine walkD ?_
  refine AW.drawR (fun h => h[2]? = some ⟨.one 34, tX ws2⟩) [([], [5]), ([], []), ([1], [29]), ([0, 2, 1], [28, 30]), ([3, 0, 2, 1], [31]), ([4, 3, 0, 2, 1], [27]), ([4, 3, 0, 2, 1], [27]), ([], []), ([7, 5, 4, 3, 0, 2, 1], [7, 32]), ([6, 4, 3, 0, 2, 1, 8, 7, 5], [33])] [7, 8] [7, 8] rfl rfl (by kernel_rfl) ?_
  refine walkG ?_
  refine D.fn (r := (.tup [tX ws3, I 0], 45)) rfl a3 rfl rfl trivial (fun _ _ => .cons (.tmp rfl ⟨rfl, rfl⟩) (.cons (.wk rfl ⟨rfl, rfl⟩ (wkR wk3 .nil)) .nil)) ?_
  refine walkG ?_
  refine walkD ?_
  exact ⟨.inr rfl, .tmp rfl, (fun _ _ e => (by cases e))⟩

end Go.Proofs.Ytecacooabofloaa

/- RecoverAgain: the law. -/
set_option linter.unusedVariables false
set_option linter.unusedSimpArgs false
set_option maxRecDepth 100000
namespace Go.Proofs.Ytecacooabofloaa
open Go.Am
abbrev LR (l : List Rc) : T := .lst (l.map tR) .no
theorem npRL (l : List Rc) : npL (l.map tR) = true := npL_iff.2 (fun x hx => by obtain ⟨n, _, rfl⟩ := List.mem_map.1 hx; exact npRc n)
theorem pbRL (k : Nat) (l : List Rc) : pbL k (l.map tR) = true := pbL_iff.2 (fun x hx => by obtain ⟨n, _, rfl⟩ := List.mem_map.1 hx; simp [pb, pbL, pbW])
theorem pbP (k : Nat) (l : List Pr) : pbL k (l.map tP) = true := pbL_iff.2 (fun x hx => by obtain ⟨n, _, rfl⟩ := List.mem_map.1 hx; simp [pb, pbL, pbW])
theorem LR_get {l : List Rc} {i : Nat} {w : Rc} (h : l[i]? = some w) : (l.map tR)[((i : Int)).toNat]? = some (tR w) := by
  rw [Int.toNat_natCast, List.getElem?_map, h]; rfl
theorem eqH0 : ∀ {n : Nat} (h : List (List Int)), EqA Try.prog (n + 1 + 1) 23 (h.map V) (h.map V) true
  | n, [] => EqA.nil
  | n, v :: h => by
    have h1 := eqV (n := n) v v rfl
    rw [decide_eq_true rfl] at h1
    exact EqA.cons (b1 := true) (b2 := true) rfl rfl (EqT.arr WFC.wf (by decide) Try.underlying23 rfl rfl h1) (eqH0 h)
theorem eqH (h : List (List Int)) : EqT Try.prog 10000 24 (HT h) (HT h) true := EqT.arr WFC.wf (by decide) Try.underlying24 rfl rfl (eqH0 h)
/-- A record, applied if it may be. -/
def tryX (s : Sx) (r : Rc) : Sx := if okX r (mayB r) then stepX s r else s
def passX (s : Sx) (l : List Rc) : Sx := l.foldl tryX s
/-- Records that are not too great, as they are read. -/
structure RcOk (r : Rc) : Prop where
  lo : -128 ≤ r.k
  hi : r.k ≤ 127
  v8 : ∀ w ∈ r.ws, w.v.length = 8
structure SxOk (s : Sx) (n : Nat) : Prop where
  hh : s.home.length = 32
  ds : s.ds.length ≤ n
  ws : ∀ p ∈ s.ds, p.ws.length ≤ 40
theorem dsF_ok {ds : List Pr} {r : Rc} {n : Nat} (h1 : ds.length ≤ n) (h2 : ∀ p ∈ ds, p.ws.length ≤ 40) (hr : r.ws.length ≤ 40) : (dsF ds r).length ≤ n + 1 ∧ ∀ p ∈ dsF ds r, p.ws.length ≤ 40 := by
  unfold dsF
  split
  · split
    · refine ⟨by rw [List.length_set]; omega, fun p hp => ?_⟩
      rcases List.mem_or_eq_of_mem_set hp with hp | rfl
      · exact h2 p hp
      · exact hr
    · refine ⟨by simp; omega, fun p hp => ?_⟩
      rcases List.mem_append.1 hp with hp | hp
      · exact h2 p hp
      · rw [List.mem_singleton.1 hp]; exact hr
  · split
    · exact ⟨Nat.le_trans (List.length_eraseIdx_le _ _) (by omega), fun p hp => h2 p (List.mem_of_mem_eraseIdx hp)⟩
    · exact ⟨by omega, h2⟩
theorem SxOk.step {s : Sx} {n : Nat} (h : SxOk s n) {r : Rc} (hr : r.ws.length ≤ 40) : SxOk (tryX s r) (n + 1) := by
  unfold tryX
  split
  · obtain ⟨h1, h2⟩ := dsF_ok h.ds h.ws hr
    exact ⟨by show (onF _ _).length = _; rw [onF_len]; exact h.hh, h1, h2⟩
  · exact ⟨h.hh, Nat.le_succ_of_le h.ds, h.ws⟩
theorem passX_snoc {l : List Rc} {i : Nat} {r : Rc} (h : l[i]? = some r) (s : Sx) : tryX (passX s (l.take i)) r = passX s (l.take (i + 1)) := by
  have e : l.take (i + 1) = l.take i ++ [r] := by rw [List.take_add_one, h]; rfl
  rw [e]; simp [passX]
theorem passX_ok {l : List Rc} (s : Sx) (h : SxOk s 0) : ∀ i, i ≤ l.length → (∀ j r, j < i → l[j]? = some r → r.ws.length ≤ 40) → SxOk (passX s (l.take i)) i
  | 0, _, _ => by rw [List.take_zero]; exact h
  | i + 1, hi, hl => by
    have hg : l[i]? = some l[i] := List.getElem?_eq_getElem (by omega)
    rw [← passX_snoc hg]
    exact (passX_ok s h i (by omega) fun j r hj hr => hl j r (by omega) hr).step (hl i _ (by omega) hg)
theorem apply_t {s : Sx} {n : Nat} (h : SxOk s n) (hn : n ≤ 40) {r : Rc} (hr : RcOk r) (hw : r.ws.length ≤ 40) :
    Ans Try.prog 6 [(tX s, 34), (tR r, 43)] (.tup [if okX r (mayB r) then tX (stepX s r) else ZS, I (if okX r (mayB r) then 0 else 2)], 45) :=
  apply_x s r (mayB r) (may_c r hr.lo hr.hi (by omega) hr.v8) hr.hi h.hh (by have := h.ds; omega) (fun p hp => by have := h.ws p hp; omega) (by omega)

set_option maxHeartbeats 4000000 in
theorem law_long (home : List (List Int)) (l : List Rc) (h : 40 < l.length) : Ans Try.prog 3 [(HT home, 24), (LR l, 25)] (B true, 4) := by
  refine Ans.body1 WFC.wf Try.func3 rfl rfl rfl (by simp [npL, np, npU, npV, npW, npH, npRL, Tag.nt]) (by simp [npL, np, npU, npV, npW, npH, npRL, Tag.nt]) ?_
  have hwk := wakes_c
  have hl : (l.map tR).length = l.length := List.length_map _
  refine walkD ?_
  exact ⟨.inr rfl, .tmp rfl, (fun _ _ e => (by cases e))⟩

set_option maxHeartbeats 4000000 in
theorem law_c (home : List (List Int)) (l : List Rc) (h32 : home.length = 32) (hok : ∀ r ∈ l, RcOk r) (h40 : l.length ≤ 40) (heq : (passX ⟨(passX ⟨0, home, [], 0⟩ l).ow, (passX ⟨0, home, [], 0⟩ l).home, [], (passX ⟨0, home, [], 0⟩ l).ap⟩ l).home = (passX ⟨0, home, [], 0⟩ l).home) : Ans Try.prog 3 [(HT home, 24), (LR l, 25)] (B true, 4) := by
  refine Ans.body1 WFC.wf Try.func3 rfl rfl rfl (by simp [npL, np, npU, npV, npW, npH, npRL, Tag.nt]) (by simp [npL, np, npU, npV, npW, npH, npRL, Tag.nt]) ?_
  have hwk := wakes_c
  have hl : (l.map tR).length = l.length := List.length_map _
  refine walkD ?_
  refine AW.weakO (b := 1) (y := tX ⟨0, home, [], 0⟩) rfl (wkS (tU 0 0 0 0 0 Z8) LG home [] .nil 0) rfl ?_
  refine AW.loopF (fun m t h u' => u' = ⟨[], 0⟩ ∧ ∃ i : Nat, m = l.length - i ∧ i ≤ l.length ∧ h = [⟨.one 24, HT home⟩, ⟨.one 34, tX (passX ⟨0, home, [], 0⟩ (l.take i))⟩] ∧ t = [(1, (LR l, 25)), (2, (.ptr 0 [], 0)), (4, (B false, 4)), (5, (.ptr 1 [], 0)), (6, (I (i : Nat), 3))] ∧ (∀ j r, j < i → l[j]? = some r → r.ws.length ≤ 40)) (l.length) [(1, (LR l, 25)), (2, (.ptr 0 [], 0)), (4, (B false, 4)), (5, (.ptr 1 [], 0)), (6, (I (0 : Nat), 3))] (.cons rfl (.cons rfl (.cons rfl (.cons rfl (.cons rfl .nil))))) ⟨rfl, 0, rfl, Nat.zero_le _, rfl, rfl, (fun j r hj => absurd hj (Nat.not_lt_zero _))⟩ ?_
  rintro m t h u' ⟨rfl, i, rfl, hi, rfl, rfl, hinv⟩
  have hs := passX_ok ⟨0, home, [], 0⟩ ⟨h32, Nat.zero_le _, fun p hp => by cases hp⟩ i hi hinv
  by_cases he : i = l.length
  · subst he
    rw [List.take_length] at hs ⊢
    generalize passX ⟨0, home, [], 0⟩ l = S at hs heq
    refine walkD ?_
    refine AW.weakO (b := 2) (y := tX ⟨S.ow, S.home, [], S.ap⟩) rfl (wkS (tU 0 0 S.ow 0 0 Z8) LG S.home [] .nil S.ap) rfl ?_
    refine AW.loopF (fun m t h u' => u' = ⟨[], 0⟩ ∧ ∃ k : Nat, m = l.length - k ∧ k ≤ l.length ∧ h = [⟨.one 24, HT home⟩, ⟨.one 34, tX S⟩, ⟨.one 34, tX (passX ⟨S.ow, S.home, [], S.ap⟩ (l.take k))⟩] ∧ t = [(1, (LR l, 25)), (2, (.ptr 0 [], 0)), (4, (B false, 4)), (5, (.ptr 1 [], 0)), (9, (.ptr 2 [], 0)), (10, (I (k : Nat), 3))]) (l.length) [(1, (LR l, 25)), (2, (.ptr 0 [], 0)), (4, (B false, 4)), (5, (.ptr 1 [], 0)), (9, (.ptr 2 [], 0)), (10, (I (0 : Nat), 3))] (.cons rfl (.cons rfl (.cons rfl (.cons rfl (.cons rfl (.cons rfl .nil)))))) ⟨rfl, 0, rfl, Nat.zero_le _, rfl, rfl⟩ ?_
    rintro m t h u' ⟨rfl, k, rfl, hi, rfl, rfl⟩
    have hs := passX_ok ⟨S.ow, S.home, [], S.ap⟩ ⟨hs.hh, Nat.zero_le _, fun p hp => by cases hp⟩ k hi (fun j r hj hr => hinv j r (by omega) hr)
    by_cases he : k = l.length
    · subst he
      rw [List.take_length]
      have hE := eqH S.home
      rw [← heq] at hE
      generalize hq : passX ⟨S.ow, S.home, [], S.ap⟩ l = S2 at heq hE
      rw [heq] at hE
      obtain ⟨ow2, home2, ds2, ap2⟩ := S2
      have heq : home2 = S.home := heq
      subst heq
      refine walkD ?_
      exact ⟨.inr rfl, .tmp rfl, (fun _ _ e => (by cases e))⟩
    obtain ⟨r, hr⟩ : ∃ w, l[k]? = some w := ⟨_, List.getElem?_eq_getElem (by omega)⟩
    have hx0 := LR_get hr
    have hro := hok r (List.mem_of_getElem? hr)
    have hw' := hinv k r (by omega) hr
    have ha := apply_t hs (by omega) hro hw'
    have hsn := passX_snoc hr ⟨S.ow, S.home, [], S.ap⟩
    generalize passX ⟨S.ow, S.home, [], S.ap⟩ (l.take k) = s0 at hs ha hsn
    unfold tryX at hsn
    by_cases hk : okX r (mayB r) = true
    · rw [if_pos hk, if_pos hk] at ha
      rw [if_pos hk] at hsn
      refine walkD ?_
      refine AW.drawR (fun h => h[2]? = some ⟨.one 34, tX s0⟩) [([], [9]), ([], [1]), ([], [10]), ([1, 2], [53, 54]), ([3, 1, 2], [55]), ([0, 4, 3, 1, 2], [52, 56]), ([5, 0, 4, 3, 1, 2], [57]), ([6, 5, 0, 4, 3, 1, 2], [51]), ([6, 5, 0, 4, 3, 1, 2], [51]), ([], []), ([9, 7, 6, 5, 0, 4, 3, 1, 2], [11, 58]), ([8, 6, 5, 0, 4, 3, 1, 2, 10, 9, 7], [59])] [9, 10] [9, 10] rfl rfl (by kernel_rfl) ?_
      refine walkG ?_
      refine walkD ?_
      rw [hsn]
      exact ⟨rfl, l.length - (k + 1), [(1, (LR l, 25)), (2, (.ptr 0 [], 0)), (4, (B false, 4)), (5, (.ptr 1 [], 0)), (9, (.ptr 2 [], 0)), (10, (I ((k + 1) : Nat), 3))], [⟨.one 24, HT home⟩, ⟨.one 34, tX S⟩, ⟨.one 34, tX (passX ⟨S.ow, S.home, [], S.ap⟩ (l.take (k + 1)))⟩], _, by omega, (.cons rfl (.cons rfl (.cons rfl (.cons rfl (.cons rfl (.cons rfl .nil)))))), rfl, rfl, (by simp [tb, hbB, pb, pbL, pbU, pbV, pbW, pbH, pbRL, pbP]), (by simp [tb, hbB, pb, pbL, pbU, pbV, pbW, pbH, pbRL, pbP]), rfl, k + 1, rfl, by omega, rfl, rfl⟩
    · rw [if_neg hk, if_neg hk] at ha
      rw [if_neg hk] at hsn
      refine walkD ?_
      refine AW.drawR (fun h => h[2]? = some ⟨.one 34, tX s0⟩) [([], [9]), ([], [1]), ([], [10]), ([1, 2], [53, 54]), ([3, 1, 2], [55]), ([0, 4, 3, 1, 2], [52, 56]), ([5, 0, 4, 3, 1, 2], [57]), ([6, 5, 0, 4, 3, 1, 2], [51]), ([6, 5, 0, 4, 3, 1, 2], [51]), ([], []), ([9, 7, 6, 5, 0, 4, 3, 1, 2], [11, 58]), ([8, 6, 5, 0, 4, 3, 1, 2, 10, 9, 7], [59])] [9, 10] [9, 10] rfl rfl (by kernel_rfl) ?_
      refine walkG ?_
      refine walkD ?_
      rw [hsn]
      exact ⟨rfl, l.length - (k + 1), [(1, (LR l, 25)), (2, (.ptr 0 [], 0)), (4, (B false, 4)), (5, (.ptr 1 [], 0)), (9, (.ptr 2 [], 0)), (10, (I ((k + 1) : Nat), 3))], [⟨.one 24, HT home⟩, ⟨.one 34, tX S⟩, ⟨.one 34, tX (passX ⟨S.ow, S.home, [], S.ap⟩ (l.take (k + 1)))⟩], _, by omega, (.cons rfl (.cons rfl (.cons rfl (.cons rfl (.cons rfl (.cons rfl .nil)))))), rfl, rfl, (by simp [tb, hbB, pb, pbL, pbU, pbV, pbW, pbH, pbRL, pbP]), (by simp [tb, hbB, pb, pbL, pbU, pbV, pbW, pbH, pbRL, pbP]), rfl, k + 1, rfl, by omega, rfl, rfl⟩

  obtain ⟨r, hr⟩ : ∃ w, l[i]? = some w := ⟨_, List.getElem?_eq_getElem (by omega)⟩
  have hx0 := LR_get hr
  have hro := hok r (List.mem_of_getElem? hr)
  have hg := great_c r
  by_cases hw : 40 < ((r.ws.map tW).length : Int)
  · rw [decide_eq_true hw] at hg
    refine walkD ?_
    exact ⟨.inr rfl, .tmp rfl, (fun _ _ e => (by cases e))⟩
  rw [decide_eq_false hw] at hg
  have hw' : r.ws.length ≤ 40 := by rw [List.length_map] at hw; omega
  have ha := apply_t hs (by omega) hro hw'
  have hsn := passX_snoc hr ⟨0, home, [], 0⟩
  generalize passX ⟨0, home, [], 0⟩ (l.take i) = s0 at hs ha hsn
  unfold tryX at hsn
  by_cases hk : okX r (mayB r) = true
  · rw [if_pos hk, if_pos hk] at ha
    rw [if_pos hk] at hsn
    refine walkD ?_
    refine AW.drawR (fun h => h[1]? = some ⟨.one 34, tX s0⟩) [([], [5]), ([], [1]), ([], [6]), ([1, 2], [33, 34]), ([3, 1, 2], [35]), ([0, 4, 3, 1, 2], [32, 36]), ([5, 0, 4, 3, 1, 2], [37]), ([6, 5, 0, 4, 3, 1, 2], [31]), ([6, 5, 0, 4, 3, 1, 2], [31]), ([], []), ([9, 7, 6, 5, 0, 4, 3, 1, 2], [7, 38]), ([8, 6, 5, 0, 4, 3, 1, 2, 10, 9, 7], [39])] [9, 10] [9, 10] rfl rfl (by kernel_rfl) ?_
    refine walkG ?_
    refine walkD ?_
    rw [hsn]
    exact ⟨rfl, l.length - (i + 1), [(1, (LR l, 25)), (2, (.ptr 0 [], 0)), (4, (B false, 4)), (5, (.ptr 1 [], 0)), (6, (I ((i + 1) : Nat), 3))], [⟨.one 24, HT home⟩, ⟨.one 34, tX (passX ⟨0, home, [], 0⟩ (l.take (i + 1)))⟩], _, by omega, (.cons rfl (.cons rfl (.cons rfl (.cons rfl (.cons rfl .nil))))), rfl, rfl, (by simp [tb, hbB, pb, pbL, pbU, pbV, pbW, pbH, pbRL, pbP]), (by simp [tb, hbB, pb, pbL, pbU, pbV, pbW, pbH, pbRL, pbP]), rfl, i + 1, rfl, by omega, rfl, rfl, fun j r2 hj hr2 => by
      by_cases hji : j = i
      · subst hji; rw [hr] at hr2; cases hr2; exact hw'
      · exact hinv j r2 (by omega) hr2⟩
  · rw [if_neg hk, if_neg hk] at ha
    rw [if_neg hk] at hsn
    refine walkD ?_
    refine AW.drawR (fun h => h[1]? = some ⟨.one 34, tX s0⟩) [([], [5]), ([], [1]), ([], [6]), ([1, 2], [33, 34]), ([3, 1, 2], [35]), ([0, 4, 3, 1, 2], [32, 36]), ([5, 0, 4, 3, 1, 2], [37]), ([6, 5, 0, 4, 3, 1, 2], [31]), ([6, 5, 0, 4, 3, 1, 2], [31]), ([], []), ([9, 7, 6, 5, 0, 4, 3, 1, 2], [7, 38]), ([8, 6, 5, 0, 4, 3, 1, 2, 10, 9, 7], [39])] [9, 10] [9, 10] rfl rfl (by kernel_rfl) ?_
    refine walkG ?_
    refine walkD ?_
    rw [hsn]
    exact ⟨rfl, l.length - (i + 1), [(1, (LR l, 25)), (2, (.ptr 0 [], 0)), (4, (B false, 4)), (5, (.ptr 1 [], 0)), (6, (I ((i + 1) : Nat), 3))], [⟨.one 24, HT home⟩, ⟨.one 34, tX (passX ⟨0, home, [], 0⟩ (l.take (i + 1)))⟩], _, by omega, (.cons rfl (.cons rfl (.cons rfl (.cons rfl (.cons rfl .nil))))), rfl, rfl, (by simp [tb, hbB, pb, pbL, pbU, pbV, pbW, pbH, pbRL, pbP]), (by simp [tb, hbB, pb, pbL, pbU, pbV, pbW, pbH, pbRL, pbP]), rfl, i + 1, rfl, by omega, rfl, rfl, fun j r2 hj hr2 => by
      by_cases hji : j = i
      · subst hji; rw [hr] at hr2; cases hr2; exact hw'
      · exact hinv j r2 (by omega) hr2⟩


end Go.Proofs.Ytecacooabofloaa

/- RecoverAgain: the plain law: a row of records makes the same writes whatever the blocks are, and a row of writes twice is the row once. -/
set_option linter.unusedVariables false
set_option linter.unusedSimpArgs false
namespace Go.Proofs.Ytecacooabofloaa
open Go.Am
theorem onF_app : ∀ (a : List Wr) (h : List (List Int)) (b : List Wr), onF h (a ++ b) = onF (onF h a) b
  | [], h, b => rfl
  | w :: a, h, b => by rw [List.cons_append, onF, onF, onF_app a]
/-- What was written last at a place. -/
def lwF : List Wr → Nat → Option (List Int)
  | [], _ => none
  | w :: l, j => match lwF l j with
    | some v => some v
    | none => if (0 ≤ w.b ∧ w.b < 32) ∧ w.b.toNat = j then some w.v else none
theorem onF_get : ∀ (l : List Wr) (h : List (List Int)) (j : Nat), j < h.length → (onF h l)[j]? = (match lwF l j with | some v => some v | none => h[j]?)
  | [], h, j, _ => rfl
  | w :: l, h, j, hj => by
    have hl : (if 0 ≤ w.b ∧ w.b < 32 then h.set w.b.toNat w.v else h).length = h.length := by split <;> simp
    rw [onF, onF_get l _ j (by rw [hl]; exact hj)]
    simp only [lwF]
    cases lwF l j with
    | some v => rfl
    | none =>
      by_cases h1 : 0 ≤ w.b ∧ w.b < 32
      · by_cases h2 : w.b.toNat = j
        · simp only [h1, h2, and_self, if_true]
          rw [List.getElem?_set_self hj]
        · simp only [h1, h2, and_false, if_true, if_false, and_self]
          rw [List.getElem?_set_ne h2]
      · simp only [h1, false_and, if_false]
theorem onF_twice (l : List Wr) (h : List (List Int)) : onF (onF h l) l = onF h l := by
  apply List.ext_getElem?
  intro j
  by_cases hj : j < h.length
  · rw [onF_get l (onF h l) j (by rw [onF_len]; exact hj), onF_get l h j hj]
    cases lwF l j <;> rfl
  · rw [List.getElem?_eq_none (by rw [onF_len, onF_len]; omega), List.getElem?_eq_none (by rw [onF_len]; omega)]
/-- All writes that a row of records makes. -/
def allW : List Pr → List Rc → List Wr
  | _, [] => []
  | ds, r :: l => (if okX r (mayB r) then wsF ds r else []) ++ allW (if okX r (mayB r) then dsF ds r else ds) l
theorem pass_home : ∀ (l : List Rc) (s : Sx), (passX s l).home = onF s.home (allW s.ds l)
  | [], s => rfl
  | r :: l, s => by
    have h : passX s (r :: l) = passX (tryX s r) l := rfl
    rw [h, pass_home l, allW, onF_app]
    unfold tryX
    split <;> rfl
theorem again (home : List (List Int)) (l : List Rc) : (passX ⟨(passX ⟨0, home, [], 0⟩ l).ow, (passX ⟨0, home, [], 0⟩ l).home, [], (passX ⟨0, home, [], 0⟩ l).ap⟩ l).home = (passX ⟨0, home, [], 0⟩ l).home := by
  rw [pass_home, pass_home]
  exact onF_twice _ _
theorem law_all (home : List (List Int)) (l : List Rc) (h32 : home.length = 32) (hok : ∀ r ∈ l, RcOk r) : Ans Try.prog 3 [(HT home, 24), (LR l, 25)] (B true, 4) := by
  by_cases h : 40 < l.length
  · exact law_long home l h
  · exact law_c home l h32 hok (by omega) (again home l)
end Go.Proofs.Ytecacooabofloaa
