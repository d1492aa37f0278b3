/- Package overlay: the law of On of Over. -/
import Derived.Test.YtlpakbhlpgpiaaaS5
set_option linter.unusedVariables false
set_option linter.unusedSimpArgs false
namespace Go.Proofs.Ytlpakbhlpgpiaaa
open Go.Am
theorem refw_t {ws : List Wr} (h : WnB ws = true) : Ans Try.prog 10 [(Ls ws, 22)] (B true, 4) := refw_c ws true (WnB_r ws h)
theorem refw_f {ws : List Wr} (h : WnB ws = false) : Ans Try.prog 10 [(Ls ws, 22)] (B false, 4) := refw_c ws false (WnB_r ws h)
theorem eqVs (v : List Int) : EqT Try.prog 10000 24 (V v) (V v) true := by have := eq24 v v rfl; rwa [decide_eq_true rfl] at this

set_option maxHeartbeats 4000000 in
theorem back_x (home : List (List Int)) (xs ys : List Wr) (w : Wr) (h : WnB xs = false) : Ans Try.prog 4 [(HT home, 36), (Ls xs, 22), (Ls ys, 22), (tW w, 26)] (B true, 4) := by
  refine Ans.body1 WFC.wf Try.func4 rfl rfl rfl (by simp [npL, np, npV, npW, npH, Tag.nt]) (by simp [npL, np, npV, npW, npH, Tag.nt]) ?_
  have hwk := wakes_c
  have h1 := refw_f h
  refine walkD ?_
  exact ⟨.inr rfl, .tmp rfl, (fun _ _ e => (by cases e))⟩

set_option maxHeartbeats 4000000 in
theorem back_y (home : List (List Int)) (xs ys : List Wr) (w : Wr) (h : WnB xs = true) (h2 : WnB ys = false) : Ans Try.prog 4 [(HT home, 36), (Ls xs, 22), (Ls ys, 22), (tW w, 26)] (B true, 4) := by
  refine Ans.body1 WFC.wf Try.func4 rfl rfl rfl (by simp [npL, np, npV, npW, npH, Tag.nt]) (by simp [npL, np, npV, npW, npH, Tag.nt]) ?_
  have hwk := wakes_c
  have h1 := refw_t h
  have h3 := refw_f h2
  refine walkD ?_
  exact ⟨.inr rfl, .tmp rfl, (fun _ _ e => (by cases e))⟩

set_option maxHeartbeats 4000000 in
theorem back_err (home : List (List Int)) (xs ys : List Wr) (w : Wr) (hl : home.length = 32) (vh : ∀ v ∈ home, v.length = 8) (vx : ∀ w ∈ xs, w.v.length = 8) (vy : ∀ w ∈ ys, w.v.length = 8) (h : WnB xs = true) (h2 : WnB ys = true) (he : (putF xs w).2 ≠ 0) : Ans Try.prog 4 [(HT home, 36), (Ls xs, 22), (Ls ys, 22), (tW w, 26)] (B true, 4) := by
  refine Ans.body1 WFC.wf Try.func4 rfl rfl rfl (by simp [npL, np, npV, npW, npH, Tag.nt]) (by simp [npL, np, npV, npW, npH, Tag.nt]) ?_
  have hwk := wakes_c
  have h1 := refw_t h
  have h3 := refw_t h2
  have hx8 := (WnB_split.1 h).2
  have hy8 := (WnB_split.1 h2).2
  have hov : Ans Try.prog 11 [(Ls xs, 22), (Ls ys, 22)] (.tup [Ls (foldP xs ys).1, I (foldP xs ys).2], 30) := by
    have := over_c xs ys (by omega) (by omega)
    unfold overF at this
    rw [h, h2] at this
    exact this
  have hyb : ∀ x ∈ ys, 0 ≤ x.b ∧ x.b < 32 := fun x hx => by have := wrB_lt (WnB_split.1 h2).1 x hx; omega
  have hfe := foldP_err (ys := ys) h hyb
  have pa := put_c xs (by omega) w
  by_cases hz : (foldP xs ys).2 = 0
  · obtain ⟨g1, g2, g3⟩ := foldP_ok home h hz
    have hrm := refw_t g1
    have hm8 := (WnB_split.1 g1).2
    rw [hz] at hov
    have vm : ∀ x ∈ (foldP xs ys).1, x.v.length = 8 := fun x hx => by rcases g3 x hx with hx | hx; exact vx x hx; exact vy x hx
    have ho1 := on_c home (foldP xs ys).1 hl (by omega)
    have ho2 := on_c home xs hl (by omega)
    have ho3 := on_c (onF home xs) ys (by rw [onF_len]; exact hl) (by omega)
    rw [g2] at ho1
    have heq := eq36 (onF (onF home xs) ys) (onF (onF home xs) ys) rfl (onF_all (onF_all vh vx) vy) (onF_all (onF_all vh vx) vy)
    rw [decide_eq_true rfl] at heq
    generalize onF (onF home xs) ys = o3 at *
    generalize onF home xs = o2 at *
    generalize (foldP xs ys).1 = fm at *
    refine walkD ?_
    refine AW.drawP [([], [16]), ([0], [111]), ([1, 0], [112]), ([2, 1, 0], [4, 113]), ([2, 1, 0], [16, 113]), ([3, 2, 1, 0, 4], [114, 115, 113]), ([2, 1, 0], [4, 113]), ([2, 1, 0], [1, 113]), ([6, 2, 1, 0, 7, 5, 3, 4], [117, 118, 113]), ([2, 1, 0], [2, 113]), ([8, 6, 2, 1, 0, 7, 5, 3, 4, 9], [119, 120, 113]), ([5, 3, 2, 1, 0, 4, 10, 8, 6, 7, 9], [116, 121, 113]), ([2, 1, 0, 11, 5, 3, 4, 10, 8, 6, 7, 9], [113, 122]), ([12, 2, 1, 0, 11, 5, 3, 4, 10, 8, 6, 7, 9], [123]), ([13, 12, 2, 1, 0, 11, 5, 3, 4, 10, 8, 6, 7, 9], [124]), ([13, 12, 2, 1, 0, 11, 5, 3, 4, 10, 8, 6, 7, 9, 14], [124, 125]), ([15, 13, 12, 2, 1, 0, 11, 5, 3, 4, 10, 8, 6, 7, 9, 14], [126])] [3, 6] [] rfl (by kernel_rfl) ?_
    refine walkG ?_
    refine walkD ?_
    exact ⟨.inr rfl, .tmp rfl, (fun _ _ e => (by cases e))⟩
  · have hf : (foldP xs ys).2 = 50 := by rcases hfe with hfe | hfe; exact absurd hfe hz; exact hfe
    rw [hf] at hov
    refine walkD ?_
    exact ⟨.inr rfl, .tmp rfl, (fun _ _ e => (by cases e))⟩


set_option maxHeartbeats 4000000 in
theorem back_ok (home : List (List Int)) (xs ys : List Wr) (w : Wr) (hl : home.length = 32) (vh : ∀ v ∈ home, v.length = 8) (vx : ∀ w ∈ xs, w.v.length = 8) (vy : ∀ w ∈ ys, w.v.length = 8) (h : WnB xs = true) (h2 : WnB ys = true) (vw : w.v.length = 8) (ho : Ok xs w) : Ans Try.prog 4 [(HT home, 36), (Ls xs, 22), (Ls ys, 22), (tW w, 26)] (B true, 4) := by
  refine Ans.body1 WFC.wf Try.func4 rfl rfl rfl (by simp [npL, np, npV, npW, npH, Tag.nt]) (by simp [npL, np, npV, npW, npH, Tag.nt]) ?_
  have hwk := wakes_c
  have h1 := refw_t h
  have h3 := refw_t h2
  have hx8 := (WnB_split.1 h).2
  have hy8 := (WnB_split.1 h2).2
  have hov : Ans Try.prog 11 [(Ls xs, 22), (Ls ys, 22)] (.tup [Ls (foldP xs ys).1, I (foldP xs ys).2], 30) := by
    have := over_c xs ys (by omega) (by omega)
    unfold overF at this
    rw [h, h2] at this
    exact this
  have hyb : ∀ x ∈ ys, 0 ≤ x.b ∧ x.b < 32 := fun x hx => by have := wrB_lt (WnB_split.1 h2).1 x hx; omega
  have hfe := foldP_err (ys := ys) h hyb
  have pa := put_ok ho
  have hlx := Ls_len xs
  have hli := Ls_len (ins xs w)
  have hlen := ins_len w (WnB_split.1 h).1
  have hi8 := (WnB_split.1 ho.wn').2
  have hlen2 : (ins xs w).length ≤ xs.length + 1 := by rw [hlen]; cases hasB xs w.b <;> simp
  have hgw := get_some (by omega) (getF_ins w xs)
  have hri := refw_t ho.wn'
  have hev := eqVs w.v
  refine walkD ?_
  refine AW.loopF (fun m t h u' => u' = ⟨[], 0⟩ ∧ ∃ i : Nat, m = xs.length - i ∧ i ≤ xs.length ∧ h = [⟨.one 36, HT home⟩, ⟨.one 26, tW w⟩, ⟨.one 24, V w.v⟩] ∧ t = [(1, (Ls xs, 22)), (2, (Ls ys, 22)), (4, (.ptr 0 [], 0)), (7, (.ptr 1 [], 0)), (9, (Ls (ins xs w), 22)), (13, (I (i : Nat), 3))]) (xs.length) [(1, (Ls xs, 22)), (2, (Ls ys, 22)), (4, (.ptr 0 [], 0)), (7, (.ptr 1 [], 0)), (9, (Ls (ins xs w), 22)), (13, (I (0 : Nat), 3))] (.cons rfl (.cons rfl (.cons rfl (.cons rfl (.cons rfl (.cons rfl .nil)))))) ⟨rfl, 0, rfl, Nat.zero_le _, rfl, rfl⟩ ?_
  rintro m t h u' ⟨rfl, i, rfl, hi, rfl, rfl⟩
  by_cases hend : i = xs.length
  · subst hend
    by_cases hz : (foldP xs ys).2 = 0
    · obtain ⟨g1, g2, g3⟩ := foldP_ok home h hz
      have hrm := refw_t g1
      have hm8 := (WnB_split.1 g1).2
      rw [hz] at hov
      have vm : ∀ x ∈ (foldP xs ys).1, x.v.length = 8 := fun x hx => by rcases g3 x hx with hx | hx; exact vx x hx; exact vy x hx
      have ho1 := on_c home (foldP xs ys).1 hl (by omega)
      have ho2 := on_c home xs hl (by omega)
      have ho3 := on_c (onF home xs) ys (by rw [onF_len]; exact hl) (by omega)
      rw [g2] at ho1
      have heq := eq36 (onF (onF home xs) ys) (onF (onF home xs) ys) rfl (onF_all (onF_all vh vx) vy) (onF_all (onF_all vh vx) vy)
      rw [decide_eq_true rfl] at heq
      generalize onF (onF home xs) ys = o3 at *
      generalize onF home xs = o2 at *
      generalize (foldP xs ys).1 = fm at *
      refine walkD ?_
      refine AW.drawP [([], [16]), ([0], [111]), ([1, 0], [112]), ([2, 1, 0], [4, 113]), ([2, 1, 0], [16, 113]), ([3, 2, 1, 0, 4], [114, 115, 113]), ([2, 1, 0], [4, 113]), ([2, 1, 0], [1, 113]), ([6, 2, 1, 0, 7, 5, 3, 4], [117, 118, 113]), ([2, 1, 0], [2, 113]), ([8, 6, 2, 1, 0, 7, 5, 3, 4, 9], [119, 120, 113]), ([5, 3, 2, 1, 0, 4, 10, 8, 6, 7, 9], [116, 121, 113]), ([2, 1, 0, 11, 5, 3, 4, 10, 8, 6, 7, 9], [113, 122]), ([12, 2, 1, 0, 11, 5, 3, 4, 10, 8, 6, 7, 9], [123]), ([13, 12, 2, 1, 0, 11, 5, 3, 4, 10, 8, 6, 7, 9], [124]), ([13, 12, 2, 1, 0, 11, 5, 3, 4, 10, 8, 6, 7, 9, 14], [124, 125]), ([15, 13, 12, 2, 1, 0, 11, 5, 3, 4, 10, 8, 6, 7, 9, 14], [126])] [3, 6] [] rfl (by kernel_rfl) ?_
      refine walkG ?_
      refine walkD ?_
      exact ⟨.inr rfl, .tmp rfl, (fun _ _ e => (by cases e))⟩
    · have hf : (foldP xs ys).2 = 50 := by rcases hfe with hfe | hfe; exact absurd hfe hz; exact hfe
      rw [hf] at hov
      refine walkD ?_
      exact ⟨.inr rfl, .tmp rfl, (fun _ _ e => (by cases e))⟩
  obtain ⟨x, hx⟩ : ∃ x, xs[i]? = some x := ⟨_, List.getElem?_eq_getElem (by omega)⟩
  have hx0 := Ls_get hx
  by_cases hxb : x.b = w.b
  · have hg := hgw
    rw [← hxb] at hg
    refine walkD ?_
    refine AW.drawP [([], [15]), ([0], [71]), ([1, 0], [72]), ([2, 1, 0], [1, 73]), ([2, 1, 0], [13, 73]), ([3, 2, 1, 0, 4], [74, 75, 73]), ([5, 3, 2, 1, 0, 4], [76, 73]), ([6, 5, 3, 2, 1, 0, 4], [77, 73]), ([2, 1, 0], [7, 73]), ([8, 2, 1, 0], [79, 73]), ([7, 6, 5, 3, 2, 1, 0, 4, 9, 8], [78, 80, 73]), ([10, 7, 6, 5, 3, 2, 1, 0, 4, 9, 8], [81, 73]), ([11, 10, 7, 6, 5, 3, 2, 1, 0, 4, 9, 8], [14, 82]), ([11, 10, 7, 6, 5, 3, 2, 1, 0, 4, 9, 8], [1, 82]), ([11, 10, 7, 6, 5, 3, 2, 1, 0, 4, 9, 8], [13, 82]), ([13, 11, 10, 7, 6, 5, 3, 2, 1, 0, 4, 9, 8, 14], [84, 85, 82]), ([15, 13, 11, 10, 7, 6, 5, 3, 2, 1, 0, 4, 9, 8, 14], [86, 82]), ([16, 15, 13, 11, 10, 7, 6, 5, 3, 2, 1, 0, 4, 9, 8, 14], [87, 82]), ([12, 11, 10, 7, 6, 5, 3, 2, 1, 0, 4, 9, 8, 17, 16, 15, 13, 14], [83, 88, 82]), ([11, 10, 7, 6, 5, 3, 2, 1, 0, 4, 9, 8, 18, 12, 17, 16, 15, 13, 14], [82, 89, 73]), ([2, 1, 0, 19, 11, 10, 7, 6, 5, 3, 4, 9, 8, 18, 12, 17, 16, 15, 13, 14], [73, 90])] [5, 6, 7, 8, 9, 12, 15, 16, 17] [] rfl (by kernel_rfl) ?_
    refine walkG ?_
    refine walkD ?_
    exact ⟨rfl, xs.length - (i + 1), [(1, (Ls xs, 22)), (2, (Ls ys, 22)), (4, (.ptr 0 [], 0)), (7, (.ptr 1 [], 0)), (9, (Ls (ins xs w), 22)), (13, (I ((i + 1) : Nat), 3))], [⟨.one 36, HT home⟩, ⟨.one 26, tW w⟩, ⟨.one 24, V w.v⟩], _, by omega, (.cons rfl (.cons rfl (.cons rfl (.cons rfl (.cons rfl (.cons rfl .nil)))))), rfl, rfl, (by simp [tb, hbB, pb, pbL, pbV, pbW, pbH]), (by simp [tb, hbB, pb, pbL, pbV, pbW, pbH]), rfl, i + 1, rfl, by omega, rfl, rfl⟩
  · have hg := get_some (by omega) ((getF_other w x.b hxb xs).trans (getF_at (WnB_split.1 h).1 hx))
    have hev2 := eqVs x.v
    refine walkD ?_
    refine AW.drawP [([], [15]), ([0], [71]), ([1, 0], [72]), ([2, 1, 0], [1, 73]), ([2, 1, 0], [13, 73]), ([3, 2, 1, 0, 4], [74, 75, 73]), ([5, 3, 2, 1, 0, 4], [76, 73]), ([6, 5, 3, 2, 1, 0, 4], [77, 73]), ([2, 1, 0], [7, 73]), ([8, 2, 1, 0], [79, 73]), ([7, 6, 5, 3, 2, 1, 0, 4, 9, 8], [78, 80, 73]), ([10, 7, 6, 5, 3, 2, 1, 0, 4, 9, 8], [81, 73]), ([11, 10, 7, 6, 5, 3, 2, 1, 0, 4, 9, 8], [14, 82]), ([11, 10, 7, 6, 5, 3, 2, 1, 0, 4, 9, 8], [1, 82]), ([11, 10, 7, 6, 5, 3, 2, 1, 0, 4, 9, 8], [13, 82]), ([13, 11, 10, 7, 6, 5, 3, 2, 1, 0, 4, 9, 8, 14], [84, 85, 82]), ([15, 13, 11, 10, 7, 6, 5, 3, 2, 1, 0, 4, 9, 8, 14], [86, 82]), ([16, 15, 13, 11, 10, 7, 6, 5, 3, 2, 1, 0, 4, 9, 8, 14], [87, 82]), ([12, 11, 10, 7, 6, 5, 3, 2, 1, 0, 4, 9, 8, 17, 16, 15, 13, 14], [83, 88, 82]), ([11, 10, 7, 6, 5, 3, 2, 1, 0, 4, 9, 8, 18, 12, 17, 16, 15, 13, 14], [82, 89, 73]), ([2, 1, 0, 19, 11, 10, 7, 6, 5, 3, 4, 9, 8, 18, 12, 17, 16, 15, 13, 14], [73, 90])] [5, 6, 7, 8, 9, 12, 15, 16, 17] [] rfl (by kernel_rfl) ?_
    refine walkG ?_
    refine walkD ?_
    exact ⟨rfl, xs.length - (i + 1), [(1, (Ls xs, 22)), (2, (Ls ys, 22)), (4, (.ptr 0 [], 0)), (7, (.ptr 1 [], 0)), (9, (Ls (ins xs w), 22)), (13, (I ((i + 1) : Nat), 3))], [⟨.one 36, HT home⟩, ⟨.one 26, tW w⟩, ⟨.one 24, V w.v⟩], _, by omega, (.cons rfl (.cons rfl (.cons rfl (.cons rfl (.cons rfl (.cons rfl .nil)))))), rfl, rfl, (by simp [tb, hbB, pb, pbL, pbV, pbW, pbH]), (by simp [tb, hbB, pb, pbL, pbV, pbW, pbH]), rfl, i + 1, rfl, by omega, rfl, rfl⟩


theorem back_c (home : List (List Int)) (xs ys : List Wr) (w : Wr) (hl : home.length = 32) (vh : ∀ v ∈ home, v.length = 8) (vx : ∀ w ∈ xs, w.v.length = 8) (vy : ∀ w ∈ ys, w.v.length = 8) (h : WnB xs = true) (h2 : WnB ys = true) (vw : w.v.length = 8) : Ans Try.prog 4 [(HT home, 36), (Ls xs, 22), (Ls ys, 22), (tW w, 26)] (B true, 4) := by
  by_cases ho : (putF xs w).2 = 0
  · exact back_ok home xs ys w hl vh vx vy h h2 vw (putF_err.1 ho)
  · exact back_err home xs ys w hl vh vx vy h h2 ho
theorem back_all (home : List (List Int)) (xs ys : List Wr) (w : Wr) (hl : home.length = 32) (vh : ∀ v ∈ home, v.length = 8) (vx : ∀ w ∈ xs, w.v.length = 8) (vy : ∀ w ∈ ys, w.v.length = 8) (vw : w.v.length = 8) : Ans Try.prog 4 [(HT home, 36), (Ls xs, 22), (Ls ys, 22), (tW w, 26)] (B true, 4) := by
  cases h : WnB xs with
  | false => exact back_x home xs ys w h
  | true =>
    cases h2 : WnB ys with
    | false => exact back_y home xs ys w h h2
    | true => exact back_c home xs ys w hl vh vx vy h h2 vw
end Go.Proofs.Ytlpakbhlpgpiaaa
