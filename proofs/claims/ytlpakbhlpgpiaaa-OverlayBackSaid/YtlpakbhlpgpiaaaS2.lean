/- Package overlay: the reference's Written, Get, Put. -/
import Derived.Test.YtlpakbhlpgpiaaaS1
set_option linter.unusedVariables false
set_option linter.unusedSimpArgs false
namespace Go.Proofs.Ytlpakbhlpgpiaaa
open Go.Am
abbrev HM : Nat := 4611686018427387904
theorem lastB_ge (ws : List Wr) : ∀ i, i ≤ ws.length → (∀ j, j < i → okAt ws j) → -1 ≤ lastB ws i ∧ (0 < i → 0 ≤ lastB ws i)
  | 0, _, _ => ⟨by simp [lastB], fun h => absurd h (Nat.lt_irrefl 0)⟩
  | i + 1, hi, h => by
    have ih := lastB_ge ws i (by omega) (fun j hj => h j (by omega))
    obtain ⟨w, hw⟩ : ∃ w, ws[i]? = some w := ⟨_, List.getElem?_eq_getElem (by omega)⟩
    have := h i (by omega) w hw
    have e : lastB ws (i + 1) = w.b := by simp only [lastB, hw]
    rw [e]
    exact ⟨by omega, fun _ => by omega⟩

set_option maxHeartbeats 4000000 in
theorem refw_c (ws : List Wr) (r : Bool) (hr : r = true ↔ Wn ws) : Ans Try.prog 10 [(Ls ws, 22)] (B r, 4) := by
  refine Ans.body1 WFC.wf Try.func10 rfl rfl rfl (by simp [npL, np, npV, npW, Tag.nt]) (by simp [npL, np, npV, npW, Tag.nt]) ?_
  have hl := Ls_len ws
  by_cases h8 : 8 < ws.length
  · have hf : r = false := by rw [Bool.eq_false_iff]; intro h; have := (hr.1 h).len; omega
    subst hf
    refine walkD ?_
    exact ⟨.inr rfl, .tmp rfl, (fun _ _ e => (by cases e))⟩
  refine walkD ?_
  refine AW.loopF (fun m t h u' => u' = ⟨[], 0⟩ ∧ ∃ i : Nat, m = ws.length - i ∧ i ≤ ws.length ∧ h = [] ∧ t = [(0, (Ls ws, 22)), (3, (I (i : Nat), 3))] ∧ (∀ j, j < i → okAt ws j)) (ws.length) [(0, (Ls ws, 22)), (3, (I (0 : Nat), 3))] (.cons rfl (.cons rfl .nil)) ⟨rfl, 0, rfl, Nat.zero_le _, rfl, rfl, (fun j h => by omega)⟩ ?_
  rintro m t h u' ⟨rfl, i, rfl, hi, rfl, rfl, hinv⟩
  by_cases he : i = ws.length
  · subst he
    have ht : r = true := hr.2 ⟨fun j w hj => hinv j (List.getElem?_eq_some_iff.1 hj).1 w hj, by omega⟩
    subst ht
    refine walkD ?_
    exact ⟨.inr rfl, .tmp rfl, (fun _ _ e => (by cases e))⟩
  obtain ⟨w, hw⟩ : ∃ w, ws[i]? = some w := ⟨_, List.getElem?_eq_getElem (by omega)⟩
  have hx0 := Ls_get hw
  obtain ⟨hg1, hg2⟩ := lastB_ge ws i hi hinv
  by_cases hok : lastB ws i < w.b ∧ w.b < 32
  · by_cases h0 : i = 0
    · subst h0
      have e0 : lastB ws 0 = -1 := rfl
      refine walkD ?_
      refine AW.drawP [([], [0]), ([], [3]), ([0, 1], [13, 14]), ([2, 0, 1], [15]), ([3, 2, 0, 1], [16]), ([4, 3, 2, 0, 1], [17]), ([5, 4, 3, 2, 0, 1], [18]), ([6, 5, 4, 3, 2, 0, 1], [0, 19]), ([6, 5, 4, 3, 2, 0, 1], [3, 19]), ([7, 6, 5, 4, 3, 2, 0, 1, 8], [20, 21, 19]), ([9, 7, 6, 5, 4, 3, 2, 0, 1, 8], [22, 19]), ([10, 9, 7, 6, 5, 4, 3, 2, 0, 1, 8], [23, 19]), ([11, 10, 9, 7, 6, 5, 4, 3, 2, 0, 1, 8], [24, 19]), ([6, 5, 4, 3, 2, 0, 1, 12, 11, 10, 9, 7, 8], [19, 25]), ([13, 6, 5, 4, 3, 2, 0, 1, 12, 11, 10, 9, 7, 8], [26]), ([14, 13, 6, 5, 4, 3, 2, 0, 1, 12, 11, 10, 9, 7, 8], [3, 27]), ([15, 14, 13, 6, 5, 4, 3, 2, 0, 1, 12, 11, 10, 9, 7, 8], [28, 27]), ([16, 15, 14, 13, 6, 5, 4, 3, 2, 0, 1, 12, 11, 10, 9, 7, 8], [29, 27]), ([17, 16, 15, 14, 13, 6, 5, 4, 3, 2, 0, 1, 12, 11, 10, 9, 7, 8], [0, 30]), ([17, 16, 15, 14, 13, 6, 5, 4, 3, 2, 0, 1, 12, 11, 10, 9, 7, 8], [3, 30]), ([18, 17, 16, 15, 14, 13, 6, 5, 4, 3, 2, 0, 1, 12, 11, 10, 9, 7, 8, 19], [31, 32, 30]), ([20, 18, 17, 16, 15, 14, 13, 6, 5, 4, 3, 2, 0, 1, 12, 11, 10, 9, 7, 8, 19], [33, 30]), ([21, 20, 18, 17, 16, 15, 14, 13, 6, 5, 4, 3, 2, 0, 1, 12, 11, 10, 9, 7, 8, 19], [34, 30]), ([17, 16, 15, 14, 13, 6, 5, 4, 3, 2, 0, 1, 12, 11, 10, 9, 7, 8], [0, 30]), ([17, 16, 15, 14, 13, 6, 5, 4, 3, 2, 0, 1, 12, 11, 10, 9, 7, 8], [3, 30]), ([24, 17, 16, 15, 14, 13, 6, 5, 4, 3, 2, 0, 1, 12, 11, 10, 9, 7, 8], [37, 30]), ([23, 17, 16, 15, 14, 13, 6, 5, 4, 3, 2, 0, 1, 12, 11, 10, 9, 7, 8, 25, 24], [36, 38, 30]), ([26, 23, 17, 16, 15, 14, 13, 6, 5, 4, 3, 2, 0, 1, 12, 11, 10, 9, 7, 8, 25, 24], [39, 30]), ([27, 26, 23, 17, 16, 15, 14, 13, 6, 5, 4, 3, 2, 0, 1, 12, 11, 10, 9, 7, 8, 25, 24], [40, 30]), ([22, 21, 20, 18, 17, 16, 15, 14, 13, 6, 5, 4, 3, 2, 0, 1, 12, 11, 10, 9, 7, 8, 19, 28, 27, 26, 23, 25, 24], [35, 41, 30]), ([17, 16, 15, 14, 13, 6, 5, 4, 3, 2, 0, 1, 12, 11, 10, 9, 7, 8, 29, 22, 21, 20, 18, 19, 28, 27, 26, 23, 25, 24], [30, 42, 27]), ([14, 13, 6, 5, 4, 3, 2, 0, 1, 12, 11, 10, 9, 7, 8, 30, 17, 16, 15, 29, 22, 21, 20, 18, 19, 28, 27, 26, 23, 25, 24], [27, 43])] [2, 3, 4, 9, 10, 11, 20, 21, 22, 26, 27, 28] [] rfl (by kernel_rfl) ?_
      refine walkG ?_
      refine walkD ?_
      exact ⟨rfl, ws.length - (0 + 1), [(0, (Ls ws, 22)), (3, (I ((0 + 1) : Nat), 3))], [], _, by omega, (.cons rfl (.cons rfl .nil)), rfl, rfl, (by simp [tb, hbB, pb, pbL, pbV, pbW]), (by simp [tb, hbB, pb, pbL, pbV, pbW]), rfl, 0 + 1, rfl, by omega, rfl, rfl, fun j hj w2 hw2 => by
        have hji : j = 0 := by omega
        subst hji; rw [hw] at hw2; cases hw2; exact hok⟩
    · obtain ⟨p, hp⟩ : ∃ p, ws[i - 1]? = some p := ⟨_, List.getElem?_eq_getElem (by omega)⟩
      have hx1 : (ws.map tW)[((i : Int) - 1).toNat]? = some (tW p) := by rw [show ((i : Int) - 1).toNat = i - 1 by omega, List.getElem?_map, hp]; rfl
      have hlp : lastB ws i = p.b := by
        obtain ⟨k, rfl⟩ : ∃ k, i = k + 1 := ⟨i - 1, by omega⟩
        simp only [lastB, Nat.add_sub_cancel] at hp ⊢
        rw [hp]
      refine walkD ?_
      refine AW.drawP [([], [0]), ([], [3]), ([0, 1], [13, 14]), ([2, 0, 1], [15]), ([3, 2, 0, 1], [16]), ([4, 3, 2, 0, 1], [17]), ([5, 4, 3, 2, 0, 1], [18]), ([6, 5, 4, 3, 2, 0, 1], [0, 19]), ([6, 5, 4, 3, 2, 0, 1], [3, 19]), ([7, 6, 5, 4, 3, 2, 0, 1, 8], [20, 21, 19]), ([9, 7, 6, 5, 4, 3, 2, 0, 1, 8], [22, 19]), ([10, 9, 7, 6, 5, 4, 3, 2, 0, 1, 8], [23, 19]), ([11, 10, 9, 7, 6, 5, 4, 3, 2, 0, 1, 8], [24, 19]), ([6, 5, 4, 3, 2, 0, 1, 12, 11, 10, 9, 7, 8], [19, 25]), ([13, 6, 5, 4, 3, 2, 0, 1, 12, 11, 10, 9, 7, 8], [26]), ([14, 13, 6, 5, 4, 3, 2, 0, 1, 12, 11, 10, 9, 7, 8], [3, 27]), ([15, 14, 13, 6, 5, 4, 3, 2, 0, 1, 12, 11, 10, 9, 7, 8], [28, 27]), ([16, 15, 14, 13, 6, 5, 4, 3, 2, 0, 1, 12, 11, 10, 9, 7, 8], [29, 27]), ([17, 16, 15, 14, 13, 6, 5, 4, 3, 2, 0, 1, 12, 11, 10, 9, 7, 8], [0, 30]), ([17, 16, 15, 14, 13, 6, 5, 4, 3, 2, 0, 1, 12, 11, 10, 9, 7, 8], [3, 30]), ([18, 17, 16, 15, 14, 13, 6, 5, 4, 3, 2, 0, 1, 12, 11, 10, 9, 7, 8, 19], [31, 32, 30]), ([20, 18, 17, 16, 15, 14, 13, 6, 5, 4, 3, 2, 0, 1, 12, 11, 10, 9, 7, 8, 19], [33, 30]), ([21, 20, 18, 17, 16, 15, 14, 13, 6, 5, 4, 3, 2, 0, 1, 12, 11, 10, 9, 7, 8, 19], [34, 30]), ([17, 16, 15, 14, 13, 6, 5, 4, 3, 2, 0, 1, 12, 11, 10, 9, 7, 8], [0, 30]), ([17, 16, 15, 14, 13, 6, 5, 4, 3, 2, 0, 1, 12, 11, 10, 9, 7, 8], [3, 30]), ([24, 17, 16, 15, 14, 13, 6, 5, 4, 3, 2, 0, 1, 12, 11, 10, 9, 7, 8], [37, 30]), ([23, 17, 16, 15, 14, 13, 6, 5, 4, 3, 2, 0, 1, 12, 11, 10, 9, 7, 8, 25, 24], [36, 38, 30]), ([26, 23, 17, 16, 15, 14, 13, 6, 5, 4, 3, 2, 0, 1, 12, 11, 10, 9, 7, 8, 25, 24], [39, 30]), ([27, 26, 23, 17, 16, 15, 14, 13, 6, 5, 4, 3, 2, 0, 1, 12, 11, 10, 9, 7, 8, 25, 24], [40, 30]), ([22, 21, 20, 18, 17, 16, 15, 14, 13, 6, 5, 4, 3, 2, 0, 1, 12, 11, 10, 9, 7, 8, 19, 28, 27, 26, 23, 25, 24], [35, 41, 30]), ([17, 16, 15, 14, 13, 6, 5, 4, 3, 2, 0, 1, 12, 11, 10, 9, 7, 8, 29, 22, 21, 20, 18, 19, 28, 27, 26, 23, 25, 24], [30, 42, 27]), ([14, 13, 6, 5, 4, 3, 2, 0, 1, 12, 11, 10, 9, 7, 8, 30, 17, 16, 15, 29, 22, 21, 20, 18, 19, 28, 27, 26, 23, 25, 24], [27, 43])] [2, 3, 4, 9, 10, 11, 20, 21, 22, 26, 27, 28] [] rfl (by kernel_rfl) ?_
      refine walkG ?_
      refine walkD ?_
      exact ⟨rfl, ws.length - (i + 1), [(0, (Ls ws, 22)), (3, (I ((i + 1) : Nat), 3))], [], _, by omega, (.cons rfl (.cons rfl .nil)), rfl, rfl, (by simp [tb, hbB, pb, pbL, pbV, pbW]), (by simp [tb, hbB, pb, pbL, pbV, pbW]), rfl, i + 1, rfl, by omega, rfl, rfl, fun j hj w2 hw2 => by
        by_cases hji : j = i
        · subst hji; rw [hw] at hw2; cases hw2; exact hok
        · exact hinv j (by omega) w2 hw2⟩
  · have hf : r = false := by rw [Bool.eq_false_iff]; intro h; exact hok ((hr.1 h).ok i w hw)
    subst hf
    by_cases hb0 : w.b < 0
    · skip
      refine walkD ?_
      refine AW.drawP [([], [0]), ([], [3]), ([0, 1], [13, 14]), ([2, 0, 1], [15]), ([3, 2, 0, 1], [16]), ([4, 3, 2, 0, 1], [17]), ([5, 4, 3, 2, 0, 1], [18]), ([6, 5, 4, 3, 2, 0, 1], [0, 19]), ([6, 5, 4, 3, 2, 0, 1], [3, 19]), ([7, 6, 5, 4, 3, 2, 0, 1, 8], [20, 21, 19]), ([9, 7, 6, 5, 4, 3, 2, 0, 1, 8], [22, 19]), ([10, 9, 7, 6, 5, 4, 3, 2, 0, 1, 8], [23, 19]), ([11, 10, 9, 7, 6, 5, 4, 3, 2, 0, 1, 8], [24, 19]), ([6, 5, 4, 3, 2, 0, 1, 12, 11, 10, 9, 7, 8], [19, 25]), ([13, 6, 5, 4, 3, 2, 0, 1, 12, 11, 10, 9, 7, 8], [26]), ([14, 13, 6, 5, 4, 3, 2, 0, 1, 12, 11, 10, 9, 7, 8], [3, 27]), ([15, 14, 13, 6, 5, 4, 3, 2, 0, 1, 12, 11, 10, 9, 7, 8], [28, 27]), ([16, 15, 14, 13, 6, 5, 4, 3, 2, 0, 1, 12, 11, 10, 9, 7, 8], [29, 27]), ([17, 16, 15, 14, 13, 6, 5, 4, 3, 2, 0, 1, 12, 11, 10, 9, 7, 8], [0, 30]), ([17, 16, 15, 14, 13, 6, 5, 4, 3, 2, 0, 1, 12, 11, 10, 9, 7, 8], [3, 30]), ([18, 17, 16, 15, 14, 13, 6, 5, 4, 3, 2, 0, 1, 12, 11, 10, 9, 7, 8, 19], [31, 32, 30]), ([20, 18, 17, 16, 15, 14, 13, 6, 5, 4, 3, 2, 0, 1, 12, 11, 10, 9, 7, 8, 19], [33, 30]), ([21, 20, 18, 17, 16, 15, 14, 13, 6, 5, 4, 3, 2, 0, 1, 12, 11, 10, 9, 7, 8, 19], [34, 30]), ([17, 16, 15, 14, 13, 6, 5, 4, 3, 2, 0, 1, 12, 11, 10, 9, 7, 8], [0, 30]), ([17, 16, 15, 14, 13, 6, 5, 4, 3, 2, 0, 1, 12, 11, 10, 9, 7, 8], [3, 30]), ([24, 17, 16, 15, 14, 13, 6, 5, 4, 3, 2, 0, 1, 12, 11, 10, 9, 7, 8], [37, 30]), ([23, 17, 16, 15, 14, 13, 6, 5, 4, 3, 2, 0, 1, 12, 11, 10, 9, 7, 8, 25, 24], [36, 38, 30]), ([26, 23, 17, 16, 15, 14, 13, 6, 5, 4, 3, 2, 0, 1, 12, 11, 10, 9, 7, 8, 25, 24], [39, 30]), ([27, 26, 23, 17, 16, 15, 14, 13, 6, 5, 4, 3, 2, 0, 1, 12, 11, 10, 9, 7, 8, 25, 24], [40, 30]), ([22, 21, 20, 18, 17, 16, 15, 14, 13, 6, 5, 4, 3, 2, 0, 1, 12, 11, 10, 9, 7, 8, 19, 28, 27, 26, 23, 25, 24], [35, 41, 30]), ([17, 16, 15, 14, 13, 6, 5, 4, 3, 2, 0, 1, 12, 11, 10, 9, 7, 8, 29, 22, 21, 20, 18, 19, 28, 27, 26, 23, 25, 24], [30, 42, 27]), ([14, 13, 6, 5, 4, 3, 2, 0, 1, 12, 11, 10, 9, 7, 8, 30, 17, 16, 15, 29, 22, 21, 20, 18, 19, 28, 27, 26, 23, 25, 24], [27, 43])] [2, 3, 4, 9, 10, 11, 20, 21, 22, 26, 27, 28] [] rfl (by kernel_rfl) ?_
      refine walkG ?_
      refine walkD ?_
      exact ⟨.inr rfl, .tmp rfl, (fun _ _ e => (by cases e))⟩
    by_cases hb32 : 32 ≤ w.b
    · skip
      refine walkD ?_
      refine AW.drawP [([], [0]), ([], [3]), ([0, 1], [13, 14]), ([2, 0, 1], [15]), ([3, 2, 0, 1], [16]), ([4, 3, 2, 0, 1], [17]), ([5, 4, 3, 2, 0, 1], [18]), ([6, 5, 4, 3, 2, 0, 1], [0, 19]), ([6, 5, 4, 3, 2, 0, 1], [3, 19]), ([7, 6, 5, 4, 3, 2, 0, 1, 8], [20, 21, 19]), ([9, 7, 6, 5, 4, 3, 2, 0, 1, 8], [22, 19]), ([10, 9, 7, 6, 5, 4, 3, 2, 0, 1, 8], [23, 19]), ([11, 10, 9, 7, 6, 5, 4, 3, 2, 0, 1, 8], [24, 19]), ([6, 5, 4, 3, 2, 0, 1, 12, 11, 10, 9, 7, 8], [19, 25]), ([13, 6, 5, 4, 3, 2, 0, 1, 12, 11, 10, 9, 7, 8], [26]), ([14, 13, 6, 5, 4, 3, 2, 0, 1, 12, 11, 10, 9, 7, 8], [3, 27]), ([15, 14, 13, 6, 5, 4, 3, 2, 0, 1, 12, 11, 10, 9, 7, 8], [28, 27]), ([16, 15, 14, 13, 6, 5, 4, 3, 2, 0, 1, 12, 11, 10, 9, 7, 8], [29, 27]), ([17, 16, 15, 14, 13, 6, 5, 4, 3, 2, 0, 1, 12, 11, 10, 9, 7, 8], [0, 30]), ([17, 16, 15, 14, 13, 6, 5, 4, 3, 2, 0, 1, 12, 11, 10, 9, 7, 8], [3, 30]), ([18, 17, 16, 15, 14, 13, 6, 5, 4, 3, 2, 0, 1, 12, 11, 10, 9, 7, 8, 19], [31, 32, 30]), ([20, 18, 17, 16, 15, 14, 13, 6, 5, 4, 3, 2, 0, 1, 12, 11, 10, 9, 7, 8, 19], [33, 30]), ([21, 20, 18, 17, 16, 15, 14, 13, 6, 5, 4, 3, 2, 0, 1, 12, 11, 10, 9, 7, 8, 19], [34, 30]), ([17, 16, 15, 14, 13, 6, 5, 4, 3, 2, 0, 1, 12, 11, 10, 9, 7, 8], [0, 30]), ([17, 16, 15, 14, 13, 6, 5, 4, 3, 2, 0, 1, 12, 11, 10, 9, 7, 8], [3, 30]), ([24, 17, 16, 15, 14, 13, 6, 5, 4, 3, 2, 0, 1, 12, 11, 10, 9, 7, 8], [37, 30]), ([23, 17, 16, 15, 14, 13, 6, 5, 4, 3, 2, 0, 1, 12, 11, 10, 9, 7, 8, 25, 24], [36, 38, 30]), ([26, 23, 17, 16, 15, 14, 13, 6, 5, 4, 3, 2, 0, 1, 12, 11, 10, 9, 7, 8, 25, 24], [39, 30]), ([27, 26, 23, 17, 16, 15, 14, 13, 6, 5, 4, 3, 2, 0, 1, 12, 11, 10, 9, 7, 8, 25, 24], [40, 30]), ([22, 21, 20, 18, 17, 16, 15, 14, 13, 6, 5, 4, 3, 2, 0, 1, 12, 11, 10, 9, 7, 8, 19, 28, 27, 26, 23, 25, 24], [35, 41, 30]), ([17, 16, 15, 14, 13, 6, 5, 4, 3, 2, 0, 1, 12, 11, 10, 9, 7, 8, 29, 22, 21, 20, 18, 19, 28, 27, 26, 23, 25, 24], [30, 42, 27]), ([14, 13, 6, 5, 4, 3, 2, 0, 1, 12, 11, 10, 9, 7, 8, 30, 17, 16, 15, 29, 22, 21, 20, 18, 19, 28, 27, 26, 23, 25, 24], [27, 43])] [2, 3, 4, 9, 10, 11, 20, 21, 22, 26, 27, 28] [] rfl (by kernel_rfl) ?_
      refine walkG ?_
      refine walkD ?_
      exact ⟨.inr rfl, .tmp rfl, (fun _ _ e => (by cases e))⟩
    have hi0 : 0 < i := by
      by_cases h0 : i = 0
      · subst h0
        have e0 : lastB ws 0 = -1 := rfl
        omega
      · omega
    obtain ⟨p, hp⟩ : ∃ p, ws[i - 1]? = some p := ⟨_, List.getElem?_eq_getElem (by omega)⟩
    have hx1 : (ws.map tW)[((i : Int) - 1).toNat]? = some (tW p) := by rw [show ((i : Int) - 1).toNat = i - 1 by omega, List.getElem?_map, hp]; rfl
    have hlp : lastB ws i = p.b := by
      obtain ⟨k, rfl⟩ : ∃ k, i = k + 1 := ⟨i - 1, by omega⟩
      simp only [lastB, Nat.add_sub_cancel] at hp ⊢
      rw [hp]
    refine walkD ?_
    refine AW.drawP [([], [0]), ([], [3]), ([0, 1], [13, 14]), ([2, 0, 1], [15]), ([3, 2, 0, 1], [16]), ([4, 3, 2, 0, 1], [17]), ([5, 4, 3, 2, 0, 1], [18]), ([6, 5, 4, 3, 2, 0, 1], [0, 19]), ([6, 5, 4, 3, 2, 0, 1], [3, 19]), ([7, 6, 5, 4, 3, 2, 0, 1, 8], [20, 21, 19]), ([9, 7, 6, 5, 4, 3, 2, 0, 1, 8], [22, 19]), ([10, 9, 7, 6, 5, 4, 3, 2, 0, 1, 8], [23, 19]), ([11, 10, 9, 7, 6, 5, 4, 3, 2, 0, 1, 8], [24, 19]), ([6, 5, 4, 3, 2, 0, 1, 12, 11, 10, 9, 7, 8], [19, 25]), ([13, 6, 5, 4, 3, 2, 0, 1, 12, 11, 10, 9, 7, 8], [26]), ([14, 13, 6, 5, 4, 3, 2, 0, 1, 12, 11, 10, 9, 7, 8], [3, 27]), ([15, 14, 13, 6, 5, 4, 3, 2, 0, 1, 12, 11, 10, 9, 7, 8], [28, 27]), ([16, 15, 14, 13, 6, 5, 4, 3, 2, 0, 1, 12, 11, 10, 9, 7, 8], [29, 27]), ([17, 16, 15, 14, 13, 6, 5, 4, 3, 2, 0, 1, 12, 11, 10, 9, 7, 8], [0, 30]), ([17, 16, 15, 14, 13, 6, 5, 4, 3, 2, 0, 1, 12, 11, 10, 9, 7, 8], [3, 30]), ([18, 17, 16, 15, 14, 13, 6, 5, 4, 3, 2, 0, 1, 12, 11, 10, 9, 7, 8, 19], [31, 32, 30]), ([20, 18, 17, 16, 15, 14, 13, 6, 5, 4, 3, 2, 0, 1, 12, 11, 10, 9, 7, 8, 19], [33, 30]), ([21, 20, 18, 17, 16, 15, 14, 13, 6, 5, 4, 3, 2, 0, 1, 12, 11, 10, 9, 7, 8, 19], [34, 30]), ([17, 16, 15, 14, 13, 6, 5, 4, 3, 2, 0, 1, 12, 11, 10, 9, 7, 8], [0, 30]), ([17, 16, 15, 14, 13, 6, 5, 4, 3, 2, 0, 1, 12, 11, 10, 9, 7, 8], [3, 30]), ([24, 17, 16, 15, 14, 13, 6, 5, 4, 3, 2, 0, 1, 12, 11, 10, 9, 7, 8], [37, 30]), ([23, 17, 16, 15, 14, 13, 6, 5, 4, 3, 2, 0, 1, 12, 11, 10, 9, 7, 8, 25, 24], [36, 38, 30]), ([26, 23, 17, 16, 15, 14, 13, 6, 5, 4, 3, 2, 0, 1, 12, 11, 10, 9, 7, 8, 25, 24], [39, 30]), ([27, 26, 23, 17, 16, 15, 14, 13, 6, 5, 4, 3, 2, 0, 1, 12, 11, 10, 9, 7, 8, 25, 24], [40, 30]), ([22, 21, 20, 18, 17, 16, 15, 14, 13, 6, 5, 4, 3, 2, 0, 1, 12, 11, 10, 9, 7, 8, 19, 28, 27, 26, 23, 25, 24], [35, 41, 30]), ([17, 16, 15, 14, 13, 6, 5, 4, 3, 2, 0, 1, 12, 11, 10, 9, 7, 8, 29, 22, 21, 20, 18, 19, 28, 27, 26, 23, 25, 24], [30, 42, 27]), ([14, 13, 6, 5, 4, 3, 2, 0, 1, 12, 11, 10, 9, 7, 8, 30, 17, 16, 15, 29, 22, 21, 20, 18, 19, 28, 27, 26, 23, 25, 24], [27, 43])] [2, 3, 4, 9, 10, 11, 20, 21, 22, 26, 27, 28] [] rfl (by kernel_rfl) ?_
    refine walkG ?_
    refine walkD ?_
    exact ⟨.inr rfl, .tmp rfl, (fun _ _ e => (by cases e))⟩


theorem clo_c (w : Wr) (key : Int) (Z : T) {Kp : X → List AO → Tips → Prop} (hK : Kp (B (decide (w.b = key)), 4) [⟨.one 3, I key⟩, ⟨.one 24, Z⟩, ⟨.one 26, tW w⟩] ⟨[], 0⟩) :
    ACalls Try.prog 17 [(tW w, 26), (.ptr 0 [], 0)] [⟨.one 3, I key⟩, ⟨.one 24, Z⟩] ⟨[], 0⟩ Kp := by
  refine ACalls.body1 WFC.wf Try.func17 rfl rfl (Nat.le_of_ble_eq_true rfl) ?_
  refine walk ?_
  exact ⟨.inr rfl, _, .tmp rfl, (fun _ _ e => (by cases e)), hK⟩

set_option maxHeartbeats 4000000 in
theorem index_yes (ws : List Wr) (hm : ws.length < 4611686018427387904) (key : Int) (Z : T) (hZ : pb 2 Z = true) (k : Nat) (w : Wr) (hw : ws[k]? = some w) (hb : w.b = key) (hne : ∀ (j : Nat) w, j < k → ws[j]? = some w → w.b ≠ key) {Kp : X → List AO → Tips → Prop} (hK : Kp (I (k : Nat), 3) [⟨.one 3, I key⟩, ⟨.one 24, Z⟩, ⟨.one 26, tW w⟩] ⟨[], 0⟩) :
    ACalls Try.prog 16 [(Ls ws, 22), (.fn (.func 17) [] [.ptr 0 []], 44)] [⟨.one 3, I key⟩, ⟨.one 24, Z⟩] ⟨[], 0⟩ Kp := by
  have hkl := (List.getElem?_eq_some_iff.1 hw).1
  have hl := Ls_len ws
  refine ACalls.body1 WFC.wf Try.func16 rfl rfl (Nat.le_of_ble_eq_true rfl) ?_
  refine walkD ?_
  refine AW.loopF (fun m t h u' => u' = ⟨[], 0⟩ ∧ ∃ i : Nat, m = k - i ∧ i ≤ k ∧ h = [⟨.one 3, I key⟩, ⟨.one 24, Z⟩] ∧ t = [(0, (Ls ws, 22)), (1, (.fn (.func 17) [] [.ptr 0 []], 44)), (6, (Ls ws, 22)), (7, (I ((ws.map tW).length : Nat), 3)), (8, (I (i : Nat), 3))]) (k) [(0, (Ls ws, 22)), (1, (.fn (.func 17) [] [.ptr 0 []], 44)), (6, (Ls ws, 22)), (7, (I ((ws.map tW).length : Nat), 3)), (8, (I (0 : Nat), 3))] (.cons rfl (.cons rfl (.cons rfl (.cons rfl (.cons rfl .nil))))) ⟨rfl, 0, rfl, Nat.zero_le _, rfl, rfl⟩ ?_
  rintro m t h u' ⟨rfl, i, rfl, hi, rfl, rfl⟩
  by_cases he : i = k
  · subst he
    have hx0 := Ls_get hw
    refine walkD ?_
    refine O.callV rfl rfl rfl (.cons (.tmp rfl ⟨rfl, rfl⟩) .nil) ?_
    refine clo_c w key Z ?_
    rw [decide_eq_true hb]
    refine walkD ?_
    exact ⟨.inr rfl, _, .tmp rfl, (fun _ _ e => (by cases e)), hK⟩
  obtain ⟨w, hw⟩ : ∃ w, ws[i]? = some w := ⟨_, List.getElem?_eq_getElem (by omega)⟩
  have hx0 := Ls_get hw
  refine walkD ?_
  refine O.callV rfl rfl rfl (.cons (.tmp rfl ⟨rfl, rfl⟩) .nil) ?_
  refine clo_c w key Z ?_
  rw [decide_eq_false (hne i w (by omega) hw)]
  refine walkD ?_
  exact ⟨rfl, k - (i + 1), [(0, (Ls ws, 22)), (1, (.fn (.func 17) [] [.ptr 0 []], 44)), (6, (Ls ws, 22)), (7, (I ((ws.map tW).length : Nat), 3)), (8, (I ((i + 1) : Nat), 3))], [⟨.one 3, I key⟩, ⟨.one 24, Z⟩], _, by omega, (.cons rfl (.cons rfl (.cons rfl (.cons rfl (.cons rfl .nil))))), rfl, rfl, (by simp [tb, hbB, pb, pbL, pbW, hZ]), (by simp [tb, hbB, pb, pbL, pbW, hZ]), rfl, i + 1, rfl, by omega, rfl, rfl⟩

set_option maxHeartbeats 4000000 in
theorem index_no (ws : List Wr) (hm : ws.length < 4611686018427387904) (key : Int) (Z : T) (hZ : pb 2 Z = true) (hne : ∀ w, w ∈ ws → w.b ≠ key) {Kp : X → List AO → Tips → Prop} (hK : Kp (I (-1), 3) [⟨.one 3, I key⟩, ⟨.one 24, Z⟩] ⟨[], 0⟩) :
    ACalls Try.prog 16 [(Ls ws, 22), (.fn (.func 17) [] [.ptr 0 []], 44)] [⟨.one 3, I key⟩, ⟨.one 24, Z⟩] ⟨[], 0⟩ Kp := by
  have hl := Ls_len ws
  refine ACalls.body1 WFC.wf Try.func16 rfl rfl (Nat.le_of_ble_eq_true rfl) ?_
  refine walkD ?_
  refine AW.loopF (fun m t h u' => u' = ⟨[], 0⟩ ∧ ∃ i : Nat, m = ws.length - i ∧ i ≤ ws.length ∧ h = [⟨.one 3, I key⟩, ⟨.one 24, Z⟩] ∧ t = [(0, (Ls ws, 22)), (1, (.fn (.func 17) [] [.ptr 0 []], 44)), (6, (Ls ws, 22)), (7, (I ((ws.map tW).length : Nat), 3)), (8, (I (i : Nat), 3))]) (ws.length) [(0, (Ls ws, 22)), (1, (.fn (.func 17) [] [.ptr 0 []], 44)), (6, (Ls ws, 22)), (7, (I ((ws.map tW).length : Nat), 3)), (8, (I (0 : Nat), 3))] (.cons rfl (.cons rfl (.cons rfl (.cons rfl (.cons rfl .nil))))) ⟨rfl, 0, rfl, Nat.zero_le _, rfl, rfl⟩ ?_
  rintro m t h u' ⟨rfl, i, rfl, hi, rfl, rfl⟩
  by_cases he : i = ws.length
  · subst he
    refine walkD ?_
    exact ⟨.inr rfl, _, .tmp rfl, (fun _ _ e => (by cases e)), hK⟩
  obtain ⟨w, hw⟩ : ∃ w, ws[i]? = some w := ⟨_, List.getElem?_eq_getElem (by omega)⟩
  have hx0 := Ls_get hw
  refine walkD ?_
  refine O.callV rfl rfl rfl (.cons (.tmp rfl ⟨rfl, rfl⟩) .nil) ?_
  refine clo_c w key Z ?_
  rw [decide_eq_false (hne w (List.mem_of_getElem? hw))]
  refine walkD ?_
  exact ⟨rfl, ws.length - (i + 1), [(0, (Ls ws, 22)), (1, (.fn (.func 17) [] [.ptr 0 []], 44)), (6, (Ls ws, 22)), (7, (I ((ws.map tW).length : Nat), 3)), (8, (I ((i + 1) : Nat), 3))], [⟨.one 3, I key⟩, ⟨.one 24, Z⟩], _, by omega, (.cons rfl (.cons rfl (.cons rfl (.cons rfl (.cons rfl .nil))))), rfl, rfl, (by simp [tb, hbB, pb, pbL, pbW, hZ]), (by simp [tb, hbB, pb, pbL, pbW, hZ]), rfl, i + 1, rfl, by omega, rfl, rfl⟩

abbrev V0 : T := .arr (List.replicate 8 (U8 0))
set_option maxHeartbeats 4000000 in
theorem get_yes (ws : List Wr) (hm : ws.length < 4611686018427387904) (key : Int) (k : Nat) (w : Wr) (hw : ws[k]? = some w) (hb : w.b = key) (hne : ∀ (j : Nat) w, j < k → ws[j]? = some w → w.b ≠ key) : Ans Try.prog 8 [(Ls ws, 22), (I key, 3)] (.tup [V w.v, B true], 32) := by
  refine Ans.bodyN (rs := [(V w.v, 24), (B true, 4)]) WFC.wf 32 Try.func8 rfl rfl (by decide) rfl rfl (by simp [npL, np, npV, npW, Tag.nt]) (by simp [npL, np, npV, npW, Tag.nt]) ?_
  have hx0 := Ls_get hw
  refine walkD ?_
  refine O.call rfl rfl (.cons (.tmp rfl ⟨rfl, rfl⟩) (.cons (.tmp rfl ⟨rfl, rfl⟩) .nil)) ?_
  refine index_yes ws hm key V0 rfl k w hw hb hne ?_
  refine walkD ?_
  exact ⟨.inr rfl, (.cons (Res1.cell rfl rfl) (.cons (.tmp rfl) .nil)), ⟨fun _ _ _ => ⟨rfl, rfl⟩, ⟨(fun _ _ e => (by cases e)), trivial⟩⟩⟩

set_option maxHeartbeats 4000000 in
theorem get_no (ws : List Wr) (hm : ws.length < 4611686018427387904) (key : Int) (hne : ∀ w, w ∈ ws → w.b ≠ key) : Ans Try.prog 8 [(Ls ws, 22), (I key, 3)] (.tup [V0, B false], 32) := by
  refine Ans.bodyN (rs := [(V0, 24), (B false, 4)]) WFC.wf 32 Try.func8 rfl rfl (by decide) rfl rfl (by simp [npL, np, npV, npW, Tag.nt]) (by simp [npL, np, npV, npW, Tag.nt]) ?_
  refine walkD ?_
  refine O.call rfl rfl (.cons (.tmp rfl ⟨rfl, rfl⟩) (.cons (.tmp rfl ⟨rfl, rfl⟩) .nil)) ?_
  refine index_no ws hm key V0 rfl hne ?_
  refine walkD ?_
  exact ⟨.inr rfl, (.cons (Res1.cell rfl rfl) (.cons (.tmp rfl) .nil)), ⟨fun _ _ _ => ⟨rfl, rfl⟩, ⟨(fun _ _ e => (by cases e)), trivial⟩⟩⟩

end Go.Proofs.Ytlpakbhlpgpiaaa
