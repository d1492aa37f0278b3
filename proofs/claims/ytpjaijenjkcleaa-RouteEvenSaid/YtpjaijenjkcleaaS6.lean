/- Package route: counts, and how Next's moves change them: plain law. -/
import Derived.Test.YtpjaijenjkcleaaS5
set_option linter.unusedVariables false
namespace Go.Proofs.Ytpjaijenjkcleaa
open Go.Am
def cnt (ms : List Int) (n : Int) : Nat → Nat
  | 0 => 0
  | i + 1 => if ms[i]? = some n then cnt ms n i + 1 else cnt ms n i
theorem cnt_le (ms : List Int) (n : Int) : ∀ i, cnt ms n i ≤ i
  | 0 => Nat.le_refl _
  | i + 1 => by have := cnt_le ms n i; unfold cnt; split <;> omega
theorem ld_spec (ms : List Int) (hl : ms.length = 8) (hm : ms.all sh = true) : ∀ i, i ≤ 8 → ∀ (k : Nat) (p : Nat × Nat), (ld ms i)[k]? = some p → p.1 = cnt ms ((k + 1 : Nat) : Int) i ∧ (0 < p.1 → p.2 < i ∧ ms[p.2]? = some ((k + 1 : Nat) : Int))
  | 0, _, k, p, h => by
    have : (ld ms 0) = List.replicate 4 (0, 0) := rfl
    rw [this] at h
    have := List.eq_of_mem_replicate (List.mem_of_getElem? h)
    subst this
    exact ⟨rfl, fun h => absurd h (by decide)⟩
  | i + 1, hi, k, p, h => by
    have ih := ld_spec ms hl hm i (by omega)
    have hi2 : i < ms.length := by omega
    have hn : ms[i]? = some ms[i] := List.getElem?_eq_getElem hi2
    have hb := sh_at hm hn
    have hl4 := (ld_ok ms i).1
    generalize ms[i] = n at hn hb
    obtain ⟨q, hq⟩ : ∃ q, (ld ms i)[n.toNat - 1]? = some q := ⟨_, List.getElem?_eq_getElem (by omega)⟩
    have hld : ld ms (i + 1) = (ld ms i).set (n.toNat - 1) (q.1 + 1, i) := by simp only [ld, hn, upd, hq]
    rw [hld, List.getElem?_set] at h
    by_cases hk : n.toNat - 1 = k
    · rw [if_pos hk, if_pos (by omega)] at h
      cases h
      have hnk : n = ((k + 1 : Nat) : Int) := by omega
      have := (ih _ q hq).1
      rw [hk] at this
      refine ⟨by unfold cnt; rw [if_pos (by rw [hn, hnk]), this], fun _ => ⟨Nat.lt_succ_self i, by rw [hn, hnk]⟩⟩
    · rw [if_neg hk] at h
      obtain ⟨h1, h2⟩ := ih k p h
      have hnk : ¬ ms[i]? = some ((k + 1 : Nat) : Int) := by
        rw [hn]; intro h; cases h; omega
      refine ⟨by unfold cnt; rw [if_neg hnk]; exact h1, fun h3 => ?_⟩
      obtain ⟨h4, h5⟩ := h2 h3
      exact ⟨by omega, h5⟩
theorem cnt_sum (ms : List Int) (hl : ms.length = 8) (hm : ms.all sh = true) : ∀ i, i ≤ 8 → cnt ms 1 i + cnt ms 2 i + cnt ms 3 i + cnt ms 4 i = i
  | 0, _ => rfl
  | i + 1, hi => by
    have ih := cnt_sum ms hl hm i (by omega)
    have hi2 : i < ms.length := by omega
    have hn : ms[i]? = some ms[i] := List.getElem?_eq_getElem hi2
    have hb := sh_at hm hn
    generalize ms[i] = n at hn hb
    simp only [cnt, hn, Option.some.injEq]
    have : n = 1 ∨ n = 2 ∨ n = 3 ∨ n = 4 := by omega
    rcases this with rfl | rfl | rfl | rfl <;> simp <;> omega
theorem cnt_set (ms : List Int) (k t h : Int) (i : Nat) (hi : ms[i]? = some h) : ∀ n, cnt (ms.set i t) k n + (if i < n ∧ h = k then 1 else 0) = cnt ms k n + (if i < n ∧ t = k then 1 else 0)
  | 0 => by simp [cnt]
  | n + 1 => by
    have ih := cnt_set ms k t h i hi n
    have hil := (List.getElem?_eq_some_iff.1 hi).1
    simp only [cnt, List.getElem?_set]
    by_cases hin : i = n
    · subst hin
      simp only [if_pos, hil, hi, Option.some.injEq, Nat.lt_irrefl, false_and, if_false, Nat.lt_succ_self, true_and] at ih ⊢
      generalize cnt (ms.set i t) k i = A at ih ⊢
      by_cases h1 : t = k <;> by_cases h2 : h = k <;> simp [h1, h2] <;> omega
    · have e1 : (i < n + 1) = (i < n) := by apply propext; omega
      simp only [if_neg hin, e1]
      by_cases h3 : ms[n]? = some k
      · simp only [if_pos h3]; omega
      · simp only [if_neg h3]; omega
theorem cnt_rest (ms : List Int) (n : Int) : ∀ d j, j + d = 8 → own ms n 8 / 2 ^ j = 0 → cnt ms n 8 = cnt ms n j
  | 0, j, h, _ => by have : j = 8 := by omega
                     rw [this]
  | d + 1, j, h, h0 => by
    have hb := own_bit ms n j 8
    rw [Nat.testBit_eq_decide_div_mod_eq, h0] at hb
    have hno : ¬ ms[j]? = some n := by
      intro hj
      simp [hj] at hb
      omega
    have h1 : own ms n 8 / 2 ^ (j + 1) = 0 := by rw [Nat.pow_succ, ← Nat.div_div_eq_div_mul, h0]
    rw [cnt_rest ms n d (j + 1) (by omega) h1]
    simp only [cnt, if_neg hno]

/-- Which shard gives, which one takes. -/
def stepH (ps : List (Nat × Nat)) (s : Nat) : Option Nat :=
  match (ps.drop s).findIdx? (fun p => decide (0 < p.1)) with
  | some k => some (s + k)
  | none => match (ps.take s)[bst mr (ps.take s) (ps.take s).length]?, (ps.take s)[bst fr (ps.take s) (ps.take s).length]? with
    | some x, some y => bif Nat.ble x.1 (y.1 + 1) then none else some (bst mr (ps.take s) (ps.take s).length)
    | _, _ => none
def lowT (ps : List (Nat × Nat)) (s : Nat) : Nat := bst fr (ps.take s) (ps.take s).length
abbrev zc (c : List Nat) : List (Nat × Nat) := c.map fun n => (n, 0)
theorem bst_z (r : Nat × Nat → Nat × Nat → Bool) (hr : ∀ p q, r (p.1, 0) (q.1, 0) = r p q) (ps : List (Nat × Nat)) : ∀ i, bst r (zc (ps.map (·.1))) i = bst r ps i
  | 0 => rfl
  | i + 1 => by
    have ih := bst_z r hr ps i
    unfold bst
    rw [ih]
    simp only [zc, List.map_map, List.getElem?_map]
    cases h1 : ps[i]? with
    | none => rfl
    | some p =>
      cases h2 : ps[bst r ps i]? with
      | none => rfl
      | some q => simp only [Option.map_some, Function.comp]; rw [hr]
theorem zc_take (ps : List (Nat × Nat)) (s : Nat) : (zc (ps.map (·.1))).take s = zc ((ps.take s).map (·.1)) := by simp [zc, List.map_take]
theorem zc_drop (ps : List (Nat × Nat)) (s : Nat) : (zc (ps.map (·.1))).drop s = zc ((ps.drop s).map (·.1)) := by simp [zc, List.map_drop]
theorem lowT_z (ps : List (Nat × Nat)) (s : Nat) : lowT (zc (ps.map (·.1))) s = lowT ps s := by
  unfold lowT
  rw [zc_take, bst_z fr (fun _ _ => rfl)]
  simp [zc]
theorem find_z (ps : List (Nat × Nat)) : (zc (ps.map (·.1))).findIdx? (fun p => decide (0 < p.1)) = ps.findIdx? (fun p => decide (0 < p.1)) := by
  induction ps with
  | nil => rfl
  | cons p ps ih =>
    simp only [zc, List.map_cons, List.findIdx?_cons] at ih ⊢
    rw [ih]
theorem stepH_z (ps : List (Nat × Nat)) (s : Nat) : stepH (zc (ps.map (·.1))) s = stepH ps s := by
  unfold stepH
  rw [zc_drop, find_z]
  cases (ps.drop s).findIdx? (fun p => decide (0 < p.1)) with
  | some k => rfl
  | none =>
    have hl : (zc ((ps.take s).map (·.1))).length = (ps.take s).length := by simp [zc]
    simp only [zc_take, hl]
    rw [bst_z mr (fun _ _ => rfl), bst_z fr (fun _ _ => rfl)]
    simp only [zc, List.map_map, List.getElem?_map]
    cases (ps.take s)[bst mr (ps.take s) (ps.take s).length]? with
    | none => rfl
    | some x => cases (ps.take s)[bst fr (ps.take s) (ps.take s).length]? <;> rfl

def mxC (c : List Nat) (s : Nat) : Nat → Nat
  | 0 => 0
  | j + 1 => bif Nat.ble (j + 1) s then max (mxC c s j) (c.getD j 0) else mxC c s j
def mnC (c : List Nat) (s : Nat) : Nat → Nat
  | 0 => 8
  | j + 1 => bif Nat.ble (j + 1) s then min (mnC c s j) (c.getD j 0) else mnC c s j
def evenC (c : List Nat) (s : Nat) : Bool := Nat.ble (mxC c s 4) (mnC c s 4 + 1) && (List.range 4).all fun j => Nat.ble (j + 1) s || Nat.beq (c.getD j 0) 0
def moveC (c : List Nat) (h t : Nat) : List Nat := (c.set h (c.getD h 0 - 1)).set t (c.getD t 0 + 1)
def good : Nat → List Nat → Nat → Bool
  | f, c, s => match stepH (zc c) s with
    | none => evenC c s
    | some h => (!Nat.beq h (lowT (zc c) s)) && Nat.blt h 4 && Nat.blt 0 (c.getD h 0) && Nat.blt (lowT (zc c) s) s && (match f with
      | 0 => false
      | f + 1 => good f (moveC c h (lowT (zc c) s)) s)
theorem good_all {s a b c : Nat} (hs1 : 1 ≤ s) (hs4 : s ≤ 4) (h : a + b + c ≤ 8) : good 8 [a, b, c, 8 - (a + b + c)] s = true := by
  have q : ((List.range 4).all fun s => (List.range 9).all fun a => (List.range 9).all fun b => (List.range 9).all fun c => Nat.blt 8 (a + b + c) || good 8 [a, b, c, 8 - (a + b + c)] (s + 1)) = true := by kernel_rfl
  have q1 := List.all_eq_true.1 q (s - 1) (List.mem_range.2 (by omega))
  have q2 := List.all_eq_true.1 (List.all_eq_true.1 (List.all_eq_true.1 q1 a (List.mem_range.2 (by omega))) b (List.mem_range.2 (by omega))) c (List.mem_range.2 (by omega))
  rw [show s - 1 + 1 = s by omega, Bool.or_eq_true] at q2
  rcases q2 with q2 | q2
  · rw [Nat.blt_eq] at q2; omega
  · exact q2
abbrev c4 (ms : List Int) : List Nat := [cnt ms 1 8, cnt ms 2 8, cnt ms 3 8, cnt ms 4 8]
theorem c4_good (ms : List Int) (hl : ms.length = 8) (hm : ms.all sh = true) {s : Nat} (hs1 : 1 ≤ s) (hs4 : s ≤ 4) : good 8 (c4 ms) s = true := by
  have h := cnt_sum ms hl hm 8 (Nat.le_refl 8)
  have e : cnt ms 4 8 = 8 - (cnt ms 1 8 + cnt ms 2 8 + cnt ms 3 8) := by omega
  unfold c4
  rw [e]
  exact good_all hs1 hs4 (by omega)
theorem c4_ld (ms : List Int) (hl : ms.length = 8) (hm : ms.all sh = true) : (ld ms 8).map (·.1) = c4 ms := by
  have hlen := (ld_ok ms 8).1
  apply List.ext_getElem?
  intro k
  rw [List.getElem?_map]
  have key : ∀ k, k < 4 → ((ld ms 8)[k]?.map (·.1)) = some (cnt ms ((k + 1 : Nat) : Int) 8) := fun k hk => by
    obtain ⟨p, hp⟩ : ∃ p, (ld ms 8)[k]? = some p := ⟨_, List.getElem?_eq_getElem (by omega)⟩
    rw [hp, Option.map_some, (ld_spec ms hl hm 8 (Nat.le_refl 8) k p hp).1]
  match k with
  | 0 => exact key 0 (by decide)
  | 1 => exact key 1 (by decide)
  | 2 => exact key 2 (by decide)
  | 3 => exact key 3 (by decide)
  | k + 4 =>
    rw [List.getElem?_eq_none (by omega)]
    rfl
end Go.Proofs.Ytpjaijenjkcleaa
