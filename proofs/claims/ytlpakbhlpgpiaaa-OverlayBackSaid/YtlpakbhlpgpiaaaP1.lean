/- Overlays as lists of writes: plain law. -/
import Derived.Test.YtlpakbhlpgpiaaaS3
set_option linter.unusedVariables false
set_option linter.unusedSimpArgs false
namespace Go.Proofs.Ytlpakbhlpgpiaaa
open Go.Am
def wrB : Int → List Wr → Bool
  | _, [] => true
  | l, w :: r => decide (l < w.b) && decide (w.b < 32) && wrB w.b r
def WnB (ws : List Wr) : Bool := wrB (-1) ws && Nat.ble ws.length 8
theorem wrB_cons {l : Int} {w : Wr} {r : List Wr} : wrB l (w :: r) = true ↔ l < w.b ∧ w.b < 32 ∧ wrB w.b r = true := by
  simp [wrB, and_assoc]
def lastG : Int → List Wr → Nat → Int
  | l, _, 0 => l
  | l, [], _ + 1 => l
  | _, w :: r, i + 1 => lastG w.b r i
theorem lastG_get : ∀ {ws : List Wr} {l : Int} {i : Nat} {w : Wr}, ws[i]? = some w → lastG l ws (i + 1) = w.b
  | x :: r, l, 0, w, h => by simp at h; subst h; cases r <;> rfl
  | x :: r, l, i + 1, w, h => by
    simp only [List.getElem?_cons_succ] at h
    show lastG x.b r (i + 1) = w.b
    exact lastG_get h
  | [], _, _, _, h => by simp at h
theorem wrB_iff : ∀ (ws : List Wr) (l : Int), wrB l ws = true ↔ ∀ (i : Nat) w, ws[i]? = some w → lastG l ws i < w.b ∧ w.b < 32
  | [], l => by simp [wrB]
  | x :: r, l => by
    rw [wrB_cons, wrB_iff r x.b]
    constructor
    · rintro ⟨h1, h2, h3⟩ i w hw
      cases i with
      | zero => simp at hw; subst hw; exact ⟨h1, h2⟩
      | succ i => exact h3 i w (by simpa using hw)
    · intro h
      refine ⟨(h 0 x rfl).1, (h 0 x rfl).2, fun i w hw => h (i + 1) w (by simpa using hw)⟩
theorem lastB_G (ws : List Wr) : ∀ i, i ≤ ws.length → lastB ws i = lastG (-1) ws i
  | 0, _ => by cases ws <;> rfl
  | i + 1, h => by
    have hw : ws[i]? = some ws[i] := List.getElem?_eq_getElem (by omega)
    rw [lastG_get hw]
    simp only [lastB, hw]
theorem WnB_iff (ws : List Wr) : WnB ws = true ↔ Wn ws := by
  unfold WnB
  rw [Bool.and_eq_true, wrB_iff]
  constructor
  · rintro ⟨h1, h2⟩
    refine ⟨fun i w hw => ?_, Nat.le_of_ble_eq_true h2⟩
    rw [lastB_G ws i (Nat.le_of_lt (List.getElem?_eq_some_iff.1 hw).1)]
    exact h1 i w hw
  · rintro ⟨h1, h2⟩
    refine ⟨fun i w hw => ?_, Nat.ble_eq_true_of_le h2⟩
    rw [← lastB_G ws i (Nat.le_of_lt (List.getElem?_eq_some_iff.1 hw).1)]
    exact h1 i w hw
def ins : List Wr → Wr → List Wr
  | [], w => [w]
  | x :: r, w => if x.b < w.b then x :: ins r w else if x.b = w.b then w :: r else w :: x :: r
def hasB (l : List Wr) (k : Int) : Bool := l.any fun x => decide (x.b = k)
def putF (ws : List Wr) (w : Wr) : List Wr × Int :=
  bif WnB ws && decide (0 ≤ w.b) && decide (w.b < 32) then (bif hasB ws w.b || Nat.blt ws.length 8 then (ins ws w, 0) else ([], 50)) else ([], 2)
def kOf : List Wr → Int → Nat
  | [], _ => 0
  | x :: r, k => if x.b < k then kOf r k + 1 else 0
theorem kOf_le (k : Int) : ∀ ws, kOf ws k ≤ ws.length
  | [] => Nat.le_refl _
  | x :: r => by have := kOf_le k r; simp only [kOf]; split <;> simp <;> omega
theorem kOf_lo (k : Int) : ∀ (ws : List Wr) (j : Nat) w, j < kOf ws k → ws[j]? = some w → w.b < k
  | [], j, w, h, _ => by simp [kOf] at h
  | x :: r, j, w, h, hw => by
    simp only [kOf] at h
    split at h
    · cases j with
      | zero => simp at hw; subst hw; assumption
      | succ j => exact kOf_lo k r j w (by omega) (by simpa using hw)
    · omega
theorem kOf_hi (k : Int) : ∀ (ws : List Wr) w, ws[kOf ws k]? = some w → k ≤ w.b
  | [], w, h => by simp at h
  | x :: r, w, h => by
    simp only [kOf] at h
    split at h
    · exact kOf_hi k r w (by simpa using h)
    · simp at h; subst h; omega
theorem wrB_lt : ∀ {ws : List Wr} {l : Int}, wrB l ws = true → ∀ w ∈ ws, l < w.b ∧ w.b < 32
  | [], _, _, w, h => by cases h
  | x :: r, l, hw, w, h => by
    obtain ⟨h1, h2, h3⟩ := wrB_cons.1 hw
    rcases List.mem_cons.1 h with rfl | h
    · exact ⟨h1, h2⟩
    · have := wrB_lt h3 w h; omega
theorem hasB_iff {ws : List Wr} {k : Int} : hasB ws k = true ↔ ∃ w ∈ ws, w.b = k := by simp [hasB]
theorem hasB_at (k : Int) : ∀ (ws : List Wr) (l : Int), wrB l ws = true → (hasB ws k = true ↔ ∃ x, ws[kOf ws k]? = some x ∧ x.b = k)
  | [], _, _ => by simp [hasB]
  | x :: r, l, hw => by
    obtain ⟨h1, h2, h3⟩ := wrB_cons.1 hw
    have ih := hasB_at k r x.b h3
    simp only [kOf]
    by_cases hx : x.b < k
    · rw [if_pos hx]
      have : hasB (x :: r) k = hasB r k := by
        have : ¬ x.b = k := by omega
        simp [hasB, this]
      rw [this, ih]
      simp
    · rw [if_neg hx]
      constructor
      · intro h
        obtain ⟨w, hw2, hwb⟩ := hasB_iff.1 h
        refine ⟨x, rfl, ?_⟩
        rcases List.mem_cons.1 hw2 with rfl | hw2
        · exact hwb
        · have := wrB_lt h3 w hw2; omega
      · rintro ⟨y, hy, hyb⟩
        simp at hy
        subst hy
        simp [hasB, hyb]
theorem ins_eq (w : Wr) : ∀ ws : List Wr, (∀ x, ws[kOf ws w.b]? = some x → x.b = w.b → ins ws w = ws.set (kOf ws w.b) w) ∧ ((∀ x, ws[kOf ws w.b]? = some x → x.b ≠ w.b) → ins ws w = ws.take (kOf ws w.b) ++ w :: ws.drop (kOf ws w.b))
  | [] => ⟨fun x h => by simp at h, fun _ => rfl⟩
  | y :: r => by
    have ih := ins_eq w r
    simp only [kOf, ins]
    by_cases hy : y.b < w.b
    · simp only [if_pos hy]
      exact ⟨fun x hx hb => by rw [ih.1 x (by simpa using hx) hb]; rfl, fun h => by rw [ih.2 (fun x hx => h x (by simpa using hx))]; rfl⟩
    · simp only [if_neg hy]
      refine ⟨fun x hx hb => ?_, fun h => ?_⟩
      · simp at hx; subst hx
        rw [if_pos hb]; rfl
      · rw [if_neg (h y rfl)]; rfl
theorem put_c (ws : List Wr) (hm : ws.length < 4611686018427387904) (w : Wr) : Ans Try.prog 7 [(Ls ws, 22), (tW w, 26)] (.tup [Ls (putF ws w).1, I (putF ws w).2], 30) := by
  unfold putF
  by_cases h : Wn ws
  · have hB := (WnB_iff ws).2 h
    rw [hB]
    by_cases h0 : w.b < 0
    · have : decide (0 ≤ w.b) = false := by simp; omega
      rw [this]
      exact put_low ws hm w h h0
    · have : decide (0 ≤ w.b) = true := by simp; omega
      rw [this]
      by_cases h1 : 32 ≤ w.b
      · have : decide (w.b < 32) = false := by simp; omega
        rw [this]
        exact put_high ws hm w h (by omega) h1
      · have : decide (w.b < 32) = true := by simp; omega
        rw [this]
        simp only [Bool.and_true, cond_true]
        have hwr : wrB (-1) ws = true := by unfold WnB at hB; rw [Bool.and_eq_true] at hB; exact hB.1
        have hat := hasB_at w.b ws (-1) hwr
        have hie := ins_eq w ws
        cases hh : hasB ws w.b with
        | true =>
          obtain ⟨x, hx, hxb⟩ := hat.1 hh
          simp only [Bool.true_or, cond_true]
          rw [hie.1 x hx hxb]
          exact put_there ws hm w h (by omega) (by omega) _ (kOf_le _ _) (fun j x => kOf_lo _ _ j x) (kOf_hi _ _) x hx hxb
        | false =>
          have hx : ∀ x, ws[kOf ws w.b]? = some x → x.b ≠ w.b := fun x hx hxb => by
            rw [hat.2 ⟨x, hx, hxb⟩] at hh; cases hh
          simp only [Bool.false_or]
          cases h8 : Nat.blt ws.length 8 with
          | true =>
            rw [Nat.blt_eq] at h8
            simp only [cond_true]
            rw [hie.2 hx]
            exact put_new ws hm w h (by omega) (by omega) _ (kOf_le _ _) (fun j x => kOf_lo _ _ j x) (kOf_hi _ _) hx h8
          | false =>
            simp only [cond_false]
            have : ¬ ws.length < 8 := fun hlt => by rw [← Nat.blt_eq, h8] at hlt; cases hlt
            exact put_full ws hm w h (by omega) (by omega) _ (kOf_le _ _) (fun j x => kOf_lo _ _ j x) (kOf_hi _ _) hx (by have := h.len; omega)
  · have hB : WnB ws = false := by
      cases hb : WnB ws with
      | false => rfl
      | true => exact absurd ((WnB_iff ws).1 hb) h
    rw [hB]
    exact put_nw ws hm w h
/-! ### What insertion does -/
theorem ins_wr (w : Wr) (h32 : w.b < 32) : ∀ {ws : List Wr} {l : Int}, wrB l ws = true → l < w.b → wrB l (ins ws w) = true
  | [], l, _, h => wrB_cons.2 ⟨h, h32, rfl⟩
  | x :: r, l, hw, h => by
    obtain ⟨h1, h2, h3⟩ := wrB_cons.1 hw
    simp only [ins]
    split
    · rename_i hx
      exact wrB_cons.2 ⟨h1, h2, ins_wr w h32 h3 hx⟩
    · split
      · rename_i hx
        exact wrB_cons.2 ⟨h, h32, by rw [← hx]; exact h3⟩
      · exact wrB_cons.2 ⟨h, h32, wrB_cons.2 ⟨by omega, h2, h3⟩⟩
theorem ins_has (w : Wr) (k : Int) : ∀ ws, hasB (ins ws w) k = (hasB ws k || decide (w.b = k))
  | [] => by simp [ins, hasB]
  | x :: r => by
    have ih := ins_has w k r
    simp only [ins]
    split
    · simp only [hasB, List.any_cons] at ih ⊢
      rw [ih, Bool.or_assoc]
    · split
      · rename_i hx
        simp only [hasB, List.any_cons, hx]
        cases decide (w.b = k) <;> simp
      · simp only [hasB, List.any_cons]
        cases decide (w.b = k) <;> simp
theorem ins_len (w : Wr) : ∀ {ws : List Wr} {l : Int}, wrB l ws = true → (ins ws w).length = bif hasB ws w.b then ws.length else ws.length + 1
  | [], _, _ => rfl
  | x :: r, l, hw => by
    obtain ⟨h1, h2, h3⟩ := wrB_cons.1 hw
    have ih := ins_len w h3
    simp only [ins]
    split
    · rename_i hx
      have : hasB (x :: r) w.b = hasB r w.b := by
        have : ¬ x.b = w.b := by omega
        simp [hasB, this]
      rw [this, List.length_cons, ih]
      cases hasB r w.b <;> simp
    · split
      · rename_i hx
        have : hasB (x :: r) w.b = true := by simp [hasB, hx]
        rw [this]; rfl
      · have : hasB (x :: r) w.b = false := by
          rw [Bool.eq_false_iff]
          intro h
          obtain ⟨y, hy, hyb⟩ := hasB_iff.1 h
          rcases List.mem_cons.1 hy with rfl | hy
          · omega
          · have := wrB_lt h3 y hy; omega
        rw [this]; rfl
theorem ins_comm (a b : Wr) (hab : a.b ≠ b.b) : ∀ ws, ins (ins ws a) b = ins (ins ws b) a
  | [] => by
    simp only [ins]
    by_cases h : a.b < b.b
    · rw [if_pos h, if_neg (by omega), if_neg (by omega)]
    · rw [if_neg h, if_neg hab, if_pos (by omega)]
  | x :: r => by
    have ih := ins_comm a b hab r
    simp only [ins]
    by_cases h1 : x.b < a.b <;> by_cases h2 : x.b < b.b
    · simp only [if_pos h1, if_pos h2, ins, ih]
    · simp only [if_pos h1, if_neg h2]
      by_cases h3 : x.b = b.b
      · simp only [ins, if_neg h2, if_pos h3, if_pos (show b.b < a.b by omega)]
      · simp only [ins, if_neg h2, if_neg h3, if_pos (show b.b < a.b by omega), if_pos h1]
    · simp only [if_neg h1, if_pos h2]
      by_cases h3 : x.b = a.b
      · simp only [ins, if_neg h1, if_pos h3, if_pos (show a.b < b.b by omega)]
      · simp only [ins, if_neg h1, if_neg h3, if_pos (show a.b < b.b by omega), if_pos h2]
    · simp only [if_neg h1, if_neg h2]
      by_cases h3 : x.b = a.b <;> by_cases h4 : x.b = b.b
      · exact absurd (h3.symm.trans h4) hab
      · simp only [if_pos h3, if_neg h4, ins, if_neg (show ¬ a.b < b.b by omega), if_neg hab, if_pos (show b.b < a.b by omega), if_neg h1]
      · simp only [if_neg h3, if_pos h4, ins, if_neg (show ¬ b.b < a.b by omega), if_neg (Ne.symm hab), if_pos (show a.b < b.b by omega), if_neg h2]
      · simp only [if_neg h3, if_neg h4, ins]
        by_cases h5 : a.b < b.b
        · simp only [if_pos h5, if_neg h2, if_neg h4, if_neg (show ¬ b.b < a.b by omega), if_neg (Ne.symm hab)]
        · simp only [if_neg h5, if_neg hab, if_pos (show b.b < a.b by omega), if_neg h1, if_neg h3]
theorem ins_same (a b : Wr) (hab : a.b = b.b) : ∀ ws, ins (ins ws a) b = ins ws b
  | [] => by simp [ins, hab]
  | x :: r => by
    have ih := ins_same a b hab r
    simp only [ins]
    by_cases h1 : x.b < b.b
    · rw [if_pos (by omega), if_pos h1]
      simp only [ins, if_pos h1, ih]
    · by_cases h3 : x.b = b.b
      · rw [if_neg (by omega), if_pos (by omega), if_neg h1, if_pos h3]
        simp only [ins]
        rw [if_neg (by omega), if_pos hab]
      · rw [if_neg (by omega), if_neg (by omega), if_neg h1, if_neg h3]
        simp only [ins]
        rw [if_neg (by omega), if_pos hab]
/-- A put that goes through. -/
structure Ok (ws : List Wr) (w : Wr) : Prop where
  wn : WnB ws = true
  b0 : 0 ≤ w.b
  b32 : w.b < 32
  room : hasB ws w.b = true ∨ ws.length < 8
theorem putF_ok {ws : List Wr} {w : Wr} (h : Ok ws w) : putF ws w = (ins ws w, 0) := by
  unfold putF
  have : (hasB ws w.b || Nat.blt ws.length 8) = true := by
    rcases h.room with h | h
    · rw [h]; rfl
    · have : Nat.blt ws.length 8 = true := by rw [Nat.blt_eq]; exact h
      rw [this, Bool.or_true]
  simp only [h.wn, decide_eq_true h.b0, decide_eq_true h.b32, Bool.and_true, cond_true, this]
theorem putF_err {ws : List Wr} {w : Wr} : (putF ws w).2 = 0 ↔ Ok ws w := by
  constructor
  · intro h
    unfold putF at h
    cases h1 : (WnB ws && decide (0 ≤ w.b) && decide (w.b < 32)) with
    | false => rw [h1] at h; cases h
    | true =>
      rw [h1] at h
      simp only [cond_true] at h
      cases h2 : (hasB ws w.b || Nat.blt ws.length 8) with
      | false => rw [h2] at h; cases h
      | true =>
        simp only [Bool.and_eq_true, decide_eq_true_iff] at h1
        refine ⟨h1.1.1, h1.1.2, h1.2, ?_⟩
        rw [Bool.or_eq_true] at h2
        exact h2.imp id fun h => by rwa [Nat.blt_eq] at h
  · intro h; rw [putF_ok h]
theorem WnB_split {ws : List Wr} : WnB ws = true ↔ wrB (-1) ws = true ∧ ws.length ≤ 8 := by
  unfold WnB; rw [Bool.and_eq_true, Nat.ble_eq]
theorem Ok.wn' {ws : List Wr} {w : Wr} (h : Ok ws w) : WnB (ins ws w) = true := by
  obtain ⟨h1, h2⟩ := WnB_split.1 h.wn
  refine WnB_split.2 ⟨ins_wr w h.b32 h1 (by have := h.b0; omega), ?_⟩
  rw [ins_len w h1]
  rcases h.room with h3 | h3
  · rw [h3]; exact h2
  · cases hasB ws w.b <;> simp <;> omega
theorem putF_full {ws : List Wr} {w : Wr} (h1 : WnB ws = true) (h2 : 0 ≤ w.b) (h3 : w.b < 32) (h : ¬ Ok ws w) : putF ws w = ([], 50) := by
  unfold putF
  have : (hasB ws w.b || Nat.blt ws.length 8) = false := by
    rw [Bool.eq_false_iff]
    intro hh
    rw [Bool.or_eq_true] at hh
    exact h ⟨h1, h2, h3, hh.imp id fun h => by rwa [Nat.blt_eq] at h⟩
  simp only [h1, decide_eq_true h2, decide_eq_true h3, Bool.and_true, cond_true, this, cond_false]
/-- The order of two puts. -/
theorem put_order {l : List Wr} {a b : Wr} (ha : Ok l a) (hb : Ok l b) (hab : a.b ≠ b.b) : (putF (ins l a) b).2 = (putF (ins l b) a).2 ∧ ((putF (ins l a) b).2 = 0 → (putF (ins l a) b).1 = (putF (ins l b) a).1) := by
  obtain ⟨h1, h2⟩ := WnB_split.1 ha.wn
  have e1 : Ok (ins l a) b ↔ (hasB l b.b = true ∨ (ins l a).length < 8) := by
    have : hasB (ins l a) b.b = hasB l b.b := by rw [ins_has, decide_eq_false hab, Bool.or_false]
    exact ⟨fun h => by rw [← this]; exact h.room, fun h => ⟨ha.wn', hb.b0, hb.b32, by rw [this]; exact h⟩⟩
  have e2 : Ok (ins l b) a ↔ (hasB l a.b = true ∨ (ins l b).length < 8) := by
    have : hasB (ins l b) a.b = hasB l a.b := by rw [ins_has, decide_eq_false (Ne.symm hab), Bool.or_false]
    exact ⟨fun h => by rw [← this]; exact h.room, fun h => ⟨hb.wn', ha.b0, ha.b32, by rw [this]; exact h⟩⟩
  have e3 : Ok (ins l a) b ↔ Ok (ins l b) a := by
    rw [e1, e2, ins_len a h1, ins_len b h1]
    have r1 := ha.room
    have r2 := hb.room
    cases h3 : hasB l a.b <;> cases h4 : hasB l b.b <;> simp [h3, h4] at r1 r2 ⊢ <;> omega
  by_cases h : Ok (ins l a) b
  · rw [putF_ok h, putF_ok (e3.1 h)]
    exact ⟨rfl, fun _ => ins_comm a b hab l⟩
  · rw [putF_full ha.wn' hb.b0 hb.b32 h, putF_full hb.wn' ha.b0 ha.b32 (fun h' => h (e3.2 h'))]
    exact ⟨rfl, fun _ => rfl⟩
end Go.Proofs.Ytlpakbhlpgpiaaa
