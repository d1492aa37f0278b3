/- Package route: the floats that it reckons with are the whole numbers up to eight: what is reckoned with them. -/
import Derived.Test.YtpjaijenjkcleaaS1
set_option linter.unusedVariables false
namespace Go.Proofs.Ytpjaijenjkcleaa
open Go.Am
/-- The bits of a float. -/
def F : Nat → Nat
  | 0 => 0
  | 1 => 4607182418800017408
  | 2 => 4611686018427387904
  | 3 => 4613937818241073152
  | 4 => 4616189618054758400
  | 5 => 4617315517961601024
  | 6 => 4618441417868443648
  | 7 => 4619567317775286272
  | _ => 4620693217682128896
theorem all9 {p : Nat → Nat → Bool} (h : ((List.range 9).all fun a => (List.range 9).all (p a)) = true) {a b : Nat} (ha : a ≤ 8) (hb : b ≤ 8) : p a b = true :=
  List.all_eq_true.1 (List.all_eq_true.1 h a (List.mem_range.2 (by omega))) b (List.mem_range.2 (by omega))
def okN (x : Option Nat) (n : Nat) : Bool := match x with
  | some m => Nat.beq m n
  | none => false
theorem okN_iff {x : Option Nat} {n : Nat} (h : okN x n = true) : x = some n := by
  cases x with
  | none => cases h
  | some m => rw [Nat.eq_of_beq_eq_true h]
theorem F_add0 {n : Nat} (h : n ≤ 7) : FloatKind.f64.format.add (F n) 4607182418800017408 = some (F (n + 1)) :=
  okN_iff (all9 (p := fun a _ => Nat.ble 8 a || okN (FloatKind.f64.format.add (F a) 4607182418800017408) (F (a + 1))) (by kernel_rfl) (a := n) (b := 0) (by omega) (by omega) |> fun q => by
    simp only [Bool.or_eq_true] at q
    rcases q with q | q
    · have := Nat.le_of_ble_eq_true q; omega
    · exact q)
theorem F_add {n : Nat} (h : n ≤ 7) (x y : Operand) (w : World) : (do eqGuard .add 44 x y (.float .f64 (F n)) (.float .f64 4607182418800017408); binOp .add 44 (.float .f64 (F n)) (.float .f64 4607182418800017408) : Sem Value).run Try.prog w = .ok (.float .f64 (F (n + 1))) w := by
  have e : (do eqGuard .add 44 x y (.float .f64 (F n)) (.float .f64 4607182418800017408); binOp .add 44 (.float .f64 (F n)) (.float .f64 4607182418800017408) : Sem Value).run Try.prog w = (match FloatKind.f64.format.add (F n) 4607182418800017408 with | some r => pure (.float .f64 r) | none => do pure (.float .f64 (← choose (.nanBits .f64 (F n) 4607182418800017408))) : Sem Value).run Try.prog w := rfl
  rw [e, F_add0 h]; rfl
theorem F_conv {n : Nat} (h : n ≤ 8) (w : World) : (convert 3 44 (.int .i64 (n : Nat))).run Try.prog w = .ok (.float .f64 (F n)) w := by
  have e : (convert 3 44 (.int .i64 (n : Nat))).run Try.prog w = .ok (.float .f64 (FloatKind.f64.nearest (n : Nat))) w := rfl
  have q : Nat.beq (FloatKind.f64.nearest (n : Nat)) (F n) = true := all9 (p := fun a _ => Nat.beq (FloatKind.f64.nearest (a : Nat)) (F a)) (by kernel_rfl) h (Nat.zero_le 8)
  rw [e, Nat.eq_of_beq_eq_true q]
def okO (x : Option Ordering) (a b : Nat) : Bool := match x with
  | some .lt => Nat.blt a b
  | some .eq => Nat.beq a b
  | some .gt => Nat.blt b a
  | none => false
theorem F_ord {a b : Nat} (ha : a ≤ 8) (hb : b ≤ 8) : okO (FloatKind.f64.format.order (F a) (F b)) a b = true :=
  all9 (p := fun a b => okO (FloatKind.f64.format.order (F a) (F b)) a b) (by kernel_rfl) ha hb
theorem F_gtr {a b : Nat} (ha : a ≤ 8) (hb : b ≤ 8) (x y : Operand) (w : World) : (do eqGuard .gtr 44 x y (.float .f64 (F a)) (.float .f64 (F b)); binOp .gtr 44 (.float .f64 (F a)) (.float .f64 (F b)) : Sem Value).run Try.prog w = .ok (.bool (decide (b < a))) w := by
  have e : (do eqGuard .gtr 44 x y (.float .f64 (F a)) (.float .f64 (F b)); binOp .gtr 44 (.float .f64 (F a)) (.float .f64 (F b)) : Sem Value).run Try.prog w = .ok (.bool (FloatKind.f64.format.order (F a) (F b) == some .gt)) w := rfl
  have h := F_ord ha hb
  rw [e]
  congr 2
  unfold okO at h
  split at h <;> rename_i hq <;> rw [hq] <;> simp at h ⊢ <;> omega
theorem F_lss {a b : Nat} (ha : a ≤ 8) (hb : b ≤ 8) (x y : Operand) (w : World) : (do eqGuard .lss 44 x y (.float .f64 (F a)) (.float .f64 (F b)); binOp .lss 44 (.float .f64 (F a)) (.float .f64 (F b)) : Sem Value).run Try.prog w = .ok (.bool (decide (a < b))) w := by
  have e : (do eqGuard .lss 44 x y (.float .f64 (F a)) (.float .f64 (F b)); binOp .lss 44 (.float .f64 (F a)) (.float .f64 (F b)) : Sem Value).run Try.prog w = .ok (.bool (FloatKind.f64.format.order (F a) (F b) == some .lt)) w := rfl
  have h := F_ord ha hb
  rw [e]
  congr 2
  unfold okO at h
  split at h <;> rename_i hq <;> rw [hq] <;> simp at h ⊢ <;> omega
theorem F_leq {a b : Nat} (ha : a ≤ 8) (hb : b ≤ 8) (x y : Operand) (w : World) : (do eqGuard .leq 44 x y (.float .f64 (F a)) (.float .f64 (F b)); binOp .leq 44 (.float .f64 (F a)) (.float .f64 (F b)) : Sem Value).run Try.prog w = .ok (.bool (decide (a ≤ b))) w := by
  have e : (do eqGuard .leq 44 x y (.float .f64 (F a)) (.float .f64 (F b)); binOp .leq 44 (.float .f64 (F a)) (.float .f64 (F b)) : Sem Value).run Try.prog w = .ok (.bool (FloatKind.f64.format.order (F a) (F b) == some .lt || FloatKind.f64.format.order (F a) (F b) == some .eq)) w := rfl
  have h := F_ord ha hb
  rw [e]
  congr 2
  unfold okO at h
  split at h <;> rename_i hq <;> rw [hq] <;> simp at h ⊢ <;> omega
theorem F_int {n : Nat} (h : n ≤ 8) (w : World) : (convert 44 3 (.float .f64 (F n))).run Try.prog w = .ok (.int .i64 (n : Nat)) w := by
  match n, h with
  | 0, _ => rfl
  | 1, _ => rfl
  | 2, _ => rfl
  | 3, _ => rfl
  | 4, _ => rfl
  | 5, _ => rfl
  | 6, _ => rfl
  | 7, _ => rfl
  | 8, _ => rfl
theorem F_sub0 {a b : Nat} (ha : a ≤ 8) (hb : b ≤ a) : FloatKind.f64.format.sub (F a) (F b) = some (F (a - b)) := by
  have q := all9 (p := fun a b => Nat.blt a b || okN (FloatKind.f64.format.sub (F a) (F b)) (F (a - b))) (by kernel_rfl) ha (b := b) (by omega)
  simp only [Bool.or_eq_true] at q
  rcases q with q | q
  · rw [Nat.blt_eq] at q; omega
  · exact okN_iff q
theorem F_some {i j : Nat} (ha : i ≤ 8) (hb : j ≤ 8) : ∃ r, FloatKind.f64.format.sub (F i) (F j) = some r := by
  have q := all9 (p := fun a b => (FloatKind.f64.format.sub (F a) (F b)).isSome) (by kernel_rfl) ha hb
  exact Option.isSome_iff_exists.1 q
theorem F_csub {a b i j : Nat} (ha : a ≤ 8) (hb : b ≤ a) (hi : i ≤ 8) (hj : j ≤ 8) : ∃ im, ∀ (x y : Operand) (w : World), (do eqGuard .sub 43 x y (.complex .f64 (F a) (F i)) (.complex .f64 (F b) (F j)); binOp .sub 43 (.complex .f64 (F a) (F i)) (.complex .f64 (F b) (F j)) : Sem Value).run Try.prog w = .ok (.complex .f64 (F (a - b)) im) w := by
  obtain ⟨r, hr⟩ := F_some hi hj
  refine ⟨r, fun x y w => ?_⟩
  have e : (do eqGuard .sub 43 x y (.complex .f64 (F a) (F i)) (.complex .f64 (F b) (F j)); binOp .sub 43 (.complex .f64 (F a) (F i)) (.complex .f64 (F b) (F j)) : Sem Value).run Try.prog w =
    (do pure (.complex .f64 (← Op.Complex.arith .sub .f64 (F a) (F b)) (← Op.Complex.arith .sub .f64 (F i) (F j))) : Sem Value).run Try.prog w := rfl
  have f : ∀ x y r (w : World), FloatKind.f64.format.sub x y = some r → (Op.Complex.arith .sub .f64 x y).run Try.prog w = .ok r w := fun x y r w h => by
    have : (Op.Complex.arith .sub .f64 x y).run Try.prog w = ((match FloatKind.f64.format.sub x y with | some r => pure (.float .f64 r) | none => do pure (.float .f64 (← choose (.nanBits .f64 x y))) : Sem Value) >>= fun v => match v with | .float _ r => pure r | _ => stuck "complexOp: float expected").run Try.prog w := rfl
    rw [this, h]; rfl
  rw [e]
  simp only [Sem.run_bind, f _ _ _ _ (F_sub0 ha hb), f _ _ _ _ hr, Result.andThen_ok, Sem.run_pure]
end Go.Proofs.Ytpjaijenjkcleaa
