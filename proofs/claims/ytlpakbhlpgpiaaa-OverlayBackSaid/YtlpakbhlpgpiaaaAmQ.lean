/- A layer over the walk's rules. This text: bits of numbers that are not negative. -/
import Derived.Test.YtlpakbhlpgpiaaaAmZ
set_option linter.unusedVariables false
set_option linter.unusedSimpArgs false
namespace Go.Am
variable {P : Program} {σ : St}
variable {d : Option Nat} {ty : TypeId} {p : String} {af : Array Edge} {g : Option (Nat × Bool)} {Kp : X → List AO → (Tips) → Prop}

theorem wrapN {n : Nat} (h : n < 2 ^ 63) : IntKind.i64.wrap (n : Int) = n := by
  unfold IntKind.wrap
  simp [IntKind.signed, IntKind.bits]
  omega
theorem ofN {n : Nat} (h : n < 2 ^ 63) : (BitVec.ofInt 64 (n : Int)).toNat = n := by
  rw [BitVec.toNat_ofInt]
  omega
theorem ofN' {n : Nat} (h : n < 2 ^ 63) : (BitVec.ofNat 64 n).toNat = n := by
  rw [BitVec.toNat_ofNat]
  omega
def natOp (op : BinOp) (a b : Nat) : Option Nat :=
  match op with
  | .and => some (a &&& b)
  | .or => some (a ||| b)
  | .xor => some (a ^^^ b)
  | _ => none
theorem run_natOp {op : BinOp} {a b r : Nat} (h : natOp op a b = some r) (ha : a < 2 ^ 63) (hb : b < 2 ^ 63) (t : TypeId) (x y : Operand) (w : World) :
    (do eqGuard op t x y (.int .i64 a) (.int .i64 b); binOp op t (.int .i64 a) (.int .i64 b) : Sem Value).run P w = .ok (.int .i64 r) w := by
  rw [Sem.run_bind, run_eqGuard_int]
  cases op <;> simp only [natOp, Option.some.injEq, reduceCtorEq] at h <;> subst h <;>
    simp [binOp, Op.intBits, IntKind.bits, BitVec.toNat_and, BitVec.toNat_or, BitVec.toNat_xor, ofN ha, ofN hb, Result.andThen_ok]
  · show IntKind.i64.wrap (((BitVec.ofNat 64 a &&& BitVec.ofNat 64 b : BitVec 64).toNat : Nat) : Int) = _
    rw [BitVec.toNat_and, ofN' ha, ofN' hb]; exact wrapN (Nat.and_lt_two_pow _ hb)
  · show IntKind.i64.wrap (((BitVec.ofNat 64 a ||| BitVec.ofNat 64 b : BitVec 64).toNat : Nat) : Int) = _
    rw [BitVec.toNat_or, ofN' ha, ofN' hb]; exact wrapN (Nat.or_lt_two_pow ha hb)
  · show IntKind.i64.wrap (((BitVec.ofNat 64 a ^^^ BitVec.ofNat 64 b : BitVec 64).toNat : Nat) : Int) = _
    rw [BitVec.toNat_xor, ofN' ha, ofN' hb]; exact wrapN (Nat.xor_lt_two_pow ha hb)
theorem OPE.bits {op : BinOp} {x y : Operand} {t t2 : TypeId} {a b r : Nat} (hx : IntAt σ x .i64 (a : Int)) (hy : IntAt σ y .i64 (b : Int)) (hr : natOp op a b = some r) (ha : a < 2 ^ 63) (hb : b < 2 ^ 63) (hk : Kp (.s (.int .i64 r), ty) σ.h σ.u) :
    OPE P ⟨d, .binOp op t x y t2, ty, p, af, g⟩ σ Kp :=
  .pure (fun κ a' w hs => ⟨.int .i64 r, by
    simp only [execOp, hx.eval hs, hy.eval hs]
    rw [Sem.run_bind, run_natOp hr ha hb]; rfl, VV_s_mk rfl⟩) hk
theorem OPE.shl {x y : Operand} {t t2 : TypeId} {ik : IntKind} {a n r : Nat} (hx : IntAt σ x .i64 (a : Int)) (hy : IntAt σ y ik (n : Int)) (hn : n < 64) (hr : a * 2 ^ n = r) (hb : r < 2 ^ 63) (hk : Kp (.s (.int .i64 r), ty) σ.h σ.u) :
    OPE P ⟨d, .binOp .shl t x y t2, ty, p, af, g⟩ σ Kp :=
  .pure (fun κ a' w hs => ⟨.int .i64 r, by
    subst hr
    simp only [execOp, hx.eval hs, hy.eval hs]
    have h1 : ¬ ((n : Int) < 0) := by omega
    have h2 : min n 64 = n := by omega
    have h3 : ((a : Int) * 2 ^ n) = ((a * 2 ^ n : Nat) : Int) := by simp
    simp only [Sem.run_bind, run_eqGuard_int, Result.andThen_ok, binOp, Op.shift, if_neg h1, Int.toNat_natCast, IntKind.bits, h2, h3, wrapN hb]
    rfl, VV_s_mk rfl⟩) hk
theorem OPE.shr {x y : Operand} {t t2 : TypeId} {ik : IntKind} {a n r : Nat} (hx : IntAt σ x .i64 (a : Int)) (hy : IntAt σ y ik (n : Int)) (hn : n < 64) (hr : a / 2 ^ n = r) (hk : Kp (.s (.int .i64 r), ty) σ.h σ.u) :
    OPE P ⟨d, .binOp .shr t x y t2, ty, p, af, g⟩ σ Kp :=
  .pure (fun κ a' w hs => ⟨.int .i64 r, by
    subst hr
    simp only [execOp, hx.eval hs, hy.eval hs]
    have h1 : ¬ ((n : Int) < 0) := by omega
    have h2 : min n 64 = n := by omega
    have h3 : (a : Int).fdiv (2 ^ n) = ((a / 2 ^ n : Nat) : Int) := by
      rw [Int.fdiv_eq_ediv_of_nonneg _ (by have : (0 : Int) < 2 ^ n := Int.pow_pos (by omega); omega)]
      simp
    simp only [Sem.run_bind, run_eqGuard_int, Result.andThen_ok, binOp, Op.shift, if_neg h1, Int.toNat_natCast, IntKind.bits, h2, h3]
    rfl, VV_s_mk rfl⟩) hk
theorem OPE.quo {x y : Operand} {t t2 : TypeId} {i : IntKind} {m n q : Int} (hx : IntAt σ x i m) (hy : IntAt σ y i n) (hn : n ≠ 0) (hq : i.wrap (m.tdiv n) = q) (hk : Kp (.s (.int i q), ty) σ.h σ.u) :
    OPE P ⟨d, .binOp .quo t x y t2, ty, p, af, g⟩ σ Kp :=
  .pure (fun κ a' w hs => ⟨.int i q, by
    subst hq
    simp only [execOp, hx.eval hs, hy.eval hs, Sem.run_bind, run_eqGuard_int, Result.andThen_ok]
    simp [binOp, Op.intDiv, hn], VV_s_mk rfl⟩) hk
theorem OPE.rem {x y : Operand} {t t2 : TypeId} {i : IntKind} {m n q : Int} (hx : IntAt σ x i m) (hy : IntAt σ y i n) (hn : n ≠ 0) (hq : m.tmod n = q) (hk : Kp (.s (.int i q), ty) σ.h σ.u) :
    OPE P ⟨d, .binOp .rem t x y t2, ty, p, af, g⟩ σ Kp :=
  .pure (fun κ a' w hs => ⟨.int i q, by
    subst hq
    simp only [execOp, hx.eval hs, hy.eval hs, Sem.run_bind, run_eqGuard_int, Result.andThen_ok]
    simp [binOp, Op.intDiv, hn], VV_s_mk rfl⟩) hk
theorem quoN {a b : Nat} (h : a < 2 ^ 63) : IntKind.i64.wrap ((a : Int).tdiv b) = (a / b : Nat) := by
  rw [Int.tdiv_eq_ediv_of_nonneg (by omega), ← Int.natCast_ediv]
  exact wrapN (Nat.lt_of_le_of_lt (Nat.div_le_self _ _) h)
theorem modN {a b : Nat} : (a : Int).tmod b = (a % b : Nat) := by
  rw [Int.tmod_eq_emod_of_nonneg (by omega), ← Int.natCast_emod]
end Go.Am
