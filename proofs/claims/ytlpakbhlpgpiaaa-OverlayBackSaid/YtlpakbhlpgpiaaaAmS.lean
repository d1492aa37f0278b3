/- A scope through which the run goes without a jump; a loop of one round. -/
import Derived.Test.YtlpakbhlpgpiaaaAmK
import Derived.Scope
set_option linter.unusedVariables false
namespace Go.Am
variable {P : Program} {σ : St} {Q : Exit → St → Prop}
def NG (Q : Exit → St → Prop) : Exit → St → Prop
  | .goto _, _ => False
  | e, σ => Q e σ
theorem NG.n (h : Q .normal σ) : NG Q .normal σ := h
theorem NG.r (h : Q .ret σ) : NG Q .ret σ := h
theorem NG.e {i : Nat} (h : Q (.exit i) σ) : NG Q (.exit i) σ := h
theorem AW.scope {c : Code} (h : AW P c σ (NG Q)) : AW P (.scope c) σ Q := fun κ a w hs =>
  wp_scope_straight (wp_mono (h κ a w hs) fun e a1 w1 ⟨κ1, σ1, h1, h2, h3⟩ => by
    cases e with
    | goto l => exact h3.elim
    | _ => exact ⟨κ1, σ1, h1, h2, h3⟩)
theorem AW.loop1 {c : Code} (h : AW P c σ (Then (fun _ => False) Q)) : AW P (.loop c) σ Q :=
  AW.loop (fun _ σ' => σ' = σ) 0 rfl (fun m σ' e => by
    subst e
    refine h.mono fun e σ1 h1 => ?_
    cases e with
    | normal => exact h1.elim
    | _ => exact h1)
theorem Kn.f {σ : St} (h : False) : Then (fun _ => False) Q .normal σ := h
end Go.Am
namespace Go.Am
section
variable {m n : Int}
theorem eqT (h : m = n) : cmp .eql m n = some true := by simp [cmp, h]
theorem eqF (h : m ≠ n) : cmp .eql m n = some false := by simp [cmp, h]
theorem neT (h : m ≠ n) : cmp .neq m n = some true := by simp [cmp, h]
theorem neF (h : m = n) : cmp .neq m n = some false := by simp [cmp, h]
theorem ltT (h : m < n) : cmp .lss m n = some true := by simp [cmp, h]
theorem ltF (h : n ≤ m) : cmp .lss m n = some false := by simp [cmp]; omega
theorem leT (h : m ≤ n) : cmp .leq m n = some true := by simp [cmp, h]
theorem leF (h : n < m) : cmp .leq m n = some false := by simp [cmp]; omega
theorem gtT (h : n < m) : cmp .gtr m n = some true := by simp [cmp]; omega
theorem gtF (h : m ≤ n) : cmp .gtr m n = some false := by simp [cmp]; omega
theorem geT (h : n ≤ m) : cmp .geq m n = some true := by simp [cmp]; omega
theorem geF (h : m < n) : cmp .geq m n = some false := by simp [cmp]; omega
end
end Go.Am
