/- A layer over the walk's rules. This text: small helps for a walk. -/
import Derived.Test.YtlpakbhlpgpiaaaAmJ
set_option linter.unusedVariables false
namespace Go.Am
variable {P : Program}

theorem wrapI {n : Int} (h0 : -9223372036854775808 ≤ n) (h1 : n ≤ 9223372036854775807) : IntKind.i64.wrap n = n := by
  unfold IntKind.wrap
  simp [IntKind.signed, IntKind.bits]
  omega
def WeakL (s T' : List (Nat × T × TypeId)) : Prop := ∀ k x, lk s k = some x → lk T' k = some x
theorem WeakL.nil {T' : List (Nat × T × TypeId)} : WeakL [] T' := fun _ _ h => by cases h
theorem WeakL.cons {s T' : List (Nat × T × TypeId)} {k : Nat} {x : X} (h : lk T' k = some x) (r : WeakL s T') : WeakL ((k, x) :: s) T' := fun j y hj => by
  simp only [lk] at hj
  cases hb : Nat.beq k j with
  | true =>
    rw [hb] at hj
    have := Nat.eq_of_beq_eq_true hb
    subst this
    rw [h]; exact hj
  | false => rw [hb] at hj; exact r j y hj
/-- A loop: what holds at each round's head is said of a few slots. -/
theorem AW.loopT {body : Code} {n : Nat} {t : List (Nat × T × TypeId)} {h : List AO} {u : Tips} {Q : Exit → St → Prop} (I : Nat → List (Nat × T × TypeId) → List AO → (Tips) → Prop) (m : Nat) (t1 : List (Nat × T × TypeId)) (hw : WeakL t1 t) (h0 : I m t1 h u)
    (hr : ∀ m t h u, I m t h u → AW P body ⟨n, t, h, u⟩ (Then (fun σ' => σ'.n = n ∧ ∃ m' t', m' < m ∧ WeakL t' σ'.t ∧ I m' t' σ'.h σ'.u) Q)) : AW P (.loop body) ⟨n, t, h, u⟩ Q := by
  refine AW.weak (σ' := ⟨n, t1, h, u⟩) ⟨rfl, hw, rfl, rfl⟩ ?_
  refine AW.loop (fun m σ => σ.n = n ∧ I m σ.t σ.h σ.u) m ⟨rfl, h0⟩ fun m σ hI => ?_
  obtain ⟨n', t', h', u'⟩ := σ
  obtain ⟨e, hI⟩ := hI
  have e : n' = n := e
  subst e
  refine (hr m t' h' u' hI).mono fun ex σ' hq => ?_
  cases ex with
  | normal =>
    obtain ⟨a1, m', t2, a2, a3, a4⟩ := hq
    exact ⟨m', a2, ⟨σ'.n, t2, σ'.h, σ'.u⟩, ⟨rfl, a3, rfl, rfl⟩, a1, a4⟩
  | exit i => exact hq
  | goto i => exact hq
  | ret => exact hq
  | panic c => exact hq
  | outgrown => exact hq
end Go.Am
