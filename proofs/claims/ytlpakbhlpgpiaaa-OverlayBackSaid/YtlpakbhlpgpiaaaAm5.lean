/- A layer over the walk's rules. This text: the state of a frame; code, step by step. -/
import Derived.Test.YtlpakbhlpgpiaaaAm4
set_option linter.unusedVariables false
namespace Go.Am

structure St where
  n : Nat
  t : List (Nat × T × TypeId)
  h : List AO
  u : Tips

def lk : List (Nat × T × TypeId) → Nat → Option (T × TypeId)
  | [], _ => none
  | (k, x) :: r, j => match Nat.beq k j with
    | true => some x
    | false => lk r j

/-- A constant as a tree. -/
def ofV : Value → T
  | .slice none 0 0 => .lst [] .nil
  | v => .s v
def ev (σ : St) (x : Operand) (ty : TypeId) : Option (T × TypeId) :=
  match x with
  | .tmp k => lk σ.t k
  | .const v => some (ofV v, ty)
  | .func f => some (.fn (.func f) [] [], 0)
  | .global _ => none

structure SR (P : Program) (κ : K) (σ : St) (a : Act) (w : World) : Prop where
  defers : a.defers = []
  size : a.tmps.size = σ.n
  tmp : ∀ k t ty, lk σ.t k = some (t, ty) → ∃ v, a.tmps[k]? = some v ∧ VV P κ t ty v
  wr : WR P κ w σ.h σ.u

def lift (P : Program) (κ : K) (u : Tips) (w : World) (Q : Exit → St → Prop) : Exit → Act → World → Prop :=
  fun ex a' w' => ∃ κ' σ', Ext κ u w κ' σ'.u w' ∧ SR P κ' σ' a' w' ∧ Q ex σ'

def AW (P : Program) (c : Code) (σ : St) (Q : Exit → St → Prop) : Prop :=
  ∀ κ a w, SR P κ σ a w → c.wp P (lift P κ σ.u w Q) a w

/-- A region's operations, in the order of the text. -/
def OPS (P : Program) (ops : Array Oper) (rest : List Oper) (σ : St) (Q : St → Prop) : Prop :=
  ∀ κ a w (R : Exit → Act → World → Prop), SR P κ σ a w → (∀ κ' σ' a' w', Ext κ σ.u w κ' σ'.u w' → SR P κ' σ' a' w' → Q σ' → R .normal a' w') → wpList P ops R rest a w

def Then (f : St → Prop) (Q : Exit → St → Prop) : Exit → St → Prop
  | .normal, σ => f σ
  | e, σ => Q e σ
def InB (id : Nat) (Q : Exit → St → Prop) : Exit → St → Prop
  | .exit i, σ => match Nat.beq i id with
    | true => Q .normal σ
    | false => Q (.exit i) σ
  | e, σ => Q e σ

section
variable {P : Program} {σ : St} {Q : Exit → St → Prop}

theorem lift_trans {κ κ1 : K} {u u1 : Tips} {w w1 : World} (h : Ext κ u w κ1 u1 w1) {ex : Exit} {a' : Act} {w' : World} (k : lift P κ1 u1 w1 Q ex a' w') : lift P κ u w Q ex a' w' := by
  obtain ⟨κ', σ', h1, h2, h3⟩ := k
  exact ⟨κ', σ', h.trans h1, h2, h3⟩

theorem AW.mono {c : Code} {Q' : Exit → St → Prop} (h : AW P c σ Q) (hq : ∀ e σ, Q e σ → Q' e σ) : AW P c σ Q' := fun κ a w hs =>
  wp_mono (h κ a w hs) fun e a w ⟨κ', σ', h1, h2, h3⟩ => ⟨κ', σ', h1, h2, hq _ _ h3⟩
theorem AW.skip (h : Q .normal σ) : AW P .skip σ Q := fun κ a w hs => wp_skip ⟨κ, σ, .refl _ _ _, hs, h⟩
theorem AW.label {l : Nat} (h : Q .normal σ) : AW P (.label l) σ Q := fun κ a w hs => wp_label ⟨κ, σ, .refl _ _ _, hs, h⟩
theorem AW.exit {i : Nat} (h : Q (.exit i) σ) : AW P (.exit i) σ Q := fun κ a w hs => wp_exit ⟨κ, σ, .refl _ _ _, hs, h⟩
theorem AW.goto {i : Nat} (h : Q (.goto i) σ) : AW P (.goto i) σ Q := fun κ a w hs => wp_goto ⟨κ, σ, .refl _ _ _, hs, h⟩
theorem AW.ret (h : Q .ret σ) : AW P .ret σ Q := fun κ a w hs => wp_ret ⟨κ, σ, .refl _ _ _, hs, h⟩
theorem AW.seq {x y : Code} (h : AW P x σ (Then (fun σ' => AW P y σ' Q) Q)) : AW P (.seq x y) σ Q := fun κ a w hs =>
  wp_seq (wp_mono (h κ a w hs) fun e a1 w1 ⟨κ1, σ1, h1, h2, h3⟩ => by
    cases e with
    | normal => exact wp_mono (h3 κ1 a1 w1 h2) fun e2 a2 w2 k => lift_trans h1 k
    | _ => exact ⟨κ1, σ1, h1, h2, h3⟩)
theorem AW.block {i : Nat} {x : Code} (h : AW P x σ (InB i Q)) : AW P (.block i x) σ Q := fun κ a w hs =>
  wp_block (wp_mono (h κ a w hs) fun e a1 w1 ⟨κ1, σ1, h1, h2, h3⟩ => by
    cases e with
    | exit j =>
      show if j = i then _ else _
      simp only [InB] at h3
      cases hj : Nat.beq j i with
      | true =>
        rw [hj] at h3
        rw [if_pos (Nat.eq_of_beq_eq_true hj)]; exact ⟨κ1, σ1, h1, h2, h3⟩
      | false =>
        rw [hj] at h3
        rw [if_neg (Nat.ne_of_beq_eq_false hj)]; exact ⟨κ1, σ1, h1, h2, h3⟩
    | _ => exact ⟨κ1, σ1, h1, h2, h3⟩)

theorem SR.eval {κ : K} {a : Act} {w : World} (hs : SR P κ σ a w) {k : Nat} {t : T} {ty : TypeId} (h : lk σ.t k = some (t, ty)) : VV P κ t ty (a.eval (.tmp k)) := by
  obtain ⟨v, h1, h2⟩ := hs.tmp k t ty h
  show VV P κ t ty (a.tmps.getD k undef)
  simp [Array.getD_eq_getD_getElem?, h1, h2]

theorem VV_s {κ : K} {v v' : Value} {ty : TypeId} (h : VV P κ (.s v) ty v') : v' = v := by
  obtain ⟨h1, h2⟩ := h
  simp only [VT] at h1
  have h3 : aggB v' = false := h2
  cases v' <;> simp_all [Value.cells, aggB]
theorem VV_s_mk {κ : K} {v : Value} {ty : TypeId} (h : one v = true) : VV P κ (.s v) ty v := by
  cases v <;> simp_all [VV, VT, Value.cells, aggB, T.aggB, one]

theorem AW.cond {c : Nat} {b : Bool} {ty : TypeId} {x y : Code} (hc : lk σ.t c = some (.s (.bool b), ty)) (ht : b = true → AW P x σ Q) (hf : b = false → AW P y σ Q) : AW P (.cond (.tmp c) x y) σ Q := fun κ a w hs =>
  wp_cond_split (VV_s (hs.eval hc)) (fun h => ht h κ a w hs) (fun h => hf h κ a w hs)
theorem AW.condT {c : Nat} {ty : TypeId} {x y : Code} (hc : lk σ.t c = some (.s (.bool true), ty)) (ht : AW P x σ Q) : AW P (.cond (.tmp c) x y) σ Q := AW.cond hc (fun _ => ht) (fun h => by cases h)
theorem AW.condF {c : Nat} {ty : TypeId} {x y : Code} (hc : lk σ.t c = some (.s (.bool false), ty)) (hf : AW P y σ Q) : AW P (.cond (.tmp c) x y) σ Q := AW.cond hc (fun h => by cases h) (fun _ => hf)

/-- Less is known of it. -/
structure Weak (σ σ' : St) : Prop where
  n : σ'.n = σ.n
  t : ∀ k x, lk σ'.t k = some x → lk σ.t k = some x
  h : σ'.h = σ.h
  u : σ'.u = σ.u
theorem Weak.sr {σ σ' : St} (hw : Weak σ σ') {κ : K} {a : Act} {w : World} (h : SR P κ σ a w) : SR P κ σ' a w :=
  ⟨h.defers, by rw [hw.n]; exact h.size, fun k t ty hk => h.tmp k t ty (hw.t k _ hk), by rw [hw.h, hw.u]; exact h.wr⟩
theorem AW.weak {c : Code} {σ' : St} (hw : Weak σ σ') (h : AW P c σ' Q) : AW P c σ Q := fun κ a w hs => by
  have := h κ a w (hw.sr hs)
  rwa [hw.u] at this

theorem AW.loop {body : Code} (I : Nat → St → Prop) (m : Nat) (h0 : I m σ)
    (hr : ∀ m σ, I m σ → AW P body σ (Then (fun σ' => ∃ m', m' < m ∧ ∃ σ'', Weak σ' σ'' ∧ I m' σ'') Q)) : AW P (.loop body) σ Q := by
  intro κ a w hs b k cs
  have key : ∀ m σ κ1 a1 w1, I m σ → SR P κ1 σ a1 w1 →
      ∃ e a' w', lift P κ1 σ.u w1 Q e a' w' ∧ Arrives P (lone (b.at a1 (.code body :: .inLoop body :: k)) cs w1) b k cs e a' w' := by
    intro m
    induction m using Nat.strongRecOn with
    | _ m ih =>
      intro σ κ1 a1 w1 hI hs1
      obtain ⟨e, a2, w2, hq, harr⟩ := hr m σ hI κ1 a1 w1 hs1 b (.inLoop body :: k) cs
      obtain ⟨κ2, σ2, e1, s1, q1⟩ := hq
      cases e with
      | normal =>
        obtain ⟨m', hm, σ3, hw, hI'⟩ := q1
        obtain ⟨e3, a3, w3, hq3, harr3⟩ := ih m' hm σ3 κ2 a2 w2 hI' (hw.sr s1)
        refine ⟨e3, a3, w3, ?_, .of_steps (Steps.trans harr (.one step_inLoop)) harr3⟩
        rw [hw.u] at hq3; exact lift_trans e1 hq3
      | exit id => exact ⟨_, a2, w2, ⟨κ2, σ2, e1, s1, q1⟩, .pass (x := .inLoop body) rfl (fun _ _ => .inl (by simp)) harr⟩
      | goto l => exact ⟨_, a2, w2, ⟨κ2, σ2, e1, s1, q1⟩, .pass (x := .inLoop body) rfl (fun _ _ => .inl (by simp)) harr⟩
      | ret => exact ⟨_, a2, w2, ⟨κ2, σ2, e1, s1, q1⟩, .pass (x := .inLoop body) rfl (fun _ _ => .inl (by simp)) harr⟩
      | panic ch => exact ⟨_, a2, w2, ⟨κ2, σ2, e1, s1, q1⟩, .pass (x := .inLoop body) rfl (fun _ _ => .inl (by simp)) harr⟩
      | outgrown => exact ⟨_, a2, w2, ⟨κ2, σ2, e1, s1, q1⟩, .pass (x := .inLoop body) rfl (fun _ _ => .inl (by simp)) harr⟩
  obtain ⟨e, a', w', hq, harr⟩ := key m σ κ a w h0 hs
  exact ⟨e, a', w', hq, .of_steps (.one step_loop) harr⟩
end
end Go.Am
