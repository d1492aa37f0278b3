/- A layer over the walk's rules. This text: operations, one by one. -/
import Derived.Test.YtlpakbhlpgpiaaaAm5
set_option linter.unusedVariables false
namespace Go.Am
variable {P : Program} {σ : St}

abbrev X := T × TypeId

def OPE (P : Program) (o : Oper) (σ : St) (Kp : X → List AO → (Tips) → Prop) : Prop :=
  ∀ κ a w (next : Act → World → Prop) (R : Exit → Act → World → Prop), SR P κ σ a w →
    (∀ κ' v x h' u' w', Ext κ σ.u w κ' u' w' → WR P κ' w' h' u' → VV P κ' x.1 x.2 v → Kp x h' u' → next (a.put o.dst v) w') → o.wp P a w next R

def putS (σ : St) (d : Option Nat) (x : X) (h : List AO) (u : Tips) : St :=
  match d with
  | some k => { σ with t := (k, x) :: σ.t, h := h, u := u }
  | none => { σ with h := h, u := u }
def dstOk (σ : St) : Option Nat → Bool
  | some k => Nat.blt k σ.n
  | none => true

theorem SR.put {κ κ' : K} {a : Act} {w w' : World} (hs : SR P κ σ a w) {d : Option Nat} (hd : dstOk σ d = true) {x : X} {v : Value} {h' : List AO} {u' : Tips}
    (he : Ext κ σ.u w κ' u' w') (hw : WR P κ' w' h' u') (hv : VV P κ' x.1 x.2 v) : SR P κ' (putS σ d x h' u') (a.put d v) w' := by
  cases d with
  | none => exact ⟨hs.defers, hs.size, fun k t ty hk => by
      obtain ⟨v', h1, h2⟩ := hs.tmp k t ty hk
      exact ⟨v', h1, h2.mono he.le⟩, hw⟩
  | some d =>
    have hdn : d < σ.n := by simpa [dstOk, Nat.blt_eq] using hd
    refine ⟨hs.defers, by simp [Act.put, putS, hs.size], fun k t ty hk => ?_, hw⟩
    simp only [putS, lk] at hk
    cases hb : Nat.beq d k with
    | true =>
      have : d = k := Nat.eq_of_beq_eq_true hb
      subst this
      rw [hb] at hk
      simp only [Option.some.injEq] at hk
      subst hk
      exact ⟨v, by simp [Act.put, hs.size, hdn], hv⟩
    | false =>
      rw [hb] at hk
      have hne : d ≠ k := Nat.ne_of_beq_eq_false hb
      obtain ⟨v', h1, h2⟩ := hs.tmp k t ty hk
      exact ⟨v', by simp [Act.put, Array.getElem?_setIfInBounds_ne hne, h1], h2.mono he.le⟩

theorem OPS.nil {ops : Array Oper} {Q : St → Prop} (h : Q σ) : OPS P ops [] σ Q := fun κ a w R hs hR => wpList_nil (hR κ σ a w (.refl _ _ _) hs h)
theorem OPS.op {ops : Array Oper} {o : Oper} {rest : List Oper} {Q : St → Prop} {Kp : X → List AO → (Tips) → Prop} (hg : o.guard = none) (hd : dstOk σ o.dst = true) (ho : OPE P o σ Kp)
    (h : ∀ x h' u', Kp x h' u' → OPS P ops rest (putS σ o.dst x h' u') Q) : OPS P ops (o :: rest) σ Q := fun κ a w R hs hR =>
  wpList_plain hg fun Kk hK => ho κ a w Kk R hs fun κ' v x h' u' w' he hw hv hk => hK _ _ (by
    have hs' := hs.put hd he hw hv
    refine h x h' u' hk κ' _ w' R hs' fun κ2 σ2 a2 w2 e2 s2 q2 => hR κ2 σ2 a2 w2 (he.trans ?_) s2 q2
    have : (putS σ o.dst x h' u').u = u' := by unfold putS; split <;> rfl
    rw [this] at e2; exact e2)
theorem AW.region {id : Nat} {l : List Oper} {Q : Exit → St → Prop} (h : OPS P l.toArray l σ (fun σ' => Q .normal σ')) : AW P (.region id l.toArray false) σ Q := fun κ a w hs =>
  wp_region_lit (h κ a w _ hs fun κ' σ' a' w' he hs' hq => ⟨κ', σ', he, hs', hq⟩)

/-- A guard whose test is known. -/
theorem wanted_of {ops : Array Oper} {κ : K} {a : Act} {w : World} (hs : SR P κ σ a w) {j t : Nat} {b want : Bool} {ty : TypeId} {o : Oper} (hg : o.guard = some (j, want)) (hj : (ops[j]?).bind (·.dst) = some t)
    (hl : lk σ.t t = some (.s (.bool b), ty)) : Region.wanted o (yielded ops a.tmps) = (b == want) := by
  obtain ⟨v, h1, h2⟩ := hs.tmp t _ ty hl
  have := VV_s h2
  subst this
  unfold Region.wanted
  rw [hg]
  simp only [yielded, hj, Option.bind_some, h1]
  cases b <;> cases want <;> rfl
theorem OPS.guard {ops : Array Oper} {o : Oper} {rest : List Oper} {Q : St → Prop} {j t : Nat} {b want : Bool} {ty : TypeId} (hg : o.guard = some (j, want)) (hj : (ops[j]?).bind (·.dst) = some t)
    (hl : lk σ.t t = some (.s (.bool b), ty)) (hd : dstOk σ o.dst = true) (h1 : b = want → OPS P ops ({ o with guard := none } :: rest) σ Q) (h2 : b = !want → OPS P ops rest (putS σ o.dst (.any, 0) σ.h σ.u) Q) :
    OPS P ops (o :: rest) σ Q := fun κ a w R hs hR => by
  have hw := wanted_of (ops := ops) hs hg hj hl
  unfold wpList
  rw [hw]
  by_cases hb : b = want
  · have := h1 hb κ a w R hs hR
    unfold wpList at this
    rw [if_pos (by simp [Region.wanted])] at this
    rw [if_pos (by simp [hb])]
    rcases this with this | this
    · left; exact this
    · right; exact this
  · have hb' : b = !want := by cases b <;> cases want <;> simp_all
    rw [if_neg (by simp [hb])]
    have he := Ext.refl κ σ.u w
    have hs' := hs.put (v := undef) hd he hs.wr (x := (.any, 0)) ⟨by simp only [VT]; rfl, rfl⟩
    refine h2 hb' κ _ w R hs' fun κ2 σ2 a2 w2 e2 s2 q2 => hR κ2 σ2 a2 w2 ?_ s2 q2
    have : (putS σ o.dst (.any, 0) σ.h σ.u).u = σ.u := by unfold putS; split <;> rfl
    rw [this] at e2; exact e2
theorem unwanted_of {ops : Array Oper} {κ : K} {a : Act} {w : World} (hs : SR P κ σ a w) {j t : Nat} {want : Bool} {ty : TypeId} {o : Oper} (hg : o.guard = some (j, want)) (hj : (ops[j]?).bind (·.dst) = some t)
    (hl : lk σ.t t = some (.any, ty)) : Region.wanted o (yielded ops a.tmps) = false := by
  obtain ⟨v, h1, h2, h3⟩ := hs.tmp t _ ty hl
  simp only [VT] at h2
  have hv : v = undef := by
    cases v <;> simp_all [Value.cells, aggB, T.aggB]
  subst hv
  unfold Region.wanted
  rw [hg]
  simp only [yielded, hj, Option.bind_some, h1]
  rfl
theorem OPS.guardU {ops : Array Oper} {o : Oper} {rest : List Oper} {Q : St → Prop} {j t : Nat} {want : Bool} {ty : TypeId} (hg : o.guard = some (j, want)) (hj : (ops[j]?).bind (·.dst) = some t)
    (hl : lk σ.t t = some (.any, ty)) (hd : dstOk σ o.dst = true) (h2 : OPS P ops rest (putS σ o.dst (.any, 0) σ.h σ.u) Q) : OPS P ops (o :: rest) σ Q := fun κ a w R hs hR => by
  have hw := unwanted_of (ops := ops) hs hg hj hl
  unfold wpList
  rw [hw, if_neg (by simp)]
  have he := Ext.refl κ σ.u w
  have hs' := hs.put (v := undef) hd he hs.wr (x := (.any, 0)) ⟨by simp only [VT]; rfl, rfl⟩
  refine h2 κ _ w R hs' fun κ2 σ2 a2 w2 e2 s2 q2 => hR κ2 σ2 a2 w2 ?_ s2 q2
  have : (putS σ o.dst (.any, 0) σ.h σ.u).u = σ.u := by unfold putS; split <;> rfl
  rw [this] at e2; exact e2
theorem OPS.guardT {ops : Array Oper} {o : Oper} {rest : List Oper} {Q : St → Prop} {j t : Nat} {want : Bool} {ty : TypeId} (hg : o.guard = some (j, want)) (hj : (ops[j]?).bind (·.dst) = some t)
    (hl : lk σ.t t = some (.s (.bool want), ty)) (hd : dstOk σ o.dst = true) (h1 : OPS P ops ({ o with guard := none } :: rest) σ Q) : OPS P ops (o :: rest) σ Q :=
  OPS.guard hg hj hl hd (fun _ => h1) (fun h => by cases want <;> cases h)
theorem OPS.guardF {ops : Array Oper} {o : Oper} {rest : List Oper} {Q : St → Prop} {j t : Nat} {b want : Bool} {ty : TypeId} (hg : o.guard = some (j, want)) (hj : (ops[j]?).bind (·.dst) = some t)
    (hl : lk σ.t t = some (.s (.bool b), ty)) (hb : (b == want) = false) (hd : dstOk σ o.dst = true) (h1 : OPS P ops rest (putS σ o.dst (.any, 0) σ.h σ.u) Q) : OPS P ops (o :: rest) σ Q :=
  OPS.guard hg hj hl hd (fun h => by subst h; cases b <;> cases hb) (fun _ => h1)

/-! ### The operations -/
theorem OPE.run {o : Oper} {Kp : X → List AO → (Tips) → Prop} (h : ∀ κ a w, SR P κ σ a w → ∃ v κ' w' x h' u', (execOp a.eval o).run P w = .ok (.value v) w' ∧ Ext κ σ.u w κ' u' w' ∧ WR P κ' w' h' u' ∧ VV P κ' x.1 x.2 v ∧ Kp x h' u') :
    OPE P o σ Kp := fun κ a w next R hs hn => by
  obtain ⟨v, κ', w', x, h', u', hr, h1, h2, h3, h4⟩ := h κ a w hs
  unfold Oper.wp
  rw [hr]
  exact hn κ' v x h' u' w' h1 h2 h3 h4
/-- What leaves memory alone. -/
theorem OPE.pure {o : Oper} {x : X} {Kp : X → List AO → (Tips) → Prop} (h : ∀ κ a w, SR P κ σ a w → ∃ v, (execOp a.eval o).run P w = .ok (.value v) w ∧ VV P κ x.1 x.2 v) (hk : Kp x σ.h σ.u) :
    OPE P o σ Kp := OPE.run fun κ a w hs => by
  obtain ⟨v, h1, h2⟩ := h κ a w hs
  exact ⟨v, κ, w, x, σ.h, σ.u, h1, .refl _ _ _, hs.wr, h2, hk⟩

section
variable {d : Option Nat} {ty : TypeId} {p : String} {af : Array Edge} {g : Option (Nat × Bool)} {Kp : X → List AO → (Tips) → Prop}

theorem OPE.move {k : Nat} {x : X} (hx : lk σ.t k = some x) (hk : Kp x σ.h σ.u) : OPE P ⟨d, .move (.tmp k), ty, p, af, g⟩ σ Kp :=
  .pure (fun κ a w hs => ⟨_, by simp [execOp], hs.eval (t := x.1) (ty := x.2) hx⟩) hk
theorem OPE.assign {k : Nat} {x : X} (hx : lk σ.t k = some x) (hk : Kp x σ.h σ.u) : OPE P ⟨d, .assign (.tmp k), ty, p, af, g⟩ σ Kp :=
  .pure (fun κ a w hs => ⟨_, by simp [execOp], hs.eval (t := x.1) (ty := x.2) hx⟩) hk
theorem OPE.assignC {v : Value} (hv : one v = true) (hk : Kp (.s v, ty) σ.h σ.u) : OPE P ⟨d, .assign (.const v), ty, p, af, g⟩ σ Kp :=
  .pure (fun κ a w hs => ⟨_, by simp [execOp, Act.eval], VV_s_mk hv⟩) hk
theorem OPE.moveC {v : Value} (hv : one v = true) (hk : Kp (.s v, ty) σ.h σ.u) : OPE P ⟨d, .move (.const v), ty, p, af, g⟩ σ Kp :=
  .pure (fun κ a w hs => ⟨_, by simp [execOp, Act.eval], VV_s_mk hv⟩) hk
theorem VV_nil {κ : K} {e : TypeId} (h : P.underlying ty = some (.slice e)) : VV P κ (.lst [] .nil) ty (.slice none 0 0) :=
  ⟨by simp only [VT]; exact ⟨e, none, 0, [], h, rfl, ⟨rfl, rfl⟩, by simp only [VA], .inl rfl⟩, rfl⟩
theorem OPE.assignN {e : TypeId} (h : P.underlying ty = some (.slice e)) (hk : Kp (.lst [] .nil, ty) σ.h σ.u) : OPE P ⟨d, .assign (.const (.slice none 0 0)), ty, p, af, g⟩ σ Kp :=
  .pure (fun κ a w hs => ⟨_, by simp [execOp, Act.eval], VV_nil h⟩) hk

/-- A bool operand. -/
inductive BoolAt (σ : St) : Operand → Bool → Prop where
  | tmp {k : Nat} {b : Bool} {ty : TypeId} (h : lk σ.t k = some (.s (.bool b), ty)) : BoolAt σ (.tmp k) b
  | const {b : Bool} : BoolAt σ (.const (.bool b)) b
theorem BoolAt.eval {κ : K} {a : Act} {w : World} (hs : SR P κ σ a w) {x : Operand} {b : Bool} (h : BoolAt σ x b) : a.eval x = .bool b := by
  cases h with
  | tmp h => exact VV_s (hs.eval h)
  | const => rfl
/-- An int operand. -/
inductive IntAt (σ : St) : Operand → IntKind → Int → Prop where
  | tmp {k : Nat} {i : IntKind} {n : Int} {ty : TypeId} (h : lk σ.t k = some (.s (.int i n), ty)) : IntAt σ (.tmp k) i n
  | const {i : IntKind} {n : Int} : IntAt σ (.const (.int i n)) i n
theorem IntAt.eval {κ : K} {a : Act} {w : World} (hs : SR P κ σ a w) {x : Operand} {i : IntKind} {n : Int} (h : IntAt σ x i n) : a.eval x = .int i n := by
  cases h with
  | tmp h => exact VV_s (hs.eval h)
  | const => rfl

theorem OPE.pickB {c x y : Operand} {b b1 b2 : Bool} (hc : BoolAt σ c b) (hx : BoolAt σ x b1) (hy : BoolAt σ y b2) (hk : Kp (.s (.bool (bif b then b1 else b2)), ty) σ.h σ.u) : OPE P ⟨d, .pick c x y, ty, p, af, g⟩ σ Kp :=
  .pure (fun κ a w hs => ⟨_, by
    simp only [execOp, hc.eval hs, hx.eval hs, hy.eval hs]
    cases b <;> rfl, VV_s_mk rfl⟩) hk
theorem OPE.pickT {c x y : Operand} {b1 : Bool} (hc : BoolAt σ c true) (hx : BoolAt σ x b1) (hk : Kp (.s (.bool b1), ty) σ.h σ.u) : OPE P ⟨d, .pick c x y, ty, p, af, g⟩ σ Kp :=
  .pure (fun κ a w hs => ⟨_, by
    simp only [execOp, hc.eval hs, hx.eval hs]
    rfl, VV_s_mk rfl⟩) hk
theorem OPE.pickF {c x y : Operand} {b1 : Bool} (hc : BoolAt σ c false) (hy : BoolAt σ y b1) (hk : Kp (.s (.bool b1), ty) σ.h σ.u) : OPE P ⟨d, .pick c x y, ty, p, af, g⟩ σ Kp :=
  .pure (fun κ a w hs => ⟨_, by
    simp only [execOp, hc.eval hs, hy.eval hs]
    rfl, VV_s_mk rfl⟩) hk

/-! Numbers -/
theorem OPE.not {x : Operand} {t : TypeId} {b : Bool} (hx : BoolAt σ x b) (hk : Kp (.s (.bool (!b)), ty) σ.h σ.u) : OPE P ⟨d, .unOp .not t x, ty, p, af, g⟩ σ Kp :=
  .pure (fun κ a w hs => ⟨_, by
    simp only [execOp, hx.eval hs]
    rfl, VV_s_mk rfl⟩) hk
theorem run_eqGuard_int (op : BinOp) (t : TypeId) (x y : Operand) (i j : IntKind) (m n : Int) (w : World) : (eqGuard op t x y (.int i m) (.int j n)).run P w = .ok () w := by
  unfold eqGuard
  split <;> rfl
def cmp (op : BinOp) (m n : Int) : Option Bool :=
  match op with
  | .eql => some (decide (m = n))
  | .neq => some (!decide (m = n))
  | .lss => some (decide (m < n))
  | .leq => some (decide (m ≤ n))
  | .gtr => some (decide (n < m))
  | .geq => some (decide (n ≤ m))
  | _ => none
theorem OPE.cmp {op : BinOp} {x y : Operand} {t t2 : TypeId} {i : IntKind} {m n : Int} {b : Bool} (hx : IntAt σ x i m) (hy : IntAt σ y i n) (hb : cmp op m n = some b) (hk : Kp (.s (.bool b), ty) σ.h σ.u) :
    OPE P ⟨d, .binOp op t x y t2, ty, p, af, g⟩ σ Kp :=
  .pure (fun κ a w hs => ⟨.bool b, by
    simp only [execOp, hx.eval hs, hy.eval hs, Sem.run_bind, run_eqGuard_int, Result.andThen_ok]
    cases op <;> simp only [Am.cmp, Option.some.injEq, reduceCtorEq] at hb <;> subst hb <;> simp [binOp, Op.intCmp] <;> (rw [Bool.eq_iff_iff]; simp), VV_s_mk rfl⟩) hk
def arith (op : BinOp) (m n : Int) : Option Int :=
  match op with
  | .add => some (m + n)
  | .sub => some (m - n)
  | .mul => some (m * n)
  | _ => none
theorem OPE.arith {op : BinOp} {x y : Operand} {t t2 : TypeId} {i : IntKind} {m n r q : Int} (hx : IntAt σ x i m) (hy : IntAt σ y i n) (hb : arith op m n = some r) (hq : i.wrap r = q) (hk : Kp (.s (.int i q), ty) σ.h σ.u) :
    OPE P ⟨d, .binOp op t x y t2, ty, p, af, g⟩ σ Kp :=
  .pure (fun κ a w hs => ⟨.int i q, by
    simp only [execOp, hx.eval hs, hy.eval hs, Sem.run_bind, run_eqGuard_int, Result.andThen_ok]
    subst hq
    cases op <;> simp only [Am.arith, Option.some.injEq, reduceCtorEq] at hb <;> subst hb <;> simp [binOp, Op.intArith] , VV_s_mk rfl⟩) hk
end
end Go.Am
