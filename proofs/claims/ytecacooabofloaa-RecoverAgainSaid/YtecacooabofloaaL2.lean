/- A layer over the walk's rules. This text: operations, one by one. -/
import Derived.Test.YtecacooabofloaaL1
import Derived.Laws.CopyRow
/- A layer over the walk's rules. This text: operations, one by one. -/
set_option linter.unusedVariables false
namespace Go.Am
variable {P : Program} {σ : St}

abbrev X := T × TypeId

def OPE (P : Program) (o : Oper) (σ : St) (Kp : X → List AO → (Tips) → Prop) : Prop :=
  ∀ κ a w (next : Act → World → Prop) (R : Exit → Act → World → Prop), SR P κ σ a w →
    (∀ κ' v x h' u' w', Ext κ σ.u w κ' u' w' → WR P κ' w' h' u' → VV P κ' x.1 x.2 v → Kp x h' u' → next (a.put o.dst v) w') → o.wp P a w next R

def putS (σ : St) (d : Option Nat) (x : X) (h : List AO) (u : Tips) : St :=
  match d with
  | some k => { σ with t := (k, x) :: σ.t, h := h, u := u }
  | none => { σ with h := h, u := u }
def dstOk (σ : St) : Option Nat → Bool
  | some k => Nat.blt k σ.n
  | none => true

theorem SR.put {κ κ' : K} {a : Act} {w w' : World} (hs : SR P κ σ a w) {d : Option Nat} (hd : dstOk σ d = true) {x : X} {v : Value} {h' : List AO} {u' : Tips}
    (he : Ext κ σ.u w κ' u' w') (hw : WR P κ' w' h' u') (hv : VV P κ' x.1 x.2 v) : SR P κ' (putS σ d x h' u') (a.put d v) w' := by
  cases d with
  | none => exact ⟨hs.defers, hs.size, fun k t ty hk => by
      obtain ⟨v', h1, h2⟩ := hs.tmp k t ty hk
      exact ⟨v', h1, h2.mono he.le⟩, hw⟩
  | some d =>
    have hdn : d < σ.n := by simpa [dstOk, Nat.blt_eq] using hd
    refine ⟨hs.defers, by simp [Act.put, putS, hs.size], fun k t ty hk => ?_, hw⟩
    simp only [putS, lk] at hk
    cases hb : Nat.beq d k with
    | true =>
      have : d = k := Nat.eq_of_beq_eq_true hb
      subst this
      rw [hb] at hk
      simp only [Option.some.injEq] at hk
      subst hk
      exact ⟨v, by simp [Act.put, hs.size, hdn], hv⟩
    | false =>
      rw [hb] at hk
      have hne : d ≠ k := Nat.ne_of_beq_eq_false hb
      obtain ⟨v', h1, h2⟩ := hs.tmp k t ty hk
      exact ⟨v', by simp [Act.put, Array.getElem?_setIfInBounds_ne hne, h1], h2.mono he.le⟩

theorem OPS.nil {ops : Array Oper} {Q : St → Prop} (h : Q σ) : OPS P ops [] σ Q := fun κ a w R hs hR => wpList_nil (hR κ σ a w (.refl _ _ _) hs h)
theorem OPS.op {ops : Array Oper} {o : Oper} {rest : List Oper} {Q : St → Prop} {Kp : X → List AO → (Tips) → Prop} (hg : o.guard = none) (hd : dstOk σ o.dst = true) (ho : OPE P o σ Kp)
    (h : ∀ x h' u', Kp x h' u' → OPS P ops rest (putS σ o.dst x h' u') Q) : OPS P ops (o :: rest) σ Q := fun κ a w R hs hR =>
  wpList_plain hg fun Kk hK => ho κ a w Kk R hs fun κ' v x h' u' w' he hw hv hk => hK _ _ (by
    have hs' := hs.put hd he hw hv
    refine h x h' u' hk κ' _ w' R hs' fun κ2 σ2 a2 w2 e2 s2 q2 => hR κ2 σ2 a2 w2 (he.trans ?_) s2 q2
    have : (putS σ o.dst x h' u').u = u' := by unfold putS; split <;> rfl
    rw [this] at e2; exact e2)
theorem AW.region {id : Nat} {l : List Oper} {Q : Exit → St → Prop} (h : OPS P l.toArray l σ (fun σ' => Q .normal σ')) : AW P (.region id l.toArray false) σ Q := fun κ a w hs =>
  wp_region_lit (h κ a w _ hs fun κ' σ' a' w' he hs' hq => ⟨κ', σ', he, hs', hq⟩)

/-- A guard whose test is known. -/
theorem wanted_of {ops : Array Oper} {κ : K} {a : Act} {w : World} (hs : SR P κ σ a w) {j t : Nat} {b want : Bool} {ty : TypeId} {o : Oper} (hg : o.guard = some (j, want)) (hj : (ops[j]?).bind (·.dst) = some t)
    (hl : lk σ.t t = some (.s (.bool b), ty)) : Region.wanted o (yielded ops a.tmps) = (b == want) := by
  obtain ⟨v, h1, h2⟩ := hs.tmp t _ ty hl
  have := VV_s h2
  subst this
  unfold Region.wanted
  rw [hg]
  simp only [yielded, hj, Option.bind_some, h1]
  cases b <;> cases want <;> rfl
theorem OPS.guard {ops : Array Oper} {o : Oper} {rest : List Oper} {Q : St → Prop} {j t : Nat} {b want : Bool} {ty : TypeId} (hg : o.guard = some (j, want)) (hj : (ops[j]?).bind (·.dst) = some t)
    (hl : lk σ.t t = some (.s (.bool b), ty)) (hd : dstOk σ o.dst = true) (h1 : b = want → OPS P ops ({ o with guard := none } :: rest) σ Q) (h2 : b = !want → OPS P ops rest (putS σ o.dst (.any, 0) σ.h σ.u) Q) :
    OPS P ops (o :: rest) σ Q := fun κ a w R hs hR => by
  have hw := wanted_of (ops := ops) hs hg hj hl
  unfold wpList
  rw [hw]
  by_cases hb : b = want
  · have := h1 hb κ a w R hs hR
    unfold wpList at this
    rw [if_pos (by simp [Region.wanted])] at this
    rw [if_pos (by simp [hb])]
    rcases this with this | this
    · left; exact this
    · right; exact this
  · have hb' : b = !want := by cases b <;> cases want <;> simp_all
    rw [if_neg (by simp [hb])]
    have he := Ext.refl κ σ.u w
    have hs' := hs.put (v := undef) hd he hs.wr (x := (.any, 0)) ⟨by simp only [VT]; rfl, rfl⟩
    refine h2 hb' κ _ w R hs' fun κ2 σ2 a2 w2 e2 s2 q2 => hR κ2 σ2 a2 w2 ?_ s2 q2
    have : (putS σ o.dst (.any, 0) σ.h σ.u).u = σ.u := by unfold putS; split <;> rfl
    rw [this] at e2; exact e2
theorem unwanted_of {ops : Array Oper} {κ : K} {a : Act} {w : World} (hs : SR P κ σ a w) {j t : Nat} {want : Bool} {ty : TypeId} {o : Oper} (hg : o.guard = some (j, want)) (hj : (ops[j]?).bind (·.dst) = some t)
    (hl : lk σ.t t = some (.any, ty)) : Region.wanted o (yielded ops a.tmps) = false := by
  obtain ⟨v, h1, h2, h3⟩ := hs.tmp t _ ty hl
  simp only [VT] at h2
  have hv : v = undef := by
    cases v <;> simp_all [Value.cells, aggB, T.aggB]
  subst hv
  unfold Region.wanted
  rw [hg]
  simp only [yielded, hj, Option.bind_some, h1]
  rfl
theorem OPS.guardU {ops : Array Oper} {o : Oper} {rest : List Oper} {Q : St → Prop} {j t : Nat} {want : Bool} {ty : TypeId} (hg : o.guard = some (j, want)) (hj : (ops[j]?).bind (·.dst) = some t)
    (hl : lk σ.t t = some (.any, ty)) (hd : dstOk σ o.dst = true) (h2 : OPS P ops rest (putS σ o.dst (.any, 0) σ.h σ.u) Q) : OPS P ops (o :: rest) σ Q := fun κ a w R hs hR => by
  have hw := unwanted_of (ops := ops) hs hg hj hl
  unfold wpList
  rw [hw, if_neg (by simp)]
  have he := Ext.refl κ σ.u w
  have hs' := hs.put (v := undef) hd he hs.wr (x := (.any, 0)) ⟨by simp only [VT]; rfl, rfl⟩
  refine h2 κ _ w R hs' fun κ2 σ2 a2 w2 e2 s2 q2 => hR κ2 σ2 a2 w2 ?_ s2 q2
  have : (putS σ o.dst (.any, 0) σ.h σ.u).u = σ.u := by unfold putS; split <;> rfl
  rw [this] at e2; exact e2
theorem OPS.guardT {ops : Array Oper} {o : Oper} {rest : List Oper} {Q : St → Prop} {j t : Nat} {want : Bool} {ty : TypeId} (hg : o.guard = some (j, want)) (hj : (ops[j]?).bind (·.dst) = some t)
    (hl : lk σ.t t = some (.s (.bool want), ty)) (hd : dstOk σ o.dst = true) (h1 : OPS P ops ({ o with guard := none } :: rest) σ Q) : OPS P ops (o :: rest) σ Q :=
  OPS.guard hg hj hl hd (fun _ => h1) (fun h => by cases want <;> cases h)
theorem OPS.guardF {ops : Array Oper} {o : Oper} {rest : List Oper} {Q : St → Prop} {j t : Nat} {b want : Bool} {ty : TypeId} (hg : o.guard = some (j, want)) (hj : (ops[j]?).bind (·.dst) = some t)
    (hl : lk σ.t t = some (.s (.bool b), ty)) (hb : (b == want) = false) (hd : dstOk σ o.dst = true) (h1 : OPS P ops rest (putS σ o.dst (.any, 0) σ.h σ.u) Q) : OPS P ops (o :: rest) σ Q :=
  OPS.guard hg hj hl hd (fun h => by subst h; cases b <;> cases hb) (fun _ => h1)

/-! ### The operations -/
theorem OPE.run {o : Oper} {Kp : X → List AO → (Tips) → Prop} (h : ∀ κ a w, SR P κ σ a w → ∃ v κ' w' x h' u', (execOp a.eval o).run P w = .ok (.value v) w' ∧ Ext κ σ.u w κ' u' w' ∧ WR P κ' w' h' u' ∧ VV P κ' x.1 x.2 v ∧ Kp x h' u') :
    OPE P o σ Kp := fun κ a w next R hs hn => by
  obtain ⟨v, κ', w', x, h', u', hr, h1, h2, h3, h4⟩ := h κ a w hs
  unfold Oper.wp
  rw [hr]
  exact hn κ' v x h' u' w' h1 h2 h3 h4
/-- What leaves memory alone. -/
theorem OPE.pure {o : Oper} {x : X} {Kp : X → List AO → (Tips) → Prop} (h : ∀ κ a w, SR P κ σ a w → ∃ v, (execOp a.eval o).run P w = .ok (.value v) w ∧ VV P κ x.1 x.2 v) (hk : Kp x σ.h σ.u) :
    OPE P o σ Kp := OPE.run fun κ a w hs => by
  obtain ⟨v, h1, h2⟩ := h κ a w hs
  exact ⟨v, κ, w, x, σ.h, σ.u, h1, .refl _ _ _, hs.wr, h2, hk⟩

section
variable {d : Option Nat} {ty : TypeId} {p : String} {af : Array Edge} {g : Option (Nat × Bool)} {Kp : X → List AO → (Tips) → Prop}

theorem OPE.move {k : Nat} {x : X} (hx : lk σ.t k = some x) (hk : Kp x σ.h σ.u) : OPE P ⟨d, .move (.tmp k), ty, p, af, g⟩ σ Kp :=
  .pure (fun κ a w hs => ⟨_, by simp [execOp], hs.eval (t := x.1) (ty := x.2) hx⟩) hk
theorem OPE.assign {k : Nat} {x : X} (hx : lk σ.t k = some x) (hk : Kp x σ.h σ.u) : OPE P ⟨d, .assign (.tmp k), ty, p, af, g⟩ σ Kp :=
  .pure (fun κ a w hs => ⟨_, by simp [execOp], hs.eval (t := x.1) (ty := x.2) hx⟩) hk
theorem OPE.assignC {v : Value} (hv : one v = true) (hk : Kp (.s v, ty) σ.h σ.u) : OPE P ⟨d, .assign (.const v), ty, p, af, g⟩ σ Kp :=
  .pure (fun κ a w hs => ⟨_, by simp [execOp, Act.eval], VV_s_mk hv⟩) hk
theorem OPE.moveC {v : Value} (hv : one v = true) (hk : Kp (.s v, ty) σ.h σ.u) : OPE P ⟨d, .move (.const v), ty, p, af, g⟩ σ Kp :=
  .pure (fun κ a w hs => ⟨_, by simp [execOp, Act.eval], VV_s_mk hv⟩) hk
theorem VV_nil {κ : K} {e : TypeId} (h : P.underlying ty = some (.slice e)) : VV P κ (.lst [] .nil) ty (.slice none 0 0) :=
  ⟨by simp only [VT]; exact ⟨e, none, 0, [], h, rfl, ⟨rfl, rfl⟩, by simp only [VA], .inl rfl⟩, rfl⟩
theorem OPE.assignN {e : TypeId} (h : P.underlying ty = some (.slice e)) (hk : Kp (.lst [] .nil, ty) σ.h σ.u) : OPE P ⟨d, .assign (.const (.slice none 0 0)), ty, p, af, g⟩ σ Kp :=
  .pure (fun κ a w hs => ⟨_, by simp [execOp, Act.eval], VV_nil h⟩) hk

/-- A bool operand. -/
inductive BoolAt (σ : St) : Operand → Bool → Prop where
  | tmp {k : Nat} {b : Bool} {ty : TypeId} (h : lk σ.t k = some (.s (.bool b), ty)) : BoolAt σ (.tmp k) b
  | const {b : Bool} : BoolAt σ (.const (.bool b)) b
theorem BoolAt.eval {κ : K} {a : Act} {w : World} (hs : SR P κ σ a w) {x : Operand} {b : Bool} (h : BoolAt σ x b) : a.eval x = .bool b := by
  cases h with
  | tmp h => exact VV_s (hs.eval h)
  | const => rfl
/-- An int operand. -/
inductive IntAt (σ : St) : Operand → IntKind → Int → Prop where
  | tmp {k : Nat} {i : IntKind} {n : Int} {ty : TypeId} (h : lk σ.t k = some (.s (.int i n), ty)) : IntAt σ (.tmp k) i n
  | const {i : IntKind} {n : Int} : IntAt σ (.const (.int i n)) i n
theorem IntAt.eval {κ : K} {a : Act} {w : World} (hs : SR P κ σ a w) {x : Operand} {i : IntKind} {n : Int} (h : IntAt σ x i n) : a.eval x = .int i n := by
  cases h with
  | tmp h => exact VV_s (hs.eval h)
  | const => rfl

theorem OPE.pickB {c x y : Operand} {b b1 b2 : Bool} (hc : BoolAt σ c b) (hx : BoolAt σ x b1) (hy : BoolAt σ y b2) (hk : Kp (.s (.bool (bif b then b1 else b2)), ty) σ.h σ.u) : OPE P ⟨d, .pick c x y, ty, p, af, g⟩ σ Kp :=
  .pure (fun κ a w hs => ⟨_, by
    simp only [execOp, hc.eval hs, hx.eval hs, hy.eval hs]
    cases b <;> rfl, VV_s_mk rfl⟩) hk
theorem OPE.pickT {c x y : Operand} {b1 : Bool} (hc : BoolAt σ c true) (hx : BoolAt σ x b1) (hk : Kp (.s (.bool b1), ty) σ.h σ.u) : OPE P ⟨d, .pick c x y, ty, p, af, g⟩ σ Kp :=
  .pure (fun κ a w hs => ⟨_, by
    simp only [execOp, hc.eval hs, hx.eval hs]
    rfl, VV_s_mk rfl⟩) hk
theorem OPE.pickF {c x y : Operand} {b1 : Bool} (hc : BoolAt σ c false) (hy : BoolAt σ y b1) (hk : Kp (.s (.bool b1), ty) σ.h σ.u) : OPE P ⟨d, .pick c x y, ty, p, af, g⟩ σ Kp :=
  .pure (fun κ a w hs => ⟨_, by
    simp only [execOp, hc.eval hs, hy.eval hs]
    rfl, VV_s_mk rfl⟩) hk

/-! Numbers -/
theorem OPE.not {x : Operand} {t : TypeId} {b : Bool} (hx : BoolAt σ x b) (hk : Kp (.s (.bool (!b)), ty) σ.h σ.u) : OPE P ⟨d, .unOp .not t x, ty, p, af, g⟩ σ Kp :=
  .pure (fun κ a w hs => ⟨_, by
    simp only [execOp, hx.eval hs]
    rfl, VV_s_mk rfl⟩) hk
theorem run_eqGuard_int (op : BinOp) (t : TypeId) (x y : Operand) (i j : IntKind) (m n : Int) (w : World) : (eqGuard op t x y (.int i m) (.int j n)).run P w = .ok () w := by
  unfold eqGuard
  split <;> rfl
def cmp (op : BinOp) (m n : Int) : Option Bool :=
  match op with
  | .eql => some (decide (m = n))
  | .neq => some (!decide (m = n))
  | .lss => some (decide (m < n))
  | .leq => some (decide (m ≤ n))
  | .gtr => some (decide (n < m))
  | .geq => some (decide (n ≤ m))
  | _ => none
theorem OPE.cmp {op : BinOp} {x y : Operand} {t t2 : TypeId} {i : IntKind} {m n : Int} {b : Bool} (hx : IntAt σ x i m) (hy : IntAt σ y i n) (hb : cmp op m n = some b) (hk : Kp (.s (.bool b), ty) σ.h σ.u) :
    OPE P ⟨d, .binOp op t x y t2, ty, p, af, g⟩ σ Kp :=
  .pure (fun κ a w hs => ⟨.bool b, by
    simp only [execOp, hx.eval hs, hy.eval hs, Sem.run_bind, run_eqGuard_int, Result.andThen_ok]
    cases op <;> simp only [Am.cmp, Option.some.injEq, reduceCtorEq] at hb <;> subst hb <;> simp [binOp, Op.intCmp] <;> (rw [Bool.eq_iff_iff]; simp), VV_s_mk rfl⟩) hk
def arith (op : BinOp) (m n : Int) : Option Int :=
  match op with
  | .add => some (m + n)
  | .sub => some (m - n)
  | .mul => some (m * n)
  | _ => none
theorem OPE.arith {op : BinOp} {x y : Operand} {t t2 : TypeId} {i : IntKind} {m n r q : Int} (hx : IntAt σ x i m) (hy : IntAt σ y i n) (hb : arith op m n = some r) (hq : i.wrap r = q) (hk : Kp (.s (.int i q), ty) σ.h σ.u) :
    OPE P ⟨d, .binOp op t x y t2, ty, p, af, g⟩ σ Kp :=
  .pure (fun κ a w hs => ⟨.int i q, by
    simp only [execOp, hx.eval hs, hy.eval hs, Sem.run_bind, run_eqGuard_int, Result.andThen_ok]
    subst hq
    cases op <;> simp only [Am.arith, Option.some.injEq, reduceCtorEq] at hb <;> subst hb <;> simp [binOp, Op.intArith] , VV_s_mk rfl⟩) hk
end
end Go.Am

/- A layer over the walk's rules. This text: operations on memory. -/
set_option linter.unusedVariables false
namespace Go.Am
variable {P : Program} {σ : St}
variable {d : Option Nat} {ty : TypeId} {p : String} {af : Array Edge} {g : Option (Nat × Bool)} {Kp : X → List AO → (Tips) → Prop}

def aggT (P : Program) (t : TypeId) : Bool := match P.underlying t with
  | some (.struct _) => true
  | some (.array _ _) => true
  | _ => false
/-- What may lie in a cell or in cells. -/
def T.cell : T → Bool
  | .tup _ | .any => false
  | _ => true

theorem VT_ones {κ : K} {t : T} {ty : TypeId} {vs : List Value} (hc : t.cell = true) (h : VT P κ t ty vs) : ∀ v ∈ vs, one v = true := by
  cases t <;> simp only [VT, T.cell, Bool.false_eq_true] at h hc
  case s v => obtain ⟨rfl, h2⟩ := h; simpa using h2
  case st fs => obtain ⟨_, _, _, h2, _⟩ := h; exact h2
  case arr xs => obtain ⟨_, _, _, _, _, h2, _⟩ := h; exact h2
  case lst xs tag => obtain ⟨_, _, _, _, _, rfl, _⟩ := h; simp [one]
  case ptr b q => obtain ⟨_, _, _, _, rfl⟩ := h; simp [one]
  case vw b o l c => obtain ⟨_, _, _, _, _, _, _, rfl⟩ := h; simp [one]
  case ep a b => obtain ⟨_, _, _, _, _, rfl⟩ := h; simp [one]
  case fn f a b => obtain ⟨_, _, rfl, _⟩ := h; simp [one]
  case ifc a b => obtain ⟨_, _, rfl⟩ := h; simp [one]
/-- A tree that is no row of cells lies in one cell. -/
theorem VT_single {κ : K} {t : T} {ty : TypeId} {vs : List Value} (hc : t.aggB = false) (h : VT P κ t ty vs) : ∃ v, vs = [v] ∧ VV P κ t ty v := by
  have key : ∀ v, vs = [v] → aggB v = false → ∃ v, vs = [v] ∧ VV P κ t ty v := fun v hv ha => by
    subst hv
    refine ⟨v, rfl, ?_, by rw [ha, hc]⟩
    have : v.cells.toList = [v] := by cases v <;> simp_all [Value.cells, aggB]
    rw [this]; exact h
  cases t <;> simp only [T.aggB, Bool.true_eq_false] at hc
  all_goals have h0 := h; simp only [VT] at h0
  case s v => exact key v h0.1 (by have := h0.2; cases v <;> simp_all [one, Am.aggB])
  case lst xs tag => obtain ⟨_, _, _, _, _, h1, _⟩ := h0; exact key _ h1 rfl
  case ptr b q => obtain ⟨_, _, _, _, h1⟩ := h0; exact key _ h1 rfl
  case vw b o l c => obtain ⟨_, _, _, _, _, _, _, h1⟩ := h0; exact key _ h1 rfl
  case ep a b => obtain ⟨_, _, _, _, _, h1⟩ := h0; exact key _ h1 rfl
  case tup xs => obtain ⟨_, _, _, h1, _⟩ := h0; exact key _ h1 rfl
  case fn f a b => obtain ⟨_, _, h1, _⟩ := h0; exact key _ h1 rfl
  case ifc a b => obtain ⟨_, _, h1⟩ := h0; exact key _ h1 rfl
  case any => exact key undef h0 rfl
theorem VV_agg {κ : K} {t : T} {ty : TypeId} {vs : List Value} (hc : t.aggB = true) (h : VT P κ t ty vs) : VV P κ t ty (.agg vs.toArray) := ⟨by simpa [Value.cells] using h, hc.symm⟩
theorem VV_cells {κ : K} {t : T} {ty : TypeId} {v : Value} (hc : t.aggB = true) (h : VV P κ t ty v) : ∃ vs, v = .agg vs.toArray ∧ VT P κ t ty vs := by
  obtain ⟨h1, h2⟩ := h
  rw [hc] at h2
  cases v <;> simp [aggB] at h2
  case agg cs => exact ⟨cs.toList, by simp, h1⟩

theorem info_of (hP : WfP P) {t : TypeId} (ht : t < P.types.size) : (P.info? t).map (·.size) = some (szOf P t) := by
  obtain ⟨i, h1, h2⟩ := hP.size t ht
  rw [h1]; simp [h2]
theorem run_sizeOf (hP : WfP P) {t : TypeId} (ht : t < P.types.size) (w : World) : (sizeOf t).run P w = .ok (szOf P t) w := by
  obtain ⟨i, h1, h2⟩ := hP.size t ht
  simp [sizeOf, typeInfo, h1, h2]
theorem run_isAgg {t : TypeId} {dd : TypeDesc} (h : P.underlying t = some dd) (w : World) : (isAgg t).run P w = .ok (aggT P t) w := by
  unfold isAgg aggT
  rw [Sem.run_bind, Go.run_underlying h w, h]
  cases dd <;> rfl

/-- A variable's tree is read: of an object, or of what does not change. -/
theorem run_load (hP : WfP P) {κ : K} {w : World} {t : TypeId} {x : T} {b o : Nat} {cs : List Value} (hc : w.rangeAt b o cs) (ht : t < P.types.size) (hx : VT P κ x t cs) (ha : x.aggB = aggT P t) (hl : cs.length = szOf P t) (hu : (P.underlying t).isSome = true) :
    ∃ v, (Instr.loadAt t (.pointer (some ⟨b, o, none⟩))).run P w = .ok v w ∧ VV P κ x t v := by
  obtain ⟨dd, hdd⟩ := Option.isSome_iff_exists.1 hu
  cases hagg : aggT P t with
  | true =>
    refine ⟨.agg cs.toArray, run_loadAt_mid w b o t cs dd hc hdd ?_ (by rw [info_of hP ht, hl]), VV_agg (by rw [ha, hagg]) hx⟩
    unfold aggT at hagg
    rw [hdd] at hagg
    cases dd <;> simp_all
  | false =>
    obtain ⟨v, rfl, hv⟩ := VT_single (by rw [ha, hagg]) hx
    refine ⟨v, ?_, hv⟩
    have h0 := hc 0 v rfl
    simp only [Nat.add_zero] at h0
    simp only [Instr.loadAt, Instr.sureAddr, Sem.run_bind, Sem.run_pure, Result.andThen_ok, loadVar, run_isAgg hdd, hagg]
    simp [h0]

theorem one_cell {v u : Value} (h : aggB v = false) (k : v.cells.toList = [u]) : v = u := by
  cases v <;> first | (simp [aggB] at h; done) | (simpa [Value.cells] using k)
theorem VV_ep {κ : K} {te pt : TypeId} {x : T} {v : Value} (h : VV P κ (.ep te x) pt v) : ∃ b o us, VT P κ x te us ∧ HoldsAt κ b o us ∧ v = .pointer (some ⟨b, o, none⟩) := by
  obtain ⟨q1, q2⟩ := h
  simp only [VT] at q1
  obtain ⟨b, o, us, h1, h2, h3⟩ := q1
  exact ⟨b, o, us, h1, h2, one_cell q2 h3⟩
theorem VV_ptr {κ : K} {pt : TypeId} {b : Nat} {path : List Nat} {v : Value} (h : VV P κ (.ptr b path) pt v) : ∃ o t', b < κ.n ∧ walkO P (κ.ty b) path = some (o, t') ∧ v = .pointer (some ⟨κ.ι b, o, none⟩) := by
  obtain ⟨q1, q2⟩ := h
  simp only [VT] at q1
  obtain ⟨o, t', h1, h2, h3⟩ := q1
  exact ⟨o, t', h1, h2, one_cell q2 h3⟩
theorem VV_ptr_mk {κ : K} {pt : TypeId} {b o : Nat} {path : List Nat} {t' : TypeId} (hb : b < κ.n) (hw : walkO P (κ.ty b) path = some (o, t')) : VV P κ (.ptr b path) pt (.pointer (some ⟨κ.ι b, o, none⟩)) :=
  ⟨by simp only [VT]; exact ⟨o, t', hb, hw, rfl⟩, rfl⟩
theorem VV_ep_mk {κ : K} {te pt : TypeId} {x : T} {b o : Nat} {us : List Value} (h1 : VT P κ x te us) (h2 : HoldsAt κ b o us) : VV P κ (.ep te x) pt (.pointer (some ⟨b, o, none⟩)) :=
  ⟨by simp only [VT]; exact ⟨b, o, us, h1, h2, rfl⟩, rfl⟩

theorem alive {t1 t2 : OTy} {path : List Nat} {q : Nat × TypeId} (hw : walkO P t1 path = some q) (h : t1 = .dead ∨ t2 = t1) : t2 = t1 := by
  rcases h with h | h
  · rw [h] at hw; cases path <;> cases hw
  · exact h
theorem OPE.load (hP : WfP P) {t : TypeId} {k b off : Nat} {path : List Nat} {o : AO} {x : T} {pt : TypeId} (ha : lk σ.t k = some (.ptr b path, pt)) (hb : σ.h[b]? = some o) (hx : o.t.get path = some x) (hw : walkO P o.ty path = some (off, t))
    (hg : x.aggB = aggT P t) (hu : (P.underlying t).isSome = true) (hk : Kp (x, t) σ.h σ.u) : OPE P ⟨d, .load t (.tmp k), ty, p, af, g⟩ σ Kp :=
  .pure (fun κ a w hs => by
    obtain ⟨o', t', hbn, hw', hev⟩ := VV_ptr (hs.eval ha)
    obtain ⟨r1, r2, vs, e, r3, r4⟩ := hs.wr.obj b o hb
    have r2 := alive hw r2
    rw [r2, hw] at hw'
    cases hw'
    obtain ⟨q1, q2, q3⟩ := VO_get hP r1 r4 hw hx
    have hrange : w.rangeAt (κ.ι b) off ((vs.drop off).take (szOf P t)) := fun j v hj => by
      rw [part_get] at hj
      by_cases hjn : j < szOf P t
      · rw [if_pos hjn] at hj
        simp only [World.cell?, r3]
        simpa using hj
      · rw [if_neg hjn] at hj; cases hj
    obtain ⟨v, hv2, hv3⟩ := run_load hP hrange q3 q1 hg (by simp; omega) hu
    exact ⟨v, by simp only [execOp, hev, Sem.run_bind, hv2, Result.andThen_ok]; rfl, hv3⟩) hk

theorem OPE.loadE (hP : WfP P) {t : TypeId} {k : Nat} {x : T} {pt : TypeId} (ha : lk σ.t k = some (.ep t x, pt)) (ht : t < P.types.size) (hg : x.aggB = aggT P t) (hsz : x.aggB = true ∨ szOf P t = 1) (hu : (P.underlying t).isSome = true) (hk : Kp (x, t) σ.h σ.u) :
    OPE P ⟨d, .load t (.tmp k), ty, p, af, g⟩ σ Kp :=
  .pure (fun κ a w hs => by
    obtain ⟨b, o, us, h1, h2, h3⟩ := VV_ep (hs.eval ha)
    have hl : us.length = szOf P t := by
      rcases hsz with hsz | hsz
      · cases x <;> simp [T.aggB] at hsz <;> simp only [VT] at h1
        · obtain ⟨_, _, h, _⟩ := h1; exact h
        · obtain ⟨_, _, _, _, h, _⟩ := h1; exact h
      · cases hx : x.aggB with
        | false => obtain ⟨v, rfl, _⟩ := VT_single hx h1; simp [hsz]
        | true =>
          cases x <;> simp [T.aggB] at hx <;> simp only [VT] at h1
          · obtain ⟨_, _, h, _⟩ := h1; exact h
          · obtain ⟨_, _, _, _, h, _⟩ := h1; exact h
    obtain ⟨v, hv2, hv3⟩ := run_load hP (w := w) (b := b) (o := o) (fun j v hj => hs.wr.imm _ _ _ (h2 j v hj)) ht h1 hg hl hu
    exact ⟨v, by simp only [execOp, h3, Sem.run_bind, hv2, Result.andThen_ok]; rfl, hv3⟩) hk

/-! Addresses -/
theorem walk_snoc : ∀ {path : List Nat} {t t1 t2 : TypeId} {o o1 i : Nat}, walkPath P t path = some (o, t1) → stepPath P t1 i = some (o1, t2) → walkPath P t (path ++ [i]) = some (o + o1, t2)
  | [], t, t1, t2, o, o1, i => fun h k => by
    simp only [walkPath, Option.some.injEq, Prod.mk.injEq] at h
    obtain ⟨rfl, rfl⟩ := h
    simp [walkPath, k]
  | j :: r, t, t1, t2, o, o1, i => fun h k => by
    simp only [walkPath] at h
    cases hs : stepPath P t j with
    | none => rw [hs] at h; cases h
    | some q =>
      obtain ⟨a, b⟩ := q
      rw [hs] at h
      simp only at h
      cases hr : walkPath P b r with
      | none => rw [hr] at h; cases h
      | some q2 =>
        obtain ⟨a2, b2⟩ := q2
        rw [hr] at h
        simp only [Option.some.injEq, Prod.mk.injEq] at h
        obtain ⟨rfl, rfl⟩ := h
        simp only [List.cons_append, walkPath, hs, walk_snoc hr k, Nat.add_assoc]

theorem walkO_snoc {path : List Nat} {t : OTy} {t1 t2 : TypeId} {o o1 i : Nat} (h : walkO P t path = some (o, t1)) (k : stepPath P t1 i = some (o1, t2)) : walkO P t (path ++ [i]) = some (o + o1, t2) := by
  cases t with
  | one t => exact walk_snoc h k
  | dead => cases path <;> cases h
  | row e n =>
    cases path with
    | nil => cases h
    | cons j r =>
      simp only [walkO, List.cons_append] at h ⊢
      cases hj : Nat.blt j n with
      | false => rw [hj] at h; cases h
      | true =>
        rw [hj] at h
        simp only at h ⊢
        cases hr : walkPath P e r with
        | none => rw [hr] at h; cases h
        | some q2 =>
          obtain ⟨a2, b2⟩ := q2
          rw [hr] at h
          simp only [Option.some.injEq, Prod.mk.injEq] at h
          obtain ⟨rfl, rfl⟩ := h
          rw [walk_snoc hr k, Nat.add_assoc]

theorem run_fieldAt (hP : WfP P) {s : TypeId} {fs : Array Field} {f : Field} {i b o : Nat} (hs : s < P.types.size) (hu : P.underlying s = some (.struct fs)) (hf : fs[i]? = some f) (hz : szOf P f.type ≠ 0) (w : World) :
    (Instr.fieldAt s (.pointer (some ⟨b, o, none⟩)) i).run P w = .ok (.pointer (some ⟨b, o + f.offset, none⟩)) w := by
  have hft := (hP.field s fs hs hu i f hf).1
  simp only [Instr.fieldAt, Sem.run_bind, Go.run_underlying hu, Result.andThen_ok, hf, Instr.sureAddr, Sem.run_pure, fieldPlace, run_sizeOf hP hft, if_neg hz, Addr.add_mid]
theorem OPE.fieldAddr (hP : WfP P) {s : TypeId} {fs : Array Field} {f : Field} {i k b o : Nat} {path : List Nat} {bt : OTy} {pt : TypeId} (ha : lk σ.t k = some (.ptr b path, pt)) (hb : (σ.h[b]?).map (·.ty) = some bt) (hw : walkO P bt path = some (o, s))
    (hs0 : s < P.types.size) (hu : P.underlying s = some (.struct fs)) (hf : fs[i]? = some f) (hz : szOf P f.type ≠ 0) (hk : Kp (.ptr b (path ++ [i]), 0) σ.h σ.u) : OPE P ⟨d, .fieldAddr s (.tmp k) i, ty, p, af, g⟩ σ Kp :=
  .pure (fun κ a w hs => by
    obtain ⟨o', t', hbn, hw', hev⟩ := VV_ptr (hs.eval ha)
    cases hq : σ.h[b]? with
    | none => rw [hq] at hb; cases hb
    | some ob =>
      rw [hq] at hb
      simp only [Option.map_some, Option.some.injEq] at hb
      have hty := alive (hb ▸ hw) (hs.wr.obj b ob hq).2.1
      rw [hty, hb, hw] at hw'
      cases hw'
      exact ⟨_, by simp only [execOp, hev, Sem.run_bind, run_fieldAt hP hs0 hu hf hz, Result.andThen_ok]; rfl,
        VV_ptr_mk (t' := f.type) (o := o + f.offset) hbn (by rw [hty, hb]; exact walkO_snoc hw (by simp [stepPath, hu, hf]))⟩) hk
theorem OPE.fieldAddrE (hP : WfP P) {s : TypeId} {fs : Array Field} {f : Field} {i k : Nat} {ts : List T} {x : T} {pt : TypeId} (ha : lk σ.t k = some (.ep s (.st ts), pt))
    (hs0 : s < P.types.size) (hu : P.underlying s = some (.struct fs)) (hf : fs[i]? = some f) (hx : ts[i]? = some x) (hz : szOf P f.type ≠ 0) (hk : Kp (.ep f.type x, 0) σ.h σ.u) : OPE P ⟨d, .fieldAddr s (.tmp k) i, ty, p, af, g⟩ σ Kp :=
  .pure (fun κ a w hs => by
    obtain ⟨b, o, us, h1, h2, hev⟩ := VV_ep (hs.eval ha)
    simp only [VT] at h1
    obtain ⟨fields, q1, q2, q3, q4⟩ := h1
    rw [hu] at q1
    cases q1
    obtain ⟨f', hf', hv⟩ := VF_get q4 hx
    have : f' = f := by
      have : fs[i]? = some f' := by simpa using hf'
      rw [hf] at this; exact (Option.some.inj this).symm
    subst this
    exact ⟨_, by simp only [execOp, hev, Sem.run_bind, run_fieldAt hP hs0 hu hf hz, Result.andThen_ok]; rfl,
      VV_ep_mk hv (fun j v hj => by
        rw [part_get] at hj
        by_cases hjn : j < szOf P f'.type
        · rw [if_pos hjn] at hj
          rw [Nat.add_assoc]; exact h2 _ _ hj
        · rw [if_neg hjn] at hj; cases hj)⟩) hk
end Go.Am

/- A layer over the walk's rules. This text: new objects, stores, lists. -/
set_option linter.unusedVariables false
set_option linter.unusedSimpArgs false
namespace Go.Am
variable {P : Program} {σ : St}
variable {d : Option Nat} {ty : TypeId} {p : String} {af : Array Edge} {g : Option (Nat × Bool)} {Kp : X → List AO → (Tips) → Prop}

/-- Types of one layout. -/
structure SameT (P : Program) (a b : TypeId) : Prop where
  u : P.underlying a = P.underlying b
  s : szOf P a = szOf P b
theorem SameT.refl (P : Program) (a : TypeId) : SameT P a a := ⟨rfl, rfl⟩
theorem VT_same {κ : K} {a b : TypeId} (h : SameT P a b) {t : T} {vs : List Value} (k : VT P κ t a vs) : VT P κ t b vs := by
  cases t <;> simp only [VT, ← h.u, ← h.s] at k ⊢ <;> exact k
theorem VV_same {κ : K} {a b : TypeId} (h : SameT P a b) {t : T} {v : Value} (k : VV P κ t a v) : VV P κ t b v := ⟨VT_same h k.1, k.2⟩

theorem VV_len {κ : K} {t : T} {ty : TypeId} {v : Value} (h : VV P κ t ty v) (hsz : t.aggB = true ∨ szOf P ty = 1) : v.cells.toList.length = szOf P ty := by
  obtain ⟨h1, h2⟩ := h
  cases hx : t.aggB with
  | true =>
    cases t <;> simp [T.aggB] at hx <;> simp only [VT] at h1
    · obtain ⟨_, _, h, _⟩ := h1; exact h
    · obtain ⟨_, _, _, _, h, _⟩ := h1; exact h
  | false =>
    obtain ⟨v', h3, _⟩ := VT_single hx h1
    rw [h3]
    rcases hsz with hsz | hsz
    · rw [hx] at hsz; cases hsz
    · simp [hsz]

/-- The zero value of a type, as a tree. -/
def ZeroOk (P : Program) (t : TypeId) (x : T) : Prop :=
  t < P.types.size ∧ x.cell = true ∧ ∃ i z, P.info? t = some i ∧ i.zero = some z ∧ z.cells.toList.length = szOf P t ∧ ∀ κ, VV P κ x t z
theorem OPE.alloc {e : TypeId} {x : T} (hz : ZeroOk P e x) (hk : Kp (.ptr σ.h.length [], 0) (σ.h ++ [⟨.one e, x⟩]) σ.u) : OPE P ⟨d, .alloc e, ty, p, af, g⟩ σ Kp :=
  .run fun κ a w hs => by
    obtain ⟨h1, h2, i, z, h3, h4, h5, h6⟩ := hz
    obtain ⟨e1, e2⟩ := hs.wr.alloc (ty := .one e) (e := e) h1 ⟨(h6 κ).1, h5⟩
    refine ⟨.pointer (some ⟨w.heap.size, 0, none⟩), _, _, _, _, _, ?_, e1, e2, ?_, hk⟩
    · simp [execOp, Instr.alloc, zeroValue, typeInfo, h3, h4, newVar, newRow]
    · have hn := hs.wr.n
      refine ⟨?_, rfl⟩
      simp only [VT]
      refine ⟨0, e, by rw [← hn]; exact Nat.lt_succ_self _, ?_, ?_⟩
      · rw [← hn]; simp [K.obj, walkO, walkPath]
      · rw [← hn]; simp [K.obj, Value.cells]
theorem OPE.box {e : TypeId} {k : Nat} {x : T} {tx : TypeId} (hx : lk σ.t k = some (x, tx)) (hT : SameT P tx e) (he : e < P.types.size) (hsz : x.aggB = true ∨ szOf P e = 1) (hk : Kp (.ptr σ.h.length [], 0) (σ.h ++ [⟨.one e, x⟩]) σ.u) :
    OPE P ⟨d, .box e (.tmp k), ty, p, af, g⟩ σ Kp :=
  .run fun κ a w hs => by
    have hv := VV_same hT (hs.eval hx)
    obtain ⟨e1, e2⟩ := hs.wr.alloc (ty := .one e) (e := e) he ⟨hv.1, VV_len hv hsz⟩
    refine ⟨.pointer (some ⟨w.heap.size, 0, none⟩), _, _, _, _, _, ?_, e1, e2, ?_, hk⟩
    · simp [execOp, Instr.box, newVar, newRow]
    · have hn := hs.wr.n
      refine ⟨?_, rfl⟩
      simp only [VT]
      refine ⟨0, e, by rw [← hn]; exact Nat.lt_succ_self _, ?_, ?_⟩
      · rw [← hn]; simp [K.obj, walkO, walkPath]
      · rw [← hn]; simp [K.obj, Value.cells]

theorem run_storeAt (hP : WfP P) {w : World} {b o : Nat} {t e : TypeId} {cur : Array Value} {v : Value} (hb : w.heap[b]? = some (.cells cur e (0, 0))) (ht : t < P.types.size) (hl : v.cells.toList.length = szOf P t) (ho : ∀ u ∈ v.cells.toList, one u = true)
    (hc : o + v.cells.toList.length ≤ cur.size) : (Instr.storeAt t (.pointer (some ⟨b, o, none⟩)) v).run P w = .ok () (w.setRow b (splice cur.toList o v.cells.toList).toArray) := by
  have h := run_storeCells_at (P := P) b o e v.cells.toList 0 cur w hb (by omega) (fun u hu => by rw [one_eq]; exact ho u hu)
  simp only [Nat.add_zero] at h
  have hsz : ¬ (v.cells.size ≠ szOf P t) := by simp at hl; simp [hl]
  simp only [Instr.storeAt, Instr.sureAddr, Sem.run_bind, Sem.run_pure, Result.andThen_ok, storeVar, run_sizeOf hP ht, if_neg hsz, h]
  rfl
theorem tag_cap {κ : K} {e : TypeId} {tag : Tag} {A : Option Addr} {c : Nat} {xs : List T} {us : List Value} (hz : szOf P e ≠ 0) (q3 : TagOk κ (szOf P e) tag A xs.length c) (q4 : VA P κ xs e us) (q5 : Holds κ A us) : xs.length ≤ c := by
  cases tag with
  | no => exact q3
  | full => exact Nat.le_of_eq q3.symm
  | nil =>
    obtain ⟨rfl, _⟩ := q3
    rcases q5 with rfl | ⟨_, _, hA, _⟩
    · have := VA_len q4
      rcases Nat.mul_eq_zero.1 this.symm with h | h
      · omega
      · exact absurd h hz
    · cases hA
  | tip τ => exact q3.1
/-- Less is said of a value: a list's room is forgotten. -/
structure Wk (P : Program) (ty : TypeId) (x y : T) : Prop where
  vt : ∀ (κ : K) (vs : List Value), VT P κ x ty vs → VT P κ y ty vs
  agg : x.aggB = y.aggB
theorem Wk.refl {ty : TypeId} {x : T} : Wk P ty x x := ⟨fun _ _ h => h, rfl⟩
theorem Wk.no {ty e : TypeId} {xs : List T} {tag : Tag} (hu : P.underlying ty = some (.slice e)) (hz : szOf P e ≠ 0) : Wk P ty (.lst xs tag) (.lst xs .no) := ⟨fun κ vs h => by
  simp only [VT] at h ⊢
  obtain ⟨e', A, c, us, h1, h2, h3, h4, h5⟩ := h
  rw [hu] at h1; cases h1
  exact ⟨e, A, c, us, hu, h2, tag_cap hz h3 h4 h5, h4, h5⟩, rfl⟩
def sliced (P : Program) (ty : TypeId) : Bool := match P.underlying ty with
  | some (.slice e) => !(Nat.beq (szOf P e) 0)
  | _ => false
theorem Wk.noS {ty : TypeId} {xs : List T} {tag : Tag} (h : sliced P ty = true) : Wk P ty (.lst xs tag) (.lst xs .no) := by
  unfold sliced at h
  split at h
  · rename_i e hu
    exact Wk.no hu (fun h0 => by rw [h0] at h; cases h)
  · cases h
theorem Wk.val {ty : TypeId} {x y : T} (h : Wk P ty x y) {κ : K} {v : Value} (k : VV P κ x ty v) : VV P κ y ty v := ⟨h.vt κ _ k.1, by rw [← h.agg]; exact k.2⟩
inductive WkF (P : Program) : List Field → List T → List T → Prop where
  | nil : WkF P [] [] []
  | cons {f : Field} {fs : List Field} {x y : T} {xs ys : List T} (h : Wk P f.type x y) (k : WkF P fs xs ys) : WkF P (f :: fs) (x :: xs) (y :: ys)
theorem WkF.vf {κ : K} {vs : List Value} : ∀ {fs : List Field} {xs ys : List T}, WkF P fs xs ys → VF P κ xs fs vs → VF P κ ys fs vs
  | _, _, _, .nil => fun h => h
  | _, _, _, .cons h k => fun hh => by
    simp only [VF] at hh ⊢
    exact ⟨h.vt _ _ hh.1, k.vf hh.2⟩
theorem Wk.st {ty : TypeId} {fs : Array Field} {xs ys : List T} (hu : P.underlying ty = some (.struct fs)) (h : WkF P fs.toList xs ys) : Wk P ty (.st xs) (.st ys) := ⟨fun κ vs hh => by
  simp only [VT] at hh ⊢
  obtain ⟨f, h1, h2, h3, h4⟩ := hh
  rw [hu] at h1; cases h1
  exact ⟨fs, hu, h2, h3, h.vf h4⟩, rfl⟩
/-- A tree whose cells do not hang on its type. -/
def T.free : T → Bool
  | .s _ | .ptr _ _ | .ep _ _ | .fn _ _ _ | .ifc _ _ | .any => true
  | _ => false
theorem VT_free {κ : K} {x : T} {a b : TypeId} {vs : List Value} (hf : x.free = true) (h : VT P κ x a vs) : VT P κ x b vs := by
  cases x <;> simp only [T.free, Bool.false_eq_true] at hf <;> simp only [VT] at h ⊢ <;> exact h
/-- What is stored. -/
inductive ArgAt (P : Program) (σ : St) : Operand → TypeId → T → Prop where
  | tmp {k : Nat} {x : T} {tx ty : TypeId} (h : lk σ.t k = some (x, tx)) (hT : SameT P tx ty) : ArgAt P σ (.tmp k) ty x
  | const {v : Value} {ty : TypeId} (h : one v = true) : ArgAt P σ (.const v) ty (.s v)
  | nil {ty e : TypeId} (h : P.underlying ty = some (.slice e)) : ArgAt P σ (.const (.slice none 0 0)) ty (.lst [] .nil)
  | func {f : Nat} {ty : TypeId} : ArgAt P σ (.func f) ty (.fn (.func f) [] [])
  | wk {k : Nat} {x y : T} {tx ty : TypeId} (h : lk σ.t k = some (x, tx)) (hT : SameT P tx ty) (hw : Wk P ty x y) : ArgAt P σ (.tmp k) ty y
  | nilno {ty : TypeId} (h : sliced P ty = true) : ArgAt P σ (.const (.slice none 0 0)) ty (.lst [] .no)
  | free {k : Nat} {x : T} {tx ty : TypeId} (h : lk σ.t k = some (x, tx)) (hf : x.free = true) : ArgAt P σ (.tmp k) ty x
theorem ArgAt.eval {κ : K} {a : Act} {w : World} (hs : SR P κ σ a w) {x : Operand} {ty : TypeId} {t : T} (h : ArgAt P σ x ty t) : VV P κ t ty (a.eval x) := by
  cases h with
  | tmp h hT => exact VV_same hT (hs.eval h)
  | const h => exact VV_s_mk h
  | nil h => exact VV_nil h
  | func => exact ⟨by simp only [VT]; exact ⟨[], [], rfl, by simp only [VC], by simp only [VC]⟩, rfl⟩
  | wk h hT hw => exact hw.val (VV_same hT (hs.eval h))
  | free h hf => exact ⟨VT_free hf (hs.eval h).1, (hs.eval h).2⟩
  | nilno h =>
    have h' := h
    unfold sliced at h
    split at h
    · rename_i e hu
      exact (Wk.noS h').val (VV_nil hu)
    · cases h
theorem OPE.store (hP : WfP P) {t : TypeId} {k b off : Nat} {y : Operand} {path : List Nat} {o : AO} {x z : T} {pt : TypeId} (ha : lk σ.t k = some (.ptr b path, pt)) (hy : ArgAt P σ y t x) (hb : σ.h[b]? = some o) (hw : walkO P o.ty path = some (off, t))
    (ht : t < P.types.size) (hz : o.t.put path x = some z) (hc : x.cell = true) (hsz : x.aggB = true ∨ szOf P t = 1) (hk : Kp (.any, 0) (σ.h.set b ⟨o.ty, z⟩) σ.u) : OPE P ⟨none, .store t (.tmp k) y, ty, p, af, g⟩ σ Kp := fun κ a w next R hs hn => by
  obtain ⟨o', t', hbn, hw', hev⟩ := VV_ptr (hs.eval ha)
  have hv := hy.eval hs
  have hl := VV_len hv hsz
  have hty := alive hw (hs.wr.obj b o hb).2.1
  rw [hty, hw] at hw'
  cases hw'
  obtain ⟨cur, e, q1, q2, q3, q4⟩ := hs.wr.store hP hb hw hz hv.1 hl (VT_ones hc hv.1)
  have hr := run_storeAt hP q1 ht hl (VT_ones hc hv.1) q2
  unfold Oper.wp
  simp only [execOp, hev, Sem.run_bind, hr, Result.andThen_ok, Sem.run_pure, Oper.upon]
  exact hn κ undef (.any, 0) _ σ.u _ q3 q4 ⟨by simp only [VT]; rfl, rfl⟩ hk

/-! Parts of a tuple, a struct, an array -/
theorem VV_tup {κ : K} {tt : TypeId} {ts : List T} {v : Value} (h : VV P κ (.tup ts) tt v) : ∃ es us, P.underlying tt = some (.tuple es) ∧ v = .tuple us.toArray ∧ VL P κ ts es.toList us := by
  obtain ⟨q1, q2⟩ := h
  simp only [VT] at q1
  obtain ⟨es, us, h1, h2, h3⟩ := q1
  exact ⟨es, us, h1, one_cell q2 h2, h3⟩
theorem VL_get {κ : K} : ∀ {ts : List T} {es : List TypeId} {us : List Value} {i : Nat} {t : T}, VL P κ ts es us → ts[i]? = some t → ∃ e v, es[i]? = some e ∧ us[i]? = some v ∧ VV P κ t e v
  | [], _, _, _, _ => fun _ h => by simp at h
  | _ :: _, [], _, _, _ => fun h => by simp only [VL] at h
  | _ :: _, _ :: _, [], _, _ => fun h => by simp only [VL] at h
  | a :: ts, e :: es, v :: us, 0, t => fun h hi => by
    simp only [VL] at h
    simp at hi; subst hi
    exact ⟨e, v, rfl, rfl, h.1⟩
  | a :: ts, e :: es, v :: us, i + 1, t => fun h hi => by
    simp only [VL] at h
    simp only [List.getElem?_cons_succ] at hi ⊢
    exact VL_get h.2 hi
theorem OPE.extract {k i : Nat} {ts : List T} {t : T} {tt e : TypeId} {es : Array TypeId} (ha : lk σ.t k = some (.tup ts, tt)) (hu : P.underlying tt = some (.tuple es)) (hi : ts[i]? = some t) (he : es[i]? = some e) (hk : Kp (t, e) σ.h σ.u) :
    OPE P ⟨d, .extract (.tmp k) i, ty, p, af, g⟩ σ Kp :=
  .pure (fun κ a w hs => by
    obtain ⟨es', us, h1, h2, h3⟩ := VV_tup (hs.eval ha)
    rw [hu] at h1
    cases h1
    obtain ⟨e', v, h4, h5, h6⟩ := VL_get h3 hi
    have : e' = e := by
      have : es[i]? = some e' := by simpa using h4
      rw [he] at this; exact (Option.some.inj this).symm
    subst this
    refine ⟨v, ?_, h6⟩
    simp only [execOp, h2, Instr.extract]
    have : us.toArray[i]? = some v := by simpa using h5
    simp [this]) hk

/-! Lists -/
theorem VV_lst {κ : K} {ts : TypeId} {xs : List T} {tag : Tag} {v : Value} (h : VV P κ (.lst xs tag) ts v) : ∃ e A c us, P.underlying ts = some (.slice e) ∧ v = .slice A xs.length c ∧ TagOk κ (szOf P e) tag A xs.length c ∧ VA P κ xs e us ∧ Holds κ A us := by
  obtain ⟨q1, q2⟩ := h
  simp only [VT] at q1
  obtain ⟨e, A, c, us, h1, h2, h3, h4, h5⟩ := q1
  exact ⟨e, A, c, us, h1, one_cell q2 h2, h3, h4, h5⟩
theorem VV_lst_mk {κ : K} {ts e : TypeId} {xs : List T} {tag : Tag} {A : Option Addr} {n c : Nat} {us : List Value} (h1 : P.underlying ts = some (.slice e)) (hn : n = xs.length) (h3 : TagOk κ (szOf P e) tag A n c) (h4 : VA P κ xs e us) (h5 : Holds κ A us) :
    VV P κ (.lst xs tag) ts (.slice A n c) := ⟨by subst hn; simp only [VT]; exact ⟨e, A, c, us, h1, rfl, h3, h4, h5⟩, rfl⟩
theorem OPE.len {k : Nat} {xs : List T} {tag : Tag} {ts st e : TypeId} (ha : lk σ.t k = some (.lst xs tag, ts)) (hu : P.underlying st = some (.slice e)) (hk : Kp (.s (.int .i64 (xs.length : Nat)), ty) σ.h σ.u) :
    OPE P ⟨d, .call { callee := .builtin .len, args := #[.tmp k], argTypes := #[st] }, ty, p, af, g⟩ σ Kp :=
  .pure (fun κ a w hs => by
    obtain ⟨e', A, c, us, h1, h2, _⟩ := VV_lst (hs.eval ha)
    refine ⟨.int .i64 (xs.length : Nat), ?_, VV_s_mk rfl⟩
    simp [execOp, resolve, invoke, builtin, Builtin.len_, h2, Go.run_underlying hu, Sem.run_bind, goInt]) hk
/-- An element's address. -/
theorem OPE.indexL (hP : WfP P) {k : Nat} {y : Operand} {i : Int} {ik : IntKind} {xs : List T} {x : T} {tag : Tag} {ts st e : TypeId} (ha : lk σ.t k = some (.lst xs tag, ts)) (hy : IntAt σ y ik i) (hT : SameT P ts st) (hst : st < P.types.size) (hu : P.underlying st = some (.slice e)) (hz : szOf P e ≠ 0)
    (h0 : 0 ≤ i) (hx : xs[i.toNat]? = some x) (hk : Kp (.ep e x, 0) σ.h σ.u) : OPE P ⟨d, .indexAddr st (.tmp k) y, ty, p, af, g⟩ σ Kp :=
  .pure (fun κ a w hs => by
    obtain ⟨e', A, c, us, h1, h2, h3, h4, h5⟩ := VV_lst (VV_same hT (hs.eval ha))
    rw [hu] at h1
    cases h1
    have hlt : i.toNat < xs.length := (List.getElem?_eq_some_iff.1 hx).1
    obtain ⟨q1, q2⟩ := VA_get h4 hx
    have hget : ∀ b o, A = some ⟨b, o, none⟩ → HoldsAt κ b o us → (Instr.indexAt st (.slice A xs.length c) (.int ik i)).run P w = .ok (.pointer (some ⟨b, o + i.toNat * szOf P e, none⟩)) w := fun b o hA _ => by
      subst hA
      have he : e < P.types.size := hP.sli st e hst hu
      have hcond : 0 ≤ i ∧ i < (xs.length : Int) := ⟨h0, by omega⟩
      simp only [Instr.indexAt, asIntOf, Sem.run_bind, Sem.run_pure, Result.andThen_ok, Go.run_underlying hu, if_pos hcond, run_sizeOf hP he, Addr.add_mid]
    have hA : ∃ b o, A = some ⟨b, o, none⟩ ∧ HoldsAt κ b o us := by
      rcases h5 with h5 | h5
      · subst h5
        have hl := VA_len h4
        simp only [List.length_nil] at hl
        rcases Nat.mul_eq_zero.1 hl.symm with h | h
        · omega
        · exact absurd h hz
      · exact h5
    obtain ⟨b, o, hA, hh⟩ := hA
    refine ⟨_, by simp only [execOp, h2, hy.eval hs, Sem.run_bind, hget b o hA hh, Result.andThen_ok]; rfl, VV_ep_mk q1 fun j v hj => ?_⟩
    rw [part_get] at hj
    by_cases hjn : j < szOf P e
    · rw [if_pos hjn] at hj
      rw [Nat.add_assoc]; exact hh _ _ hj
    · rw [if_neg hjn] at hj; cases hj) hk
end Go.Am

/- A layer over the walk's rules. This text: calls. -/
set_option linter.unusedVariables false
set_option linter.unusedSimpArgs false
namespace Go.Am
variable {P : Program} {σ : St}
variable {d : Option Nat} {ty : TypeId} {p : String} {af : Array Edge} {g : Option (Nat × Bool)} {Kp : X → List AO → (Tips) → Prop}

/-- Arguments: trees and their types. -/
inductive VArgs (P : Program) (κ : K) : List X → List Value → Prop where
  | nil : VArgs P κ [] []
  | cons {x : X} {xs : List X} {v : Value} {vs : List Value} (h : VV P κ x.1 x.2 v) (k : VArgs P κ xs vs) : VArgs P κ (x :: xs) (v :: vs)

/-- A call of function f, in a memory of which h and u are known, ends in what Kp says. -/
def ACalls (P : Program) (f : FuncId) (args : List X) (h : List AO) (u : Tips) (Kp : X → List AO → (Tips) → Prop) : Prop :=
  ∀ κ w vs, WR P κ w h u → VArgs P κ args vs → Calls P f vs.toArray w fun e w' => ∃ κ' v x h' u', e = .returned v ∧ Ext κ u w κ' u' w' ∧ WR P κ' w' h' u' ∧ VV P κ' x.1 x.2 v ∧ Kp x h' u'

theorem ACalls.mono {f : FuncId} {args : List X} {h : List AO} {u : Tips} {Kp Kp' : X → List AO → (Tips) → Prop} (hc : ACalls P f args h u Kp) (hk : ∀ x h' u', Kp x h' u' → Kp' x h' u') : ACalls P f args h u Kp' :=
  fun κ w vs hw ha => (hc κ w vs hw ha).mono fun e w' ⟨κ', v, x, h', u', h1, h2, h3, h4, h5⟩ => ⟨κ', v, x, h', u', h1, h2, h3, h4, hk _ _ _ h5⟩

/-- The function may be entered. -/
def enters (P : Program) (f : FuncId) : Bool := match P.funcs[f]? with
  | some fn => !(fn.name == "runtime.NumGoroutine") && !fn.body.isNone
  | none => false
theorem run_callFunc {f : FuncId} (h : enters P f = true) (vs : Array Value) (w : World) : (callFunc f vs).run P w = .ok (.enter f vs) w := by
  unfold enters at h
  cases hf : P.funcs[f]? with
  | none => rw [hf] at h; cases h
  | some fn =>
    rw [hf] at h
    simp only [Bool.and_eq_true, Bool.not_eq_true'] at h
    obtain ⟨h1, h2⟩ := h
    unfold callFunc
    simp only [Sem.run_bind, run_program, Result.andThen_ok, hf, h1, h2, Bool.false_eq_true, if_false]
    rfl

/-- The operands of a call: what they hold. -/
inductive Args (P : Program) (σ : St) : List Operand → List X → Prop where
  | nil : Args P σ [] []
  | cons {o : Operand} {os : List Operand} {x : T} {ty : TypeId} {xs : List X} (h : ArgAt P σ o ty x) (k : Args P σ os xs) : Args P σ (o :: os) ((x, ty) :: xs)
theorem Args.eval {κ : K} {a : Act} {w : World} (hs : SR P κ σ a w) : ∀ {os : List Operand} {xs : List X}, Args P σ os xs → VArgs P κ xs (os.map a.eval)
  | _, _, .nil => .nil
  | _, _, .cons h k => .cons (h.eval hs) (k.eval hs)

theorem OPE.call {f : FuncId} {os : List Operand} {ats : Array TypeId} {xs : List X} (hf : enters P f = true) (ha : Args P σ os xs) (hc : ACalls P f xs σ.h σ.u Kp) :
    OPE P ⟨d, .call { callee := .value (.func f), args := os.toArray, argTypes := ats }, ty, p, af, g⟩ σ Kp := fun κ a w next R hs hn => by
  have hr : (execOp a.eval ⟨d, .call { callee := .value (.func f), args := os.toArray, argTypes := ats }, ty, p, af, g⟩).run P w = .ok (.enter f (os.map a.eval).toArray) w := by
    simp [execOp, resolve, Act.eval, Deferred.ofValue, invoke, Sem.run_bind, run_callFunc hf]
  unfold Oper.wp
  rw [hr]
  show Calls P f (os.map a.eval).toArray w _
  refine (hc κ w _ hs.wr (ha.eval hs)).mono ?_
  rintro e w' ⟨κ', v, x, h', u', rfl, h2, h3, h4, h5⟩
  exact hn κ' v x h' u' w' h2 h3 h4 h5

/-! The body -/
def argT : List X → Nat → List (Nat × T × TypeId)
  | [], _ => []
  | x :: xs, i => (i, x) :: argT xs (i + 1)
theorem lk_argT {κ : K} : ∀ {xs : List X} {vs : List Value} {i k : Nat} {x : X}, VArgs P κ xs vs → lk (argT xs i) k = some x → ∃ v, i ≤ k ∧ vs[k - i]? = some v ∧ VV P κ x.1 x.2 v
  | [], _, _, _, _ => fun _ h => by simp [argT, lk] at h
  | y :: ys, [], _, _, _ => fun h _ => by cases h
  | y :: ys, v :: vs, i, k, x => fun h hk => by
    cases h with
    | cons h1 h2 =>
      simp only [argT, lk] at hk
      cases hb : Nat.beq i k with
      | true =>
        have := Nat.eq_of_beq_eq_true hb
        subst this
        rw [hb] at hk
        simp only [Option.some.injEq] at hk
        subst hk
        exact ⟨v, Nat.le_refl _, by simp, h1⟩
      | false =>
        rw [hb] at hk
        have hne := Nat.ne_of_beq_eq_false hb
        obtain ⟨v', q1, q2, q3⟩ := lk_argT h2 hk
        refine ⟨v', by omega, ?_, q3⟩
        rw [show k - i = (k - (i + 1)) + 1 by omega]; simpa using q2

theorem VArgs.len {κ : K} : ∀ {xs : List X} {vs : List Value}, VArgs P κ xs vs → vs.length = xs.length
  | _, _, .nil => rfl
  | _, _, .cons _ k => by simp [k.len]

def resVal (tmps : Array Value) : ResultVar → Sem Value
  | .tmp t => pure (tmps.getD t undef)
  | .cell a t => do loadVar t (← asAddr (tmps.getD a undef))
theorem results_eq (fn : Func) (tmps : Array Value) : results fn tmps = (do
    let vs ← fn.results.mapM (resVal tmps)
    pure (if h : vs.size = 1 then vs[0] else .tuple vs)) := by
  unfold results
  have : (fun (r : ResultVar) => match r with | .tmp t => (pure (tmps.getD t undef) : Sem Value) | .cell a t => do loadVar t (← asAddr (tmps.getD a undef))) = resVal tmps := by
    funext r; cases r <;> rfl
  rw [← this]
  rfl

/-- What a function hands back, of one result. -/
inductive Res1 (P : Program) (σ : St) : ResultVar → X → Prop where
  | tmp {k : Nat} {x : X} (h : lk σ.t k = some x) : Res1 P σ (.tmp k) x
  | tmpW {k : Nat} {x y : T} {ty : TypeId} (h : lk σ.t k = some (x, ty)) (hw : Wk P ty x y) : Res1 P σ (.tmp k) (y, ty)
  | cell {k b : Nat} {t : T} {ty pt : TypeId} (h : lk σ.t k = some (.ptr b [], pt)) (hb : σ.h[b]? = some ⟨.one ty, t⟩) : Res1 P σ (.cell k ty) (t, ty)
inductive ResL (P : Program) (σ : St) : List ResultVar → List X → Prop where
  | nil : ResL P σ [] []
  | cons {r : ResultVar} {rs : List ResultVar} {x : X} {xs : List X} (h : Res1 P σ r x) (k : ResL P σ rs xs) : ResL P σ (r :: rs) (x :: xs)

theorem Res1.run (hP : WfP P) {κ : K} {a : Act} {w : World} (hs : SR P κ σ a w) {r : ResultVar} {x : X} (h : Res1 P σ r x) (hx : ∀ k t, r = .cell k t → x.1.aggB = aggT P x.2 ∧ (P.underlying x.2).isSome = true) :
    ∃ v, (resVal a.tmps r).run P w = .ok v w ∧ VV P κ x.1 x.2 v := by
  cases h with
  | tmp h => exact ⟨_, rfl, hs.eval (t := x.1) (ty := x.2) h⟩
  | tmpW h hw => exact ⟨_, rfl, hw.val (hs.eval h)⟩
  | cell h hb =>
    rename_i k b t ty pt
    obtain ⟨hg, hu⟩ := hx k ty rfl
    obtain ⟨o', t', hbn, hw', hev⟩ := VV_ptr (hs.eval h)
    obtain ⟨r1, r2, vs, e, r3, r4, r5⟩ := hs.wr.obj b _ hb
    rcases r2 with r2 | r2
    · cases r2
    rw [r2] at hw'
    simp only [walkO, walkPath, Option.some.injEq, Prod.mk.injEq] at hw'
    obtain ⟨rfl, _⟩ := hw'
    have hrange : w.rangeAt (κ.ι b) 0 vs := fun j v hj => by
      simp only [World.cell?, r3]
      simpa using hj
    obtain ⟨v, hv2, hv3⟩ := run_load hP hrange r1 r4 hg r5 hu
    refine ⟨v, ?_, hv3⟩
    have hev' : a.tmps.getD k undef = .pointer (some ⟨κ.ι b, 0, none⟩) := hev
    simp only [Instr.loadAt, Instr.sureAddr, Sem.run_bind, Sem.run_pure, Result.andThen_ok] at hv2
    simp only [resVal, hev', asAddr, Sem.run_bind, Sem.run_pure, Result.andThen_ok, hv2]

theorem ResL.len {σ : St} : ∀ {rs : List ResultVar} {xs : List X}, ResL P σ rs xs → rs.length = xs.length
  | _, _, .nil => rfl
  | _, _, .cons _ k => by simp [k.len]
def resOk (P : Program) : List ResultVar → List X → Prop
  | r :: rs, x :: xs => (∀ k t, r = .cell k t → x.1.aggB = aggT P x.2 ∧ (P.underlying x.2).isSome = true) ∧ resOk P rs xs
  | _, _ => True
theorem ResL.run (hP : WfP P) {κ : K} {a : Act} {w : World} (hs : SR P κ σ a w) : ∀ {rs : List ResultVar} {xs : List X}, ResL P σ rs xs → resOk P rs xs →
    ∃ vs, (rs.mapM (resVal a.tmps)).run P w = .ok vs w ∧ VArgs P κ xs vs
  | _, _, .nil => fun _ => ⟨[], rfl, .nil⟩
  | _, _, .cons h k => fun hk => by
    obtain ⟨v, h1, h2⟩ := h.run hP hs hk.1
    obtain ⟨vs, h3, h4⟩ := k.run hP hs hk.2
    refine ⟨v :: vs, ?_, .cons h2 h4⟩
    rw [List.mapM_cons]
    simp only [Sem.run_bind, h1, Result.andThen_ok, h3, Sem.run_pure]

theorem VL_of_args {κ : K} : ∀ {xs : List X} {vs : List Value}, VArgs P κ xs vs → VL P κ (xs.map (·.1)) (xs.map (·.2)) vs
  | _, _, .nil => by simp [VL]
  | _, _, .cons h k => by simp only [List.map_cons, VL]; exact ⟨h, VL_of_args k⟩

/-- A function is shown by its body. Of one result. -/
theorem ACalls.body1 (hP : WfP P) {f : FuncId} {fn : Func} {c : Code} {r : ResultVar} {args : List X} {h : List AO} {u : Tips} (hf : P.funcs[f]? = some fn) (hb : fn.body = some c) (hr : fn.results = #[r]) (hn : args.length ≤ fn.ntmps)
    (hw : AW P c { n := fn.ntmps, t := argT args 0, h := h, u := u } fun e σ' => (e = .normal ∨ e = .ret) ∧ ∃ x, Res1 P σ' r x ∧ (∀ k t, r = .cell k t → x.1.aggB = aggT P x.2 ∧ (P.underlying x.2).isSome = true) ∧ Kp x σ'.h σ'.u) : ACalls P f args h u Kp := by
  intro κ w vs hwr ha
  have hlen := ha.len
  have hs : SR P κ { n := fn.ntmps, t := argT args 0, h := h, u := u } { tmps := vs.toArray ++ Array.replicate (fn.ntmps - vs.toArray.size) undef, defers := [] } w := by
    refine ⟨rfl, by simp; omega, fun k t ty hk => ?_, hwr⟩
    obtain ⟨v, _, h1, h2⟩ := lk_argT ha hk
    refine ⟨v, ?_, h2⟩
    simp only [Nat.sub_zero] at h1
    have := (List.getElem?_eq_some_iff.1 h1).1
    rw [Array.getElem?_append_left (by simpa using this)]
    simpa using h1
  refine calls_of_wp hf hb (wp_mono (hw κ _ w hs) ?_)
  rintro e a' w' ⟨κ', σ', he, hs', hex, x, hx, hxo, hk⟩
  obtain ⟨v, h1, h2⟩ := hx.run hP hs' hxo
  have hres : (results fn a'.tmps).run P w' = .ok v w' := by
    rw [results_eq, hr]
    simp only [Sem.run_bind, List.mapM_toArray, List.mapM_cons, List.mapM_nil, Sem.run_map, h1, Result.andThen_ok, Sem.run_pure]
    rfl
  rcases hex with rfl | rfl
  · exact ⟨hs'.defers, v, hres, κ', v, x, _, _, rfl, he, hs'.wr, h2, hk⟩
  · exact ⟨hs'.defers, v, hres, κ', v, x, _, _, rfl, he, hs'.wr, h2, hk⟩
/-- Of several results, or none. -/
theorem ACalls.bodyN (hP : WfP P) {f : FuncId} {fn : Func} {c : Code} {rs : List ResultVar} {args : List X} {h : List AO} {u : Tips} (tt : TypeId) (hf : P.funcs[f]? = some fn) (hb : fn.body = some c) (hr : fn.results = rs.toArray) (hr1 : rs.length ≠ 1) (hn : args.length ≤ fn.ntmps)
    (hw : AW P c { n := fn.ntmps, t := argT args 0, h := h, u := u } fun e σ' => (e = .normal ∨ e = .ret) ∧ ∃ xs, ResL P σ' rs xs ∧ resOk P rs xs ∧ P.underlying tt = some (.tuple (xs.map (·.2)).toArray) ∧ Kp (.tup (xs.map (·.1)), tt) σ'.h σ'.u) : ACalls P f args h u Kp := by
  intro κ w vs hwr ha
  have hlen := ha.len
  have hs : SR P κ { n := fn.ntmps, t := argT args 0, h := h, u := u } { tmps := vs.toArray ++ Array.replicate (fn.ntmps - vs.toArray.size) undef, defers := [] } w := by
    refine ⟨rfl, by simp; omega, fun k t ty hk => ?_, hwr⟩
    obtain ⟨v, _, h1, h2⟩ := lk_argT ha hk
    refine ⟨v, ?_, h2⟩
    simp only [Nat.sub_zero] at h1
    have := (List.getElem?_eq_some_iff.1 h1).1
    rw [Array.getElem?_append_left (by simpa using this)]
    simpa using h1
  refine calls_of_wp hf hb (wp_mono (hw κ _ w hs) ?_)
  rintro e a' w' ⟨κ', σ', he, hs', hex, xs, hx, hxo, htt, hk⟩
  obtain ⟨us, h1, h2⟩ := hx.run hP hs' hxo
  have hl2 : us.length ≠ 1 := by
    have h3 := hx.len
    rw [h2.len, ← h3]; exact hr1
  have hres : (results fn a'.tmps).run P w' = .ok (.tuple us.toArray) w' := by
    rw [results_eq, hr]
    simp only [Sem.run_bind, List.mapM_toArray, Sem.run_map, h1, Result.andThen_ok, Sem.run_pure]
    simp [hl2]
  have hv : VV P κ' (.tup (xs.map (·.1))) tt (.tuple us.toArray) := ⟨by simp only [VT]; exact ⟨_, us, htt, rfl, VL_of_args h2⟩, rfl⟩
  rcases hex with rfl | rfl
  · exact ⟨hs'.defers, _, hres, κ', _, (.tup (xs.map (·.1)), tt), _, _, rfl, he, hs'.wr, hv, hk⟩
  · exact ⟨hs'.defers, _, hres, κ', _, (.tup (xs.map (·.1)), tt), _, _, rfl, he, hs'.wr, hv, hk⟩
end Go.Am

/- A layer over the walk's rules. This text: a list written out. -/
set_option linter.unusedVariables false
set_option linter.unusedSimpArgs false
namespace Go.Am
variable {P : Program} {σ : St}
variable {d : Option Nat} {ty : TypeId} {p : String} {af : Array Edge} {g : Option (Nat × Bool)} {Kp : X → List AO → (Tips) → Prop}

/-- A new list of one's own: its capacity is its length. -/
theorem WR.lit {κ : K} {w : World} {h : List AO} {u : Tips} (H : WR P κ w h u) {xs : List T} {e : TypeId} {us : List Value} (hv : VA P κ xs e us) :
    ∃ κ', Ext κ u w κ' u (w.alloc (.cells us.toArray e (0, 0))) ∧ WR P κ' (w.alloc (.cells us.toArray e (0, 0))) h u ∧ HoldsAt κ' w.heap.size 0 us := by
  obtain ⟨h1, h2, h3⟩ := H.row0 us [] e
  rw [List.append_nil] at h1 h2
  exact ⟨_, h1, h2, h3⟩

/-- Parts that fill a list from 0 on. -/
inductive Parts (P : Program) (σ : St) (e : TypeId) : Nat → List (Nat × Operand) → List T → Prop where
  | nil {i : Nat} : Parts P σ e i [] []
  | cons {i : Nat} {o : Operand} {ps : List (Nat × Operand)} {x : T} {xs : List T} (h : ArgAt P σ o e x) (hsz : x.aggB = true ∨ szOf P e = 1) (k : Parts P σ e (i + 1) ps xs) : Parts P σ e i ((i, o) :: ps) (x :: xs)

theorem foldl_set (us : List Value) (off : Nat) : ∀ (k : Nat) (cs : Array Value), off + k + us.length ≤ cs.size →
    ((us.zipIdx k).foldl (fun cs (x : Value × Nat) => cs.setIfInBounds (off + x.2) x.1) cs).toList = splice cs.toList (off + k) us := by
  induction us with
  | nil => intro k cs h; simp [splice]
  | cons u us ih =>
    intro k cs h
    simp only [List.zipIdx_cons, List.foldl_cons]
    rw [ih (k + 1) _ (by simp at h ⊢; omega)]
    apply List.ext_getElem?
    intro j
    have h1 : off + (k + 1) + us.length ≤ (cs.setIfInBounds (off + k) u).toList.length := by simp at h ⊢; omega
    have h2 : off + k + (u :: us).length ≤ cs.toList.length := by simp at h ⊢; omega
    rw [splice_get h1, splice_get h2]
    by_cases a : j < off + k
    · rw [if_pos (by omega), if_pos a]
      simp [List.getElem?_set]
      omega
    · rw [if_neg a]
      by_cases b : j = off + k
      · subst b
        rw [if_pos (by omega), if_pos (by simp)]
        simp at h
        simp [List.getElem?_set]
        omega
      · rw [if_neg (by omega)]
        by_cases c : j < off + (k + 1) + us.length
        · rw [if_pos c, if_pos (by simp; omega)]
          rw [show j - (off + k) = (j - (off + (k + 1))) + 1 by omega]
          simp
        · rw [if_neg c, if_neg (by simp; omega)]
          simp [List.getElem?_set]
          omega

/-- What 'fill' makes of parts that lie one behind the other. -/
theorem fill_parts {κ : K} {a : Act} {w : World} (hs : SR P κ σ a w) {e : TypeId} : ∀ {i : Nat} {ps : List (Nat × Operand)} {xs : List T} (cells : Array Value), Parts P σ e i ps xs → i * szOf P e + xs.length * szOf P e ≤ cells.size →
    ∃ us, VA P κ xs e us ∧ us.length = xs.length * szOf P e ∧ Instr.fill (fun i => some (i * szOf P e, szOf P e)) cells (ps.map fun x => (x.1, a.eval x.2)) = some (splice cells.toList (i * szOf P e) us).toArray
  | i, _, _, cells, .nil => fun _ => ⟨[], by simp [VA], by simp, by simp [Instr.fill, splice]⟩
  | i, _, _, cells, .cons (ps := ps) (xs := xs) (o := o) (x := x) h hsz k => fun hle => by
    have hv := h.eval hs
    have hl := VV_len hv hsz
    simp only [List.length_cons, Nat.succ_mul] at hle
    have hle1 : i * szOf P e + (a.eval o).cells.toList.length ≤ cells.toList.length := by simp at hl ⊢; omega
    obtain ⟨us, h1, h2, h3⟩ := fill_parts hs (splice cells.toList (i * szOf P e) (a.eval o).cells.toList).toArray k (by simp only [List.size_toArray, splice_length hle1, Nat.succ_mul, Array.length_toList]; omega)
    refine ⟨(a.eval o).cells.toList ++ us, ?_, by simp only [List.length_append, List.length_cons, Nat.succ_mul]; omega, ?_⟩
    · simp only [VA]
      refine ⟨by simp at hl ⊢; omega, ?_, ?_⟩
      · rw [List.take_append_of_le_length (by omega), List.take_of_length_le (by omega)]; exact hv.1
      · rw [List.drop_append_of_le_length (by omega), List.drop_of_length_le (by omega)]; simpa using h1
    · simp only [List.map_cons, Instr.fill]
      have hc : (a.eval o).cells.size = szOf P e := by simpa using hl
      rw [if_neg (by simp [hc]; simp at hle1; omega)]
      have hf : ((a.eval o).cells.zipIdx.foldl (fun cs (x : Value × Nat) => cs.setIfInBounds (i * szOf P e + x.2) x.1) cells) = (splice cells.toList (i * szOf P e) (a.eval o).cells.toList).toArray := by
        apply Array.ext'
        have := foldl_set (a.eval o).cells.toList (i * szOf P e) 0 cells (by simp at hle1 ⊢; omega)
        rw [Nat.add_zero] at this
        rw [← this, ← Array.foldl_toList, Array.toList_zipIdx]
      refine Eq.trans ?_ (h3.trans ?_)
      · exact congrArg (fun c => Instr.fill _ c _) hf
      · congr 1
        apply Array.ext'
        simp only []
        apply List.ext_getElem?
        intro j
        have hle2 : (i + 1) * szOf P e + us.length ≤ (splice cells.toList (i * szOf P e) (a.eval o).cells.toList).length := by rw [splice_length hle1, Nat.succ_mul]; simp; omega
        have hle3 : i * szOf P e + ((a.eval o).cells.toList ++ us).length ≤ cells.toList.length := by simp at hl ⊢; omega
        rw [splice_get hle2, splice_get hle1, splice_get hle3, Nat.succ_mul]
        by_cases b1 : j < i * szOf P e
        · rw [if_pos (by omega), if_pos b1, if_pos b1]
        · rw [if_neg b1, if_neg b1]
          by_cases b2 : j < i * szOf P e + szOf P e
          · rw [if_pos b2, if_pos (by omega), if_pos (by simp at hl ⊢; omega), List.getElem?_append_left (by omega)]
          · rw [if_neg b2]
            by_cases b3 : j < i * szOf P e + szOf P e + us.length
            · rw [if_pos b3, if_pos (by simp at hl ⊢; omega), List.getElem?_append_right (by omega)]; congr 1; omega
            · rw [if_neg b3, if_neg (by omega), if_neg (by simp at hl ⊢; omega)]

theorem OPE.buildSlice (hP : WfP P) {t e : TypeId} {n : Nat} {ps : List (Nat × Operand)} {xs : List T} (hu : P.underlying t = some (.slice e)) (ht : t < P.types.size) (hps : Parts P σ e 0 ps xs) (hn : xs.length = n) (hsz : szOf P e ≠ 0) (hbig : n * szOf P e ≤ 16777216)
    (hz : ∃ i z, P.info? e = some i ∧ i.zero = some z) (hk : Kp (.lst xs .full, t) σ.h σ.u) : OPE P ⟨d, .buildSlice t n ps.toArray, ty, p, af, g⟩ σ Kp :=
  .run fun κ a w hs => by
    have he := hP.sli t e ht hu
    obtain ⟨i, z, hz1, hz2⟩ := hz
    obtain ⟨us, h1, h2, h3⟩ := fill_parts hs ((Array.range (n * szOf P e)).map (z.cells[· % z.cells.size]!)) hps (by simp [hn])
    have h4 : splice ((Array.range (n * szOf P e)).map (z.cells[· % z.cells.size]!)).toList (0 * szOf P e) us = us := by
      rw [Nat.zero_mul]; exact splice_whole (by simp [h2, hn])
    rw [h4] at h3
    obtain ⟨κ', e1, e2, e3⟩ := hs.wr.lit h1
    refine ⟨.slice (some ⟨w.heap.size, 0, none⟩) n n, κ', _, (.lst xs .full, t), σ.h, σ.u, ?_, e1, e2, VV_lst_mk hu hn.symm rfl (VA_mono e1.le _ _ _ h1) (.inr ⟨_, _, rfl, e3⟩), hk⟩
    have hlim : ¬ (n * szOf P e > 2 ^ 24) := by omega
    simp only [execOp, Instr.buildSlice, Sem.run_bind, Go.run_underlying hu, Result.andThen_ok, run_sizeOf hP he]
    rw [if_neg hlim]
    by_cases hn0 : n * szOf P e = 0
    · have hx : xs = [] := by
        rcases Nat.mul_eq_zero.1 hn0 with h | h
        · exact List.length_eq_zero_iff.1 (hn.trans h)
        · exact absurd h hsz
      subst hx
      cases hps
      have hn' : n = 0 := by simpa using hn.symm
      subst hn'
      have hus : us = [] := by simpa using h2
      subst hus
      simp only [List.map_toArray, List.map_nil, Instr.fill]
      simp
      rw [show Array.map (fun (_ : Nat) => (default : Value)) (Array.range 0) = #[] from by simp [Array.range]]
      rfl
    · rw [if_neg hn0]
      simp only [Sem.run_bind, zeroValue, typeInfo, run_program, Result.andThen_ok, hz1, hz2, Sem.run_pure]
      have h5 : (ps.toArray.map fun (x : Nat × Operand) => (x.1, a.eval x.2)).toList = ps.map fun x => (x.1, a.eval x.2) := by simp
      rw [h5, h3]
      rfl
end Go.Am

/- A layer over the walk's rules. This text: a table of types is in order: by a test. -/
set_option linter.unusedVariables false
namespace Go.Am

def wfFields (P : Program) (n sz : Nat) : List Field → Nat → Bool
  | [], _ => true
  | f :: fs, lo => Nat.blt f.type n && Nat.ble lo f.offset && Nat.ble (f.offset + szOf P f.type) sz && wfFields P n sz fs (f.offset + szOf P f.type)
def wfTy (P : Program) (n : Nat) (ty : TypeId) : Bool :=
  (P.info? ty).isSome && match P.underlying ty with
  | some (.struct fs) => wfFields P n (szOf P ty) fs.toList 0
  | some (.array k e) => Nat.blt e n && Nat.beq (szOf P ty) (k * szOf P e)
  | some (.slice e) => Nat.blt e n
  | _ => true
def wfAll (P : Program) (n : Nat) : Nat → Bool
  | 0 => true
  | k + 1 => wfTy P n k && wfAll P n k
theorem wfAll_at {P : Program} {n : Nat} : ∀ {k : Nat}, wfAll P n k = true → ∀ t, t < k → wfTy P n t = true
  | 0, _, t, ht => by omega
  | k + 1, h, t, ht => by
    simp only [wfAll, Bool.and_eq_true] at h
    by_cases e : t = k
    · subst e; exact h.1
    · exact wfAll_at h.2 t (by omega)
theorem wfFields_get {P : Program} {n sz : Nat} : ∀ {fs : List Field} {lo : Nat}, wfFields P n sz fs lo = true → ∀ (i : Nat) (f : Field), fs[i]? = some f → f.type < n ∧ lo ≤ f.offset ∧ f.offset + szOf P f.type ≤ sz
  | [], _, _, i, f, hf => by simp at hf
  | a :: fs, lo, h, i, f, hf => by
    simp only [wfFields, Bool.and_eq_true, Nat.blt_eq, Nat.ble_eq] at h
    cases i with
    | zero => simp at hf; subst hf; exact ⟨h.1.1.1, h.1.1.2, h.1.2⟩
    | succ i =>
      simp only [List.getElem?_cons_succ] at hf
      obtain ⟨q1, q2, q3⟩ := wfFields_get h.2 i f hf
      exact ⟨q1, by omega, q3⟩
theorem wfFields_apart {P : Program} {n sz : Nat} : ∀ {fs : List Field} {lo : Nat}, wfFields P n sz fs lo = true → ∀ (i j : Nat) (f k : Field), i < j → fs[i]? = some f → fs[j]? = some k → f.offset + szOf P f.type ≤ k.offset
  | [], _, _, i, j, f, k, _, hf, _ => by simp at hf
  | a :: fs, lo, h, i, j, f, k, hij, hf, hk => by
    simp only [wfFields, Bool.and_eq_true, Nat.blt_eq, Nat.ble_eq] at h
    cases j with
    | zero => omega
    | succ j =>
      simp only [List.getElem?_cons_succ] at hk
      cases i with
      | zero => simp at hf; subst hf; exact (wfFields_get h.2 j k hk).2.1
      | succ i =>
        simp only [List.getElem?_cons_succ] at hf
        exact wfFields_apart h.2 i j f k (by omega) hf hk
theorem wf_of {P : Program} {n : Nat} (hn : P.types.size = n) (h : wfAll P n n = true) : WfP P := by
  subst hn
  have key := fun t ht => wfAll_at h t ht
  refine ⟨fun ty fs hty hu i f hf => ?_, fun ty fs hty hu i j f k hij hf hk => ?_, fun ty k e hty hu => ?_, fun ty e hty hu => ?_, fun ty hty => ?_⟩
  · have h1 := key ty hty
    simp only [wfTy, hu, Bool.and_eq_true] at h1
    obtain ⟨q1, _, q3⟩ := wfFields_get h1.2 i f (by simpa using hf)
    exact ⟨q1, q3⟩
  · have h1 := key ty hty
    simp only [wfTy, hu, Bool.and_eq_true] at h1
    exact wfFields_apart h1.2 i j f k hij (by simpa using hf) (by simpa using hk)
  · have h1 := key ty hty
    simp only [wfTy, hu, Bool.and_eq_true, Nat.blt_eq] at h1
    exact ⟨h1.2.1, Nat.eq_of_beq_eq_true h1.2.2⟩
  · have h1 := key ty hty
    simp only [wfTy, hu, Bool.and_eq_true, Nat.blt_eq] at h1
    exact h1.2
  · have h1 := key ty hty
    simp only [wfTy, Bool.and_eq_true] at h1
    obtain ⟨i, hi⟩ := Option.isSome_iff_exists.1 h1.1
    exact ⟨i, hi, by simp [szOf, hi]⟩
end Go.Am

/- A layer over the walk's rules. This text: what a call leaves behind is forgotten. -/
set_option linter.unusedVariables false
set_option linter.unusedSimpArgs false
namespace Go.Am
variable {P : Program}

def Tag.nt : Tag → Bool
  | .tip _ => false
  | _ => true
mutual
/-- No pointer to an object in it, no tip. -/
def np : T → Bool
  | .s _ => true
  | .st fs => npL fs
  | .arr xs => npL xs
  | .lst xs tag => npL xs && tag.nt
  | .ptr _ _ => false
  | .vw _ _ _ _ => false
  | .ep _ x => np x
  | .tup xs => npL xs
  | .fn _ a b => npL a && npL b
  | .ifc _ x => np x
  | .any => true
def npL : List T → Bool
  | [] => true
  | x :: xs => np x && npL xs
end
theorem npL_iff : ∀ {xs : List T}, npL xs = true ↔ ∀ x ∈ xs, np x = true
  | [] => by simp [npL]
  | x :: xs => by simp [npL, npL_iff]

structure K.Alike (κ κ' : K) : Prop where
  I : κ'.I = κ.I
  tip : κ'.tip = κ.tip
structure K.AlikeI (κ κ' : K) : Prop where
  I : κ'.I = κ.I
theorem K.Alike.i {κ κ' : K} (h : κ.Alike κ') : κ.AlikeI κ' := ⟨h.I⟩
theorem HoldsAt.alikeI {κ κ' : K} (h : κ.AlikeI κ') {g o : Nat} {us : List Value} (hh : HoldsAt κ g o us) : HoldsAt κ' g o us := fun j v hv => by rw [h.I]; exact hh j v hv
theorem Holds.alikeI {κ κ' : K} (h : κ.AlikeI κ') {A : Option Addr} {us : List Value} (hh : Holds κ A us) : Holds κ' A us := by
  rcases hh with hh | ⟨g, o, hA, hh⟩
  · exact .inl hh
  · exact .inr ⟨g, o, hA, hh.alikeI h⟩
theorem HoldsAt.alike {κ κ' : K} (h : κ.Alike κ') {g o : Nat} {us : List Value} (hh : HoldsAt κ g o us) : HoldsAt κ' g o us := hh.alikeI h.i
theorem Holds.alike {κ κ' : K} (h : κ.Alike κ') {A : Option Addr} {us : List Value} (hh : Holds κ A us) : Holds κ' A us := hh.alikeI h.i
theorem TagOk.alike {κ κ' : K} (h : κ.Alike κ') {sz : Nat} {tag : Tag} {A : Option Addr} {n c : Nat} (hh : TagOk κ sz tag A n c) : TagOk κ' sz tag A n c := by
  cases tag with
  | no => exact hh
  | full => exact hh
  | nil => exact hh
  | tip τ => obtain ⟨h1, g, o, h2, h3⟩ := hh; exact ⟨h1, g, o, h2, by rw [h.tip]; exact h3⟩
theorem TagOk.nt {κ κ' : K} {sz : Nat} {tag : Tag} {A : Option Addr} {n c : Nat} (ht : tag.nt = true) (hh : TagOk κ sz tag A n c) : TagOk κ' sz tag A n c := by
  cases tag with
  | no => exact hh
  | full => exact hh
  | nil => exact hh
  | tip τ => cases ht

mutual
theorem VT_np {κ κ' : K} (h : κ.AlikeI κ') : ∀ (t : T) (ty : TypeId) (vs : List Value), np t = true → VT P κ t ty vs → VT P κ' t ty vs
  | .s v, ty, vs => fun _ hh => by simp only [VT] at hh ⊢; exact hh
  | .st fs, ty, vs => fun hn hh => by
    simp only [VT, np] at hn hh ⊢
    obtain ⟨f, h1, h2, h2', h3⟩ := hh
    exact ⟨f, h1, h2, h2', VF_np h fs _ _ hn h3⟩
  | .arr xs, ty, vs => fun hn hh => by
    simp only [VT, np] at hn hh ⊢
    obtain ⟨n, e, h1, h2, h3, h3', h4⟩ := hh
    exact ⟨n, e, h1, h2, h3, h3', VA_np h xs _ _ hn h4⟩
  | .lst xs tag, ty, vs => fun hn hh => by
    simp only [VT, np, Bool.and_eq_true] at hn hh ⊢
    obtain ⟨e, A, c, us, h1, h2, h3, h4, h5⟩ := hh
    exact ⟨e, A, c, us, h1, h2, h3.nt hn.2, VA_np h xs _ _ hn.1 h4, h5.alikeI h⟩
  | .ptr b path, ty, vs => fun hn _ => by simp [np] at hn
  | .vw b o l c, ty, vs => fun hn _ => by simp [np] at hn
  | .ep ty' x, ty, vs => fun hn hh => by
    simp only [VT, np] at hn hh ⊢
    obtain ⟨g, o, us, h1, h2, h3⟩ := hh
    exact ⟨g, o, us, VT_np h x _ _ hn h1, h2.alikeI h, h3⟩
  | .tup xs, ty, vs => fun hn hh => by
    simp only [VT, np] at hn hh ⊢
    obtain ⟨es, us, h1, h2, h3⟩ := hh
    exact ⟨es, us, h1, h2, VL_np h xs _ _ hn h3⟩
  | .fn f first captured, ty, vs => fun hn hh => by
    simp only [VT, np, Bool.and_eq_true] at hn hh ⊢
    obtain ⟨us, ws, h1, h2, h3⟩ := hh
    exact ⟨us, ws, h1, VC_np h first _ hn.1 h2, VC_np h captured _ hn.2 h3⟩
  | .ifc t x, ty, vs => fun hn hh => by
    simp only [VT, np] at hn hh ⊢
    obtain ⟨v, ⟨h1, h2⟩, h3⟩ := hh
    exact ⟨v, ⟨VT_np h x _ _ hn h1, h2⟩, h3⟩
  | .any, ty, vs => fun _ hh => by simp only [VT] at hh ⊢; exact hh
theorem VF_np {κ κ' : K} (h : κ.AlikeI κ') : ∀ (ts : List T) (fs : List Field) (vs : List Value), npL ts = true → VF P κ ts fs vs → VF P κ' ts fs vs
  | [], [], vs => fun _ _ => by simp only [VF]
  | t :: ts, f :: fs, vs => fun hn hh => by
    simp only [VF, npL, Bool.and_eq_true] at hn hh ⊢
    exact ⟨VT_np h t _ _ hn.1 hh.1, VF_np h ts _ _ hn.2 hh.2⟩
  | [], _ :: _, _ => fun _ hh => by simp only [VF] at hh
  | _ :: _, [], _ => fun _ hh => by simp only [VF] at hh
theorem VA_np {κ κ' : K} (h : κ.AlikeI κ') : ∀ (ts : List T) (e : TypeId) (vs : List Value), npL ts = true → VA P κ ts e vs → VA P κ' ts e vs
  | [], _, vs => fun _ hh => by simp only [VA] at hh ⊢; exact hh
  | t :: ts, e, vs => fun hn hh => by
    simp only [VA, npL, Bool.and_eq_true] at hn hh ⊢
    exact ⟨hh.1, VT_np h t _ _ hn.1 hh.2.1, VA_np h ts _ _ hn.2 hh.2.2⟩
theorem VL_np {κ κ' : K} (h : κ.AlikeI κ') : ∀ (ts : List T) (es : List TypeId) (vs : List Value), npL ts = true → VL P κ ts es vs → VL P κ' ts es vs
  | [], [], vs => fun _ hh => by simp only [VL] at hh ⊢; exact hh
  | t :: ts, e :: es, v :: vs => fun hn hh => by
    simp only [VL, npL, Bool.and_eq_true] at hn hh ⊢
    exact ⟨⟨VT_np h t _ _ hn.1 hh.1.1, hh.1.2⟩, VL_np h ts _ _ hn.2 hh.2⟩
  | [], _ :: _, _ => fun _ hh => by simp only [VL] at hh
  | _ :: _, [], _ => fun _ hh => by simp only [VL] at hh
  | _ :: _, _ :: _, [] => fun _ hh => by simp only [VL] at hh
theorem VC_np {κ κ' : K} (h : κ.AlikeI κ') : ∀ (ts : List T) (vs : List Value), npL ts = true → VC P κ ts vs → VC P κ' ts vs
  | [], vs => fun _ hh => by simp only [VC] at hh ⊢; exact hh
  | t :: ts, v :: vs => fun hn hh => by
    simp only [VC, npL, Bool.and_eq_true] at hn hh ⊢
    exact ⟨⟨VT_np h t _ _ hn.1 hh.1.1, hh.1.2⟩, VC_np h ts _ hn.2 hh.2⟩
  | _ :: _, [] => fun _ hh => by simp only [VC] at hh
end

theorem VO_np {κ κ' : K} (h : κ.AlikeI κ') {t : T} {ty : OTy} {vs : List Value} (hn : np t = true) (hh : VO P κ t ty vs) : VO P κ' t ty vs := by
  cases ty with
  | one ty => exact ⟨VT_np h _ _ _ hn hh.1, hh.2⟩
  | row e n => obtain ⟨xs, rfl, h2, h3, h4, h5⟩ := hh; exact ⟨xs, rfl, h2, h3, h4, VA_np h _ _ _ hn h5⟩
  | dead => trivial

/-- Fewer tips are live. -/
structure Tips.Le (u' u : Tips) : Prop where
  live : ∀ τ, u' τ → u τ
  m : u.m ≤ u'.m
theorem Tips.Le.refl (u : Tips) : u.Le u := ⟨fun _ h => h, Nat.le_refl _⟩
theorem WR.less {κ : K} {w : World} {h : List AO} {u u' : Tips} (H : WR P κ w h u) (hu : u'.Le u) : WR P κ w h u' := by
  refine ⟨H.n, H.obj, H.inj, H.imm, H.immo, fun τ hτ => ?_, fun τ hτ => H.fresh τ (Nat.le_trans hu.m hτ)⟩
  obtain ⟨g, o, n, c, sz, q1, q2, q3, q4, q5⟩ := H.tip τ (hu.live τ hτ)
  exact ⟨g, o, n, c, sz, q1, q2, q3, q4, fun σ g' o' n' c' sz' hσ => q5 σ g' o' n' c' sz' (hu.live σ hσ)⟩
theorem Ext.less {κ κ' : K} {u u' u'' : Tips} {w w' : World} (h : Ext κ u w κ' u' w') (hu : u''.Le u') : Ext κ u w κ' u'' w' :=
  ⟨h.le, Nat.le_trans h.m hu.m, h.old, h.os, h.tape, h.output, h.size, h.frame, h.new, fun τ g o n c sz a => h.tips τ g o n c sz (hu.live τ a), h.imms⟩

/-- The last objects are forgotten. -/
theorem WR.forget {κ : K} {w : World} {h g : List AO} {u : Tips} (H : WR P κ w (h ++ g) u) (hn : ∀ o ∈ h, np o.t = true) : WR P { κ with n := h.length } w h u := by
  have hlen : κ.n = h.length + g.length := by simpa using H.n
  have hal : κ.AlikeI { κ with n := h.length } := ⟨rfl⟩
  refine ⟨rfl, fun b o hb => ?_, fun b c hb hc e => H.inj b c ?_ ?_ e, H.imm, fun g' o v b q hv hb hq => H.immo g' o v b q hv ?_ hq, fun τ hu => ?_, H.fresh⟩
  · have hbl := (List.getElem?_eq_some_iff.1 hb).1
    obtain ⟨q1, q2, vs, e, q3, q4⟩ := H.obj b o (by rw [List.getElem?_append_left hbl]; exact hb)
    exact ⟨q1, q2, vs, e, q3, VO_np hal (hn o (List.mem_of_getElem? hb)) q4⟩
  · have : b < h.length := hb
    omega
  · have : c < h.length := hc
    omega
  · rw [List.getElem?_append_left (List.getElem?_eq_some_iff.1 hb).1]; exact hb
  · obtain ⟨g', o, n, c, sz, q1, q2, q3, q4, q5⟩ := H.tip τ hu
    refine ⟨g', o, n, c, sz, q1, q2, q3, fun b hb => q4 b ?_, q5⟩
    have : b < h.length := hb
    omega

/-- A call whose new objects nobody holds. -/
theorem ACalls.forget {f : FuncId} {args : List X} {h : List AO} {u : Tips} {Kp : X → List AO → (Tips) → Prop}
    (hc : ACalls P f args h u fun x h' u' => np x.1 = true ∧ ∃ h2 g u2, h' = h2 ++ g ∧ h2.length = h.length ∧ (∀ o ∈ h2, np o.t = true) ∧ u2.Le u' ∧ Kp x h2 u2) : ACalls P f args h u Kp := by
  intro κ w vs hw ha
  refine (hc κ w vs hw ha).mono ?_
  rintro e w' ⟨κ', v, x, h', u', rfl, h1, h2, h3, hnp, h4, g, u2, rfl, hl, hn4, hu, hk⟩
  have hκn := hw.n
  refine ⟨{ κ' with n := h4.length }, v, x, h4, u2, rfl, ?_, (h2.forget hn4).less hu, ⟨VT_np (κ := κ') (κ' := { κ' with n := h4.length }) ⟨rfl⟩ _ _ _ hnp h3.1, h3.2⟩, hk⟩
  refine ⟨⟨by show κ.n ≤ h4.length; omega, h1.le.ι, h1.le.ty, h1.le.I, h1.le.tip⟩, Nat.le_trans h1.m hu.m, h1.old, h1.os, h1.tape, h1.output, h1.size, h1.frame, fun b q1 q2 => ?_, fun τ g o n c sz a => h1.tips τ g o n c sz (hu.live τ a), h1.imms⟩
  have : b < h4.length := q2
  omega
theorem VArgs.np {κ κ' : K} (h : κ.AlikeI κ') : ∀ {xs : List X} {vs : List Value}, (∀ x ∈ xs, Am.np x.1 = true) → VArgs P κ xs vs → VArgs P κ' xs vs
  | _, _, _, .nil => .nil
  | _, _, hn, .cons h1 k => .cons ⟨VT_np h _ _ _ (hn _ (by simp)) h1.1, h1.2⟩ (k.np h fun x hx => hn x (by simp [hx]))
/-- What was shown in an empty memory holds in any. -/
theorem ACalls.frame {f : FuncId} {args : List X} {h : List AO} {u : Tips} {Kp : X → List AO → Tips → Prop} (hnp : ∀ x ∈ args, Am.np x.1 = true)
    (hc : ACalls P f args [] ⟨[], 0⟩ fun x _ _ => Am.np x.1 = true ∧ Kp x h u) : ACalls P f args h u Kp := by
  intro κ w vs hw ha
  have h0 : WR P { κ with n := 0, tip := fun _ => none } w [] ⟨[], 0⟩ :=
    ⟨rfl, fun b o hb => by simp at hb, fun b c hb => absurd hb (Nat.not_lt_zero _), hw.imm, fun g o v b q _ hb => by simp at hb, fun τ hu => (by cases hu), fun _ _ => rfl⟩
  refine (hc { κ with n := 0, tip := fun _ => none } w vs h0 (VArgs.np (κ := κ) (κ' := { κ with n := 0, tip := fun _ => none }) ⟨rfl⟩ hnp ha)).mono ?_
  rintro e w' ⟨κ', v, x, h', u', rfl, h1, h2, h3, hx, hk⟩
  have hle : κ.Le { κ' with n := κ.n, ι := κ.ι, ty := κ.ty, tip := κ.tip } := ⟨Nat.le_refl _, fun _ _ => rfl, fun _ _ => rfl, h1.le.I, fun _ _ h => h⟩
  have hsame : ∀ g, g < w.heap.size → w'.heap[g]? = w.heap[g]? := fun g hg => h1.frame g hg (fun c hc => absurd hc (Nat.not_lt_zero _)) (fun τ g' o n c sz hτ => (by cases hτ))
  have himm : ∀ g o v, κ'.I g o = some v → κ.I g o = some v ∨ w.heap.size ≤ g := fun g o v hv => by
    rcases h1.imms g o v hv with q | q | ⟨c, hc, _⟩ | ⟨σ, _, _, _, _, hσ, _⟩
    · exact .inl q
    · exact .inr q
    · exact absurd hc (Nat.not_lt_zero _)
    · cases hσ
  refine ⟨{ κ' with n := κ.n, ι := κ.ι, ty := κ.ty, tip := κ.tip }, v, x, h, u, rfl, ?_, ?_, ⟨VT_np (κ := κ') (κ' := { κ' with n := κ.n, ι := κ.ι, ty := κ.ty, tip := κ.tip }) ⟨rfl⟩ _ _ _ hx h3.1, h3.2⟩, hk⟩
  · refine ⟨hle, Nat.le_refl _, fun _ _ => rfl, h1.os, h1.tape, h1.output, h1.size, fun g hg _ _ => hsame g hg, fun b q1 q2 => ?_, fun τ g o n c sz a ht => .inr ⟨τ, o, n, c, sz, a, ht⟩, fun g o v hv => (himm g o v hv).imp id .inl⟩
    have : b < κ.n := q2
    omega
  · refine ⟨hw.n, fun b o hb => ?_, hw.inj, h2.imm, fun g o v b q hv hb hq => ?_, fun τ hτ => ?_, hw.fresh⟩
    · have hbn : b < κ.n := by have := (List.getElem?_eq_some_iff.1 hb).1; have := hw.n; omega
      obtain ⟨q1, q2, vs, e, q3, q4⟩ := hw.obj b o hb
      exact ⟨q1, q2, vs, e, by show w'.heap[κ.ι b]? = _; rw [hsame _ (hw.ι_lt hbn)]; exact q3, q4.mono hle⟩
    · have hbn : b < κ.n := by have := (List.getElem?_eq_some_iff.1 hb).1; have := hw.n; omega
      rcases himm g o v hv with q' | q'
      · exact hw.immo g o v b q q' hb hq
      · have := hw.ι_lt hbn
        show κ.ι b ≠ g
        omega
    · obtain ⟨g, o, n, c, sz, q1, ⟨cs, e, q2, q3⟩, q4, q5, q6⟩ := hw.tip τ hτ
      have hg := hw.tip_lt hτ q1
      refine ⟨g, o, n, c, sz, q1, ⟨cs, e, by rw [hsame g hg]; exact q2, q3⟩, fun j a1 a2 => ?_, q5, q6⟩
      cases hv : κ'.I g j with
      | none => rfl
      | some v =>
        rcases himm g j v hv with q | q
        · rw [q4 j a1 a2] at q; cases q
        · omega
end Go.Am
