/- A layer over the walk's rules. This text: structs and arrays held against each other; the lesser of two numbers. -/
import Derived.Test.YtecacooabofloaaL2
import Derived.Laws.StructEq
import Derived.Laws.MakeOwn
import Derived.Laws.Slices
import Derived.Laws.AppendOwn
import Derived.Laws.Pointers
/- A layer over the walk's rules. This text: structs and arrays held against each other; the lesser of two numbers. -/
set_option linter.unusedVariables false
set_option linter.unusedSimpArgs false
namespace Go.Am
variable {P : Program} {σ : St}
variable {d : Option Nat} {ty : TypeId} {p : String} {af : Array Edge} {g : Option (Nat × Bool)} {Kp : X → List AO → (Tips) → Prop}

def EqT (P : Program) (n : Nat) (ty : TypeId) (x y : T) (b : Bool) : Prop := ∀ κ vx vy w, VV P κ x ty vx → VV P κ y ty vy → (Op.equalIn n ty vx vy).run P w = .ok b w
theorem EqT.int {n : Nat} {k i : IntKind} {a b : Int} (hu : P.underlying ty = some (.int k)) : EqT P (n + 1) ty (.s (.int i a)) (.s (.int i b)) (decide (a = b)) := fun κ vx vy w hx hy => by
  rw [VV_s hx, VV_s hy, run_equalIn_int w n ty i k a b hu]
  congr 1
theorem EqT.bool {n : Nat} {a b : Bool} (hu : P.underlying ty = some .bool) : EqT P (n + 1) ty (.s (.bool a)) (.s (.bool b)) (a == b) := fun κ vx vy w hx hy => by
  rw [VV_s hx, VV_s hy, run_equalIn_bool' w n ty a b hu]

theorem run_part (hP : WfP P) {κ : K} {x : T} {t : TypeId} {cells : List Value} {off : Nat} (w : World) (ht : t < P.types.size) (hv : VT P κ x t ((cells.drop off).take (szOf P t))) (hg : x.aggB = aggT P t) (hu : (P.underlying t).isSome = true) (hl : off + szOf P t ≤ cells.length) :
    ∃ v, (part t cells.toArray off).run P w = .ok v w ∧ VV P κ x t v := by
  obtain ⟨dd, hdd⟩ := Option.isSome_iff_exists.1 hu
  unfold part
  simp only [Sem.run_bind, run_isAgg hdd, Result.andThen_ok]
  cases hagg : aggT P t with
  | true =>
    refine ⟨.agg (cells.toArray.extract off (off + szOf P t)), ?_, ?_⟩
    · simp only [if_true, Sem.run_bind, run_sizeOf hP ht, Result.andThen_ok, Sem.run_pure]
    · refine ⟨?_, by rw [hg, hagg]; rfl⟩
      have : (Value.agg (cells.toArray.extract off (off + szOf P t))).cells.toList = (cells.drop off).take (szOf P t) := by
        simp [Value.cells, List.extract_eq_take_drop]
      rw [this]; exact hv
  | false =>
    obtain ⟨v, h1, h2⟩ := VT_single (by rw [hg, hagg]) hv
    have h3 : cells[off]? = some v := by
      have := congrArg (·[0]?) h1
      simp only [part_get] at this
      have h4 : szOf P t = 1 := by
        have := congrArg List.length h1
        simp at this; omega
      simpa [h4] using this
    refine ⟨v, ?_, h2⟩
    simp [h3]

inductive EqFs (P : Program) (n : Nat) : List Field → List T → List T → Bool → Prop where
  | nil : EqFs P n [] [] [] true
  | cons {f : Field} {fs : List Field} {x y : T} {xs ys : List T} {b1 b2 : Bool} (hn : (f.name == "_") = false) (hx : x.aggB = aggT P f.type) (hy : y.aggB = aggT P f.type) (hu : (P.underlying f.type).isSome = true) (h : EqT P n f.type x y b1) (k : EqFs P n fs xs ys b2) : EqFs P n (f :: fs) (x :: xs) (y :: ys) (b1 && b2)
theorem EqFs.run (hP : WfP P) {κ : K} {n : Nat} {cx cy : List Value} {m : Nat} (w : World) (hlx : cx.length = m) (hly : cy.length = m) : ∀ {fs : List Field} {xs ys : List T} {b : Bool}, EqFs P n fs xs ys b → VF P κ xs fs cx → VF P κ ys fs cy → (∀ f ∈ fs, f.type < P.types.size ∧ f.offset + szOf P f.type ≤ m) →
    (Op.eqFields n cx.toArray cy.toArray fs).run P w = .ok b w
  | _, _, _, _, .nil => fun _ _ _ => rfl
  | _, _, _, _, .cons (f := f) hn hx hy hu h k => fun h1 h2 hf => by
    simp only [VF] at h1 h2
    obtain ⟨q1, q2⟩ := hf f (.head _)
    obtain ⟨va, r1, r2⟩ := run_part hP w q1 h1.1 hx hu (by omega)
    obtain ⟨vb, r3, r4⟩ := run_part hP w q1 h2.1 hy hu (by omega)
    have hne : f.name ≠ "_" := by simpa using hn
    rename_i b1 b2
    simp only [Op.eqFields, if_pos hne, Sem.run_bind, r1, r3, Result.andThen_ok, h κ va vb w r2 r4]
    cases b1 with
    | false => rfl
    | true =>
      simp only [Bool.not_true, Bool.false_eq_true, if_false, Bool.true_and]
      exact k.run hP w hlx hly h1.2 h2.2 fun f hf' => hf f (.tail _ hf')
theorem EqT.st (hP : WfP P) {n : Nat} {fs : Array Field} {xs ys : List T} {b : Bool} (hty : ty < P.types.size) (hu : P.underlying ty = some (.struct fs)) (hs : P.stoodInHeld ty = false) (h : EqFs P n fs.toList xs ys b) : EqT P (n + 1) ty (.st xs) (.st ys) b := fun κ vx vy w hx hy => by
  obtain ⟨cx, rfl, h1⟩ := VV_cells rfl hx
  obtain ⟨cy, rfl, h2⟩ := VV_cells rfl hy
  have hfs : P.fieldsOf ty = fs := by simp [Program.fieldsOf, hu]
  rw [run_equalIn_struct w n ty _ _ (by rw [hfs]; exact hu) hs, hfs]
  simp only [VT] at h1 h2
  obtain ⟨f1, a1, a2, a3, a4⟩ := h1
  obtain ⟨f2, b1, b2, b3, b4⟩ := h2
  rw [hu] at a1 b1
  cases a1
  cases b1
  exact h.run hP w a2 b2 a4 b4 fun f hf => by
    obtain ⟨i, hi⟩ := List.mem_iff_getElem?.1 hf
    exact hP.field ty fs hty hu i f (by simpa using hi)

theorem OPE.eqT {x y : Operand} {t t2 : TypeId} {a b : T} {r : Bool} (hx : ArgAt P σ x t a) (hy : ArgAt P σ y t b) (ha : a.aggB = true) (hb : b.aggB = true) (hG : P.eqGuardType P.depth t = false) (hE : EqT P 10000 t a b r) (hk : Kp (.s (.bool r), ty) σ.h σ.u) :
    OPE P ⟨d, .binOp .eql t x y t2, ty, p, af, g⟩ σ Kp :=
  .pure (fun κ a' w hs => by
    obtain ⟨cx, e1, h1⟩ := VV_cells ha (hx.eval hs)
    obtain ⟨cy, e2, h2⟩ := VV_cells hb (hy.eval hs)
    have hE' := hE κ _ _ w (hx.eval hs) (hy.eval hs)
    rw [e1, e2] at hE'
    refine ⟨.bool r, ?_, VV_s_mk rfl⟩
    simp only [execOp, e1, e2, Sem.run_bind, run_eqGuard_agg w _ t x y _ _ hG, Result.andThen_ok, run_eql_struct, hE']
    rfl) hk
theorem OPE.neT {x y : Operand} {t t2 : TypeId} {a b : T} {r : Bool} (hx : ArgAt P σ x t a) (hy : ArgAt P σ y t b) (ha : a.aggB = true) (hb : b.aggB = true) (hG : P.eqGuardType P.depth t = false) (hE : EqT P 10000 t a b r) (hk : Kp (.s (.bool (!r)), ty) σ.h σ.u) :
    OPE P ⟨d, .binOp .neq t x y t2, ty, p, af, g⟩ σ Kp :=
  .pure (fun κ a' w hs => by
    obtain ⟨cx, e1, h1⟩ := VV_cells ha (hx.eval hs)
    obtain ⟨cy, e2, h2⟩ := VV_cells hb (hy.eval hs)
    have hE' := hE κ _ _ w (hx.eval hs) (hy.eval hs)
    rw [e1, e2] at hE'
    refine ⟨.bool (!r), ?_, VV_s_mk rfl⟩
    simp only [execOp, e1, e2, Sem.run_bind, run_eqGuard_agg w _ t x y _ _ hG, Result.andThen_ok, run_neq_struct, hE']
    rfl) hk
theorem OPE.min2 {x y : Operand} {ats : Array TypeId} {i : IntKind} {m n : Int} (hx : IntAt σ x i m) (hy : IntAt σ y i n) (hk : Kp (.s (.int i (if n < m then n else m)), ty) σ.h σ.u) :
    OPE P ⟨d, .call { callee := .builtin .min, args := #[x, y], argTypes := ats }, ty, p, af, g⟩ σ Kp :=
  .pure (fun κ a w hs => by
    refine ⟨.int i (if n < m then n else m), ?_, VV_s_mk rfl⟩
    simp [execOp, resolve, invoke, builtin, Builtin.min_, Builtin.min2, hx.eval hs, hy.eval hs, Sem.run_bind]) hk
theorem OPE.max2 {x y : Operand} {ats : Array TypeId} {i : IntKind} {m n : Int} (hx : IntAt σ x i m) (hy : IntAt σ y i n) (hk : Kp (.s (.int i (if m < n then n else m)), ty) σ.h σ.u) :
    OPE P ⟨d, .call { callee := .builtin .max, args := #[x, y], argTypes := ats }, ty, p, af, g⟩ σ Kp :=
  .pure (fun κ a w hs => by
    refine ⟨.int i (if m < n then n else m), ?_, VV_s_mk rfl⟩
    simp [execOp, resolve, invoke, builtin, Builtin.max_, Builtin.max2, hx.eval hs, hy.eval hs, Sem.run_bind]) hk

/-- Parts put into a struct or an array. -/
inductive PutsAt (P : Program) (σ : St) (t : TypeId) : List (Nat × Operand) → T → T → Prop where
  | nil {x : T} : PutsAt P σ t [] x x
  | cons {i off : Nat} {o : Operand} {ft : TypeId} {x y z r : T} {ps : List (Nat × Operand)} (hw : stepPath P t i = some (off, ft)) (h : ArgAt P σ o ft x) (hc : x.cell = true) (hsz : x.aggB = true ∨ szOf P ft = 1) (hp : y.put [i] x = some z) (k : PutsAt P σ t ps z r) : PutsAt P σ t ((i, o) :: ps) y r
theorem fill_puts (hP : WfP P) {κ : K} {a : Act} {w : World} (hs : SR P κ σ a w) {t : TypeId} (ht : t < P.types.size) (place : Nat → Option (Nat × Nat)) (hpl : ∀ i off ft, stepPath P t i = some (off, ft) → place i = some (off, szOf P ft)) :
    ∀ {ps : List (Nat × Operand)} {x r : T} {cells : List Value}, PutsAt P σ t ps x r → VT P κ x t cells → cells.length = szOf P t →
    ∃ cells', Instr.fill place cells.toArray (ps.map fun x => (x.1, a.eval x.2)) = some cells'.toArray ∧ VT P κ r t cells' ∧ cells'.length = szOf P t
  | _, _, _, cells, .nil => fun h hl => ⟨cells, rfl, h, hl⟩
  | _, _, _, cells, .cons (i := i) (off := off) (o := o) (ft := ft) (ps := ps) hw h hc hsz hp k => fun hx hl => by
    have hv := h.eval hs
    have hlen := VV_len hv hsz
    have hwp : walkPath P t [i] = some (off, ft) := by simp [walkPath, hw]
    obtain ⟨q1, q2⟩ := VT_put hP ht hx hl hwp hp hv.1 hlen (VT_ones hc hv.1)
    obtain ⟨cells', r1, r2, r3⟩ := fill_puts hP hs ht place hpl k q1 (by rw [splice_length q2]; exact hl)
    refine ⟨cells', ?_, r2, r3⟩
    simp only [List.map_cons, Instr.fill, hpl i off ft hw]
    have hcs : (a.eval o).cells.size = szOf P ft := by simpa using hlen
    rw [if_neg (by simp [hcs]; simp at q2; omega)]
    have hf : ((a.eval o).cells.zipIdx.foldl (fun cs (x : Value × Nat) => cs.setIfInBounds (off + x.2) x.1) cells.toArray) = (splice cells off (a.eval o).cells.toList).toArray := by
      apply Array.ext'
      have := foldl_set (a.eval o).cells.toList off 0 cells.toArray (by simp at q2 ⊢; omega)
      rw [Nat.add_zero] at this
      rw [← Array.foldl_toList, Array.toList_zipIdx]
      simpa using this
    rw [← r1]
    exact congrArg (fun c => Instr.fill _ c _) hf
theorem run_places (hP : WfP P) (w : World) : ∀ (fs : List Field), (∀ f ∈ fs, f.type < P.types.size) → (fs.mapM fun f => (do pure (f.offset, ← sizeOf f.type) : Sem (Nat × Nat))).run P w = .ok (fs.map fun f => (f.offset, szOf P f.type)) w
  | [], _ => rfl
  | f :: fs, h => by
    rw [List.mapM_cons]
    simp only [Sem.run_bind, run_sizeOf hP (h f (.head _)), Result.andThen_ok, Sem.run_pure, run_places hP w fs fun f hf => h f (.tail _ hf), List.map_cons]
theorem PutsAt.agg {t : TypeId} : ∀ {ps : List (Nat × Operand)} {x r : T}, PutsAt P σ t ps x r → x.aggB = true → r.aggB = true
  | _, _, _, .nil => fun h => h
  | _, _, _, .cons (y := y) hw h hc hsz hp k => fun hx => k.agg (by
    cases y with
    | st fs =>
      simp only [T.put] at hp
      split at hp
      · simp only [Option.some.injEq] at hp; subst hp; rfl
      · cases hp
    | arr fs =>
      simp only [T.put] at hp
      split at hp
      · simp only [Option.some.injEq] at hp; subst hp; rfl
      · cases hp
    | _ => simp [T.aggB] at hx)
theorem OPE.build (hP : WfP P) {t : TypeId} {x r : T} {ps : List (Nat × Operand)} (hz : ZeroOk P t x) (ha : x.aggB = true) (hu : aggT P t = true) (hps : PutsAt P σ t ps x r) (hk : Kp (r, t) σ.h σ.u) : OPE P ⟨d, .build t ps.toArray, ty, p, af, g⟩ σ Kp :=
  .pure (fun κ a w hs => by
    obtain ⟨h1, h2, i, z, h3, h4, h5, h6⟩ := hz
    have hpsl : (ps.toArray.map fun (x : Nat × Operand) => (x.1, a.eval x.2)).toList = ps.map fun x => (x.1, a.eval x.2) := by simp
    cases hd : P.underlying t with
    | none => simp [aggT, hd] at hu
    | some dd =>
      cases dd <;> simp [aggT, hd] at hu
      case struct fs =>
        obtain ⟨cells', r1, r2, r3⟩ := fill_puts hP hs h1 (fun i => (fs.map fun f => (f.offset, szOf P f.type))[i]?) (fun i off ft hw => by
          simp only [stepPath, hd] at hw
          cases hf : fs[i]? with
          | none => rw [hf] at hw; cases hw
          | some f =>
            rw [hf] at hw
            simp only [Option.map_some, Option.some.injEq, Prod.mk.injEq] at hw
            obtain ⟨rfl, rfl⟩ := hw
            simp [hf]) hps (h6 κ).1 h5
        refine ⟨.agg cells'.toArray, ?_, VV_agg (hps.agg ha) r2⟩
        have hpl := run_places hP w fs.toList fun f hf => by
          obtain ⟨i, hi⟩ := List.mem_iff_getElem?.1 hf
          exact (hP.field t fs h1 hd i f (by simpa using hi)).1
        have hpl2 : (fs.mapM fun f => (do Pure.pure (f.offset, ← sizeOf f.type) : Sem (Nat × Nat))).run P w = .ok (fs.map fun f => (f.offset, szOf P f.type)) w := by
          rw [Array.mapM_eq_mapM_toList, Sem.run_map, hpl]
          simp only [Result.andThen]
          congr 1
          apply Array.ext'
          simp
        have hzc : z.cells.toList.toArray = z.cells := by simp
        rw [hzc] at r1
        simp only [execOp, Instr.build, Sem.run_bind, zeroValue, typeInfo, run_program, Result.andThen_ok, h3, h4, Sem.run_pure, Go.run_underlying hd, hpl2, hpsl, r1]
      case array n e =>
        have he := (hP.arr t n e h1 hd).1
        obtain ⟨cells', r1, r2, r3⟩ := fill_puts hP hs h1 (fun i => some (i * szOf P e, szOf P e)) (fun i off ft hw => by
          simp only [stepPath, hd] at hw
          split at hw
          · simp only [Option.some.injEq, Prod.mk.injEq] at hw
            obtain ⟨rfl, rfl⟩ := hw
            rfl
          · cases hw) hps (h6 κ).1 h5
        refine ⟨.agg cells'.toArray, ?_, VV_agg (hps.agg ha) r2⟩
        have hzc : z.cells.toList.toArray = z.cells := by simp
        rw [hzc] at r1
        simp only [execOp, Instr.build, Sem.run_bind, zeroValue, typeInfo, run_program, Result.andThen_ok, h3, h4, Sem.run_pure, Go.run_underlying hd, run_sizeOf hP he, hpsl, r1]) hk
end Go.Am

/- A layer over the walk's rules. This text: operations on scalars; arrays. -/
set_option linter.unusedVariables false
set_option linter.unusedSimpArgs false
namespace Go.Am
variable {P : Program} {σ : St}
variable {d : Option Nat} {ty : TypeId} {p : String} {af : Array Edge} {g : Option (Nat × Bool)} {Kp : X → List AO → (Tips) → Prop}

/-- A scalar operand. -/
inductive ScAt (σ : St) : Operand → Value → Prop where
  | tmp {k : Nat} {v : Value} {ty : TypeId} (h : lk σ.t k = some (.s v, ty)) : ScAt σ (.tmp k) v
  | const {v : Value} : ScAt σ (.const v) v
theorem ScAt.eval {κ : K} {a : Act} {w : World} (hs : SR P κ σ a w) {x : Operand} {v : Value} (h : ScAt σ x v) : a.eval x = v := by
  cases h with
  | tmp h => exact VV_s (hs.eval h)
  | const => rfl
theorem OPE.bin {op : BinOp} {x y : Operand} {t t2 : TypeId} {v1 v2 v : Value} (hx : ScAt σ x v1) (hy : ScAt σ y v2)
    (h : ∀ w, (do eqGuard op t x y v1 v2; binOp op t v1 v2 : Sem Value).run P w = .ok v w) (ho : one v = true) (hk : Kp (.s v, ty) σ.h σ.u) : OPE P ⟨d, .binOp op t x y t2, ty, p, af, g⟩ σ Kp :=
  .pure (fun κ a w hs => ⟨v, by
    simp only [execOp, hx.eval hs, hy.eval hs]
    rw [Sem.run_bind, h w]; rfl, VV_s_mk ho⟩) hk
theorem OPE.un {op : UnOp} {x : Operand} {t : TypeId} {v1 v : Value} (hx : ScAt σ x v1) (h : ∀ w, (Op.unary op v1).run P w = .ok v w) (ho : one v = true) (hk : Kp (.s v, ty) σ.h σ.u) : OPE P ⟨d, .unOp op t x, ty, p, af, g⟩ σ Kp :=
  .pure (fun κ a w hs => ⟨v, by
    simp only [execOp, hx.eval hs]
    rw [Sem.run_bind, h w]; rfl, VV_s_mk ho⟩) hk
theorem OPE.conv {src dst : TypeId} {x : Operand} {v1 v : Value} (hx : ScAt σ x v1) (h : ∀ w, (convert src dst v1).run P w = .ok v w) (ho : one v = true) (hk : Kp (.s v, ty) σ.h σ.u) : OPE P ⟨d, .convert src dst x, ty, p, af, g⟩ σ Kp :=
  .pure (fun κ a w hs => ⟨v, by
    simp only [execOp, hx.eval hs]
    rw [Sem.run_bind, h w]; rfl, VV_s_mk ho⟩) hk
inductive ScAll (σ : St) : List Operand → List Value → Prop where
  | nil : ScAll σ [] []
  | cons {x : Operand} {v : Value} {xs : List Operand} {vs : List Value} (h : ScAt σ x v) (k : ScAll σ xs vs) : ScAll σ (x :: xs) (v :: vs)
theorem ScAll.eval {κ : K} {a : Act} {w : World} (hs : SR P κ σ a w) : ∀ {xs : List Operand} {vs : List Value}, ScAll σ xs vs → xs.map a.eval = vs
  | _, _, .nil => rfl
  | _, _, .cons h k => by simp [h.eval hs, k.eval hs]
theorem OPE.bi {b : Builtin} {xs : List Operand} {ats : Array TypeId} {vs : List Value} {v : Value} (hx : ScAll σ xs vs)
    (h : ∀ w, (builtin b ats ty ((xs.toArray).map fun | .const _ => true | _ => false) vs.toArray).run P w = .ok (.value v) w) (ho : one v = true) (hk : Kp (.s v, ty) σ.h σ.u) :
    OPE P ⟨d, .call { callee := .builtin b, args := xs.toArray, argTypes := ats }, ty, p, af, g⟩ σ Kp :=
  .pure (fun κ a w hs => ⟨v, by
    have e : xs.toArray.map a.eval = vs.toArray := by rw [← hx.eval hs]; simp
    simp only [execOp, resolve, e, Sem.run_bind, Sem.run_pure, Result.andThen_ok, invoke]
    exact h w, VV_s_mk ho⟩) hk

/-- An element's address, of an array. -/
theorem OPE.indexA (hP : WfP P) {s e : TypeId} {n k b o : Nat} {y : Operand} {i : Int} {ik : IntKind} {path : List Nat} {bt : OTy} {pt : TypeId} (ha : lk σ.t k = some (.ptr b path, pt)) (hy : IntAt σ y ik i) (hb : (σ.h[b]?).map (·.ty) = some bt) (hw : walkO P bt path = some (o, s))
    (hs0 : s < P.types.size) (hu : P.underlying s = some (.array n e)) (h0 : 0 ≤ i) (h1 : i < n) (hk : Kp (.ptr b (path ++ [i.toNat]), 0) σ.h σ.u) : OPE P ⟨d, .indexAddr s (.tmp k) y, ty, p, af, g⟩ σ Kp :=
  .pure (fun κ a w hs => by
    obtain ⟨o', t', hbn, hw', hev⟩ := VV_ptr (hs.eval ha)
    cases hq : σ.h[b]? with
    | none => rw [hq] at hb; cases hb
    | some ob =>
      rw [hq] at hb
      simp only [Option.map_some, Option.some.injEq] at hb
      have hty := alive (hb ▸ hw) (hs.wr.obj b ob hq).2.1
      rw [hty, hb, hw] at hw'
      cases hw'
      have he := (hP.arr s n e hs0 hu).1
      have hc : 0 ≤ i ∧ i < (n : Int) := ⟨h0, h1⟩
      refine ⟨.pointer (some ⟨κ.ι b, o + i.toNat * szOf P e, none⟩), ?_,
        VV_ptr_mk (t' := e) (o := o + i.toNat * szOf P e) hbn (by rw [hty, hb]; exact walkO_snoc hw (by simp [stepPath, hu]; omega))⟩
      simp only [execOp, hev, hy.eval hs, Instr.indexAt, asIntOf, Sem.run_bind, Sem.run_pure, Result.andThen_ok, Go.run_underlying hu, Instr.sureAddr, if_pos hc, run_sizeOf hP he, Addr.add_mid]) hk
/-- An element of an array that does not change. -/
theorem OPE.indexE (hP : WfP P) {s e : TypeId} {n k : Nat} {y : Operand} {i : Int} {ik : IntKind} {xs : List T} {x : T} {pt : TypeId} (ha : lk σ.t k = some (.ep s (.arr xs), pt)) (hy : IntAt σ y ik i)
    (hs0 : s < P.types.size) (hu : P.underlying s = some (.array n e)) (h0 : 0 ≤ i) (h1 : i < n) (hx : xs[i.toNat]? = some x) (hk : Kp (.ep e x, 0) σ.h σ.u) : OPE P ⟨d, .indexAddr s (.tmp k) y, ty, p, af, g⟩ σ Kp :=
  .pure (fun κ a w hs => by
    obtain ⟨b, o, us, q1, q2, hev⟩ := VV_ep (hs.eval ha)
    simp only [VT] at q1
    obtain ⟨n', e', r1, r2, r3, r4, r5⟩ := q1
    rw [hu] at r1
    cases r1
    obtain ⟨v1, v2⟩ := VA_get r5 hx
    have he := (hP.arr s n e hs0 hu).1
    have hc : 0 ≤ i ∧ i < (n : Int) := ⟨h0, h1⟩
    refine ⟨.pointer (some ⟨b, o + i.toNat * szOf P e, none⟩), ?_, VV_ep_mk v1 (fun j v hj => ?_)⟩
    · simp only [execOp, hev, hy.eval hs, Instr.indexAt, asIntOf, Sem.run_bind, Sem.run_pure, Result.andThen_ok, Go.run_underlying hu, Instr.sureAddr, if_pos hc, run_sizeOf hP he, Addr.add_mid]
    · rw [part_get] at hj
      by_cases hjn : j < szOf P e
      · rw [if_pos hjn] at hj
        rw [Nat.add_assoc]; exact q2 _ _ hj
      · rw [if_neg hjn] at hj; cases hj) hk
/-- An element of an array. -/
theorem OPE.indexV (hP : WfP P) {s e : TypeId} {n k : Nat} {y : Operand} {i : Int} {ik : IntKind} {xs : List T} {x : T} {pt : TypeId} (ha : lk σ.t k = some (.arr xs, pt)) (hy : IntAt σ y ik i) (hT : SameT P pt s)
    (hs0 : s < P.types.size) (hu : P.underlying s = some (.array n e)) (h0 : 0 ≤ i) (h1 : i < n) (hx : xs[i.toNat]? = some x) (hg : x.aggB = aggT P e) (hue : (P.underlying e).isSome = true) (hk : Kp (x, e) σ.h σ.u) : OPE P ⟨d, .index s (.tmp k) y, ty, p, af, g⟩ σ Kp :=
  .pure (fun κ a w hs => by
    obtain ⟨vs, hev, hv⟩ := VV_cells rfl (VV_same hT (hs.eval ha))
    simp only [VT] at hv
    obtain ⟨n', e', q1, q2, q3, q4, q5⟩ := hv
    rw [hu] at q1
    cases q1
    have he := (hP.arr s n e hs0 hu).1
    have hc : 0 ≤ i ∧ i < (n : Int) := ⟨h0, h1⟩
    obtain ⟨r1, r2⟩ := VA_get q5 hx
    obtain ⟨v, r3, r4⟩ := run_part hP w he r1 hg hue r2
    refine ⟨v, ?_, r4⟩
    simp only [execOp, hev, hy.eval hs, Instr.index, asIntOf, Sem.run_bind, Sem.run_pure, Result.andThen_ok, Go.run_underlying hu, if_pos hc, run_sizeOf hP he, r3]) hk
end Go.Am

/- A layer over the walk's rules. This text: slices over rows that may be written. -/
set_option linter.unusedVariables false
set_option linter.unusedSimpArgs false
namespace Go.Am
variable {P : Program} {σ : St}
variable {d : Option Nat} {ty : TypeId} {p : String} {af : Array Edge} {g : Option (Nat × Bool)} {Kp : X → List AO → (Tips) → Prop}

theorem made_get {z : Array Value} {n j : Nat} (h : j < n) : ((madeCells z n).toList)[j]? = some z[j % z.size]! := by
  simp [madeCells, h]
theorem made_VA (κ : K) {e : TypeId} {x : T} {z : Array Value} {c : Nat} (hz : z.toList.length = szOf P e) (h0 : szOf P e ≠ 0) (hv : VT P κ x e z.toList) : VA P κ (List.replicate c x) e (madeCells z (c * szOf P e)).toList := by
  have hl : (madeCells z (c * szOf P e)).toList.length = c * szOf P e := by simp [madeCells]
  have hs : z.size = szOf P e := by simpa using hz
  refine VA_of_get (by rw [hl]; simp) fun i t hi => ?_
  have hic : i < c := by have := (List.getElem?_eq_some_iff.1 hi).1; simpa using this
  have ht : t = x := by rw [List.getElem?_replicate, if_pos hic] at hi; exact (Option.some.inj hi).symm
  subst ht
  have hm : i * szOf P e + szOf P e ≤ c * szOf P e := by rw [← Nat.succ_mul]; exact Nat.mul_le_mul_right _ hic
  have heq : ((madeCells z (c * szOf P e)).toList.drop (i * szOf P e)).take (szOf P e) = z.toList := by
    apply List.ext_getElem?
    intro j
    rw [part_get]
    by_cases hj : j < szOf P e
    · rw [if_pos hj, made_get (by omega), hs, Nat.mul_add_mod_self_right, Nat.mod_eq_of_lt hj, List.getElem?_eq_getElem (by omega)]
      simp [hs, hj]
    · rw [if_neg hj, List.getElem?_eq_none (by omega)]
  rw [heq]; exact hv
theorem VV_vw {κ : K} {b off len cap : Nat} {t : TypeId} {v : Value} (h : VV P κ (.vw b off len cap) t v) : ∃ e n, P.underlying t = some (.slice e) ∧ b < κ.n ∧ κ.ty b = .row e n ∧ off + cap ≤ n ∧ len ≤ cap ∧ v = .slice (some ⟨κ.ι b, off * szOf P e, none⟩) len cap := by
  obtain ⟨q1, q2⟩ := h
  simp only [VT] at q1
  obtain ⟨e, n, h1, h2, h3, h4, h5, h6⟩ := q1
  exact ⟨e, n, h1, h2, h3, h4, h5, one_cell q2 h6⟩
theorem VV_vw_mk {κ : K} {b off len cap n : Nat} {t e : TypeId} (h1 : P.underlying t = some (.slice e)) (h2 : b < κ.n) (h3 : κ.ty b = .row e n) (h4 : off + cap ≤ n) (h5 : len ≤ cap) : VV P κ (.vw b off len cap) t (.slice (some ⟨κ.ι b, off * szOf P e, none⟩) len cap) :=
  ⟨by simp only [VT]; exact ⟨e, n, h1, h2, h3, h4, h5, rfl⟩, rfl⟩

theorem OPE.makeSlice (hP : WfP P) {t e : TypeId} {x : T} {y1 y2 : Operand} {i1 i2 : IntKind} {l0 c : Int} {i : TypeInfo} (hy1 : IntAt σ y1 i1 l0) (hy2 : IntAt σ y2 i2 c) (hu : P.underlying t = some (.slice e)) (hz : ZeroOk P e x) (hi : P.info? e = some i) (hs0 : szOf P e ≠ 0)
    (h0 : 0 ≤ l0) (hlc : l0 ≤ c) (hb : (i.bytes : Int) * c ≤ 281474976710656) (hc : c ≤ 9223372036854775807) (hk : Kp (.vw σ.h.length 0 l0.toNat c.toNat, t) (σ.h ++ [⟨.row e c.toNat, .arr (List.replicate c.toNat x)⟩]) σ.u) :
    OPE P ⟨d, .makeSlice t y1 y2, ty, p, af, g⟩ σ Kp :=
  .run fun κ a w hs => by
    obtain ⟨h1, h2, i', z, h3, h4, h5, h6⟩ := hz
    rw [hi] at h3
    cases h3
    have hsz : i.size = szOf P e := by unfold szOf; rw [hi]
    have hr := run_make (P := P) w t e i z hu hi h4 i1 i2 l0 c h0 hlc hb hc
    rw [hsz] at hr
    have hzl : z.cells.toList.length = szOf P e := h5
    obtain ⟨e1, e2⟩ := hs.wr.alloc (ty := .row e c.toNat) (t := .arr (List.replicate c.toNat x)) (e := e) (vs := (madeCells z.cells (c.toNat * szOf P e)).toList) h1
      ⟨_, rfl, by simp, by simp [madeCells], fun v hv => by
        obtain ⟨j, hj⟩ := List.getElem?_of_mem hv
        have hjl := (List.getElem?_eq_some_iff.1 hj).1
        rw [made_get (by simpa [madeCells] using hjl)] at hj
        have hs2 : z.cells.size = szOf P e := by simpa using hzl
        have hlt : j % z.cells.size < z.cells.size := Nat.mod_lt _ (by omega)
        have : v ∈ z.cells.toList := by
          rw [← Option.some.inj hj, getElem!_pos z.cells _ hlt]; simp
        exact VT_ones h2 (h6 κ).1 v this, made_VA κ hzl hs0 (h6 κ).1⟩
    have hn := hs.wr.n
    refine ⟨.slice (some ⟨w.heap.size, 0, none⟩) l0.toNat c.toNat, _, _, (.vw σ.h.length 0 l0.toNat c.toNat, t), _, _, ?_, e1, e2, ?_, hk⟩
    · simp only [execOp, hy1.eval hs, hy2.eval hs, Sem.run_bind, hr, Result.andThen_ok]
      simp
    · have := VV_vw_mk (P := P) (κ := κ.obj w.heap.size (.row e c.toNat)) (b := κ.n) (off := 0) (len := l0.toNat) (cap := c.toNat) (n := c.toNat) hu (Nat.lt_succ_self _) (if_pos rfl) (by omega) (by omega)
      rw [Nat.zero_mul, show (κ.obj w.heap.size (.row e c.toNat)).ι κ.n = w.heap.size from if_pos rfl, hn] at this
      exact this

theorem OPE.lenV {k : Nat} {b off len cap : Nat} {ts st e : TypeId} (ha : lk σ.t k = some (.vw b off len cap, ts)) (hu : P.underlying st = some (.slice e)) (hk : Kp (.s (.int .i64 (len : Nat)), ty) σ.h σ.u) :
    OPE P ⟨d, .call { callee := .builtin .len, args := #[.tmp k], argTypes := #[st] }, ty, p, af, g⟩ σ Kp :=
  .pure (fun κ a w hs => by
    obtain ⟨e', n, h1, h2, h3, h4, h5, h6⟩ := VV_vw (hs.eval ha)
    refine ⟨.int .i64 (len : Nat), ?_, VV_s_mk rfl⟩
    simp [execOp, resolve, invoke, builtin, Builtin.len_, h6, Go.run_underlying hu, Sem.run_bind, goInt]) hk

theorem OPE.indexVw (hP : WfP P) {k : Nat} {y : Operand} {i : Int} {ik : IntKind} {b off len cap : Nat} {ts st e : TypeId} (ha : lk σ.t k = some (.vw b off len cap, ts)) (hy : IntAt σ y ik i) (hT : SameT P ts st) (hst : st < P.types.size) (hu : P.underlying st = some (.slice e))
    (h0 : 0 ≤ i) (h1 : i < len) (hk : Kp (.ptr b [off + i.toNat], 0) σ.h σ.u) : OPE P ⟨d, .indexAddr st (.tmp k) y, ty, p, af, g⟩ σ Kp :=
  .pure (fun κ a w hs => by
    obtain ⟨e', n, q1, q2, q3, q4, q5, q6⟩ := VV_vw (VV_same hT (hs.eval ha))
    rw [hu] at q1
    cases q1
    have he : e < P.types.size := hP.sli st e hst hu
    have hcond : 0 ≤ i ∧ i < (len : Int) := ⟨h0, h1⟩
    refine ⟨.pointer (some ⟨κ.ι b, off * szOf P e + i.toNat * szOf P e, none⟩), ?_, VV_ptr_mk (t' := e) q2 ?_⟩
    · simp only [execOp, q6, hy.eval hs, Instr.indexAt, asIntOf, Sem.run_bind, Sem.run_pure, Result.andThen_ok, Go.run_underlying hu, if_pos hcond, run_sizeOf hP he, Addr.add_mid]
    · have hlt : Nat.blt (off + i.toNat) n = true := by
        have : off + i.toNat < n := by omega
        simpa [Nat.blt_eq] using this
      rw [q3]
      simp only [walkO, hlt, walkPath, Nat.add_zero, Nat.add_mul]) hk
end Go.Am
namespace Go.Am
variable {P : Program} {σ : St}
variable {d : Option Nat} {ty : TypeId} {p : String} {af : Array Edge} {g : Option (Nat × Bool)} {Kp : X → List AO → (Tips) → Prop}
/-- A bound that may be left out. -/
inductive OptAt (σ : St) : Option Operand → Int → Int → Prop where
  | no {d : Int} : OptAt σ none d d
  | yes {x : Operand} {k : IntKind} {n d : Int} (h : IntAt σ x k n) : OptAt σ (some x) d n
theorem OptAt.eval {κ : K} {a : Act} {w : World} (hs : SR P κ σ a w) {x : Option Operand} {d n : Int} (h : OptAt σ x d n) : (x.map a.eval = none ∧ x = none ∧ n = d) ∨ ∃ k, x.map a.eval = some (.int k n) := by
  cases h with
  | no => exact .inl ⟨rfl, rfl, rfl⟩
  | yes h => exact .inr ⟨_, by rw [Option.map_some, h.eval hs]⟩
theorem run_bounds2 {κ : K} {a : Act} {w : World} (hs : SR P κ σ a w) {lo hi : Option Operand} {l0 h : Int} {len cap : Nat} (hl : OptAt σ lo 0 l0) (hh : OptAt σ hi len h) (h0 : 0 ≤ l0) (h1 : l0 ≤ h) (h2 : h ≤ cap) (w' : World) :
    (Instr.sliceBounds true len cap (lo.map a.eval) (hi.map a.eval) none).run P w' = .ok (l0.toNat, h.toNat, cap) w' := by
  have e1 : h ≤ ((h.toNat : Nat) : Int) := by omega
  rcases hl.eval hs with ⟨q1, _, rfl⟩ | ⟨k1, q1⟩ <;> rcases hh.eval hs with ⟨q2, _, rfl⟩ | ⟨k2, q2⟩ <;> rw [q1, q2] <;> simp only [Instr.sliceBounds, Sem.run_bind, Sem.run_pure, Result.andThen_ok]
  · simp
  · rw [run_sliceBound _ k2 h cap _ (by omega) h2]; rfl
  · rw [run_sliceBound _ k1 l0 len _ h0 h1]; simp
  · rw [run_sliceBound _ k2 h cap _ (by omega) h2]
    simp only [Result.andThen_ok]
    rw [run_sliceBound _ k1 l0 h.toNat _ h0 (by omega)]; rfl
theorem run_bounds3 {κ : K} {a : Act} {w : World} (hs : SR P κ σ a w) {lo : Option Operand} {hi mx : Operand} {l0 h m : Int} {i1 i2 : IntKind} {len cap : Nat} (hl : OptAt σ lo 0 l0) (hh : IntAt σ hi i1 h) (hm : IntAt σ mx i2 m) (h0 : 0 ≤ l0) (h1 : l0 ≤ h) (h2 : h ≤ m) (h3 : m ≤ cap) (w' : World) :
    (Instr.sliceBounds true len cap (lo.map a.eval) ((some hi).map a.eval) ((some mx).map a.eval)).run P w' = .ok (l0.toNat, h.toNat, m.toNat) w' := by
  rw [Option.map_some, Option.map_some, hh.eval hs, hm.eval hs]
  rcases hl.eval hs with ⟨q1, _, rfl⟩ | ⟨k1, q1⟩ <;> rw [q1] <;> simp only [Instr.sliceBounds, Sem.run_bind, Sem.run_pure, Result.andThen_ok]
  · rw [run_sliceBound _ i2 m cap _ (by omega) h3]
    simp only [Result.andThen_ok]
    rw [run_sliceBound _ i1 h m.toNat _ (by omega) (by omega)]; rfl
  · rw [run_sliceBound _ i2 m cap _ (by omega) h3]
    simp only [Result.andThen_ok]
    rw [run_sliceBound _ i1 h m.toNat _ (by omega) (by omega)]
    simp only [Result.andThen_ok]
    rw [run_sliceBound _ k1 l0 h.toNat _ h0 (by omega)]; rfl
theorem run_sliceAt {t e : TypeId} (hP : WfP P) (ht : t < P.types.size) (hu : P.underlying t = some (.slice e)) {A : Option Addr} {len cap l0 h m : Nat} {lo hi mx : Option Value} {w : World} (hb : (Instr.sliceBounds true len cap lo hi mx).run P w = .ok (l0, h, m) w) :
    (Instr.sliceAt t (.slice A len cap) lo hi mx).run P w = .ok (.slice (if m = l0 then A else A.map (·.add (l0 * szOf P e))) (h - l0) (m - l0)) w := by
  have he := hP.sli t e ht hu
  simp only [Instr.sliceAt, Instr.slice, Sem.run_bind, Go.run_underlying hu, Result.andThen_ok, hb, run_sizeOf hP he, Sem.run_pure]

theorem Holds.part {κ : K} {A : Option Addr} {us : List Value} (hh : Holds κ A us) {q : Prop} [Decidable q] {l0 n : Nat} (hm : q → n = 0) : Holds κ (if q then A else A.map (·.add l0)) ((us.drop l0).take n) := by
  by_cases h0 : q
  · rw [if_pos h0, hm h0]; exact .inl (by simp)
  · rw [if_neg h0]
    rcases hh with rfl | ⟨g, o, rfl, hh⟩
    · exact .inl (by simp)
    · refine .inr ⟨g, o + l0, by simp [Addr.add_mid], fun j v hj => ?_⟩
      rw [part_get] at hj
      by_cases hjn : j < n
      · rw [if_pos hjn] at hj
        rw [Nat.add_assoc]; exact hh _ _ hj
      · rw [if_neg hjn] at hj; cases hj
theorem OPE.sliceL (hP : WfP P) {k : Nat} {xs : List T} {tag : Tag} {ts st e : TypeId} {lo hi : Option Operand} {l0 h : Int} (ha : lk σ.t k = some (.lst xs tag, ts)) (hT : SameT P ts st) (hst : st < P.types.size) (hu : P.underlying st = some (.slice e)) (hz : szOf P e ≠ 0)
    (hl : OptAt σ lo 0 l0) (hh : OptAt σ hi xs.length h) (h0 : 0 ≤ l0) (h1 : l0 ≤ h) (h2 : h ≤ xs.length) (hk : Kp (.lst ((xs.drop l0.toNat).take (h.toNat - l0.toNat)) .no, st) σ.h σ.u) : OPE P ⟨d, .slice st (.tmp k) lo hi none, ty, p, af, g⟩ σ Kp :=
  .pure (fun κ a w hs => by
    obtain ⟨e', A, c, us, q1, q2, q3, q4, q5⟩ := VV_lst (VV_same hT (hs.eval ha))
    rw [hu] at q1
    cases q1
    have hc := tag_cap hz q3 q4 q5
    have hb := run_bounds2 hs hl hh h0 h1 (show h ≤ (c : Int) by omega) w
    refine ⟨.slice (if c = l0.toNat then A else A.map (·.add (l0.toNat * szOf P e))) (h.toNat - l0.toNat) (c - l0.toNat), by
      simp only [execOp, q2, Sem.run_bind, Option.map_none]; rw [run_sliceAt hP hst hu hb]; rfl, ?_⟩
    have hlen : ((xs.drop l0.toNat).take (h.toNat - l0.toNat)).length = h.toNat - l0.toNat := by simp; omega
    have hva := VA_take (h.toNat - l0.toNat) (VA_drop l0.toNat q4)
    exact VV_lst_mk hu hlen.symm (show h.toNat - l0.toNat ≤ c - l0.toNat by omega) hva (q5.part fun hq => by rw [show h.toNat - l0.toNat = 0 by omega, Nat.zero_mul])) hk
/-- x[l0:h:h]. -/
theorem OPE.sliceF (hP : WfP P) {k : Nat} {xs : List T} {tag : Tag} {ts st e : TypeId} {lo : Option Operand} {hi mx : Operand} {l0 h m : Int} {i1 i2 : IntKind} (ha : lk σ.t k = some (.lst xs tag, ts)) (hT : SameT P ts st) (hst : st < P.types.size) (hu : P.underlying st = some (.slice e)) (hz : szOf P e ≠ 0)
    (hl : OptAt σ lo 0 l0) (hh : IntAt σ hi i1 h) (hm : IntAt σ mx i2 m) (hmh : m = h) (h0 : 0 ≤ l0) (h1 : l0 ≤ h) (h2 : h ≤ xs.length) (hk : Kp (.lst ((xs.drop l0.toNat).take (h.toNat - l0.toNat)) .full, st) σ.h σ.u) : OPE P ⟨d, .slice st (.tmp k) lo (some hi) (some mx), ty, p, af, g⟩ σ Kp :=
  .pure (fun κ a w hs => by
    subst hmh
    obtain ⟨e', A, c, us, q1, q2, q3, q4, q5⟩ := VV_lst (VV_same hT (hs.eval ha))
    rw [hu] at q1
    cases q1
    have hc := tag_cap hz q3 q4 q5
    have hb := run_bounds3 (len := xs.length) hs hl hh hm h0 h1 (Int.le_refl _) (show m ≤ (c : Int) by omega) w
    refine ⟨.slice (if m.toNat = l0.toNat then A else A.map (·.add (l0.toNat * szOf P e))) (m.toNat - l0.toNat) (m.toNat - l0.toNat), by
      simp only [execOp, q2, Sem.run_bind]; rw [run_sliceAt hP hst hu hb]; rfl, ?_⟩
    have hlen : ((xs.drop l0.toNat).take (m.toNat - l0.toNat)).length = m.toNat - l0.toNat := by simp; omega
    have hva := VA_take (m.toNat - l0.toNat) (VA_drop l0.toNat q4)
    exact VV_lst_mk hu hlen.symm (show m.toNat - l0.toNat = m.toNat - l0.toNat from rfl) hva (q5.part fun hq => by rw [show m.toNat - l0.toNat = 0 by omega, Nat.zero_mul])) hk
theorem vw_sliced {κ : K} {b off cap n l0 h m : Nat} {st e : TypeId} (hu : P.underlying st = some (.slice e)) (q2 : b < κ.n) (q3 : κ.ty b = .row e n) (q4 : off + cap ≤ n) (h1 : l0 ≤ h) (h2 : h ≤ m) (h3 : m ≤ cap) :
    VV P κ (.vw b (if m = l0 then off else off + l0) (h - l0) (m - l0)) st (.slice (if m = l0 then some ⟨κ.ι b, off * szOf P e, none⟩ else (some (⟨κ.ι b, off * szOf P e, none⟩ : Addr)).map (·.add (l0 * szOf P e))) (h - l0) (m - l0)) := by
  by_cases hq : m = l0
  · rw [if_pos hq, if_pos hq]
    exact VV_vw_mk hu q2 q3 (by omega) (by omega)
  · rw [if_neg hq, if_neg hq]
    have := VV_vw_mk (off := off + l0) (len := h - l0) (cap := m - l0) hu q2 q3 (by omega) (by omega)
    rw [Nat.add_mul] at this
    simpa [Addr.add_mid] using this
theorem OPE.sliceV (hP : WfP P) {k : Nat} {b off len cap : Nat} {ts st e : TypeId} {lo hi : Option Operand} {l0 h : Int} (ha : lk σ.t k = some (.vw b off len cap, ts)) (hT : SameT P ts st) (hst : st < P.types.size) (hu : P.underlying st = some (.slice e))
    (hl : OptAt σ lo 0 l0) (hh : OptAt σ hi len h) (h0 : 0 ≤ l0) (h1 : l0 ≤ h) (h2 : h ≤ cap) (hk : Kp (.vw b (if cap = l0.toNat then off else off + l0.toNat) (h.toNat - l0.toNat) (cap - l0.toNat), st) σ.h σ.u) : OPE P ⟨d, .slice st (.tmp k) lo hi none, ty, p, af, g⟩ σ Kp :=
  .pure (fun κ a w hs => by
    obtain ⟨e', n, q1, q2, q3, q4, q5, q6⟩ := VV_vw (VV_same hT (hs.eval ha))
    rw [hu] at q1
    cases q1
    have hb := run_bounds2 hs hl hh h0 h1 h2 w
    exact ⟨_, by simp only [execOp, q6, Sem.run_bind, Option.map_none]; rw [run_sliceAt hP hst hu hb]; rfl, vw_sliced hu q2 q3 q4 (by omega) (by omega) (Nat.le_refl _)⟩) hk
theorem OPE.sliceV3 (hP : WfP P) {k : Nat} {b off len cap : Nat} {ts st e : TypeId} {lo : Option Operand} {hi mx : Operand} {l0 h m : Int} {i1 i2 : IntKind} (ha : lk σ.t k = some (.vw b off len cap, ts)) (hT : SameT P ts st) (hst : st < P.types.size) (hu : P.underlying st = some (.slice e))
    (hl : OptAt σ lo 0 l0) (hh : IntAt σ hi i1 h) (hm : IntAt σ mx i2 m) (h0 : 0 ≤ l0) (h1 : l0 ≤ h) (h2 : h ≤ m) (h3 : m ≤ cap) (hk : Kp (.vw b (if m.toNat = l0.toNat then off else off + l0.toNat) (h.toNat - l0.toNat) (m.toNat - l0.toNat), st) σ.h σ.u) : OPE P ⟨d, .slice st (.tmp k) lo (some hi) (some mx), ty, p, af, g⟩ σ Kp :=
  .pure (fun κ a w hs => by
    obtain ⟨e', n, q1, q2, q3, q4, q5, q6⟩ := VV_vw (VV_same hT (hs.eval ha))
    rw [hu] at q1
    cases q1
    have hb := run_bounds3 (len := len) hs hl hh hm h0 h1 h2 h3 w
    exact ⟨_, by simp only [execOp, q6, Sem.run_bind]; rw [run_sliceAt hP hst hu hb]; rfl, vw_sliced hu q2 q3 q4 (by omega) (by omega) (by omega)⟩) hk
end Go.Am

/- A layer over the walk's rules. This text: append. -/
set_option linter.unusedVariables false
set_option linter.unusedSimpArgs false
namespace Go.Am
variable {P : Program} {σ : St}
variable {d : Option Nat} {ty : TypeId} {p : String} {af : Array Edge} {g : Option (Nat × Bool)} {Kp : X → List AO → (Tips) → Prop}

theorem holds_some {κ : K} {A : Option Addr} {xs : List T} {e : TypeId} {us : List Value} (hz : szOf P e ≠ 0) (hx : xs ≠ []) (h4 : VA P κ xs e us) (h5 : Holds κ A us) : ∃ b o, A = some ⟨b, o, none⟩ ∧ HoldsAt κ b o us := by
  rcases h5 with h5 | h5
  · subst h5
    have hl := VA_len h4
    rcases Nat.mul_eq_zero.1 hl.symm with h | h
    · exact absurd (List.eq_nil_of_length_eq_zero h) hx
    · exact absurd h hz
  · exact h5
theorem VA_ones {κ : K} {e : TypeId} : ∀ {xs : List T} {vs : List Value}, (∀ x ∈ xs, x.cell = true) → VA P κ xs e vs → ∀ v ∈ vs, one v = true
  | [], vs, _, h => by simp only [VA] at h; subst h; simp
  | x :: xs, vs, hc, h => fun v hv => by
    simp only [VA] at h
    rw [← List.take_append_drop (szOf P e) vs, List.mem_append] at hv
    rcases hv with hv | hv
    · exact VT_ones (hc x (List.mem_cons_self ..)) h.2.1 v hv
    · exact VA_ones (fun y hy => hc y (List.mem_cons_of_mem _ hy)) h.2.2 v hv
/-- What append makes where there is no room. -/
theorem grown {κ : K} {w : World} {h : List AO} {u : Tips} (H : WR P κ w h u) {t e : TypeId} {i : TypeInfo} {x : T} {xs ys : List T} {A B : Option Addr} {c c2 : Nat} {us vs : List Value}
    (hu : P.underlying t = some (.slice e)) (hi : P.info? e = some i) (hzo : ZeroOk P e x) (hz : szOf P e ≠ 0) (h1 : VA P κ xs e us) (h2 : Holds κ A us) (hA : A = none → c = 0) (h3 : VA P κ ys e vs) (h4 : Holds κ B vs) (hy : ys ≠ [])
    (hc : xs.length ≤ c) (hg : c < xs.length + ys.length) (h63 : xs.length + ys.length ≤ 9223372036854775807) (hb : (xs.length + ys.length) * i.bytes ≤ 140737488355328) (ty : TypeId) :
    ∃ (n : Nat) (rest : List Value) (w' : World), xs.length + ys.length ≤ n ∧ (n - (xs.length + ys.length)) * szOf P e = rest.length ∧ (∀ κ' : K, VA P κ' (List.replicate (n - (xs.length + ys.length)) x) e rest) ∧ (∀ v ∈ rest, one v = true) ∧ w' = w.drew.alloc (.cells ((us ++ vs) ++ rest).toArray e (0, 0)) ∧
      (Builtin.append_ #[t, t] ty #[.slice A xs.length c, .slice B ys.length c2]).run P w = .ok (.slice (some ⟨w.heap.size, 0, none⟩) (xs.length + ys.length) n) w' := by
  obtain ⟨_, qc, i', z, q1, q2, q3, q4⟩ := hzo
  rw [hi] at q1
  cases q1
  have hsz : i.size = szOf P e := by unfold szOf; rw [hi]
  obtain ⟨b, o, rfl, hB⟩ := holds_some hz hy h3 h4
  have hyl : 0 < ys.length := List.length_pos_iff.2 hy
  have hnews : ∀ j v, vs[j]? = some v → w.cell? ((⟨b, o, none⟩ : Addr).add j) = some v := fun j v hj => by
    rw [Addr.add_mid]; exact H.imm _ _ _ (hB j v hj)
  have hvl : vs.length = ys.length * i.size := by rw [hsz]; exact VA_len h3
  have hul : us.length = xs.length * i.size := by rw [hsz]; exact VA_len h1
  have hzs : z.cells.size = szOf P e := by simpa using q3
  have hfit := growslice_fits hg hb
  refine ⟨grownCap w (xs.length + ys.length) c e, (Builtin.zeroCells z.cells (grownCap w (xs.length + ys.length) c e - (xs.length + ys.length))).toList, _, grownCap_ge _ _ _ _, by simp [size_zeroCells, hzs], fun κ' => ?_, fun v hv => ?_, rfl, ?_⟩
  · have := made_VA κ' (c := grownCap w (xs.length + ys.length) c e - (xs.length + ys.length)) q3 hz (q4 κ').1
    rw [← hzs] at this; exact this
  · have := made_VA κ (c := grownCap w (xs.length + ys.length) c e - (xs.length + ys.length)) q3 hz (q4 κ).1
    rw [← hzs] at this
    exact VA_ones (fun y hy => by rw [(List.mem_replicate.1 hy).2]; exact qc) this v hv
  cases A with
  | none =>
    have hc0 := hA rfl
    subst hc0
    have hx0 : xs.length = 0 := by omega
    have hxn := List.eq_nil_of_length_eq_zero hx0
    subst hxn
    have hus : us = [] := List.eq_nil_of_length_eq_zero (by rw [hul]; simp)
    subst hus
    have hr := run_append_nil (P := P) w t ty e i z hu hi q2 ⟨b, o, none⟩ ys.length c2 vs hvl hnews hyl (by simp at h63; omega) (by simp at hb; omega)
    simp only [List.length_nil, Nat.zero_add, List.nil_append] at hr ⊢
    rw [hr]
    congr 3
    simp
  | some a =>
    have hold : ∀ j v, us[j]? = some v → w.cell? (a.add j) = some v := fun j v hj => by
      rcases h2 with rfl | ⟨b', o', hA', hh⟩
      · simp at hj
      · cases hA'
        rw [Addr.add_mid]; exact H.imm _ _ _ (hh j v hj)
    have hr := run_append_grow (P := P) w t ty e i z hu hi q2 a xs.length c us hul hold ⟨b, o, none⟩ ys.length c2 vs hvl hnews hg (by omega) hfit
    rw [hr]
    congr 3
    simp

theorem run_appendOp {a : Act} {o1 o2 : Operand} {t : TypeId} {w w' : World} {v1 v2 v : Value} (h1 : a.eval o1 = v1) (h2 : a.eval o2 = v2) (h : (Builtin.append_ #[t, t] ty #[v1, v2]).run P w = .ok v w') :
    (execOp a.eval ⟨d, .call { callee := .builtin .append, args := #[o1, o2], argTypes := #[t, t] }, ty, p, af, g⟩).run P w = .ok (.value v) w' := by
  simp only [execOp, resolve, Sem.run_bind, Sem.run_pure, Result.andThen_ok, invoke, builtin, List.map_toArray, List.map_cons, List.map_nil, h1, h2, h]

/-- Behind a list that has no room. -/
theorem OPE.appendG (hP : WfP P) {o1 o2 : Operand} {xs ys : List T} {tag tag2 : Tag} {t e : TypeId} {i : TypeInfo} {x : T} (ha : ArgAt P σ o1 t (.lst xs tag)) (hb : ArgAt P σ o2 t (.lst ys tag2))
    (hu : P.underlying t = some (.slice e)) (hi : P.info? e = some i) (hzo : ZeroOk P e x) (hz : szOf P e ≠ 0) (htag : tag = .full ∨ tag = .nil) (hy : ys ≠ []) (h63 : xs.length + ys.length ≤ 9223372036854775807) (hbig : (xs.length + ys.length) * i.bytes ≤ 140737488355328)
    (hk : Kp (.lst (xs ++ ys) (.tip σ.u.m), t) σ.h σ.u.more) :
    OPE P ⟨d, .call { callee := .builtin .append, args := #[o1, o2], argTypes := #[t, t] }, ty, p, af, g⟩ σ Kp :=
  .run fun κ a w hs => by
    obtain ⟨e1, A, c, us, q1, q2, q3, q4, q5⟩ := VV_lst (ha.eval hs)
    rw [hu] at q1; cases q1
    obtain ⟨e2, B, c2, vs, r1, r2, r3, r4, r5⟩ := VV_lst (hb.eval hs)
    rw [hu] at r1; cases r1
    have hc0 := tag_cap hz q3 q4 q5
    have hyl : 0 < ys.length := List.length_pos_iff.2 hy
    have hcl : c ≤ xs.length := by
      rcases htag with rfl | rfl
      · exact Nat.le_of_eq q3
      · have := q3.2; omega
    have hA : A = none → c = 0 := fun hA => by
      rcases q5 with rfl | ⟨_, _, h, _⟩
      · have := VA_len q4
        rcases Nat.mul_eq_zero.1 this.symm with h | h
        · omega
        · exact absurd h hz
      · rw [hA] at h; cases h
    obtain ⟨n, rest, w', n1, n2, n5, n6, rfl, n4⟩ := grown hs.wr (c2 := c2) hu hi hzo hz q4 q5 hA r4 r5 hy hc0 (by omega) h63 hbig ty
    have hva := VA_append q4 r4
    obtain ⟨e3, e4, e5⟩ := hs.wr.drew.row (us ++ vs) rest e (xs.length + ys.length) n (szOf P e) (by rw [VA_len hva, List.length_append]) (by rw [← n2, VA_len hva, List.length_append, ← Nat.add_mul]; exact Nat.mul_le_mul_right _ (by omega))
    have e6 := (Ext.drew κ σ.u w).trans e3
    refine ⟨_, _, _, (.lst (xs ++ ys) (.tip σ.u.m), t), σ.h, _, run_appendOp q2 r2 n4, e6, e4, ?_, hk⟩
    exact VV_lst_mk hu (by simp) (show _ ∧ _ from ⟨n1, w.heap.size, 0, rfl, if_pos rfl⟩) (VA_mono e3.le _ _ _ hva) (.inr ⟨_, _, rfl, e5⟩)
/-- The same, and the row may be written. -/
theorem OPE.appendV (hP : WfP P) {o1 o2 : Operand} {xs ys : List T} {tag tag2 : Tag} {t e : TypeId} {i : TypeInfo} {x : T} (ha : ArgAt P σ o1 t (.lst xs tag)) (hb : ArgAt P σ o2 t (.lst ys tag2))
    (hu : P.underlying t = some (.slice e)) (hi : P.info? e = some i) (hzo : ZeroOk P e x) (hz : szOf P e ≠ 0) (htag : tag = .full ∨ tag = .nil) (hy : ys ≠ []) (h63 : xs.length + ys.length ≤ 9223372036854775807) (hbig : (xs.length + ys.length) * i.bytes ≤ 140737488355328)
    (hcx : ∀ y ∈ xs, y.cell = true) (hcy : ∀ y ∈ ys, y.cell = true)
    (hk : ∀ m, Kp (.vw σ.h.length 0 (xs.length + ys.length) (xs.length + ys.length + m), t) (σ.h ++ [⟨.row e (xs.length + ys.length + m), .arr (xs ++ ys ++ List.replicate m x)⟩]) σ.u) :
    OPE P ⟨d, .call { callee := .builtin .append, args := #[o1, o2], argTypes := #[t, t] }, ty, p, af, g⟩ σ Kp :=
  .run fun κ a w hs => by
    obtain ⟨e1, A, c, us, q1, q2, q3, q4, q5⟩ := VV_lst (ha.eval hs)
    rw [hu] at q1; cases q1
    obtain ⟨e2, B, c2, vs, r1, r2, r3, r4, r5⟩ := VV_lst (hb.eval hs)
    rw [hu] at r1; cases r1
    have hc0 := tag_cap hz q3 q4 q5
    have hyl : 0 < ys.length := List.length_pos_iff.2 hy
    have hcl : c ≤ xs.length := by
      rcases htag with rfl | rfl
      · exact Nat.le_of_eq q3
      · have := q3.2; omega
    have hA : A = none → c = 0 := fun hA => by
      rcases q5 with rfl | ⟨_, _, h, _⟩
      · have := VA_len q4
        rcases Nat.mul_eq_zero.1 this.symm with h | h
        · omega
        · exact absurd h hz
      · rw [hA] at h; cases h
    obtain ⟨n, rest, w', n1, n2, n5, n6, rfl, n4⟩ := grown hs.wr (c2 := c2) hu hi hzo hz q4 q5 hA r4 r5 hy hc0 (by omega) h63 hbig ty
    have hva := VA_append (VA_append q4 r4) (n5 κ)
    obtain ⟨m, rfl⟩ : ∃ m, n = xs.length + ys.length + m := ⟨n - (xs.length + ys.length), by omega⟩
    have hm : xs.length + ys.length + m - (xs.length + ys.length) = m := by omega
    rw [hm] at hva n2
    obtain ⟨e3, e4⟩ := hs.wr.drew.alloc (ty := .row e (xs.length + ys.length + m)) (t := .arr (xs ++ ys ++ List.replicate m x)) (e := e) (vs := us ++ vs ++ rest) hzo.1
      ⟨_, rfl, by simp [Nat.add_assoc], by rw [VA_len hva]; simp [Nat.add_assoc], fun v hv => by
        simp only [List.mem_append] at hv
        rcases hv with (hv | hv) | hv
        · exact VA_ones hcx q4 v hv
        · exact VA_ones hcy r4 v hv
        · exact n6 v hv, hva⟩
    have e6 := (Ext.drew κ σ.u w).trans e3
    have hn := hs.wr.n
    refine ⟨_, _, _, (.vw σ.h.length 0 (xs.length + ys.length) (xs.length + ys.length + m), t), _, _, run_appendOp q2 r2 n4, e6, e4, ?_, hk m⟩
    have := VV_vw_mk (P := P) (κ := κ.obj w.heap.size (.row e (xs.length + ys.length + m))) (b := κ.n) (off := 0) (len := xs.length + ys.length) (cap := xs.length + ys.length + m) hu (Nat.lt_succ_self _) (if_pos rfl) (Nat.le_of_eq (Nat.zero_add _)) (by omega)
    rw [Nat.zero_mul, show (κ.obj w.heap.size (.row e (xs.length + ys.length + m))).ι κ.n = w.heap.size from if_pos rfl, hn] at this
    exact this

/-- Nothing is appended. -/
theorem OPE.appendE (hP : WfP P) {o1 o2 : Operand} {xs : List T} {tag tag2 : Tag} {t e : TypeId} {i : TypeInfo} (ha : ArgAt P σ o1 t (.lst xs tag)) (hb : ArgAt P σ o2 t (.lst [] tag2))
    (hu : P.underlying t = some (.slice e)) (hi : P.info? e = some i) (hz : szOf P e ≠ 0) (hk : Kp (.lst xs tag, t) σ.h σ.u) :
    OPE P ⟨d, .call { callee := .builtin .append, args := #[o1, o2], argTypes := #[t, t] }, ty, p, af, g⟩ σ Kp :=
  .pure (fun κ a w hs => by
    have hv := ha.eval hs
    obtain ⟨e1, A, c, us, q1, q2, q3, q4, q5⟩ := VV_lst hv
    rw [hu] at q1; cases q1
    obtain ⟨e2, B, c2, vs, r1, r2, r3, r4, r5⟩ := VV_lst (hb.eval hs)
    rw [hu] at r1; cases r1
    have hc0 := tag_cap hz q3 q4 q5
    refine ⟨_, run_appendOp (v := .slice A xs.length c) q2 r2 ?_, by rw [← q2]; exact hv⟩
    have hf : (Builtin.firstCells i.size 0 (.slice B 0 c2)).run P w = .ok #[] w := by
      cases B with
      | none => exact run_firstCells_none w i.size 0 0 c2
      | some b => have := run_firstCells_some (P := P) w i.size 0 b 0 c2 [] (by simp) (by simp); simpa using this
    cases A <;> simp [Builtin.append_, run_underlying hu, sizeOf, typeInfo, hi, Builtin.lenOf, hc0, hf, storeCells]) hk

/-- Behind a list that has its room for itself. -/
theorem OPE.appendT (hP : WfP P) {o1 o2 : Operand} {xs ys : List T} {τ0 : Nat} {tag2 : Tag} {t e : TypeId} {i : TypeInfo} {x : T} (ha : ArgAt P σ o1 t (.lst xs (.tip τ0))) (hb : ArgAt P σ o2 t (.lst ys tag2)) (hτ : σ.u τ0)
    (hu : P.underlying t = some (.slice e)) (hi : P.info? e = some i) (hzo : ZeroOk P e x) (hz : szOf P e ≠ 0) (hy : ys ≠ []) (hcy : ∀ y ∈ ys, y.cell = true) (h63 : xs.length + ys.length ≤ 9223372036854775807) (hbig : (xs.length + ys.length) * i.bytes ≤ 140737488355328)
    (hk : Kp (.lst (xs ++ ys) (.tip σ.u.m), t) σ.h (σ.u.used τ0)) :
    OPE P ⟨d, .call { callee := .builtin .append, args := #[o1, o2], argTypes := #[t, t] }, ty, p, af, g⟩ σ Kp :=
  .run fun κ a w hs => by
    obtain ⟨e1, A, c, us, q1, q2, q3, q4, q5⟩ := VV_lst (ha.eval hs)
    rw [hu] at q1; cases q1
    obtain ⟨e2, B, c2, vs, r1, r2, r3, r4, r5⟩ := VV_lst (hb.eval hs)
    rw [hu] at r1; cases r1
    obtain ⟨hc0, g0, o0, rfl, htip⟩ := q3
    have hyl : 0 < ys.length := List.length_pos_iff.2 hy
    have hva := VA_append q4 r4
    by_cases hroom : xs.length + ys.length ≤ c
    · obtain ⟨cur, e', z1, z2, z3, z4, z5⟩ := hs.wr.grow (us := vs) (m := ys.length) hτ htip (VA_len r4) hroom
      have hsz : i.size = szOf P e := by unfold szOf; rw [hi]
      obtain ⟨b, o, rfl, hB⟩ := holds_some hz hy r4 r5
      have hf := run_firstCells_some (P := P) w i.size ys.length ⟨b, o, none⟩ ys.length c2 vs (by rw [hsz]; exact VA_len r4) (fun j v hj => by rw [Addr.add_mid]; exact hs.wr.imm _ _ _ (hB j v hj))
      have hst := run_storeCells_at (P := P) g0 (o0 + xs.length * szOf P e) e' vs 0 cur w z1 (by omega) (fun v hv => by rw [one_eq]; exact VA_ones hcy r4 v hv)
      simp only [Nat.add_zero] at hst
      have hrun : (Builtin.append_ #[t, t] ty #[.slice (some ⟨g0, o0, none⟩) xs.length c, .slice (some ⟨b, o, none⟩) ys.length c2]).run P w = .ok (.slice (some ⟨g0, o0, none⟩) (xs.length + ys.length) c) (w.setRow g0 (splice cur.toList (o0 + xs.length * szOf P e) vs).toArray) := by
        rw [← hsz] at hst ⊢
        simp [Builtin.append_, run_underlying hu, sizeOf, typeInfo, hi, Builtin.lenOf, hroom, hf, Addr.add_mid, hst, splice]
      have htm : (κ.grow g0 o0 xs.length ys.length c (szOf P e) vs σ.u.m).tip σ.u.m = some (g0, o0, xs.length + ys.length, c, szOf P e) := if_pos rfl
      refine ⟨_, _, _, (.lst (xs ++ ys) (.tip σ.u.m), t), σ.h, _, run_appendOp q2 r2 hrun, z3, z4, ?_, hk⟩
      refine VV_lst_mk hu (by simp) (show _ ∧ _ from ⟨hroom, g0, o0, rfl, htm⟩) (VA_mono z3.le _ _ _ hva) (.inr ⟨_, _, rfl, fun j v hj => ?_⟩)
      by_cases hjl : j < us.length
      · rw [List.getElem?_append_left hjl] at hj
        rcases q5.mono z3.le with rfl | ⟨g1, o1, hA, hh⟩
        · simp at hjl
        · cases hA; exact hh j v hj
      · rw [List.getElem?_append_right (by omega)] at hj
        have := z5 _ v hj
        have hul := VA_len q4
        rw [show o0 + j = o0 + xs.length * szOf P e + (j - us.length) by omega]; exact this
    · obtain ⟨n, rest, w', n1, n2, n5, n6, rfl, n4⟩ := grown hs.wr (c2 := c2) hu hi hzo hz q4 q5 (fun h => by cases h) r4 r5 hy hc0 (by omega) h63 hbig ty
      obtain ⟨e3, e4, e5⟩ := hs.wr.drew.row (us ++ vs) rest e (xs.length + ys.length) n (szOf P e) (by rw [VA_len hva, List.length_append]) (by rw [← n2, VA_len hva, List.length_append, ← Nat.add_mul]; exact Nat.mul_le_mul_right _ (by omega))
      have e6 := (Ext.drew κ σ.u w).trans e3
      have hless : (σ.u.used τ0).Le σ.u.more := ⟨fun τ' h => Tips.more_iff.2 ((Tips.used_iff.1 h).imp id And.right), Nat.le_refl _⟩
      refine ⟨_, _, _, (.lst (xs ++ ys) (.tip σ.u.m), t), σ.h, _, run_appendOp q2 r2 n4, e6.less hless, e4.less hless, ?_, hk⟩
      exact VV_lst_mk hu (by simp) (show _ ∧ _ from ⟨n1, w.heap.size, 0, rfl, if_pos rfl⟩) (VA_mono e3.le _ _ _ hva) (.inr ⟨_, _, rfl, e5⟩)
end Go.Am

/- A layer over the walk's rules. This text: a row that was written is written no more: it becomes a list. -/
set_option linter.unusedVariables false
set_option linter.unusedSimpArgs false
namespace Go.Am
variable {P : Program}

def K.frozen (κ : K) (g : Nat) (vs : List Value) : K := { κ with I := fun g' j => if g' = g then vs[j]? else κ.I g' j }

/-- A slot behind the freezing of row b, which held xs. -/
def Froze (b : Nat) (xs : List T) (x y : X) : Prop := x = y ∨ ∃ off len cap, x.1 = .vw b off len cap ∧ y = (.lst ((xs.drop off).take len) .no, x.2)

theorem freeze {κ : K} {a : Act} {w : World} {n N b : Nat} {t t' : List (Nat × T × TypeId)} {h : List AO} {u : Tips} {e : TypeId} {xs : List T} (hs : SR P κ ⟨N, t, h, u⟩ a w) (hb : h[b]? = some ⟨.row e n, .arr xs⟩) (hz : szOf P e ≠ 0)
    (ht : ∀ k y, lk t' k = some y → ∃ x, lk t k = some x ∧ Froze b xs x y) : ∃ κ', Ext κ u w κ' u w ∧ SR P κ' ⟨N, t', h.set b ⟨.dead, .any⟩, u⟩ a w := by
  obtain ⟨hd, hsz, htm, H⟩ := hs
  have H : WR P κ w h u := H
  obtain ⟨h1, h2, vs, ce, h3, xs', hx', h4, h5, h6, h7⟩ := H.obj b _ hb
  cases hx'
  have hbl : b < h.length := (List.getElem?_eq_some_iff.1 hb).1
  have hbn : b < κ.n := by have := H.n; omega
  have hty : κ.ty b = .row e n := by
    rcases h2 with h2 | h2
    · cases h2
    · exact h2
  have hnone : ∀ j, κ.I (κ.ι b) j = none := fun j => by
    cases hI : κ.I (κ.ι b) j with
    | none => rfl
    | some v => exact absurd rfl (H.immo _ j v b _ hI hb (by simp))
  have hle : κ.Le (κ.frozen (κ.ι b) vs) := ⟨Nat.le_refl _, fun _ _ => rfl, fun _ _ => rfl, fun g j v hv => by
    show (if g = κ.ι b then _ else _) = _
    rw [if_neg (fun hg => by subst hg; rw [hnone] at hv; cases hv)]; exact hv, fun _ _ hv => hv⟩
  refine ⟨κ.frozen (κ.ι b) vs, ⟨hle, Nat.le_refl _, fun _ _ => rfl, rfl, rfl, rfl, Nat.le_refl _, fun _ _ _ _ => rfl, fun c q1 q2 => ?_, fun τ g o n c sz hu htp => .inr ⟨τ, o, n, c, sz, hu, htp⟩, fun g j v hv => ?_⟩, hd, hsz, fun k y ty hk => ?_, ?_⟩
  · have : c < κ.n := q2
    omega
  · have hv' : (if g = κ.ι b then vs[j]? else κ.I g j) = some v := hv
    by_cases hg : g = κ.ι b
    · exact .inr (.inr (.inl ⟨b, hbn, hg.symm⟩))
    · rw [if_neg hg] at hv'; exact .inl hv'
  · obtain ⟨x, hx, hf⟩ := ht k _ hk
    obtain ⟨v, hv1, hv2⟩ := htm k x.1 x.2 hx
    rcases hf with rfl | ⟨off, len, cap, hvw, hy⟩
    · exact ⟨v, hv1, hv2.mono hle⟩
    · cases hy
      rw [hvw] at hv2
      obtain ⟨e', n', r1, r2, r3, r4, r5, rfl⟩ := VV_vw hv2
      rw [hty] at r3
      cases r3
      refine ⟨_, hv1, ?_⟩
      have hva := VA_take len (VA_drop off h7)
      exact VV_lst_mk r1 (show len = _ by simp; omega) (show len ≤ cap from r5) (VA_mono hle _ _ _ hva) (.inr ⟨_, _, rfl, fun j v hj => by
        rw [part_get] at hj
        by_cases hjn : j < len * szOf P e
        · rw [if_pos hjn] at hj
          show (if κ.ι b = κ.ι b then _ else _) = _
          rw [if_pos rfl]; exact hj
        · rw [if_neg hjn] at hj; cases hj⟩)
  · refine ⟨by rw [List.length_set]; exact H.n, fun c q hc => ?_, H.inj, fun g j v hv => ?_, fun g j v c q hv hc hq => ?_, fun τ hτ => ?_, H.fresh⟩
    · rw [List.getElem?_set] at hc
      by_cases hbc : b = c
      · subst hbc
        rw [if_pos rfl, if_pos hbl] at hc
        cases hc
        exact ⟨trivial, .inl rfl, vs, ce, h3, trivial⟩
      · rw [if_neg hbc] at hc
        obtain ⟨q1, q2, ws, ce', q3, q4⟩ := H.obj c q hc
        exact ⟨q1, q2, ws, ce', q3, q4.mono hle⟩
    · have hv' : (if g = κ.ι b then vs[j]? else κ.I g j) = some v := hv
      by_cases hg : g = κ.ι b
      · subst hg
        rw [if_pos rfl] at hv'
        simp only [World.cell?, h3]
        simpa using hv'
      · rw [if_neg hg] at hv'; exact H.imm g j v hv'
    · rw [List.getElem?_set] at hc
      by_cases hbc : b = c
      · subst hbc
        rw [if_pos rfl, if_pos hbl] at hc
        cases hc
        exact absurd rfl hq
      · rw [if_neg hbc] at hc
        have hv' : (if g = κ.ι b then vs[j]? else κ.I g j) = some v := hv
        by_cases hg : g = κ.ι b
        · subst hg
          have hcn : c < κ.n := by have := (List.getElem?_eq_some_iff.1 hc).1; have := H.n; omega
          exact fun hi => hbc (H.inj c b hcn hbn hi).symm
        · rw [if_neg hg] at hv'; exact H.immo g j v c q hv' hc hq
    · obtain ⟨g, o, n', c, sz, t1, t2, t3, t4, t5⟩ := H.tip τ hτ
      exact ⟨g, o, n', c, sz, t1, t2, fun j q1 q2 => by
        show (if g = κ.ι b then _ else _) = _
        rw [if_neg (fun hg => t4 b hbn hg.symm)]; exact t3 j q1 q2, t4, t5⟩

theorem AW.freeze {c : Code} {N n b : Nat} {t t' : List (Nat × T × TypeId)} {h : List AO} {u : Tips} {e : TypeId} {xs : List T} {Q : Exit → St → Prop} (hb : h[b]? = some ⟨.row e n, .arr xs⟩) (hz : szOf P e ≠ 0)
    (ht : ∀ k y, lk t' k = some y → ∃ x, lk t k = some x ∧ Froze b xs x y) (hk : AW P c ⟨N, t', h.set b ⟨.dead, .any⟩, u⟩ Q) : AW P c ⟨N, t, h, u⟩ Q := fun κ a w hs => by
  obtain ⟨κ', h1, h2⟩ := Am.freeze hs hb hz ht
  exact wp_mono (hk κ' a w h2) fun e' a' w' k => lift_trans h1 k
end Go.Am

/- A layer over the walk's rules. This text: functions as values. -/
set_option linter.unusedVariables false
set_option linter.unusedSimpArgs false
namespace Go.Am
variable {P : Program} {σ : St}
variable {d : Option Nat} {ty : TypeId} {p : String} {af : Array Edge} {g : Option (Nat × Bool)} {Kp : X → List AO → (Tips) → Prop}

def X0 (ts : List T) : List X := ts.map fun t => (t, 0)
theorem VArgs_of_VC {κ : K} : ∀ {ts : List T} {vs : List Value}, VC P κ ts vs → VArgs P κ (X0 ts) vs
  | [], vs, h => by simp only [VC] at h; subst h; exact .nil
  | t :: ts, [], h => by simp only [VC] at h
  | t :: ts, v :: vs, h => by simp only [VC] at h; exact .cons h.1 (VArgs_of_VC h.2)
theorem VArgs.append {κ : K} : ∀ {xs ys : List X} {us vs : List Value}, VArgs P κ xs us → VArgs P κ ys vs → VArgs P κ (xs ++ ys) (us ++ vs)
  | _, _, _, _, .nil, k => k
  | _, _, _, _, .cons h k1, k => .cons h (k1.append k)
theorem VV_fn {κ : K} {f : Fn} {first cap : List T} {tf : TypeId} {v : Value} (h : VV P κ (.fn f first cap) tf v) : ∃ us ws, v = .func f us.toArray ws.toArray ∧ VC P κ first us ∧ VC P κ cap ws := by
  obtain ⟨q1, q2⟩ := h
  simp only [VT] at q1
  obtain ⟨us, ws, h1, h2, h3⟩ := q1
  exact ⟨us, ws, one_cell q2 h1, h2, h3⟩

/-- A function's value is called. -/
theorem OPE.callV {f : FuncId} {k : Nat} {first cap : List T} {tf : TypeId} {os : List Operand} {ats : Array TypeId} {xs : List X} (hk0 : lk σ.t k = some (.fn (.func f) first cap, tf)) (hf : enters P f = true) (ha : Args P σ os xs)
    (hc : ACalls P f (X0 first ++ xs ++ X0 cap) σ.h σ.u Kp) : OPE P ⟨d, .call { callee := .value (.tmp k), args := os.toArray, argTypes := ats }, ty, p, af, g⟩ σ Kp := fun κ a w next R hs hn => by
  obtain ⟨us, ws, q1, q2, q3⟩ := VV_fn (hs.eval hk0)
  have hr : (execOp a.eval ⟨d, .call { callee := .value (.tmp k), args := os.toArray, argTypes := ats }, ty, p, af, g⟩).run P w = .ok (.enter f (us ++ os.map a.eval ++ ws).toArray) w := by
    simp [execOp, resolve, q1, Deferred.ofValue, invoke, Sem.run_bind, run_callFunc hf]
  unfold Oper.wp
  rw [hr]
  show Calls P f (us ++ os.map a.eval ++ ws).toArray w _
  refine (hc κ w _ hs.wr (((VArgs_of_VC q2).append (ha.eval hs)).append (VArgs_of_VC q3))).mono ?_
  rintro e w' ⟨κ', v, x, h', u', rfl, h2, h3, h4, h5⟩
  exact hn κ' v x h' u' w' h2 h3 h4 h5

/-- What a function's value holds. -/
inductive Caps (P : Program) (σ : St) : List Operand → List T → Prop where
  | nil : Caps P σ [] []
  | cons {k : Nat} {os : List Operand} {x : T} {tx : TypeId} {xs : List T} (h : lk σ.t k = some (x, tx)) (hf : x.free = true) (k' : Caps P σ os xs) : Caps P σ (.tmp k :: os) (x :: xs)
theorem Caps.eval {κ : K} {a : Act} {w : World} (hs : SR P κ σ a w) : ∀ {os : List Operand} {xs : List T}, Caps P σ os xs → VC P κ xs (os.map a.eval)
  | _, _, .nil => by simp [VC]
  | _, _, .cons h hf k => by
    have hv := hs.eval h
    simp only [List.map_cons, VC]
    exact ⟨⟨VT_free hf hv.1, hv.2⟩, k.eval hs⟩
theorem OPE.makeFunc {fn : Fn} {o1 o2 : List Operand} {first cap : List T} (h1 : Caps P σ o1 first) (h2 : Caps P σ o2 cap) (hk : Kp (.fn fn first cap, ty) σ.h σ.u) : OPE P ⟨d, .makeFunc fn o1.toArray o2.toArray, ty, p, af, g⟩ σ Kp :=
  .pure (fun κ a w hs => ⟨.func fn (o1.map a.eval).toArray (o2.map a.eval).toArray, by simp [execOp, Instr.makeFunc], by
    refine ⟨?_, rfl⟩
    simp only [VT]
    exact ⟨_, _, rfl, h1.eval hs, h2.eval hs⟩⟩) hk
/-- A function's own value, assigned. -/
theorem OPE.assignF {f : Nat} (hk : Kp (.fn (.func f) [] [], ty) σ.h σ.u) : OPE P ⟨d, .assign (.func f), ty, p, af, g⟩ σ Kp :=
  .pure (fun κ a w hs => ⟨.func (.func f) #[] #[], by simp [execOp, Act.eval], by
    refine ⟨?_, rfl⟩
    simp only [VT]
    exact ⟨[], [], rfl, by simp only [VC], by simp only [VC]⟩⟩) hk
end Go.Am

/- A layer over the walk's rules. This text: bits of numbers that are not negative. -/
set_option linter.unusedVariables false
set_option linter.unusedSimpArgs false
namespace Go.Am
variable {P : Program} {σ : St}
variable {d : Option Nat} {ty : TypeId} {p : String} {af : Array Edge} {g : Option (Nat × Bool)} {Kp : X → List AO → (Tips) → Prop}

theorem wrapN {n : Nat} (h : n < 2 ^ 63) : IntKind.i64.wrap (n : Int) = n := by
  unfold IntKind.wrap
  simp [IntKind.signed, IntKind.bits]
  omega
theorem ofN {n : Nat} (h : n < 2 ^ 63) : (BitVec.ofInt 64 (n : Int)).toNat = n := by
  rw [BitVec.toNat_ofInt]
  omega
theorem ofN' {n : Nat} (h : n < 2 ^ 63) : (BitVec.ofNat 64 n).toNat = n := by
  rw [BitVec.toNat_ofNat]
  omega
def natOp (op : BinOp) (a b : Nat) : Option Nat :=
  match op with
  | .and => some (a &&& b)
  | .or => some (a ||| b)
  | .xor => some (a ^^^ b)
  | _ => none
theorem run_natOp {op : BinOp} {a b r : Nat} (h : natOp op a b = some r) (ha : a < 2 ^ 63) (hb : b < 2 ^ 63) (t : TypeId) (x y : Operand) (w : World) :
    (do eqGuard op t x y (.int .i64 a) (.int .i64 b); binOp op t (.int .i64 a) (.int .i64 b) : Sem Value).run P w = .ok (.int .i64 r) w := by
  rw [Sem.run_bind, run_eqGuard_int]
  cases op <;> simp only [natOp, Option.some.injEq, reduceCtorEq] at h <;> subst h <;>
    simp [binOp, Op.intBits, IntKind.bits, BitVec.toNat_and, BitVec.toNat_or, BitVec.toNat_xor, ofN ha, ofN hb, Result.andThen_ok]
  · show IntKind.i64.wrap (((BitVec.ofNat 64 a &&& BitVec.ofNat 64 b : BitVec 64).toNat : Nat) : Int) = _
    rw [BitVec.toNat_and, ofN' ha, ofN' hb]; exact wrapN (Nat.and_lt_two_pow _ hb)
  · show IntKind.i64.wrap (((BitVec.ofNat 64 a ||| BitVec.ofNat 64 b : BitVec 64).toNat : Nat) : Int) = _
    rw [BitVec.toNat_or, ofN' ha, ofN' hb]; exact wrapN (Nat.or_lt_two_pow ha hb)
  · show IntKind.i64.wrap (((BitVec.ofNat 64 a ^^^ BitVec.ofNat 64 b : BitVec 64).toNat : Nat) : Int) = _
    rw [BitVec.toNat_xor, ofN' ha, ofN' hb]; exact wrapN (Nat.xor_lt_two_pow ha hb)
theorem OPE.bits {op : BinOp} {x y : Operand} {t t2 : TypeId} {a b r : Nat} (hx : IntAt σ x .i64 (a : Int)) (hy : IntAt σ y .i64 (b : Int)) (hr : natOp op a b = some r) (ha : a < 2 ^ 63) (hb : b < 2 ^ 63) (hk : Kp (.s (.int .i64 r), ty) σ.h σ.u) :
    OPE P ⟨d, .binOp op t x y t2, ty, p, af, g⟩ σ Kp :=
  .pure (fun κ a' w hs => ⟨.int .i64 r, by
    simp only [execOp, hx.eval hs, hy.eval hs]
    rw [Sem.run_bind, run_natOp hr ha hb]; rfl, VV_s_mk rfl⟩) hk
theorem OPE.shl {x y : Operand} {t t2 : TypeId} {ik : IntKind} {a n r : Nat} (hx : IntAt σ x .i64 (a : Int)) (hy : IntAt σ y ik (n : Int)) (hn : n < 64) (hr : a * 2 ^ n = r) (hb : r < 2 ^ 63) (hk : Kp (.s (.int .i64 r), ty) σ.h σ.u) :
    OPE P ⟨d, .binOp .shl t x y t2, ty, p, af, g⟩ σ Kp :=
  .pure (fun κ a' w hs => ⟨.int .i64 r, by
    subst hr
    simp only [execOp, hx.eval hs, hy.eval hs]
    have h1 : ¬ ((n : Int) < 0) := by omega
    have h2 : min n 64 = n := by omega
    have h3 : ((a : Int) * 2 ^ n) = ((a * 2 ^ n : Nat) : Int) := by simp
    simp only [Sem.run_bind, run_eqGuard_int, Result.andThen_ok, binOp, Op.shift, if_neg h1, Int.toNat_natCast, IntKind.bits, h2, h3, wrapN hb]
    rfl, VV_s_mk rfl⟩) hk
theorem OPE.shr {x y : Operand} {t t2 : TypeId} {ik : IntKind} {a n r : Nat} (hx : IntAt σ x .i64 (a : Int)) (hy : IntAt σ y ik (n : Int)) (hn : n < 64) (hr : a / 2 ^ n = r) (hk : Kp (.s (.int .i64 r), ty) σ.h σ.u) :
    OPE P ⟨d, .binOp .shr t x y t2, ty, p, af, g⟩ σ Kp :=
  .pure (fun κ a' w hs => ⟨.int .i64 r, by
    subst hr
    simp only [execOp, hx.eval hs, hy.eval hs]
    have h1 : ¬ ((n : Int) < 0) := by omega
    have h2 : min n 64 = n := by omega
    have h3 : (a : Int).fdiv (2 ^ n) = ((a / 2 ^ n : Nat) : Int) := by
      rw [Int.fdiv_eq_ediv_of_nonneg _ (by have : (0 : Int) < 2 ^ n := Int.pow_pos (by omega); omega)]
      simp
    simp only [Sem.run_bind, run_eqGuard_int, Result.andThen_ok, binOp, Op.shift, if_neg h1, Int.toNat_natCast, IntKind.bits, h2, h3]
    rfl, VV_s_mk rfl⟩) hk
theorem OPE.quo {x y : Operand} {t t2 : TypeId} {i : IntKind} {m n q : Int} (hx : IntAt σ x i m) (hy : IntAt σ y i n) (hn : n ≠ 0) (hq : i.wrap (m.tdiv n) = q) (hk : Kp (.s (.int i q), ty) σ.h σ.u) :
    OPE P ⟨d, .binOp .quo t x y t2, ty, p, af, g⟩ σ Kp :=
  .pure (fun κ a' w hs => ⟨.int i q, by
    subst hq
    simp only [execOp, hx.eval hs, hy.eval hs, Sem.run_bind, run_eqGuard_int, Result.andThen_ok]
    simp [binOp, Op.intDiv, hn], VV_s_mk rfl⟩) hk
theorem OPE.rem {x y : Operand} {t t2 : TypeId} {i : IntKind} {m n q : Int} (hx : IntAt σ x i m) (hy : IntAt σ y i n) (hn : n ≠ 0) (hq : m.tmod n = q) (hk : Kp (.s (.int i q), ty) σ.h σ.u) :
    OPE P ⟨d, .binOp .rem t x y t2, ty, p, af, g⟩ σ Kp :=
  .pure (fun κ a' w hs => ⟨.int i q, by
    subst hq
    simp only [execOp, hx.eval hs, hy.eval hs, Sem.run_bind, run_eqGuard_int, Result.andThen_ok]
    simp [binOp, Op.intDiv, hn], VV_s_mk rfl⟩) hk
theorem quoN {a b : Nat} (h : a < 2 ^ 63) : IntKind.i64.wrap ((a : Int).tdiv b) = (a / b : Nat) := by
  rw [Int.tdiv_eq_ediv_of_nonneg (by omega), ← Int.natCast_ediv]
  exact wrapN (Nat.lt_of_le_of_lt (Nat.div_le_self _ _) h)
theorem modN {a b : Nat} : (a : Int).tmod b = (a % b : Nat) := by
  rw [Int.tmod_eq_emod_of_nonneg (by omega), ← Int.natCast_emod]
end Go.Am

/- A layer over the walk's rules. This text: nil tests; empty slices; an array that becomes a list; rows written in place (append, clear). -/
set_option linter.unusedVariables false
set_option linter.unusedSimpArgs false
namespace Go.Am
variable {P : Program} {σ : St}
variable {d : Option Nat} {ty : TypeId} {p : String} {af : Array Edge} {g : Option (Nat × Bool)} {Kp : X → List AO → (Tips) → Prop}

theorem ev_const (a : Act) (v : Value) : a.eval (.const v) = v := rfl
theorem OPE.nilCheck {k b : Nat} {path : List Nat} {pt : TypeId} (ha : lk σ.t k = some (.ptr b path, pt)) (hk : Kp (.ptr b path, pt) σ.h σ.u) : OPE P ⟨d, .nilCheck (.tmp k), ty, p, af, g⟩ σ Kp :=
  .pure (fun κ a w hs => by
    have hv := hs.eval ha
    obtain ⟨o', t', hbn, hw', hev⟩ := VV_ptr hv
    refine ⟨_, ?_, hev ▸ hv⟩
    simp only [execOp, hev]; rfl) hk
/-- A pointer to an object is not nil. -/
theorem OPE.eqNilP {k b : Nat} {path : List Nat} {pt t t2 te : TypeId} (ha : lk σ.t k = some (.ptr b path, pt)) (hu : P.underlying t = some (.pointer te)) (hk : Kp (.s (.bool false), ty) σ.h σ.u) : OPE P ⟨d, .binOp .eql t (.tmp k) (.const (.pointer none)) t2, ty, p, af, g⟩ σ Kp :=
  .pure (fun κ a w hs => by
    obtain ⟨o', t', hbn, hw', hev⟩ := VV_ptr (hs.eval ha)
    refine ⟨.bool false, ?_, VV_s_mk rfl⟩
    have hp : P.underlying t = some (.pointer (P.pointee t)) := by
      have h0 : P.pointee t = te := by unfold Program.pointee; rw [hu]
      rw [h0]; exact hu
    have h1 := run_eql_pointer_nil (P := P) w t (some ⟨κ.ι b, o', none⟩) hp
    have h2 : (eqGuard .eql t (.tmp k) (.const (.pointer none)) (.pointer (some ⟨κ.ι b, o', none⟩)) (.pointer none)).run P w = .ok () w := rfl
    simp only [execOp, hev, ev_const, Sem.run_bind, h2, Result.andThen_ok, h1]; rfl) hk
theorem run_eqInSliceNil (w : World) (d : Nat) (t e : TypeId) (a : Option Addr) (n c : Nat) (h : P.underlying t = some (.slice e)) : (Op.equalIn (d + 1) t (.slice a n c) (.slice none 0 0)).run P w = .ok a.isNone w := by
  cases a <;> simp [Op.equalIn, run_underlying h]
theorem run_eqlSliceNil (w : World) (t e : TypeId) (a : Option Addr) (n c : Nat) (h : P.underlying t = some (.slice e)) : (binOp .eql t (.slice a n c) (.slice none 0 0)).run P w = .ok (.bool a.isNone) w := by
  have : (Op.equal t (.slice a n c) (.slice none 0 0)).run P w = .ok a.isNone w := run_eqInSliceNil w 9999 t e a n c h
  simp only [binOp]
  simp [this]
/-- A list against nil: what it holds tells nothing, if it holds nothing. -/
theorem OPE.eqNilL {k : Nat} {xs : List T} {tag : Tag} {ts t e t2 : TypeId} {r : Bool} (ha : lk σ.t k = some (.lst xs tag, ts)) (hT : SameT P ts t) (hu : P.underlying t = some (.slice e)) (hz : szOf P e ≠ 0)
    (hr : (r = true ∧ tag = .nil) ∨ (r = false ∧ xs ≠ [])) (hk : Kp (.s (.bool r), ty) σ.h σ.u) : OPE P ⟨d, .binOp .eql t (.tmp k) (.const (.slice none 0 0)) t2, ty, p, af, g⟩ σ Kp :=
  .pure (fun κ a w hs => by
    obtain ⟨e1, A, c, us, q1, q2, q3, q4, q5⟩ := VV_lst (VV_same hT (hs.eval ha))
    rw [hu] at q1; cases q1
    have hA : A.isNone = r := by
      rcases hr with ⟨rfl, rfl⟩ | ⟨rfl, hx⟩
      · rw [q3.1]; rfl
      · obtain ⟨b, o, rfl, _⟩ := holds_some hz hx q4 q5; rfl
    refine ⟨.bool r, ?_, VV_s_mk rfl⟩
    have h1 := run_eqlSliceNil (P := P) w t e A xs.length c hu
    have h2 : (eqGuard .eql t (.tmp k) (.const (.slice none 0 0)) (.slice A xs.length c) (.slice none 0 0)).run P w = .ok () w := rfl
    simp only [execOp, q2, ev_const, Sem.run_bind, h2, Result.andThen_ok, h1, hA]; rfl) hk
/-- A list that may be nil or not: either answer may come. -/
theorem OPE.eqNilU {k : Nat} {xs : List T} {tag : Tag} {ts t e t2 : TypeId} (ha : lk σ.t k = some (.lst xs tag, ts)) (hT : SameT P ts t) (hu : P.underlying t = some (.slice e)) (hk : ∀ r, Kp (.s (.bool r), ty) σ.h σ.u) : OPE P ⟨d, .binOp .eql t (.tmp k) (.const (.slice none 0 0)) t2, ty, p, af, g⟩ σ Kp :=
  .run (fun κ a w hs => by
    obtain ⟨e1, A, c, us, q1, q2, q3, q4, q5⟩ := VV_lst (VV_same hT (hs.eval ha))
    rw [hu] at q1; cases q1
    have h1 := run_eqlSliceNil (P := P) w t e A xs.length c hu
    have h2 : (eqGuard .eql t (.tmp k) (.const (.slice none 0 0)) (.slice A xs.length c) (.slice none 0 0)).run P w = .ok () w := rfl
    refine ⟨.bool A.isNone, κ, w, (.s (.bool A.isNone), ty), σ.h, σ.u, ?_, .refl _ _ _, hs.wr, VV_s_mk rfl, hk _⟩
    simp only [execOp, q2, ev_const, Sem.run_bind, h2, Result.andThen_ok, h1]; rfl)

/-- An object is written no more. -/
theorem WR.dead {κ : K} {w : World} {h : List AO} {u : Tips} (H : WR P κ w h u) {b : Nat} {o : AO} {vs : List Value} {ce : TypeId} (hb : h[b]? = some o) (ho : o.ty ≠ .dead) (h3 : w.heap[κ.ι b]? = some (.cells vs.toArray ce (0, 0))) :
    Ext κ u w (κ.frozen (κ.ι b) vs) u w ∧ WR P (κ.frozen (κ.ι b) vs) w (h.set b ⟨.dead, .any⟩) u := by
  have hbl : b < h.length := (List.getElem?_eq_some_iff.1 hb).1
  have hbn : b < κ.n := by have := H.n; omega
  have hnone : ∀ j, κ.I (κ.ι b) j = none := fun j => by
    cases hI : κ.I (κ.ι b) j with
    | none => rfl
    | some v => exact absurd rfl (H.immo _ j v b _ hI hb ho)
  have hle : κ.Le (κ.frozen (κ.ι b) vs) := ⟨Nat.le_refl _, fun _ _ => rfl, fun _ _ => rfl, fun g j v hv => by
    show (if g = κ.ι b then _ else _) = _
    rw [if_neg (fun hg => by subst hg; rw [hnone] at hv; cases hv)]; exact hv, fun _ _ hv => hv⟩
  refine ⟨⟨hle, Nat.le_refl _, fun _ _ => rfl, rfl, rfl, rfl, Nat.le_refl _, fun _ _ _ _ => rfl, fun c q1 q2 => ?_, fun τ g o n c sz hu htp => .inr ⟨τ, o, n, c, sz, hu, htp⟩, fun g j v hv => ?_⟩, ?_⟩
  · have : c < κ.n := q2
    omega
  · have hv' : (if g = κ.ι b then vs[j]? else κ.I g j) = some v := hv
    by_cases hg : g = κ.ι b
    · exact .inr (.inr (.inl ⟨b, hbn, hg.symm⟩))
    · rw [if_neg hg] at hv'; exact .inl hv'
  · refine ⟨by rw [List.length_set]; exact H.n, fun c q hc => ?_, H.inj, fun g j v hv => ?_, fun g j v c q hv hc hq => ?_, fun τ hτ => ?_, H.fresh⟩
    · rw [List.getElem?_set] at hc
      by_cases hbc : b = c
      · subst hbc
        rw [if_pos rfl, if_pos hbl] at hc
        cases hc
        exact ⟨trivial, .inl rfl, vs, ce, h3, trivial⟩
      · rw [if_neg hbc] at hc
        obtain ⟨q1, q2, ws, ce', q3, q4⟩ := H.obj c q hc
        exact ⟨q1, q2, ws, ce', q3, q4.mono hle⟩
    · have hv' : (if g = κ.ι b then vs[j]? else κ.I g j) = some v := hv
      by_cases hg : g = κ.ι b
      · subst hg
        rw [if_pos rfl] at hv'
        simp only [World.cell?, h3]
        simpa using hv'
      · rw [if_neg hg] at hv'; exact H.imm g j v hv'
    · rw [List.getElem?_set] at hc
      by_cases hbc : b = c
      · subst hbc
        rw [if_pos rfl, if_pos hbl] at hc
        cases hc
        exact absurd rfl hq
      · rw [if_neg hbc] at hc
        have hv' : (if g = κ.ι b then vs[j]? else κ.I g j) = some v := hv
        by_cases hg : g = κ.ι b
        · subst hg
          have hcn : c < κ.n := by have := (List.getElem?_eq_some_iff.1 hc).1; have := H.n; omega
          exact fun hi => hbc (H.inj c b hcn hbn hi).symm
        · rw [if_neg hg] at hv'; exact H.immo g j v c q hv' hc hq
    · obtain ⟨g, o, n', c, sz, t1, t2, t3, t4, t5⟩ := H.tip τ hτ
      exact ⟨g, o, n', c, sz, t1, t2, fun j q1 q2 => by
        show (if g = κ.ι b then _ else _) = _
        rw [if_neg (fun hg => t4 b hbn hg.symm)]; exact t3 j q1 q2, t4, t5⟩

/-- The whole of an array as a slice: the object that holds it is written no more. -/
theorem OPE.sliceA (hP : WfP P) {k b off n : Nat} {path : List Nat} {pt s e : TypeId} {o : AO} {xs : List T} (ha : lk σ.t k = some (.ptr b path, pt)) (hb : σ.h[b]? = some o) (hw : walkO P o.ty path = some (off, s)) (hg : o.t.get path = some (.arr xs))
    (hs0 : s < P.types.size) (hus : P.underlying s = some (.array n e)) (hut : P.underlying ty = some (.slice e)) (hk : Kp (.lst xs .no, ty) (σ.h.set b ⟨.dead, .any⟩) σ.u) : OPE P ⟨d, .slice s (.tmp k) none none none, ty, p, af, g⟩ σ Kp :=
  .run fun κ a w hs => by
    obtain ⟨o', t', hbn, hw', hev⟩ := VV_ptr (hs.eval ha)
    obtain ⟨h1, h2, vs, ce, h3, h4⟩ := hs.wr.obj b o hb
    have hal : o.ty ≠ .dead := fun hd => by rw [hd] at hw; cases path <;> cases hw
    have hty := h2.resolve_left hal
    rw [hty, hw] at hw'
    cases hw'
    obtain ⟨us, r1, r2⟩ : ∃ us, us = (vs.drop off).take (szOf P s) ∧ VT P κ (.arr xs) s us := ⟨_, rfl, (VO_get hP h1 h4 hw hg).1⟩
    simp only [VT] at r2
    obtain ⟨n', e', u1, u2, u3, u4, u5⟩ := r2
    rw [hus] at u1; cases u1
    obtain ⟨e1, e2⟩ := hs.wr.dead hb hal h3
    refine ⟨.slice (some ⟨κ.ι b, off, none⟩) n n, _, w, (.lst xs .no, ty), _, _, ?_, e1, e2, ?_, hk⟩
    · have he := (hP.arr s n e hs0 hus).1
      simp only [execOp, hev, Instr.sliceAt, Sem.run_bind, Go.run_underlying hus, Result.andThen_ok, Instr.sureAddr, Sem.run_pure, Option.map_none, Instr.sliceBounds, run_sizeOf hP he]
      simp [Addr.add]
    · have := VV_lst_mk (P := P) (κ := κ.frozen (κ.ι b) vs) (xs := xs) (tag := .no) (n := n) (c := n) (A := some ⟨κ.ι b, off, none⟩) hut u2.symm (Nat.le_refl _) (VA_mono e1.le _ _ _ u5) (.inr ⟨_, _, rfl, fun j v hj => by
        rw [r1, part_get] at hj
        split at hj
        · show (if κ.ι b = κ.ι b then _ else _) = _
          rw [if_pos rfl]; exact hj
        · cases hj⟩)
      exact this

/-- The same, of an array that does not change. -/
theorem OPE.sliceE (hP : WfP P) {k n : Nat} {pt s e : TypeId} {xs : List T} (ha : lk σ.t k = some (.ep s (.arr xs), pt))
    (hs0 : s < P.types.size) (hus : P.underlying s = some (.array n e)) (hut : P.underlying ty = some (.slice e)) (hk : Kp (.lst xs .no, ty) σ.h σ.u) : OPE P ⟨d, .slice s (.tmp k) none none none, ty, p, af, g⟩ σ Kp :=
  .pure (fun κ a w hs => by
    obtain ⟨b, o, us, q1, q2, hev⟩ := VV_ep (hs.eval ha)
    simp only [VT] at q1
    obtain ⟨n', e', u1, u2, u3, u4, u5⟩ := q1
    rw [hus] at u1; cases u1
    have he := (hP.arr s n e hs0 hus).1
    refine ⟨.slice (some ⟨b, o, none⟩) n n, ?_, VV_lst_mk hut u2.symm (Nat.le_refl _) u5 (.inr ⟨_, _, rfl, q2⟩)⟩
    simp only [execOp, hev, Instr.sliceAt, Sem.run_bind, Go.run_underlying hus, Result.andThen_ok, Instr.sureAddr, Sem.run_pure, Option.map_none, Instr.sliceBounds, run_sizeOf hP he]
    simp [Addr.add]) hk

theorem WR.splice {κ : K} {w : World} {h : List AO} {u : Tips} (H : WR P κ w h u) {b off : Nat} {o : AO} {z : T} {vs us : List Value} {e : TypeId} (hb : h[b]? = some o) (hal : o.ty ≠ .dead) (h3 : w.heap[κ.ι b]? = some (.cells vs.toArray e (0, 0))) (r1 : VO P κ z o.ty (splice vs off us)) :
    Ext κ u w κ u (w.setRow (κ.ι b) (Am.splice vs off us).toArray) ∧ WR P κ (w.setRow (κ.ι b) (Am.splice vs off us).toArray) (h.set b ⟨o.ty, z⟩) u := by
  obtain ⟨h1, h2, _⟩ := H.obj b o hb
  have hbn : b < κ.n := by have := (List.getElem?_eq_some_iff.1 hb).1; have := H.n; omega
  refine ⟨⟨.refl κ, Nat.le_refl _, fun _ _ => rfl, rfl, rfl, rfl, by simp, fun g hg hf _ => setRow_other _ _ _ _ (fun e => hf b hbn e.symm), fun b h1 h2 => by omega, fun τ g o n c sz hu ht => .inr ⟨τ, o, n, c, sz, hu, ht⟩, fun g o v hv => .inl hv⟩, ?_⟩
  refine ⟨by simp [H.n], fun c q hc => ?_, H.inj, fun g i v hv => ?_, fun g i v c q hv hc hq => ?_, fun τ hu => ?_, H.fresh⟩
  · have hcn : c < κ.n := by have := (List.getElem?_eq_some_iff.1 hc).1; simp at this; have := H.n; omega
    rw [List.getElem?_set] at hc
    by_cases e1 : b = c
    · subst e1
      have : b < h.length := by have := H.n; omega
      rw [if_pos rfl, if_pos this] at hc
      cases hc
      refine ⟨h1, h2, Am.splice vs off us, e, ?_, r1⟩
      exact setRow_heap w _ _ _ _ _ h3
    · rw [if_neg e1] at hc
      obtain ⟨q1, q2, vs', e', q3, q4⟩ := H.obj c q hc
      refine ⟨q1, q2, vs', e', ?_, q4⟩
      rw [setRow_other _ _ _ _ (fun e => e1 (H.inj b c hbn hcn e.symm))]; exact q3
  · rw [cell_setRow_other _ _ _ _ (fun e => H.immo g i v b o hv hb hal e.symm)]; exact H.imm g i v hv
  · rw [List.getElem?_set] at hc
    by_cases e1 : b = c
    · subst e1; exact H.immo g i v b o hv hb hal
    · rw [if_neg e1] at hc; exact H.immo g i v c q hv hc hq
  · obtain ⟨g, o', n, c, sz, t1, ⟨cs, e', t2, t3⟩, t4, t5, t6⟩ := H.tip τ hu
    exact ⟨g, o', n, c, sz, t1, ⟨cs, e', by rw [setRow_other _ _ _ _ (fun e => t5 b hbn e.symm)]; exact t2, t3⟩, t4, t5, t6⟩
/-- Elements in the place of elements. -/
def put2 (xs : List T) (i : Nat) (ys : List T) : List T := xs.take i ++ ys ++ xs.drop (i + ys.length)
theorem VA_put2 {κ : K} {xs ys : List T} {e : TypeId} {vs us : List Value} {i : Nat} (h : VA P κ xs e vs) (k : VA P κ ys e us) : VA P κ (put2 xs i ys) e (splice vs (i * szOf P e) us) := by
  unfold put2 splice
  rw [VA_len k, ← Nat.add_mul]
  exact VA_append (VA_append (VA_take i h) k) (VA_drop _ h)
theorem put2_len {xs ys : List T} {i : Nat} (h : i + ys.length ≤ xs.length) : (put2 xs i ys).length = xs.length := by
  unfold put2; simp; omega
theorem VO_put2 {κ : K} {xs ys : List T} {e : TypeId} {n i : Nat} {vs us : List Value} (h : VO P κ (.arr xs) (.row e n) vs) (k : VA P κ ys e us) (ho : ∀ v ∈ us, one v = true) (hi : i + ys.length ≤ n) : VO P κ (.arr (put2 xs i ys)) (.row e n) (splice vs (i * szOf P e) us) := by
  obtain ⟨xs', hx, h4, h5, h6, h7⟩ := h
  cases hx
  have hm : i * szOf P e + us.length ≤ vs.length := by rw [VA_len k, h5, ← Nat.add_mul]; exact Nat.mul_le_mul_right _ hi
  refine ⟨_, rfl, by rw [put2_len (by omega)]; exact h4, by rw [splice_length hm]; exact h5, fun v hv => ?_, VA_put2 h7 k⟩
  unfold splice at hv
  simp only [List.mem_append] at hv
  rcases hv with (hv | hv) | hv
  · exact h6 v (List.mem_of_mem_take hv)
  · exact ho v hv
  · exact h6 v (List.mem_of_mem_drop hv)
/-- Behind a row's part, in place: a part of the same row. -/
theorem OPE.appendW (hP : WfP P) {k k2 b off len cap off2 len2 cap2 n : Nat} {xs : List T} {t e : TypeId} {i : TypeInfo} (ha : lk σ.t k = some (.vw b off len cap, t)) (hb : lk σ.t k2 = some (.vw b off2 len2 cap2, t)) (hr : σ.h[b]? = some ⟨.row e n, .arr xs⟩)
    (hu : P.underlying t = some (.slice e)) (hi : P.info? e = some i) (hroom : len + len2 ≤ cap) (hk : Kp (.vw b off (len + len2) cap, t) (σ.h.set b ⟨.row e n, .arr (put2 xs (off + len) ((xs.drop off2).take len2))⟩) σ.u) :
    OPE P ⟨d, .call { callee := .builtin .append, args := #[.tmp k, .tmp k2], argTypes := #[t, t] }, ty, p, af, g⟩ σ Kp :=
  .run fun κ a w hs => by
    obtain ⟨e1, n1, q1, q2, q3, q4, q5, q6⟩ := VV_vw (hs.eval ha)
    rw [hu] at q1; cases q1
    obtain ⟨e2, n2, r1, r2, r3, r4, r5, r6⟩ := VV_vw (hs.eval hb)
    rw [hu] at r1; cases r1
    obtain ⟨h1, h2, vs, ce, h3, h4⟩ := hs.wr.obj b _ hr
    have hty := h2.resolve_left (by simp)
    rw [hty] at q3 r3
    cases q3; cases r3
    have hsz : i.size = szOf P e := by unfold szOf; rw [hi]
    have h4' := h4
    obtain ⟨xs', hx, s4, s5, s6, s7⟩ := h4'
    cases hx
    have hva := VA_take len2 (VA_drop off2 s7)
    have hlen : ((xs.drop off2).take len2).length = len2 := by simp; omega
    have hul := VA_len hva
    rw [hlen] at hul
    have hone : ∀ v ∈ ((vs.drop (off2 * szOf P e)).take (len2 * szOf P e)), one v = true := fun v hv => s6 v (list_part_mem hv)
    have r7 := VO_put2 (i := off + len) h4 hva hone (by rw [hlen]; omega)
    obtain ⟨e3, e4⟩ := hs.wr.splice hr (by simp) h3 r7
    have hcell : ∀ j v, vs[j]? = some v → w.cell? ⟨κ.ι b, j, none⟩ = some v := fun j v hj => by
      simp only [World.cell?, h3]; simpa using hj
    have hf := run_firstCells_some (P := P) w i.size len2 ⟨κ.ι b, off2 * szOf P e, none⟩ len2 cap2 _ (by rw [hsz]; exact hul) (fun j v hj => by
      rw [Addr.add_mid]
      rw [part_get] at hj
      split at hj
      · exact hcell _ _ hj
      · cases hj)
    have hfit : (off + len) * szOf P e + (len2 * szOf P e) ≤ vs.length := by rw [s5, ← Nat.add_mul]; exact Nat.mul_le_mul_right _ (by omega)
    have hst := run_storeCells_at (P := P) (κ.ι b) ((off + len) * szOf P e) ce _ 0 vs.toArray w h3 (by simp only [Nat.add_zero]; rw [hul]; simpa using hfit) (fun v hv => by rw [one_eq]; exact hone v hv)
    simp only [Nat.add_zero] at hst
    refine ⟨.slice (some ⟨κ.ι b, off * szOf P e, none⟩) (len + len2) cap, κ, _, (.vw b off (len + len2) cap, t), _, _, run_appendOp q6 r6 (w' := w.setRow (κ.ι b) (Am.splice vs ((off + len) * szOf P e) _).toArray) ?_, e3, e4, VV_vw_mk hu q2 hty q4 hroom, hk⟩
    have hoff : off * szOf P e + len * szOf P e = (off + len) * szOf P e := (Nat.add_mul _ _ _).symm
    rw [← hsz] at hst hf hoff ⊢
    simp [Builtin.append_, run_underlying hu, sizeOf, typeInfo, hi, Builtin.lenOf, hroom, hf, Addr.add_mid, hoff, hst, Am.splice]
/-- Behind a row's part, in place: a list. -/
theorem OPE.appendVI (hP : WfP P) {k b off len cap n : Nat} {o2 : Operand} {xs ys : List T} {tag2 : Tag} {t e : TypeId} {i : TypeInfo} (ha : lk σ.t k = some (.vw b off len cap, t)) (hb : ArgAt P σ o2 t (.lst ys tag2)) (hr : σ.h[b]? = some ⟨.row e n, .arr xs⟩)
    (hu : P.underlying t = some (.slice e)) (hi : P.info? e = some i) (hz : szOf P e ≠ 0) (hy : ys ≠ []) (hcy : ∀ y ∈ ys, y.cell = true) (hroom : len + ys.length ≤ cap) (hk : Kp (.vw b off (len + ys.length) cap, t) (σ.h.set b ⟨.row e n, .arr (put2 xs (off + len) ys)⟩) σ.u) :
    OPE P ⟨d, .call { callee := .builtin .append, args := #[.tmp k, o2], argTypes := #[t, t] }, ty, p, af, g⟩ σ Kp :=
  .run fun κ a w hs => by
    obtain ⟨e1, n1, q1, q2, q3, q4, q5, q6⟩ := VV_vw (hs.eval ha)
    rw [hu] at q1; cases q1
    obtain ⟨e2, B, c2, us, r1, r2, r3, r4, r5⟩ := VV_lst (hb.eval hs)
    rw [hu] at r1; cases r1
    obtain ⟨h1, h2, vs, ce, h3, h4⟩ := hs.wr.obj b _ hr
    have hty := h2.resolve_left (by simp)
    rw [hty] at q3
    cases q3
    have hsz : i.size = szOf P e := by unfold szOf; rw [hi]
    have h4' := h4
    obtain ⟨xs', hx, s4, s5, s6, s7⟩ := h4'
    cases hx
    have hul := VA_len r4
    have hone := VA_ones hcy r4
    have r7 := VO_put2 (i := off + len) h4 r4 hone (by omega)
    obtain ⟨e3, e4⟩ := hs.wr.splice hr (by simp) h3 r7
    obtain ⟨bb, o, rfl, hB⟩ := holds_some hz hy r4 r5
    have hf := run_firstCells_some (P := P) w i.size ys.length ⟨bb, o, none⟩ ys.length c2 us (by rw [hsz]; exact hul) (fun j v hj => by rw [Addr.add_mid]; exact hs.wr.imm _ _ _ (hB j v hj))
    have hfit : (off + len) * szOf P e + (ys.length * szOf P e) ≤ vs.length := by rw [s5, ← Nat.add_mul]; exact Nat.mul_le_mul_right _ (by omega)
    have hst := run_storeCells_at (P := P) (κ.ι b) ((off + len) * szOf P e) ce us 0 vs.toArray w h3 (by simp only [Nat.add_zero]; rw [hul]; simpa using hfit) (fun v hv => by rw [one_eq]; exact hone v hv)
    simp only [Nat.add_zero] at hst
    refine ⟨.slice (some ⟨κ.ι b, off * szOf P e, none⟩) (len + ys.length) cap, κ, _, (.vw b off (len + ys.length) cap, t), _, _, run_appendOp q6 r2 (w' := w.setRow (κ.ι b) (Am.splice vs ((off + len) * szOf P e) us).toArray) ?_, e3, e4, VV_vw_mk hu q2 hty q4 hroom, hk⟩
    have hoff : off * szOf P e + len * szOf P e = (off + len) * szOf P e := (Nat.add_mul _ _ _).symm
    rw [← hsz] at hst hoff ⊢
    simp [Builtin.append_, run_underlying hu, sizeOf, typeInfo, hi, Builtin.lenOf, hroom, hf, Addr.add_mid, hoff, hst, Am.splice]
/-- Behind a row's part that has no room: a list of its own. -/
theorem OPE.appendVG (hP : WfP P) {k b off len cap n : Nat} {o2 : Operand} {xs ys : List T} {tag2 : Tag} {t e : TypeId} {i : TypeInfo} {x : T} (ha : lk σ.t k = some (.vw b off len cap, t)) (hb : ArgAt P σ o2 t (.lst ys tag2)) (hr : σ.h[b]? = some ⟨.row e n, .arr xs⟩)
    (hu : P.underlying t = some (.slice e)) (hi : P.info? e = some i) (hzo : ZeroOk P e x) (hz : szOf P e ≠ 0) (hy : ys ≠ []) (hroom : cap < len + ys.length) (h63 : len + ys.length ≤ 9223372036854775807) (hbig : (len + ys.length) * i.bytes ≤ 140737488355328)
    (hk : Kp (.lst ((xs.drop off).take len ++ ys) (.tip σ.u.m), t) σ.h σ.u.more) :
    OPE P ⟨d, .call { callee := .builtin .append, args := #[.tmp k, o2], argTypes := #[t, t] }, ty, p, af, g⟩ σ Kp :=
  .run fun κ a w hs => by
    obtain ⟨e1, n1, q1, q2, q3, q4, q5, q6⟩ := VV_vw (hs.eval ha)
    rw [hu] at q1; cases q1
    obtain ⟨e2, B, c2, vs, r1, r2, r3, r4, r5⟩ := VV_lst (hb.eval hs)
    rw [hu] at r1; cases r1
    obtain ⟨h1, h2, cs, ce, h3, h4⟩ := hs.wr.obj b _ hr
    have hty := h2.resolve_left (by simp)
    rw [hty] at q3
    cases q3
    obtain ⟨xs', hx, s4, s5, s6, s7⟩ := h4
    cases hx
    obtain ⟨_, qc, i', z, z1, z2, z3, z4⟩ := hzo
    rw [hi] at z1
    cases z1
    have hsz : i.size = szOf P e := by unfold szOf; rw [hi]
    have hzs : z.cells.size = szOf P e := by simpa using z3
    have hlen : ((xs.drop off).take len).length = len := by simp; omega
    have hva0 := VA_take len (VA_drop off s7)
    have hul := VA_len hva0
    rw [hlen] at hul
    obtain ⟨bb, o, rfl, hB⟩ := holds_some hz hy r4 r5
    have hyl : 0 < ys.length := List.length_pos_iff.2 hy
    have hnews : ∀ j v, vs[j]? = some v → w.cell? ((⟨bb, o, none⟩ : Addr).add j) = some v := fun j v hj => by
      rw [Addr.add_mid]; exact hs.wr.imm _ _ _ (hB j v hj)
    have hvl : vs.length = ys.length * i.size := by rw [hsz]; exact VA_len r4
    have hold : ∀ j v, ((cs.drop (off * szOf P e)).take (len * szOf P e))[j]? = some v → w.cell? ((⟨κ.ι b, off * szOf P e, none⟩ : Addr).add j) = some v := fun j v hj => by
      rw [Addr.add_mid]
      rw [part_get] at hj
      split at hj
      · simp only [World.cell?, h3]; simpa using hj
      · cases hj
    have hfit := growslice_fits hroom hbig
    have hrun := run_append_grow (P := P) w t ty e i z hu hi z2 ⟨κ.ι b, off * szOf P e, none⟩ len cap _ (by rw [hsz]; exact hul) hold ⟨bb, o, none⟩ ys.length c2 vs hvl hnews hroom (by omega) hfit
    have hva := VA_append hva0 r4
    have hcl : (len + ys.length) ≤ grownCap w (len + ys.length) cap e := grownCap_ge _ _ _ _
    have hrest : (Builtin.zeroCells z.cells (grownCap w (len + ys.length) cap e - (len + ys.length))).toList.length = (grownCap w (len + ys.length) cap e - (len + ys.length)) * szOf P e := by simp [size_zeroCells, hzs]
    obtain ⟨e3, e4, e5⟩ := hs.wr.drew.row (((cs.drop (off * szOf P e)).take (len * szOf P e)) ++ vs) (Builtin.zeroCells z.cells (grownCap w (len + ys.length) cap e - (len + ys.length))).toList e (len + ys.length) (grownCap w (len + ys.length) cap e) (szOf P e) (by rw [VA_len hva, List.length_append, hlen]) (by rw [hrest, VA_len hva, List.length_append, hlen, ← Nat.add_mul]; exact Nat.mul_le_mul_right _ (by omega))
    have e6 := (Ext.drew κ σ.u w).trans e3
    refine ⟨.slice (some ⟨w.heap.size, 0, none⟩) (len + ys.length) (grownCap w (len + ys.length) cap e), _, _, (.lst ((xs.drop off).take len ++ ys) (.tip σ.u.m), t), σ.h, _, run_appendOp q6 r2 ?_, e6, e4, ?_, hk⟩
    · rw [hrun]
      congr 3
      simp
    · exact VV_lst_mk hu (by rw [List.length_append, hlen]) (show _ ∧ _ from ⟨hcl, w.heap.size, 0, rfl, if_pos rfl⟩) (VA_mono e3.le _ _ _ hva) (.inr ⟨_, _, rfl, e5⟩)
theorem zeroCells_VA (κ : K) {e : TypeId} {x : T} {z : Value} {c : Nat} (hz : z.cells.toList.length = szOf P e) (h0 : szOf P e ≠ 0) (hv : VT P κ x e z.cells.toList) : VA P κ (List.replicate c x) e (Builtin.zeroCells z.cells c).toList := by
  have := made_VA κ (c := c) hz h0 hv
  have hs : z.cells.size = szOf P e := by simpa using hz
  rw [← hs] at this; exact this
/-- A row's part is cleared. -/
theorem OPE.clearV (hP : WfP P) {k b off len cap n : Nat} {xs : List T} {x : T} {t ts e : TypeId} (ha : lk σ.t k = some (.vw b off len cap, ts)) (hT : SameT P ts t) (hr : σ.h[b]? = some ⟨.row e n, .arr xs⟩)
    (hu : P.underlying t = some (.slice e)) (hzo : ZeroOk P e x) (hz : szOf P e ≠ 0) (hl : len ≠ 0) (hu0 : P.underlying ty = some (.tuple #[])) (hk : Kp (.tup [], ty) (σ.h.set b ⟨.row e n, .arr (put2 xs off (List.replicate len x))⟩) σ.u) :
    OPE P ⟨d, .call { callee := .builtin .clear, args := #[.tmp k], argTypes := #[t] }, ty, p, af, g⟩ σ Kp :=
  .run fun κ a w hs => by
    obtain ⟨e1, n1, q1, q2, q3, q4, q5, q6⟩ := VV_vw (VV_same hT (hs.eval ha))
    rw [hu] at q1; cases q1
    obtain ⟨h1, h2, vs, ce, h3, h4⟩ := hs.wr.obj b _ hr
    have hty := h2.resolve_left (by simp)
    rw [hty] at q3
    cases q3
    obtain ⟨hlt, qc, i, z, z1, z2, z3, z4⟩ := hzo
    have hsz : i.size = szOf P e := by unfold szOf; rw [z1]
    have hva := zeroCells_VA κ (c := len) z3 hz (z4 κ).1
    have hone := VA_ones (fun y hy => by rw [(List.mem_replicate.1 hy).2]; exact qc) hva
    have hul := VA_len hva
    rw [List.length_replicate] at hul
    have r7 := VO_put2 (i := off) h4 hva hone (by rw [List.length_replicate]; omega)
    obtain ⟨e3, e4⟩ := hs.wr.splice hr (by simp) h3 r7
    obtain ⟨xs', hx, s4, s5, s6, s7⟩ := h4
    cases hx
    have hfit : off * szOf P e + (len * szOf P e) ≤ vs.length := by rw [s5, ← Nat.add_mul]; exact Nat.mul_le_mul_right _ (by omega)
    have hv0 : VV P κ (.tup []) ty (.tuple #[]) := ⟨by simp only [VT]; exact ⟨_, [], hu0, rfl, by simp only [VL]⟩, rfl⟩
    have hop : ∀ {w' : World} {v : Value}, (Builtin.clear_ #[t] ty #[.slice (some ⟨κ.ι b, off * szOf P e, none⟩) len cap]).run P w = .ok v w' → (execOp a.eval ⟨d, .call { callee := .builtin .clear, args := #[.tmp k], argTypes := #[t] }, ty, p, af, g⟩).run P w = .ok (.value v) w' := fun hh => by
      simp only [execOp, resolve, Sem.run_bind, Sem.run_pure, Result.andThen_ok, invoke, builtin, List.map_toArray, List.map_cons, List.map_nil, q6, hh]
    have hst := run_storeCells_at (P := P) (κ.ι b) (off * szOf P e) ce _ 0 vs.toArray w h3 (by simp only [Nat.add_zero]; rw [hul]; simpa using hfit) (fun v hv => by rw [one_eq]; exact hone v hv)
    simp only [Nat.add_zero] at hst
    cases len with
    | zero => exact absurd rfl hl
    | succ m =>
      exact ⟨.tuple #[], κ, _, (.tup [], ty), _, _, hop (w' := w.setRow (κ.ι b) (Am.splice vs (off * szOf P e) _).toArray) (by
        simp [Builtin.clear_, run_underlying hu, zeroValue, typeInfo, z1, z2, hst, Am.splice]), e3, e4, hv0, hk⟩
end Go.Am
