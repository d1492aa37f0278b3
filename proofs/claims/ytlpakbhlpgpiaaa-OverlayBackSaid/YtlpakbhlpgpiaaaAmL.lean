/- A layer over the walk's rules. This text: structs and arrays held against each other; the lesser of two numbers. -/
import Derived.Test.YtlpakbhlpgpiaaaAmC
import Derived.Laws.StructEq
set_option linter.unusedVariables false
set_option linter.unusedSimpArgs false
namespace Go.Am
variable {P : Program} {σ : St}
variable {d : Option Nat} {ty : TypeId} {p : String} {af : Array Edge} {g : Option (Nat × Bool)} {Kp : X → List AO → (Tips) → Prop}

def EqT (P : Program) (n : Nat) (ty : TypeId) (x y : T) (b : Bool) : Prop := ∀ κ vx vy w, VV P κ x ty vx → VV P κ y ty vy → (Op.equalIn n ty vx vy).run P w = .ok b w
theorem EqT.int {n : Nat} {k i : IntKind} {a b : Int} (hu : P.underlying ty = some (.int k)) : EqT P (n + 1) ty (.s (.int i a)) (.s (.int i b)) (decide (a = b)) := fun κ vx vy w hx hy => by
  rw [VV_s hx, VV_s hy, run_equalIn_int w n ty i k a b hu]
  congr 1
theorem EqT.bool {n : Nat} {a b : Bool} (hu : P.underlying ty = some .bool) : EqT P (n + 1) ty (.s (.bool a)) (.s (.bool b)) (a == b) := fun κ vx vy w hx hy => by
  rw [VV_s hx, VV_s hy, run_equalIn_bool' w n ty a b hu]

theorem run_part (hP : WfP P) {κ : K} {x : T} {t : TypeId} {cells : List Value} {off : Nat} (w : World) (ht : t < P.types.size) (hv : VT P κ x t ((cells.drop off).take (szOf P t))) (hg : x.aggB = aggT P t) (hu : (P.underlying t).isSome = true) (hl : off + szOf P t ≤ cells.length) :
    ∃ v, (part t cells.toArray off).run P w = .ok v w ∧ VV P κ x t v := by
  obtain ⟨dd, hdd⟩ := Option.isSome_iff_exists.1 hu
  unfold part
  simp only [Sem.run_bind, run_isAgg hdd, Result.andThen_ok]
  cases hagg : aggT P t with
  | true =>
    refine ⟨.agg (cells.toArray.extract off (off + szOf P t)), ?_, ?_⟩
    · simp only [if_true, Sem.run_bind, run_sizeOf hP ht, Result.andThen_ok, Sem.run_pure]
    · refine ⟨?_, by rw [hg, hagg]; rfl⟩
      have : (Value.agg (cells.toArray.extract off (off + szOf P t))).cells.toList = (cells.drop off).take (szOf P t) := by
        simp [Value.cells, List.extract_eq_take_drop]
      rw [this]; exact hv
  | false =>
    obtain ⟨v, h1, h2⟩ := VT_single (by rw [hg, hagg]) hv
    have h3 : cells[off]? = some v := by
      have := congrArg (·[0]?) h1
      simp only [part_get] at this
      have h4 : szOf P t = 1 := by
        have := congrArg List.length h1
        simp at this; omega
      simpa [h4] using this
    refine ⟨v, ?_, h2⟩
    simp [h3]

inductive EqFs (P : Program) (n : Nat) : List Field → List T → List T → Bool → Prop where
  | nil : EqFs P n [] [] [] true
  | cons {f : Field} {fs : List Field} {x y : T} {xs ys : List T} {b1 b2 : Bool} (hn : (f.name == "_") = false) (hx : x.aggB = aggT P f.type) (hy : y.aggB = aggT P f.type) (hu : (P.underlying f.type).isSome = true) (h : EqT P n f.type x y b1) (k : EqFs P n fs xs ys b2) : EqFs P n (f :: fs) (x :: xs) (y :: ys) (b1 && b2)
theorem EqFs.run (hP : WfP P) {κ : K} {n : Nat} {cx cy : List Value} {m : Nat} (w : World) (hlx : cx.length = m) (hly : cy.length = m) : ∀ {fs : List Field} {xs ys : List T} {b : Bool}, EqFs P n fs xs ys b → VF P κ xs fs cx → VF P κ ys fs cy → (∀ f ∈ fs, f.type < P.types.size ∧ f.offset + szOf P f.type ≤ m) →
    (Op.eqFields n cx.toArray cy.toArray fs).run P w = .ok b w
  | _, _, _, _, .nil => fun _ _ _ => rfl
  | _, _, _, _, .cons (f := f) hn hx hy hu h k => fun h1 h2 hf => by
    simp only [VF] at h1 h2
    obtain ⟨q1, q2⟩ := hf f (.head _)
    obtain ⟨va, r1, r2⟩ := run_part hP w q1 h1.1 hx hu (by omega)
    obtain ⟨vb, r3, r4⟩ := run_part hP w q1 h2.1 hy hu (by omega)
    have hne : f.name ≠ "_" := by simpa using hn
    rename_i b1 b2
    simp only [Op.eqFields, if_pos hne, Sem.run_bind, r1, r3, Result.andThen_ok, h κ va vb w r2 r4]
    cases b1 with
    | false => rfl
    | true =>
      simp only [Bool.not_true, Bool.false_eq_true, if_false, Bool.true_and]
      exact k.run hP w hlx hly h1.2 h2.2 fun f hf' => hf f (.tail _ hf')
theorem EqT.st (hP : WfP P) {n : Nat} {fs : Array Field} {xs ys : List T} {b : Bool} (hty : ty < P.types.size) (hu : P.underlying ty = some (.struct fs)) (hs : P.stoodInHeld ty = false) (h : EqFs P n fs.toList xs ys b) : EqT P (n + 1) ty (.st xs) (.st ys) b := fun κ vx vy w hx hy => by
  obtain ⟨cx, rfl, h1⟩ := VV_cells rfl hx
  obtain ⟨cy, rfl, h2⟩ := VV_cells rfl hy
  have hfs : P.fieldsOf ty = fs := by simp [Program.fieldsOf, hu]
  rw [run_equalIn_struct w n ty _ _ (by rw [hfs]; exact hu) hs, hfs]
  simp only [VT] at h1 h2
  obtain ⟨f1, a1, a2, a3, a4⟩ := h1
  obtain ⟨f2, b1, b2, b3, b4⟩ := h2
  rw [hu] at a1 b1
  cases a1
  cases b1
  exact h.run hP w a2 b2 a4 b4 fun f hf => by
    obtain ⟨i, hi⟩ := List.mem_iff_getElem?.1 hf
    exact hP.field ty fs hty hu i f (by simpa using hi)

theorem OPE.eqT {x y : Operand} {t t2 : TypeId} {a b : T} {r : Bool} (hx : ArgAt P σ x t a) (hy : ArgAt P σ y t b) (ha : a.aggB = true) (hb : b.aggB = true) (hG : P.eqGuardType P.depth t = false) (hE : EqT P 10000 t a b r) (hk : Kp (.s (.bool r), ty) σ.h σ.u) :
    OPE P ⟨d, .binOp .eql t x y t2, ty, p, af, g⟩ σ Kp :=
  .pure (fun κ a' w hs => by
    obtain ⟨cx, e1, h1⟩ := VV_cells ha (hx.eval hs)
    obtain ⟨cy, e2, h2⟩ := VV_cells hb (hy.eval hs)
    have hE' := hE κ _ _ w (hx.eval hs) (hy.eval hs)
    rw [e1, e2] at hE'
    refine ⟨.bool r, ?_, VV_s_mk rfl⟩
    simp only [execOp, e1, e2, Sem.run_bind, run_eqGuard_agg w _ t x y _ _ hG, Result.andThen_ok, run_eql_struct, hE']
    rfl) hk
theorem OPE.neT {x y : Operand} {t t2 : TypeId} {a b : T} {r : Bool} (hx : ArgAt P σ x t a) (hy : ArgAt P σ y t b) (ha : a.aggB = true) (hb : b.aggB = true) (hG : P.eqGuardType P.depth t = false) (hE : EqT P 10000 t a b r) (hk : Kp (.s (.bool (!r)), ty) σ.h σ.u) :
    OPE P ⟨d, .binOp .neq t x y t2, ty, p, af, g⟩ σ Kp :=
  .pure (fun κ a' w hs => by
    obtain ⟨cx, e1, h1⟩ := VV_cells ha (hx.eval hs)
    obtain ⟨cy, e2, h2⟩ := VV_cells hb (hy.eval hs)
    have hE' := hE κ _ _ w (hx.eval hs) (hy.eval hs)
    rw [e1, e2] at hE'
    refine ⟨.bool (!r), ?_, VV_s_mk rfl⟩
    simp only [execOp, e1, e2, Sem.run_bind, run_eqGuard_agg w _ t x y _ _ hG, Result.andThen_ok, run_neq_struct, hE']
    rfl) hk
theorem OPE.min2 {x y : Operand} {ats : Array TypeId} {i : IntKind} {m n : Int} (hx : IntAt σ x i m) (hy : IntAt σ y i n) (hk : Kp (.s (.int i (if n < m then n else m)), ty) σ.h σ.u) :
    OPE P ⟨d, .call { callee := .builtin .min, args := #[x, y], argTypes := ats }, ty, p, af, g⟩ σ Kp :=
  .pure (fun κ a w hs => by
    refine ⟨.int i (if n < m then n else m), ?_, VV_s_mk rfl⟩
    simp [execOp, resolve, invoke, builtin, Builtin.min_, Builtin.min2, hx.eval hs, hy.eval hs, Sem.run_bind]) hk
theorem OPE.max2 {x y : Operand} {ats : Array TypeId} {i : IntKind} {m n : Int} (hx : IntAt σ x i m) (hy : IntAt σ y i n) (hk : Kp (.s (.int i (if m < n then n else m)), ty) σ.h σ.u) :
    OPE P ⟨d, .call { callee := .builtin .max, args := #[x, y], argTypes := ats }, ty, p, af, g⟩ σ Kp :=
  .pure (fun κ a w hs => by
    refine ⟨.int i (if m < n then n else m), ?_, VV_s_mk rfl⟩
    simp [execOp, resolve, invoke, builtin, Builtin.max_, Builtin.max2, hx.eval hs, hy.eval hs, Sem.run_bind]) hk

/-- Parts put into a struct or an array. -/
inductive PutsAt (P : Program) (σ : St) (t : TypeId) : List (Nat × Operand) → T → T → Prop where
  | nil {x : T} : PutsAt P σ t [] x x
  | cons {i off : Nat} {o : Operand} {ft : TypeId} {x y z r : T} {ps : List (Nat × Operand)} (hw : stepPath P t i = some (off, ft)) (h : ArgAt P σ o ft x) (hc : x.cell = true) (hsz : x.aggB = true ∨ szOf P ft = 1) (hp : y.put [i] x = some z) (k : PutsAt P σ t ps z r) : PutsAt P σ t ((i, o) :: ps) y r
theorem fill_puts (hP : WfP P) {κ : K} {a : Act} {w : World} (hs : SR P κ σ a w) {t : TypeId} (ht : t < P.types.size) (place : Nat → Option (Nat × Nat)) (hpl : ∀ i off ft, stepPath P t i = some (off, ft) → place i = some (off, szOf P ft)) :
    ∀ {ps : List (Nat × Operand)} {x r : T} {cells : List Value}, PutsAt P σ t ps x r → VT P κ x t cells → cells.length = szOf P t →
    ∃ cells', Instr.fill place cells.toArray (ps.map fun x => (x.1, a.eval x.2)) = some cells'.toArray ∧ VT P κ r t cells' ∧ cells'.length = szOf P t
  | _, _, _, cells, .nil => fun h hl => ⟨cells, rfl, h, hl⟩
  | _, _, _, cells, .cons (i := i) (off := off) (o := o) (ft := ft) (ps := ps) hw h hc hsz hp k => fun hx hl => by
    have hv := h.eval hs
    have hlen := VV_len hv hsz
    have hwp : walkPath P t [i] = some (off, ft) := by simp [walkPath, hw]
    obtain ⟨q1, q2⟩ := VT_put hP ht hx hl hwp hp hv.1 hlen (VT_ones hc hv.1)
    obtain ⟨cells', r1, r2, r3⟩ := fill_puts hP hs ht place hpl k q1 (by rw [splice_length q2]; exact hl)
    refine ⟨cells', ?_, r2, r3⟩
    simp only [List.map_cons, Instr.fill, hpl i off ft hw]
    have hcs : (a.eval o).cells.size = szOf P ft := by simpa using hlen
    rw [if_neg (by simp [hcs]; simp at q2; omega)]
    have hf : ((a.eval o).cells.zipIdx.foldl (fun cs (x : Value × Nat) => cs.setIfInBounds (off + x.2) x.1) cells.toArray) = (splice cells off (a.eval o).cells.toList).toArray := by
      apply Array.ext'
      have := foldl_set (a.eval o).cells.toList off 0 cells.toArray (by simp at q2 ⊢; omega)
      rw [Nat.add_zero] at this
      rw [← Array.foldl_toList, Array.toList_zipIdx]
      simpa using this
    rw [← r1]
    exact congrArg (fun c => Instr.fill _ c _) hf
theorem run_places (hP : WfP P) (w : World) : ∀ (fs : List Field), (∀ f ∈ fs, f.type < P.types.size) → (fs.mapM fun f => (do pure (f.offset, ← sizeOf f.type) : Sem (Nat × Nat))).run P w = .ok (fs.map fun f => (f.offset, szOf P f.type)) w
  | [], _ => rfl
  | f :: fs, h => by
    rw [List.mapM_cons]
    simp only [Sem.run_bind, run_sizeOf hP (h f (.head _)), Result.andThen_ok, Sem.run_pure, run_places hP w fs fun f hf => h f (.tail _ hf), List.map_cons]
theorem PutsAt.agg {t : TypeId} : ∀ {ps : List (Nat × Operand)} {x r : T}, PutsAt P σ t ps x r → x.aggB = true → r.aggB = true
  | _, _, _, .nil => fun h => h
  | _, _, _, .cons (y := y) hw h hc hsz hp k => fun hx => k.agg (by
    cases y with
    | st fs =>
      simp only [T.put] at hp
      split at hp
      · simp only [Option.some.injEq] at hp; subst hp; rfl
      · cases hp
    | arr fs =>
      simp only [T.put] at hp
      split at hp
      · simp only [Option.some.injEq] at hp; subst hp; rfl
      · cases hp
    | _ => simp [T.aggB] at hx)
theorem OPE.build (hP : WfP P) {t : TypeId} {x r : T} {ps : List (Nat × Operand)} (hz : ZeroOk P t x) (ha : x.aggB = true) (hu : aggT P t = true) (hps : PutsAt P σ t ps x r) (hk : Kp (r, t) σ.h σ.u) : OPE P ⟨d, .build t ps.toArray, ty, p, af, g⟩ σ Kp :=
  .pure (fun κ a w hs => by
    obtain ⟨h1, h2, i, z, h3, h4, h5, h6⟩ := hz
    have hpsl : (ps.toArray.map fun (x : Nat × Operand) => (x.1, a.eval x.2)).toList = ps.map fun x => (x.1, a.eval x.2) := by simp
    cases hd : P.underlying t with
    | none => simp [aggT, hd] at hu
    | some dd =>
      cases dd <;> simp [aggT, hd] at hu
      case struct fs =>
        obtain ⟨cells', r1, r2, r3⟩ := fill_puts hP hs h1 (fun i => (fs.map fun f => (f.offset, szOf P f.type))[i]?) (fun i off ft hw => by
          simp only [stepPath, hd] at hw
          cases hf : fs[i]? with
          | none => rw [hf] at hw; cases hw
          | some f =>
            rw [hf] at hw
            simp only [Option.map_some, Option.some.injEq, Prod.mk.injEq] at hw
            obtain ⟨rfl, rfl⟩ := hw
            simp [hf]) hps (h6 κ).1 h5
        refine ⟨.agg cells'.toArray, ?_, VV_agg (hps.agg ha) r2⟩
        have hpl := run_places hP w fs.toList fun f hf => by
          obtain ⟨i, hi⟩ := List.mem_iff_getElem?.1 hf
          exact (hP.field t fs h1 hd i f (by simpa using hi)).1
        have hpl2 : (fs.mapM fun f => (do Pure.pure (f.offset, ← sizeOf f.type) : Sem (Nat × Nat))).run P w = .ok (fs.map fun f => (f.offset, szOf P f.type)) w := by
          rw [Array.mapM_eq_mapM_toList, Sem.run_map, hpl]
          simp only [Result.andThen]
          congr 1
          apply Array.ext'
          simp
        have hzc : z.cells.toList.toArray = z.cells := by simp
        rw [hzc] at r1
        simp only [execOp, Instr.build, Sem.run_bind, zeroValue, typeInfo, run_program, Result.andThen_ok, h3, h4, Sem.run_pure, Go.run_underlying hd, hpl2, hpsl, r1]
      case array n e =>
        have he := (hP.arr t n e h1 hd).1
        obtain ⟨cells', r1, r2, r3⟩ := fill_puts hP hs h1 (fun i => some (i * szOf P e, szOf P e)) (fun i off ft hw => by
          simp only [stepPath, hd] at hw
          split at hw
          · simp only [Option.some.injEq, Prod.mk.injEq] at hw
            obtain ⟨rfl, rfl⟩ := hw
            rfl
          · cases hw) hps (h6 κ).1 h5
        refine ⟨.agg cells'.toArray, ?_, VV_agg (hps.agg ha) r2⟩
        have hzc : z.cells.toList.toArray = z.cells := by simp
        rw [hzc] at r1
        simp only [execOp, Instr.build, Sem.run_bind, zeroValue, typeInfo, run_program, Result.andThen_ok, h3, h4, Sem.run_pure, Go.run_underlying hd, run_sizeOf hP he, hpsl, r1]) hk
end Go.Am
