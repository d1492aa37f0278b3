/- A layer over the walk's rules. This text: operations on memory. -/
import Derived.Test.YtlpakbhlpgpiaaaAm6
set_option linter.unusedVariables false
namespace Go.Am
variable {P : Program} {σ : St}
variable {d : Option Nat} {ty : TypeId} {p : String} {af : Array Edge} {g : Option (Nat × Bool)} {Kp : X → List AO → (Tips) → Prop}

def aggT (P : Program) (t : TypeId) : Bool := match P.underlying t with
  | some (.struct _) => true
  | some (.array _ _) => true
  | _ => false
/-- What may lie in a cell or in cells. -/
def T.cell : T → Bool
  | .tup _ | .any => false
  | _ => true

theorem VT_ones {κ : K} {t : T} {ty : TypeId} {vs : List Value} (hc : t.cell = true) (h : VT P κ t ty vs) : ∀ v ∈ vs, one v = true := by
  cases t <;> simp only [VT, T.cell, Bool.false_eq_true] at h hc
  case s v => obtain ⟨rfl, h2⟩ := h; simpa using h2
  case st fs => obtain ⟨_, _, _, h2, _⟩ := h; exact h2
  case arr xs => obtain ⟨_, _, _, _, _, h2, _⟩ := h; exact h2
  case lst xs tag => obtain ⟨_, _, _, _, _, rfl, _⟩ := h; simp [one]
  case ptr b q => obtain ⟨_, _, _, _, rfl⟩ := h; simp [one]
  case vw b o l c => obtain ⟨_, _, _, _, _, _, _, rfl⟩ := h; simp [one]
  case ep a b => obtain ⟨_, _, _, _, _, rfl⟩ := h; simp [one]
  case fn f a b => obtain ⟨_, _, rfl, _⟩ := h; simp [one]
  case ifc a b => obtain ⟨_, _, rfl⟩ := h; simp [one]
/-- A tree that is no row of cells lies in one cell. -/
theorem VT_single {κ : K} {t : T} {ty : TypeId} {vs : List Value} (hc : t.aggB = false) (h : VT P κ t ty vs) : ∃ v, vs = [v] ∧ VV P κ t ty v := by
  have key : ∀ v, vs = [v] → aggB v = false → ∃ v, vs = [v] ∧ VV P κ t ty v := fun v hv ha => by
    subst hv
    refine ⟨v, rfl, ?_, by rw [ha, hc]⟩
    have : v.cells.toList = [v] := by cases v <;> simp_all [Value.cells, aggB]
    rw [this]; exact h
  cases t <;> simp only [T.aggB, Bool.true_eq_false] at hc
  all_goals have h0 := h; simp only [VT] at h0
  case s v => exact key v h0.1 (by have := h0.2; cases v <;> simp_all [one, Am.aggB])
  case lst xs tag => obtain ⟨_, _, _, _, _, h1, _⟩ := h0; exact key _ h1 rfl
  case ptr b q => obtain ⟨_, _, _, _, h1⟩ := h0; exact key _ h1 rfl
  case vw b o l c => obtain ⟨_, _, _, _, _, _, _, h1⟩ := h0; exact key _ h1 rfl
  case ep a b => obtain ⟨_, _, _, _, _, h1⟩ := h0; exact key _ h1 rfl
  case tup xs => obtain ⟨_, _, _, h1, _⟩ := h0; exact key _ h1 rfl
  case fn f a b => obtain ⟨_, _, h1, _⟩ := h0; exact key _ h1 rfl
  case ifc a b => obtain ⟨_, _, h1⟩ := h0; exact key _ h1 rfl
  case any => exact key undef h0 rfl
theorem VV_agg {κ : K} {t : T} {ty : TypeId} {vs : List Value} (hc : t.aggB = true) (h : VT P κ t ty vs) : VV P κ t ty (.agg vs.toArray) := ⟨by simpa [Value.cells] using h, hc.symm⟩
theorem VV_cells {κ : K} {t : T} {ty : TypeId} {v : Value} (hc : t.aggB = true) (h : VV P κ t ty v) : ∃ vs, v = .agg vs.toArray ∧ VT P κ t ty vs := by
  obtain ⟨h1, h2⟩ := h
  rw [hc] at h2
  cases v <;> simp [aggB] at h2
  case agg cs => exact ⟨cs.toList, by simp, h1⟩

theorem info_of (hP : WfP P) {t : TypeId} (ht : t < P.types.size) : (P.info? t).map (·.size) = some (szOf P t) := by
  obtain ⟨i, h1, h2⟩ := hP.size t ht
  rw [h1]; simp [h2]
theorem run_sizeOf (hP : WfP P) {t : TypeId} (ht : t < P.types.size) (w : World) : (sizeOf t).run P w = .ok (szOf P t) w := by
  obtain ⟨i, h1, h2⟩ := hP.size t ht
  simp [sizeOf, typeInfo, h1, h2]
theorem run_isAgg {t : TypeId} {dd : TypeDesc} (h : P.underlying t = some dd) (w : World) : (isAgg t).run P w = .ok (aggT P t) w := by
  unfold isAgg aggT
  rw [Sem.run_bind, Go.run_underlying h w, h]
  cases dd <;> rfl

/-- A variable's tree is read: of an object, or of what does not change. -/
theorem run_load (hP : WfP P) {κ : K} {w : World} {t : TypeId} {x : T} {b o : Nat} {cs : List Value} (hc : w.rangeAt b o cs) (ht : t < P.types.size) (hx : VT P κ x t cs) (ha : x.aggB = aggT P t) (hl : cs.length = szOf P t) (hu : (P.underlying t).isSome = true) :
    ∃ v, (Instr.loadAt t (.pointer (some ⟨b, o, none⟩))).run P w = .ok v w ∧ VV P κ x t v := by
  obtain ⟨dd, hdd⟩ := Option.isSome_iff_exists.1 hu
  cases hagg : aggT P t with
  | true =>
    refine ⟨.agg cs.toArray, run_loadAt_mid w b o t cs dd hc hdd ?_ (by rw [info_of hP ht, hl]), VV_agg (by rw [ha, hagg]) hx⟩
    unfold aggT at hagg
    rw [hdd] at hagg
    cases dd <;> simp_all
  | false =>
    obtain ⟨v, rfl, hv⟩ := VT_single (by rw [ha, hagg]) hx
    refine ⟨v, ?_, hv⟩
    have h0 := hc 0 v rfl
    simp only [Nat.add_zero] at h0
    simp only [Instr.loadAt, Instr.sureAddr, Sem.run_bind, Sem.run_pure, Result.andThen_ok, loadVar, run_isAgg hdd, hagg]
    simp [h0]

theorem one_cell {v u : Value} (h : aggB v = false) (k : v.cells.toList = [u]) : v = u := by
  cases v <;> first | (simp [aggB] at h; done) | (simpa [Value.cells] using k)
theorem VV_ep {κ : K} {te pt : TypeId} {x : T} {v : Value} (h : VV P κ (.ep te x) pt v) : ∃ b o us, VT P κ x te us ∧ HoldsAt κ b o us ∧ v = .pointer (some ⟨b, o, none⟩) := by
  obtain ⟨q1, q2⟩ := h
  simp only [VT] at q1
  obtain ⟨b, o, us, h1, h2, h3⟩ := q1
  exact ⟨b, o, us, h1, h2, one_cell q2 h3⟩
theorem VV_ptr {κ : K} {pt : TypeId} {b : Nat} {path : List Nat} {v : Value} (h : VV P κ (.ptr b path) pt v) : ∃ o t', b < κ.n ∧ walkO P (κ.ty b) path = some (o, t') ∧ v = .pointer (some ⟨κ.ι b, o, none⟩) := by
  obtain ⟨q1, q2⟩ := h
  simp only [VT] at q1
  obtain ⟨o, t', h1, h2, h3⟩ := q1
  exact ⟨o, t', h1, h2, one_cell q2 h3⟩
theorem VV_ptr_mk {κ : K} {pt : TypeId} {b o : Nat} {path : List Nat} {t' : TypeId} (hb : b < κ.n) (hw : walkO P (κ.ty b) path = some (o, t')) : VV P κ (.ptr b path) pt (.pointer (some ⟨κ.ι b, o, none⟩)) :=
  ⟨by simp only [VT]; exact ⟨o, t', hb, hw, rfl⟩, rfl⟩
theorem VV_ep_mk {κ : K} {te pt : TypeId} {x : T} {b o : Nat} {us : List Value} (h1 : VT P κ x te us) (h2 : HoldsAt κ b o us) : VV P κ (.ep te x) pt (.pointer (some ⟨b, o, none⟩)) :=
  ⟨by simp only [VT]; exact ⟨b, o, us, h1, h2, rfl⟩, rfl⟩

theorem alive {t1 t2 : OTy} {path : List Nat} {q : Nat × TypeId} (hw : walkO P t1 path = some q) (h : t1 = .dead ∨ t2 = t1) : t2 = t1 := by
  rcases h with h | h
  · rw [h] at hw; cases path <;> cases hw
  · exact h
theorem OPE.load (hP : WfP P) {t : TypeId} {k b off : Nat} {path : List Nat} {o : AO} {x : T} {pt : TypeId} (ha : lk σ.t k = some (.ptr b path, pt)) (hb : σ.h[b]? = some o) (hx : o.t.get path = some x) (hw : walkO P o.ty path = some (off, t))
    (hg : x.aggB = aggT P t) (hu : (P.underlying t).isSome = true) (hk : Kp (x, t) σ.h σ.u) : OPE P ⟨d, .load t (.tmp k), ty, p, af, g⟩ σ Kp :=
  .pure (fun κ a w hs => by
    obtain ⟨o', t', hbn, hw', hev⟩ := VV_ptr (hs.eval ha)
    obtain ⟨r1, r2, vs, e, r3, r4⟩ := hs.wr.obj b o hb
    have r2 := alive hw r2
    rw [r2, hw] at hw'
    cases hw'
    obtain ⟨q1, q2, q3⟩ := VO_get hP r1 r4 hw hx
    have hrange : w.rangeAt (κ.ι b) off ((vs.drop off).take (szOf P t)) := fun j v hj => by
      rw [part_get] at hj
      by_cases hjn : j < szOf P t
      · rw [if_pos hjn] at hj
        simp only [World.cell?, r3]
        simpa using hj
      · rw [if_neg hjn] at hj; cases hj
    obtain ⟨v, hv2, hv3⟩ := run_load hP hrange q3 q1 hg (by simp; omega) hu
    exact ⟨v, by simp only [execOp, hev, Sem.run_bind, hv2, Result.andThen_ok]; rfl, hv3⟩) hk

theorem OPE.loadE (hP : WfP P) {t : TypeId} {k : Nat} {x : T} {pt : TypeId} (ha : lk σ.t k = some (.ep t x, pt)) (ht : t < P.types.size) (hg : x.aggB = aggT P t) (hsz : x.aggB = true ∨ szOf P t = 1) (hu : (P.underlying t).isSome = true) (hk : Kp (x, t) σ.h σ.u) :
    OPE P ⟨d, .load t (.tmp k), ty, p, af, g⟩ σ Kp :=
  .pure (fun κ a w hs => by
    obtain ⟨b, o, us, h1, h2, h3⟩ := VV_ep (hs.eval ha)
    have hl : us.length = szOf P t := by
      rcases hsz with hsz | hsz
      · cases x <;> simp [T.aggB] at hsz <;> simp only [VT] at h1
        · obtain ⟨_, _, h, _⟩ := h1; exact h
        · obtain ⟨_, _, _, _, h, _⟩ := h1; exact h
      · cases hx : x.aggB with
        | false => obtain ⟨v, rfl, _⟩ := VT_single hx h1; simp [hsz]
        | true =>
          cases x <;> simp [T.aggB] at hx <;> simp only [VT] at h1
          · obtain ⟨_, _, h, _⟩ := h1; exact h
          · obtain ⟨_, _, _, _, h, _⟩ := h1; exact h
    obtain ⟨v, hv2, hv3⟩ := run_load hP (w := w) (b := b) (o := o) (fun j v hj => hs.wr.imm _ _ _ (h2 j v hj)) ht h1 hg hl hu
    exact ⟨v, by simp only [execOp, h3, Sem.run_bind, hv2, Result.andThen_ok]; rfl, hv3⟩) hk

/-! Addresses -/
theorem walk_snoc : ∀ {path : List Nat} {t t1 t2 : TypeId} {o o1 i : Nat}, walkPath P t path = some (o, t1) → stepPath P t1 i = some (o1, t2) → walkPath P t (path ++ [i]) = some (o + o1, t2)
  | [], t, t1, t2, o, o1, i => fun h k => by
    simp only [walkPath, Option.some.injEq, Prod.mk.injEq] at h
    obtain ⟨rfl, rfl⟩ := h
    simp [walkPath, k]
  | j :: r, t, t1, t2, o, o1, i => fun h k => by
    simp only [walkPath] at h
    cases hs : stepPath P t j with
    | none => rw [hs] at h; cases h
    | some q =>
      obtain ⟨a, b⟩ := q
      rw [hs] at h
      simp only at h
      cases hr : walkPath P b r with
      | none => rw [hr] at h; cases h
      | some q2 =>
        obtain ⟨a2, b2⟩ := q2
        rw [hr] at h
        simp only [Option.some.injEq, Prod.mk.injEq] at h
        obtain ⟨rfl, rfl⟩ := h
        simp only [List.cons_append, walkPath, hs, walk_snoc hr k, Nat.add_assoc]

theorem walkO_snoc {path : List Nat} {t : OTy} {t1 t2 : TypeId} {o o1 i : Nat} (h : walkO P t path = some (o, t1)) (k : stepPath P t1 i = some (o1, t2)) : walkO P t (path ++ [i]) = some (o + o1, t2) := by
  cases t with
  | one t => exact walk_snoc h k
  | dead => cases path <;> cases h
  | row e n =>
    cases path with
    | nil => cases h
    | cons j r =>
      simp only [walkO, List.cons_append] at h ⊢
      cases hj : Nat.blt j n with
      | false => rw [hj] at h; cases h
      | true =>
        rw [hj] at h
        simp only at h ⊢
        cases hr : walkPath P e r with
        | none => rw [hr] at h; cases h
        | some q2 =>
          obtain ⟨a2, b2⟩ := q2
          rw [hr] at h
          simp only [Option.some.injEq, Prod.mk.injEq] at h
          obtain ⟨rfl, rfl⟩ := h
          rw [walk_snoc hr k, Nat.add_assoc]

theorem run_fieldAt (hP : WfP P) {s : TypeId} {fs : Array Field} {f : Field} {i b o : Nat} (hs : s < P.types.size) (hu : P.underlying s = some (.struct fs)) (hf : fs[i]? = some f) (hz : szOf P f.type ≠ 0) (w : World) :
    (Instr.fieldAt s (.pointer (some ⟨b, o, none⟩)) i).run P w = .ok (.pointer (some ⟨b, o + f.offset, none⟩)) w := by
  have hft := (hP.field s fs hs hu i f hf).1
  simp only [Instr.fieldAt, Sem.run_bind, Go.run_underlying hu, Result.andThen_ok, hf, Instr.sureAddr, Sem.run_pure, fieldPlace, run_sizeOf hP hft, if_neg hz, Addr.add_mid]
theorem OPE.fieldAddr (hP : WfP P) {s : TypeId} {fs : Array Field} {f : Field} {i k b o : Nat} {path : List Nat} {bt : OTy} {pt : TypeId} (ha : lk σ.t k = some (.ptr b path, pt)) (hb : (σ.h[b]?).map (·.ty) = some bt) (hw : walkO P bt path = some (o, s))
    (hs0 : s < P.types.size) (hu : P.underlying s = some (.struct fs)) (hf : fs[i]? = some f) (hz : szOf P f.type ≠ 0) (hk : Kp (.ptr b (path ++ [i]), 0) σ.h σ.u) : OPE P ⟨d, .fieldAddr s (.tmp k) i, ty, p, af, g⟩ σ Kp :=
  .pure (fun κ a w hs => by
    obtain ⟨o', t', hbn, hw', hev⟩ := VV_ptr (hs.eval ha)
    cases hq : σ.h[b]? with
    | none => rw [hq] at hb; cases hb
    | some ob =>
      rw [hq] at hb
      simp only [Option.map_some, Option.some.injEq] at hb
      have hty := alive (hb ▸ hw) (hs.wr.obj b ob hq).2.1
      rw [hty, hb, hw] at hw'
      cases hw'
      exact ⟨_, by simp only [execOp, hev, Sem.run_bind, run_fieldAt hP hs0 hu hf hz, Result.andThen_ok]; rfl,
        VV_ptr_mk (t' := f.type) (o := o + f.offset) hbn (by rw [hty, hb]; exact walkO_snoc hw (by simp [stepPath, hu, hf]))⟩) hk
theorem OPE.fieldAddrE (hP : WfP P) {s : TypeId} {fs : Array Field} {f : Field} {i k : Nat} {ts : List T} {x : T} {pt : TypeId} (ha : lk σ.t k = some (.ep s (.st ts), pt))
    (hs0 : s < P.types.size) (hu : P.underlying s = some (.struct fs)) (hf : fs[i]? = some f) (hx : ts[i]? = some x) (hz : szOf P f.type ≠ 0) (hk : Kp (.ep f.type x, 0) σ.h σ.u) : OPE P ⟨d, .fieldAddr s (.tmp k) i, ty, p, af, g⟩ σ Kp :=
  .pure (fun κ a w hs => by
    obtain ⟨b, o, us, h1, h2, hev⟩ := VV_ep (hs.eval ha)
    simp only [VT] at h1
    obtain ⟨fields, q1, q2, q3, q4⟩ := h1
    rw [hu] at q1
    cases q1
    obtain ⟨f', hf', hv⟩ := VF_get q4 hx
    have : f' = f := by
      have : fs[i]? = some f' := by simpa using hf'
      rw [hf] at this; exact (Option.some.inj this).symm
    subst this
    exact ⟨_, by simp only [execOp, hev, Sem.run_bind, run_fieldAt hP hs0 hu hf hz, Result.andThen_ok]; rfl,
      VV_ep_mk hv (fun j v hj => by
        rw [part_get] at hj
        by_cases hjn : j < szOf P f'.type
        · rw [if_pos hjn] at hj
          rw [Nat.add_assoc]; exact h2 _ _ hj
        · rw [if_neg hjn] at hj; cases hj)⟩) hk
end Go.Am
