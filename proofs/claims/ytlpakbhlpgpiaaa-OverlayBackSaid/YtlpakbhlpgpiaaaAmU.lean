/- A layer over the walk's rules. This text: operations on scalars; arrays. -/
import Derived.Test.YtlpakbhlpgpiaaaAmL
set_option linter.unusedVariables false
set_option linter.unusedSimpArgs false
namespace Go.Am
variable {P : Program} {σ : St}
variable {d : Option Nat} {ty : TypeId} {p : String} {af : Array Edge} {g : Option (Nat × Bool)} {Kp : X → List AO → (Tips) → Prop}

/-- A scalar operand. -/
inductive ScAt (σ : St) : Operand → Value → Prop where
  | tmp {k : Nat} {v : Value} {ty : TypeId} (h : lk σ.t k = some (.s v, ty)) : ScAt σ (.tmp k) v
  | const {v : Value} : ScAt σ (.const v) v
theorem ScAt.eval {κ : K} {a : Act} {w : World} (hs : SR P κ σ a w) {x : Operand} {v : Value} (h : ScAt σ x v) : a.eval x = v := by
  cases h with
  | tmp h => exact VV_s (hs.eval h)
  | const => rfl
theorem OPE.bin {op : BinOp} {x y : Operand} {t t2 : TypeId} {v1 v2 v : Value} (hx : ScAt σ x v1) (hy : ScAt σ y v2)
    (h : ∀ w, (do eqGuard op t x y v1 v2; binOp op t v1 v2 : Sem Value).run P w = .ok v w) (ho : one v = true) (hk : Kp (.s v, ty) σ.h σ.u) : OPE P ⟨d, .binOp op t x y t2, ty, p, af, g⟩ σ Kp :=
  .pure (fun κ a w hs => ⟨v, by
    simp only [execOp, hx.eval hs, hy.eval hs]
    rw [Sem.run_bind, h w]; rfl, VV_s_mk ho⟩) hk
theorem OPE.un {op : UnOp} {x : Operand} {t : TypeId} {v1 v : Value} (hx : ScAt σ x v1) (h : ∀ w, (Op.unary op v1).run P w = .ok v w) (ho : one v = true) (hk : Kp (.s v, ty) σ.h σ.u) : OPE P ⟨d, .unOp op t x, ty, p, af, g⟩ σ Kp :=
  .pure (fun κ a w hs => ⟨v, by
    simp only [execOp, hx.eval hs]
    rw [Sem.run_bind, h w]; rfl, VV_s_mk ho⟩) hk
theorem OPE.conv {src dst : TypeId} {x : Operand} {v1 v : Value} (hx : ScAt σ x v1) (h : ∀ w, (convert src dst v1).run P w = .ok v w) (ho : one v = true) (hk : Kp (.s v, ty) σ.h σ.u) : OPE P ⟨d, .convert src dst x, ty, p, af, g⟩ σ Kp :=
  .pure (fun κ a w hs => ⟨v, by
    simp only [execOp, hx.eval hs]
    rw [Sem.run_bind, h w]; rfl, VV_s_mk ho⟩) hk
inductive ScAll (σ : St) : List Operand → List Value → Prop where
  | nil : ScAll σ [] []
  | cons {x : Operand} {v : Value} {xs : List Operand} {vs : List Value} (h : ScAt σ x v) (k : ScAll σ xs vs) : ScAll σ (x :: xs) (v :: vs)
theorem ScAll.eval {κ : K} {a : Act} {w : World} (hs : SR P κ σ a w) : ∀ {xs : List Operand} {vs : List Value}, ScAll σ xs vs → xs.map a.eval = vs
  | _, _, .nil => rfl
  | _, _, .cons h k => by simp [h.eval hs, k.eval hs]
theorem OPE.bi {b : Builtin} {xs : List Operand} {ats : Array TypeId} {vs : List Value} {v : Value} (hx : ScAll σ xs vs)
    (h : ∀ w, (builtin b ats ty ((xs.toArray).map fun | .const _ => true | _ => false) vs.toArray).run P w = .ok (.value v) w) (ho : one v = true) (hk : Kp (.s v, ty) σ.h σ.u) :
    OPE P ⟨d, .call { callee := .builtin b, args := xs.toArray, argTypes := ats }, ty, p, af, g⟩ σ Kp :=
  .pure (fun κ a w hs => ⟨v, by
    have e : xs.toArray.map a.eval = vs.toArray := by rw [← hx.eval hs]; simp
    simp only [execOp, resolve, e, Sem.run_bind, Sem.run_pure, Result.andThen_ok, invoke]
    exact h w, VV_s_mk ho⟩) hk

/-- An element's address, of an array. -/
theorem OPE.indexA (hP : WfP P) {s e : TypeId} {n k b o : Nat} {y : Operand} {i : Int} {ik : IntKind} {path : List Nat} {bt : OTy} {pt : TypeId} (ha : lk σ.t k = some (.ptr b path, pt)) (hy : IntAt σ y ik i) (hb : (σ.h[b]?).map (·.ty) = some bt) (hw : walkO P bt path = some (o, s))
    (hs0 : s < P.types.size) (hu : P.underlying s = some (.array n e)) (h0 : 0 ≤ i) (h1 : i < n) (hk : Kp (.ptr b (path ++ [i.toNat]), 0) σ.h σ.u) : OPE P ⟨d, .indexAddr s (.tmp k) y, ty, p, af, g⟩ σ Kp :=
  .pure (fun κ a w hs => by
    obtain ⟨o', t', hbn, hw', hev⟩ := VV_ptr (hs.eval ha)
    cases hq : σ.h[b]? with
    | none => rw [hq] at hb; cases hb
    | some ob =>
      rw [hq] at hb
      simp only [Option.map_some, Option.some.injEq] at hb
      have hty := alive (hb ▸ hw) (hs.wr.obj b ob hq).2.1
      rw [hty, hb, hw] at hw'
      cases hw'
      have he := (hP.arr s n e hs0 hu).1
      have hc : 0 ≤ i ∧ i < (n : Int) := ⟨h0, h1⟩
      refine ⟨.pointer (some ⟨κ.ι b, o + i.toNat * szOf P e, none⟩), ?_,
        VV_ptr_mk (t' := e) (o := o + i.toNat * szOf P e) hbn (by rw [hty, hb]; exact walkO_snoc hw (by simp [stepPath, hu]; omega))⟩
      simp only [execOp, hev, hy.eval hs, Instr.indexAt, asIntOf, Sem.run_bind, Sem.run_pure, Result.andThen_ok, Go.run_underlying hu, Instr.sureAddr, if_pos hc, run_sizeOf hP he, Addr.add_mid]) hk
/-- An element of an array that does not change. -/
theorem OPE.indexE (hP : WfP P) {s e : TypeId} {n k : Nat} {y : Operand} {i : Int} {ik : IntKind} {xs : List T} {x : T} {pt : TypeId} (ha : lk σ.t k = some (.ep s (.arr xs), pt)) (hy : IntAt σ y ik i)
    (hs0 : s < P.types.size) (hu : P.underlying s = some (.array n e)) (h0 : 0 ≤ i) (h1 : i < n) (hx : xs[i.toNat]? = some x) (hk : Kp (.ep e x, 0) σ.h σ.u) : OPE P ⟨d, .indexAddr s (.tmp k) y, ty, p, af, g⟩ σ Kp :=
  .pure (fun κ a w hs => by
    obtain ⟨b, o, us, q1, q2, hev⟩ := VV_ep (hs.eval ha)
    simp only [VT] at q1
    obtain ⟨n', e', r1, r2, r3, r4, r5⟩ := q1
    rw [hu] at r1
    cases r1
    obtain ⟨v1, v2⟩ := VA_get r5 hx
    have he := (hP.arr s n e hs0 hu).1
    have hc : 0 ≤ i ∧ i < (n : Int) := ⟨h0, h1⟩
    refine ⟨.pointer (some ⟨b, o + i.toNat * szOf P e, none⟩), ?_, VV_ep_mk v1 (fun j v hj => ?_)⟩
    · simp only [execOp, hev, hy.eval hs, Instr.indexAt, asIntOf, Sem.run_bind, Sem.run_pure, Result.andThen_ok, Go.run_underlying hu, Instr.sureAddr, if_pos hc, run_sizeOf hP he, Addr.add_mid]
    · rw [part_get] at hj
      by_cases hjn : j < szOf P e
      · rw [if_pos hjn] at hj
        rw [Nat.add_assoc]; exact q2 _ _ hj
      · rw [if_neg hjn] at hj; cases hj) hk
/-- An element of an array. -/
theorem OPE.indexV (hP : WfP P) {s e : TypeId} {n k : Nat} {y : Operand} {i : Int} {ik : IntKind} {xs : List T} {x : T} {pt : TypeId} (ha : lk σ.t k = some (.arr xs, pt)) (hy : IntAt σ y ik i) (hT : SameT P pt s)
    (hs0 : s < P.types.size) (hu : P.underlying s = some (.array n e)) (h0 : 0 ≤ i) (h1 : i < n) (hx : xs[i.toNat]? = some x) (hg : x.aggB = aggT P e) (hue : (P.underlying e).isSome = true) (hk : Kp (x, e) σ.h σ.u) : OPE P ⟨d, .index s (.tmp k) y, ty, p, af, g⟩ σ Kp :=
  .pure (fun κ a w hs => by
    obtain ⟨vs, hev, hv⟩ := VV_cells rfl (VV_same hT (hs.eval ha))
    simp only [VT] at hv
    obtain ⟨n', e', q1, q2, q3, q4, q5⟩ := hv
    rw [hu] at q1
    cases q1
    have he := (hP.arr s n e hs0 hu).1
    have hc : 0 ≤ i ∧ i < (n : Int) := ⟨h0, h1⟩
    obtain ⟨r1, r2⟩ := VA_get q5 hx
    obtain ⟨v, r3, r4⟩ := run_part hP w he r1 hg hue r2
    refine ⟨v, ?_, r4⟩
    simp only [execOp, hev, hy.eval hs, Instr.index, asIntOf, Sem.run_bind, Sem.run_pure, Result.andThen_ok, Go.run_underlying hu, if_pos hc, run_sizeOf hP he, r3]) hk
end Go.Am
