/- A layer over the walk's rules. This text: calls. -/
import Derived.Test.YtlpakbhlpgpiaaaAm8
set_option linter.unusedVariables false
set_option linter.unusedSimpArgs false
namespace Go.Am
variable {P : Program} {σ : St}
variable {d : Option Nat} {ty : TypeId} {p : String} {af : Array Edge} {g : Option (Nat × Bool)} {Kp : X → List AO → (Tips) → Prop}

/-- Arguments: trees and their types. -/
inductive VArgs (P : Program) (κ : K) : List X → List Value → Prop where
  | nil : VArgs P κ [] []
  | cons {x : X} {xs : List X} {v : Value} {vs : List Value} (h : VV P κ x.1 x.2 v) (k : VArgs P κ xs vs) : VArgs P κ (x :: xs) (v :: vs)

/-- A call of function f, in a memory of which h and u are known, ends in what Kp says. -/
def ACalls (P : Program) (f : FuncId) (args : List X) (h : List AO) (u : Tips) (Kp : X → List AO → (Tips) → Prop) : Prop :=
  ∀ κ w vs, WR P κ w h u → VArgs P κ args vs → Calls P f vs.toArray w fun e w' => ∃ κ' v x h' u', e = .returned v ∧ Ext κ u w κ' u' w' ∧ WR P κ' w' h' u' ∧ VV P κ' x.1 x.2 v ∧ Kp x h' u'

theorem ACalls.mono {f : FuncId} {args : List X} {h : List AO} {u : Tips} {Kp Kp' : X → List AO → (Tips) → Prop} (hc : ACalls P f args h u Kp) (hk : ∀ x h' u', Kp x h' u' → Kp' x h' u') : ACalls P f args h u Kp' :=
  fun κ w vs hw ha => (hc κ w vs hw ha).mono fun e w' ⟨κ', v, x, h', u', h1, h2, h3, h4, h5⟩ => ⟨κ', v, x, h', u', h1, h2, h3, h4, hk _ _ _ h5⟩

/-- The function may be entered. -/
def enters (P : Program) (f : FuncId) : Bool := match P.funcs[f]? with
  | some fn => !(fn.name == "runtime.NumGoroutine") && !fn.body.isNone
  | none => false
theorem run_callFunc {f : FuncId} (h : enters P f = true) (vs : Array Value) (w : World) : (callFunc f vs).run P w = .ok (.enter f vs) w := by
  unfold enters at h
  cases hf : P.funcs[f]? with
  | none => rw [hf] at h; cases h
  | some fn =>
    rw [hf] at h
    simp only [Bool.and_eq_true, Bool.not_eq_true'] at h
    obtain ⟨h1, h2⟩ := h
    unfold callFunc
    simp only [Sem.run_bind, run_program, Result.andThen_ok, hf, h1, h2, Bool.false_eq_true, if_false]
    rfl

/-- The operands of a call: what they hold. -/
inductive Args (P : Program) (σ : St) : List Operand → List X → Prop where
  | nil : Args P σ [] []
  | cons {o : Operand} {os : List Operand} {x : T} {ty : TypeId} {xs : List X} (h : ArgAt P σ o ty x) (k : Args P σ os xs) : Args P σ (o :: os) ((x, ty) :: xs)
theorem Args.eval {κ : K} {a : Act} {w : World} (hs : SR P κ σ a w) : ∀ {os : List Operand} {xs : List X}, Args P σ os xs → VArgs P κ xs (os.map a.eval)
  | _, _, .nil => .nil
  | _, _, .cons h k => .cons (h.eval hs) (k.eval hs)

theorem OPE.call {f : FuncId} {os : List Operand} {ats : Array TypeId} {xs : List X} (hf : enters P f = true) (ha : Args P σ os xs) (hc : ACalls P f xs σ.h σ.u Kp) :
    OPE P ⟨d, .call { callee := .value (.func f), args := os.toArray, argTypes := ats }, ty, p, af, g⟩ σ Kp := fun κ a w next R hs hn => by
  have hr : (execOp a.eval ⟨d, .call { callee := .value (.func f), args := os.toArray, argTypes := ats }, ty, p, af, g⟩).run P w = .ok (.enter f (os.map a.eval).toArray) w := by
    simp [execOp, resolve, Act.eval, Deferred.ofValue, invoke, Sem.run_bind, run_callFunc hf]
  unfold Oper.wp
  rw [hr]
  show Calls P f (os.map a.eval).toArray w _
  refine (hc κ w _ hs.wr (ha.eval hs)).mono ?_
  rintro e w' ⟨κ', v, x, h', u', rfl, h2, h3, h4, h5⟩
  exact hn κ' v x h' u' w' h2 h3 h4 h5

/-! The body -/
def argT : List X → Nat → List (Nat × T × TypeId)
  | [], _ => []
  | x :: xs, i => (i, x) :: argT xs (i + 1)
theorem lk_argT {κ : K} : ∀ {xs : List X} {vs : List Value} {i k : Nat} {x : X}, VArgs P κ xs vs → lk (argT xs i) k = some x → ∃ v, i ≤ k ∧ vs[k - i]? = some v ∧ VV P κ x.1 x.2 v
  | [], _, _, _, _ => fun _ h => by simp [argT, lk] at h
  | y :: ys, [], _, _, _ => fun h _ => by cases h
  | y :: ys, v :: vs, i, k, x => fun h hk => by
    cases h with
    | cons h1 h2 =>
      simp only [argT, lk] at hk
      cases hb : Nat.beq i k with
      | true =>
        have := Nat.eq_of_beq_eq_true hb
        subst this
        rw [hb] at hk
        simp only [Option.some.injEq] at hk
        subst hk
        exact ⟨v, Nat.le_refl _, by simp, h1⟩
      | false =>
        rw [hb] at hk
        have hne := Nat.ne_of_beq_eq_false hb
        obtain ⟨v', q1, q2, q3⟩ := lk_argT h2 hk
        refine ⟨v', by omega, ?_, q3⟩
        rw [show k - i = (k - (i + 1)) + 1 by omega]; simpa using q2

theorem VArgs.len {κ : K} : ∀ {xs : List X} {vs : List Value}, VArgs P κ xs vs → vs.length = xs.length
  | _, _, .nil => rfl
  | _, _, .cons _ k => by simp [k.len]

def resVal (tmps : Array Value) : ResultVar → Sem Value
  | .tmp t => pure (tmps.getD t undef)
  | .cell a t => do loadVar t (← asAddr (tmps.getD a undef))
theorem results_eq (fn : Func) (tmps : Array Value) : results fn tmps = (do
    let vs ← fn.results.mapM (resVal tmps)
    pure (if h : vs.size = 1 then vs[0] else .tuple vs)) := by
  unfold results
  have : (fun (r : ResultVar) => match r with | .tmp t => (pure (tmps.getD t undef) : Sem Value) | .cell a t => do loadVar t (← asAddr (tmps.getD a undef))) = resVal tmps := by
    funext r; cases r <;> rfl
  rw [← this]
  rfl

/-- What a function hands back, of one result. -/
inductive Res1 (P : Program) (σ : St) : ResultVar → X → Prop where
  | tmp {k : Nat} {x : X} (h : lk σ.t k = some x) : Res1 P σ (.tmp k) x
  | tmpW {k : Nat} {x y : T} {ty : TypeId} (h : lk σ.t k = some (x, ty)) (hw : Wk P ty x y) : Res1 P σ (.tmp k) (y, ty)
  | cell {k b : Nat} {t : T} {ty pt : TypeId} (h : lk σ.t k = some (.ptr b [], pt)) (hb : σ.h[b]? = some ⟨.one ty, t⟩) : Res1 P σ (.cell k ty) (t, ty)
inductive ResL (P : Program) (σ : St) : List ResultVar → List X → Prop where
  | nil : ResL P σ [] []
  | cons {r : ResultVar} {rs : List ResultVar} {x : X} {xs : List X} (h : Res1 P σ r x) (k : ResL P σ rs xs) : ResL P σ (r :: rs) (x :: xs)

theorem Res1.run (hP : WfP P) {κ : K} {a : Act} {w : World} (hs : SR P κ σ a w) {r : ResultVar} {x : X} (h : Res1 P σ r x) (hx : ∀ k t, r = .cell k t → x.1.aggB = aggT P x.2 ∧ (P.underlying x.2).isSome = true) :
    ∃ v, (resVal a.tmps r).run P w = .ok v w ∧ VV P κ x.1 x.2 v := by
  cases h with
  | tmp h => exact ⟨_, rfl, hs.eval (t := x.1) (ty := x.2) h⟩
  | tmpW h hw => exact ⟨_, rfl, hw.val (hs.eval h)⟩
  | cell h hb =>
    rename_i k b t ty pt
    obtain ⟨hg, hu⟩ := hx k ty rfl
    obtain ⟨o', t', hbn, hw', hev⟩ := VV_ptr (hs.eval h)
    obtain ⟨r1, r2, vs, e, r3, r4, r5⟩ := hs.wr.obj b _ hb
    rcases r2 with r2 | r2
    · cases r2
    rw [r2] at hw'
    simp only [walkO, walkPath, Option.some.injEq, Prod.mk.injEq] at hw'
    obtain ⟨rfl, _⟩ := hw'
    have hrange : w.rangeAt (κ.ι b) 0 vs := fun j v hj => by
      simp only [World.cell?, r3]
      simpa using hj
    obtain ⟨v, hv2, hv3⟩ := run_load hP hrange r1 r4 hg r5 hu
    refine ⟨v, ?_, hv3⟩
    have hev' : a.tmps.getD k undef = .pointer (some ⟨κ.ι b, 0, none⟩) := hev
    simp only [Instr.loadAt, Instr.sureAddr, Sem.run_bind, Sem.run_pure, Result.andThen_ok] at hv2
    simp only [resVal, hev', asAddr, Sem.run_bind, Sem.run_pure, Result.andThen_ok, hv2]

theorem ResL.len {σ : St} : ∀ {rs : List ResultVar} {xs : List X}, ResL P σ rs xs → rs.length = xs.length
  | _, _, .nil => rfl
  | _, _, .cons _ k => by simp [k.len]
def resOk (P : Program) : List ResultVar → List X → Prop
  | r :: rs, x :: xs => (∀ k t, r = .cell k t → x.1.aggB = aggT P x.2 ∧ (P.underlying x.2).isSome = true) ∧ resOk P rs xs
  | _, _ => True
theorem ResL.run (hP : WfP P) {κ : K} {a : Act} {w : World} (hs : SR P κ σ a w) : ∀ {rs : List ResultVar} {xs : List X}, ResL P σ rs xs → resOk P rs xs →
    ∃ vs, (rs.mapM (resVal a.tmps)).run P w = .ok vs w ∧ VArgs P κ xs vs
  | _, _, .nil => fun _ => ⟨[], rfl, .nil⟩
  | _, _, .cons h k => fun hk => by
    obtain ⟨v, h1, h2⟩ := h.run hP hs hk.1
    obtain ⟨vs, h3, h4⟩ := k.run hP hs hk.2
    refine ⟨v :: vs, ?_, .cons h2 h4⟩
    rw [List.mapM_cons]
    simp only [Sem.run_bind, h1, Result.andThen_ok, h3, Sem.run_pure]

theorem VL_of_args {κ : K} : ∀ {xs : List X} {vs : List Value}, VArgs P κ xs vs → VL P κ (xs.map (·.1)) (xs.map (·.2)) vs
  | _, _, .nil => by simp [VL]
  | _, _, .cons h k => by simp only [List.map_cons, VL]; exact ⟨h, VL_of_args k⟩

/-- A function is shown by its body. Of one result. -/
theorem ACalls.body1 (hP : WfP P) {f : FuncId} {fn : Func} {c : Code} {r : ResultVar} {args : List X} {h : List AO} {u : Tips} (hf : P.funcs[f]? = some fn) (hb : fn.body = some c) (hr : fn.results = #[r]) (hn : args.length ≤ fn.ntmps)
    (hw : AW P c { n := fn.ntmps, t := argT args 0, h := h, u := u } fun e σ' => (e = .normal ∨ e = .ret) ∧ ∃ x, Res1 P σ' r x ∧ (∀ k t, r = .cell k t → x.1.aggB = aggT P x.2 ∧ (P.underlying x.2).isSome = true) ∧ Kp x σ'.h σ'.u) : ACalls P f args h u Kp := by
  intro κ w vs hwr ha
  have hlen := ha.len
  have hs : SR P κ { n := fn.ntmps, t := argT args 0, h := h, u := u } { tmps := vs.toArray ++ Array.replicate (fn.ntmps - vs.toArray.size) undef, defers := [] } w := by
    refine ⟨rfl, by simp; omega, fun k t ty hk => ?_, hwr⟩
    obtain ⟨v, _, h1, h2⟩ := lk_argT ha hk
    refine ⟨v, ?_, h2⟩
    simp only [Nat.sub_zero] at h1
    have := (List.getElem?_eq_some_iff.1 h1).1
    rw [Array.getElem?_append_left (by simpa using this)]
    simpa using h1
  refine calls_of_wp hf hb (wp_mono (hw κ _ w hs) ?_)
  rintro e a' w' ⟨κ', σ', he, hs', hex, x, hx, hxo, hk⟩
  obtain ⟨v, h1, h2⟩ := hx.run hP hs' hxo
  have hres : (results fn a'.tmps).run P w' = .ok v w' := by
    rw [results_eq, hr]
    simp only [Sem.run_bind, List.mapM_toArray, List.mapM_cons, List.mapM_nil, Sem.run_map, h1, Result.andThen_ok, Sem.run_pure]
    rfl
  rcases hex with rfl | rfl
  · exact ⟨hs'.defers, v, hres, κ', v, x, _, _, rfl, he, hs'.wr, h2, hk⟩
  · exact ⟨hs'.defers, v, hres, κ', v, x, _, _, rfl, he, hs'.wr, h2, hk⟩
/-- Of several results, or none. -/
theorem ACalls.bodyN (hP : WfP P) {f : FuncId} {fn : Func} {c : Code} {rs : List ResultVar} {args : List X} {h : List AO} {u : Tips} (tt : TypeId) (hf : P.funcs[f]? = some fn) (hb : fn.body = some c) (hr : fn.results = rs.toArray) (hr1 : rs.length ≠ 1) (hn : args.length ≤ fn.ntmps)
    (hw : AW P c { n := fn.ntmps, t := argT args 0, h := h, u := u } fun e σ' => (e = .normal ∨ e = .ret) ∧ ∃ xs, ResL P σ' rs xs ∧ resOk P rs xs ∧ P.underlying tt = some (.tuple (xs.map (·.2)).toArray) ∧ Kp (.tup (xs.map (·.1)), tt) σ'.h σ'.u) : ACalls P f args h u Kp := by
  intro κ w vs hwr ha
  have hlen := ha.len
  have hs : SR P κ { n := fn.ntmps, t := argT args 0, h := h, u := u } { tmps := vs.toArray ++ Array.replicate (fn.ntmps - vs.toArray.size) undef, defers := [] } w := by
    refine ⟨rfl, by simp; omega, fun k t ty hk => ?_, hwr⟩
    obtain ⟨v, _, h1, h2⟩ := lk_argT ha hk
    refine ⟨v, ?_, h2⟩
    simp only [Nat.sub_zero] at h1
    have := (List.getElem?_eq_some_iff.1 h1).1
    rw [Array.getElem?_append_left (by simpa using this)]
    simpa using h1
  refine calls_of_wp hf hb (wp_mono (hw κ _ w hs) ?_)
  rintro e a' w' ⟨κ', σ', he, hs', hex, xs, hx, hxo, htt, hk⟩
  obtain ⟨us, h1, h2⟩ := hx.run hP hs' hxo
  have hl2 : us.length ≠ 1 := by
    have h3 := hx.len
    rw [h2.len, ← h3]; exact hr1
  have hres : (results fn a'.tmps).run P w' = .ok (.tuple us.toArray) w' := by
    rw [results_eq, hr]
    simp only [Sem.run_bind, List.mapM_toArray, Sem.run_map, h1, Result.andThen_ok, Sem.run_pure]
    simp [hl2]
  have hv : VV P κ' (.tup (xs.map (·.1))) tt (.tuple us.toArray) := ⟨by simp only [VT]; exact ⟨_, us, htt, rfl, VL_of_args h2⟩, rfl⟩
  rcases hex with rfl | rfl
  · exact ⟨hs'.defers, _, hres, κ', _, (.tup (xs.map (·.1)), tt), _, _, rfl, he, hs'.wr, hv, hk⟩
  · exact ⟨hs'.defers, _, hres, κ', _, (.tup (xs.map (·.1)), tt), _, _, rfl, he, hs'.wr, hv, hk⟩
end Go.Am
