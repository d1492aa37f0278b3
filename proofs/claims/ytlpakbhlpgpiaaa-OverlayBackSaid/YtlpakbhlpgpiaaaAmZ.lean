/- A layer over the walk's rules. This text: functions as values. -/
import Derived.Test.YtlpakbhlpgpiaaaAmY
set_option linter.unusedVariables false
set_option linter.unusedSimpArgs false
namespace Go.Am
variable {P : Program} {σ : St}
variable {d : Option Nat} {ty : TypeId} {p : String} {af : Array Edge} {g : Option (Nat × Bool)} {Kp : X → List AO → (Tips) → Prop}

/-- A tree whose cells do not hang on its type. -/
def T.free : T → Bool
  | .s _ | .ptr _ _ | .ep _ _ | .fn _ _ _ | .ifc _ _ | .any => true
  | _ => false
theorem VT_free {κ : K} {x : T} {a b : TypeId} {vs : List Value} (hf : x.free = true) (h : VT P κ x a vs) : VT P κ x b vs := by
  cases x <;> simp only [T.free, Bool.false_eq_true] at hf <;> simp only [VT] at h ⊢ <;> exact h
def X0 (ts : List T) : List X := ts.map fun t => (t, 0)
theorem VArgs_of_VC {κ : K} : ∀ {ts : List T} {vs : List Value}, VC P κ ts vs → VArgs P κ (X0 ts) vs
  | [], vs, h => by simp only [VC] at h; subst h; exact .nil
  | t :: ts, [], h => by simp only [VC] at h
  | t :: ts, v :: vs, h => by simp only [VC] at h; exact .cons h.1 (VArgs_of_VC h.2)
theorem VArgs.append {κ : K} : ∀ {xs ys : List X} {us vs : List Value}, VArgs P κ xs us → VArgs P κ ys vs → VArgs P κ (xs ++ ys) (us ++ vs)
  | _, _, _, _, .nil, k => k
  | _, _, _, _, .cons h k1, k => .cons h (k1.append k)
theorem VV_fn {κ : K} {f : Fn} {first cap : List T} {tf : TypeId} {v : Value} (h : VV P κ (.fn f first cap) tf v) : ∃ us ws, v = .func f us.toArray ws.toArray ∧ VC P κ first us ∧ VC P κ cap ws := by
  obtain ⟨q1, q2⟩ := h
  simp only [VT] at q1
  obtain ⟨us, ws, h1, h2, h3⟩ := q1
  exact ⟨us, ws, one_cell q2 h1, h2, h3⟩

/-- A function's value is called. -/
theorem OPE.callV {f : FuncId} {k : Nat} {first cap : List T} {tf : TypeId} {os : List Operand} {ats : Array TypeId} {xs : List X} (hk0 : lk σ.t k = some (.fn (.func f) first cap, tf)) (hf : enters P f = true) (ha : Args P σ os xs)
    (hc : ACalls P f (X0 first ++ xs ++ X0 cap) σ.h σ.u Kp) : OPE P ⟨d, .call { callee := .value (.tmp k), args := os.toArray, argTypes := ats }, ty, p, af, g⟩ σ Kp := fun κ a w next R hs hn => by
  obtain ⟨us, ws, q1, q2, q3⟩ := VV_fn (hs.eval hk0)
  have hr : (execOp a.eval ⟨d, .call { callee := .value (.tmp k), args := os.toArray, argTypes := ats }, ty, p, af, g⟩).run P w = .ok (.enter f (us ++ os.map a.eval ++ ws).toArray) w := by
    simp [execOp, resolve, q1, Deferred.ofValue, invoke, Sem.run_bind, run_callFunc hf]
  unfold Oper.wp
  rw [hr]
  show Calls P f (us ++ os.map a.eval ++ ws).toArray w _
  refine (hc κ w _ hs.wr (((VArgs_of_VC q2).append (ha.eval hs)).append (VArgs_of_VC q3))).mono ?_
  rintro e w' ⟨κ', v, x, h', u', rfl, h2, h3, h4, h5⟩
  exact hn κ' v x h' u' w' h2 h3 h4 h5

/-- What a function's value holds. -/
inductive Caps (P : Program) (σ : St) : List Operand → List T → Prop where
  | nil : Caps P σ [] []
  | cons {k : Nat} {os : List Operand} {x : T} {tx : TypeId} {xs : List T} (h : lk σ.t k = some (x, tx)) (hf : x.free = true) (k' : Caps P σ os xs) : Caps P σ (.tmp k :: os) (x :: xs)
theorem Caps.eval {κ : K} {a : Act} {w : World} (hs : SR P κ σ a w) : ∀ {os : List Operand} {xs : List T}, Caps P σ os xs → VC P κ xs (os.map a.eval)
  | _, _, .nil => by simp [VC]
  | _, _, .cons h hf k => by
    have hv := hs.eval h
    simp only [List.map_cons, VC]
    exact ⟨⟨VT_free hf hv.1, hv.2⟩, k.eval hs⟩
theorem OPE.makeFunc {fn : Fn} {o1 o2 : List Operand} {first cap : List T} (h1 : Caps P σ o1 first) (h2 : Caps P σ o2 cap) (hk : Kp (.fn fn first cap, ty) σ.h σ.u) : OPE P ⟨d, .makeFunc fn o1.toArray o2.toArray, ty, p, af, g⟩ σ Kp :=
  .pure (fun κ a w hs => ⟨.func fn (o1.map a.eval).toArray (o2.map a.eval).toArray, by simp [execOp, Instr.makeFunc], by
    refine ⟨?_, rfl⟩
    simp only [VT]
    exact ⟨_, _, rfl, h1.eval hs, h2.eval hs⟩⟩) hk
/-- A function's own value, assigned. -/
theorem OPE.assignF {f : Nat} (hk : Kp (.fn (.func f) [] [], ty) σ.h σ.u) : OPE P ⟨d, .assign (.func f), ty, p, af, g⟩ σ Kp :=
  .pure (fun κ a w hs => ⟨.func (.func f) #[] #[], by simp [execOp, Act.eval], by
    refine ⟨?_, rfl⟩
    simp only [VT]
    exact ⟨[], [], rfl, by simp only [VC], by simp only [VC]⟩⟩) hk
end Go.Am
