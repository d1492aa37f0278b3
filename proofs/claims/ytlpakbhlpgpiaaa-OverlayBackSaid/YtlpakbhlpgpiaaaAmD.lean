/- A layer over the walk's rules. This text: the moves of a walk. -/
import Derived.Test.YtlpakbhlpgpiaaaAmO
set_option linter.unusedVariables false
namespace Go.Am
variable {P : Program} {N : Nat} {L : List (Nat × T × TypeId)} {H : List AO} {U : Tips} {ops : Array Oper} {rest : List Oper} {Q : St → Prop} {D : Nat} {ty : TypeId} {p : String} {af : Array Edge}

theorem Then.n {f : St → Prop} {R : Exit → St → Prop} {σ : St} (h : f σ) : Then f R .normal σ := h
theorem Then.r {f : St → Prop} {R : Exit → St → Prop} {σ : St} (h : R .ret σ) : Then f R .ret σ := h
theorem Then.e {f : St → Prop} {R : Exit → St → Prop} {σ : St} {i : Nat} (h : R (.exit i) σ) : Then f R (.exit i) σ := h
theorem Then.g {f : St → Prop} {R : Exit → St → Prop} {σ : St} {i : Nat} (h : R (.goto i) σ) : Then f R (.goto i) σ := h
theorem InB.n {j : Nat} {R : Exit → St → Prop} {σ : St} (h : R .normal σ) : InB j R .normal σ := h
theorem InB.r {j : Nat} {R : Exit → St → Prop} {σ : St} (h : R .ret σ) : InB j R .ret σ := h
theorem InB.g {j i : Nat} {R : Exit → St → Prop} {σ : St} (h : R (.goto i) σ) : InB j R (.goto i) σ := h
theorem InB.here {j : Nat} {R : Exit → St → Prop} {σ : St} (h : R .normal σ) : InB j R (.exit j) σ := by
  simp only [InB, Nat.beq_refl]; exact h
theorem InB.past {i j : Nat} {R : Exit → St → Prop} {σ : St} (hb : Nat.beq i j = false) (h : R (.exit i) σ) : InB j R (.exit i) σ := by
  simp only [InB, hb]; exact h

theorem O.gT {op : Op} {j t : Nat} {want : Bool} {tb : TypeId} (hj : (ops[j]?).bind (·.dst) = some t) (hl : lk L t = some (.s (.bool want), tb)) (hd : Nat.blt D N = true) (hk : OPS P ops (⟨some D, op, ty, p, af, none⟩ :: rest) ⟨N, L, H, U⟩ Q) :
    OPS P ops (⟨some D, op, ty, p, af, some (j, want)⟩ :: rest) ⟨N, L, H, U⟩ Q := OPS.guardT rfl hj hl hd hk
theorem O.gF {op : Op} {j t : Nat} {b want : Bool} {tb : TypeId} (hj : (ops[j]?).bind (·.dst) = some t) (hl : lk L t = some (.s (.bool b), tb)) (hb : (b == want) = false) (hd : Nat.blt D N = true) (hk : OPS P ops rest ⟨N, (D, (.any, 0)) :: L, H, U⟩ Q) :
    OPS P ops (⟨some D, op, ty, p, af, some (j, want)⟩ :: rest) ⟨N, L, H, U⟩ Q := OPS.guardF rfl hj hl hb hd hk
theorem O.gU {op : Op} {j t : Nat} {want : Bool} {tb : TypeId} (hj : (ops[j]?).bind (·.dst) = some t) (hl : lk L t = some (.any, tb)) (hd : Nat.blt D N = true) (hk : OPS P ops rest ⟨N, (D, (.any, 0)) :: L, H, U⟩ Q) :
    OPS P ops (⟨some D, op, ty, p, af, some (j, want)⟩ :: rest) ⟨N, L, H, U⟩ Q := OPS.guardU rfl hj hl hd hk
theorem O.g {op : Op} {j t : Nat} {b want : Bool} {tb : TypeId} (hj : (ops[j]?).bind (·.dst) = some t) (hl : lk L t = some (.s (.bool b), tb)) (hd : Nat.blt D N = true) (h1 : b = want → OPS P ops (⟨some D, op, ty, p, af, none⟩ :: rest) ⟨N, L, H, U⟩ Q)
    (h2 : b = !want → OPS P ops rest ⟨N, (D, (.any, 0)) :: L, H, U⟩ Q) : OPS P ops (⟨some D, op, ty, p, af, some (j, want)⟩ :: rest) ⟨N, L, H, U⟩ Q := OPS.guard rfl hj hl hd h1 h2

/-- A function of values: what it answers, whatever lies in memory. -/
def Ans (P : Program) (f : FuncId) (args : List X) (r : X) : Prop :=
  (∀ x ∈ args, np x.1 = true) ∧ np r.1 = true ∧ ACalls P f args [] ⟨[], 0⟩ fun x _ _ => x = r
theorem Ans.calls {f : FuncId} {args : List X} {r : X} (hf : Ans P f args r) (h : List AO) (u : Tips) {Kp : X → List AO → (Tips) → Prop} (hk : Kp r h u) : ACalls P f args h u Kp :=
  ACalls.frame hf.1 (hf.2.2.mono fun x h' u' e => by subst e; exact ⟨hf.2.1, hk⟩)
theorem O.fn {f : FuncId} {os : List Operand} {ats : Array TypeId} {xs : List X} {r : X} (hd : Nat.blt D N = true) (hf : Ans P f xs r) (he : enters P f = true) (ha : Args P ⟨N, L, H, U⟩ os xs) (hk : OPS P ops rest ⟨N, (D, r) :: L, H, U⟩ Q) :
    OPS P ops (⟨some D, .call { callee := .value (.func f), args := os.toArray, argTypes := ats }, ty, p, af, none⟩ :: rest) ⟨N, L, H, U⟩ Q :=
  O.call hd he ha (hf.calls H U hk)

theorem O.fnV {k : Nat} {f : FuncId} {first cap : List T} {tf : TypeId} {os : List Operand} {ats : Array TypeId} {xs : List X} {r : X} (hd : Nat.blt D N = true) (h0 : lk L k = some (.fn (.func f) first cap, tf)) (hf : Ans P f (X0 first ++ xs ++ X0 cap) r) (he : enters P f = true) (ha : Args P ⟨N, L, H, U⟩ os xs) (hk : OPS P ops rest ⟨N, (D, r) :: L, H, U⟩ Q) :
    OPS P ops (⟨some D, .call { callee := .value (.tmp k), args := os.toArray, argTypes := ats }, ty, p, af, none⟩ :: rest) ⟨N, L, H, U⟩ Q :=
  OPS.op (Kp := fun x h u => OPS P ops rest (putS ⟨N, L, H, U⟩ (some D) x h u) Q) rfl hd (OPE.callV h0 he ha (hf.calls H U hk)) (fun _ _ _ h => h)

theorem Ans.body1 (hP : WfP P) {f : FuncId} {fn : Func} {c : Code} {rv : ResultVar} {args : List X} {r : X} (hf : P.funcs[f]? = some fn) (hb : fn.body = some c) (hr : fn.results = #[rv]) (hn : Nat.ble args.length fn.ntmps = true)
    (hnp : npL (args.map (·.1)) = true) (hnr : np r.1 = true)
    (hw : AW P c ⟨fn.ntmps, argT args 0, [], ⟨[], 0⟩⟩ fun e σ' => (e = .normal ∨ e = .ret) ∧ Res1 P σ' rv r ∧ (∀ k t, rv = .cell k t → r.1.aggB = aggT P r.2 ∧ (P.underlying r.2).isSome = true)) : Ans P f args r := by
  refine ⟨fun x hx => npL_iff.1 hnp _ (List.mem_map_of_mem hx), hnr, ACalls.body1 hP hf hb hr (Nat.le_of_ble_eq_true hn) ?_⟩
  exact hw.mono fun e σ ⟨h1, h2, h3⟩ => ⟨h1, r, h2, h3, rfl⟩
theorem Ans.bodyN (hP : WfP P) {f : FuncId} {fn : Func} {c : Code} {rvs : List ResultVar} {args rs : List X} (tt : TypeId) (hf : P.funcs[f]? = some fn) (hb : fn.body = some c) (hr : fn.results = rvs.toArray) (hr1 : rvs.length ≠ 1) (hn : Nat.ble args.length fn.ntmps = true)
    (htt : P.underlying tt = some (.tuple (rs.map (·.2)).toArray)) (hnp : npL (args.map (·.1)) = true) (hnr : npL (rs.map (·.1)) = true)
    (hw : AW P c ⟨fn.ntmps, argT args 0, [], ⟨[], 0⟩⟩ fun e σ' => (e = .normal ∨ e = .ret) ∧ ResL P σ' rvs rs ∧ resOk P rvs rs) : Ans P f args (.tup (rs.map (·.1)), tt) := by
  refine ⟨fun x hx => npL_iff.1 hnp _ (List.mem_map_of_mem hx), by simpa [np] using hnr, ACalls.bodyN hP tt hf hb hr hr1 (Nat.le_of_ble_eq_true hn) ?_⟩
  exact hw.mono fun e σ ⟨h1, h2, h3⟩ => ⟨h1, rs, h2, h3, htt, rfl⟩
end Go.Am
