/- A layer over the walk's rules. This text: the moves of a walk. -/
import Derived.Test.YtecacooabofloaaL4
import Derived.Orders
/- A layer over the walk's rules. This text: the moves of a walk. -/
set_option linter.unusedVariables false
namespace Go.Am
variable {P : Program} {N : Nat} {L : List (Nat × T × TypeId)} {H : List AO} {U : Tips} {ops : Array Oper} {rest : List Oper} {Q : St → Prop} {D : Nat} {ty : TypeId} {p : String} {af : Array Edge}

theorem Then.n {f : St → Prop} {R : Exit → St → Prop} {σ : St} (h : f σ) : Then f R .normal σ := h
theorem Then.r {f : St → Prop} {R : Exit → St → Prop} {σ : St} (h : R .ret σ) : Then f R .ret σ := h
theorem Then.e {f : St → Prop} {R : Exit → St → Prop} {σ : St} {i : Nat} (h : R (.exit i) σ) : Then f R (.exit i) σ := h
theorem Then.g {f : St → Prop} {R : Exit → St → Prop} {σ : St} {i : Nat} (h : R (.goto i) σ) : Then f R (.goto i) σ := h
theorem InB.n {j : Nat} {R : Exit → St → Prop} {σ : St} (h : R .normal σ) : InB j R .normal σ := h
theorem InB.r {j : Nat} {R : Exit → St → Prop} {σ : St} (h : R .ret σ) : InB j R .ret σ := h
theorem InB.g {j i : Nat} {R : Exit → St → Prop} {σ : St} (h : R (.goto i) σ) : InB j R (.goto i) σ := h
theorem InB.here {j : Nat} {R : Exit → St → Prop} {σ : St} (h : R .normal σ) : InB j R (.exit j) σ := by
  simp only [InB, Nat.beq_refl]; exact h
theorem InB.past {i j : Nat} {R : Exit → St → Prop} {σ : St} (hb : Nat.beq i j = false) (h : R (.exit i) σ) : InB j R (.exit i) σ := by
  simp only [InB, hb]; exact h

theorem O.gT {op : Op} {j t : Nat} {want : Bool} {tb : TypeId} (hj : (ops[j]?).bind (·.dst) = some t) (hl : lk L t = some (.s (.bool want), tb)) (hd : Nat.blt D N = true) (hk : OPS P ops (⟨some D, op, ty, p, af, none⟩ :: rest) ⟨N, L, H, U⟩ Q) :
    OPS P ops (⟨some D, op, ty, p, af, some (j, want)⟩ :: rest) ⟨N, L, H, U⟩ Q := OPS.guardT rfl hj hl hd hk
theorem O.gF {op : Op} {j t : Nat} {b want : Bool} {tb : TypeId} (hj : (ops[j]?).bind (·.dst) = some t) (hl : lk L t = some (.s (.bool b), tb)) (hb : (b == want) = false) (hd : Nat.blt D N = true) (hk : OPS P ops rest ⟨N, (D, (.any, 0)) :: L, H, U⟩ Q) :
    OPS P ops (⟨some D, op, ty, p, af, some (j, want)⟩ :: rest) ⟨N, L, H, U⟩ Q := OPS.guardF rfl hj hl hb hd hk
theorem O.gU {op : Op} {j t : Nat} {want : Bool} {tb : TypeId} (hj : (ops[j]?).bind (·.dst) = some t) (hl : lk L t = some (.any, tb)) (hd : Nat.blt D N = true) (hk : OPS P ops rest ⟨N, (D, (.any, 0)) :: L, H, U⟩ Q) :
    OPS P ops (⟨some D, op, ty, p, af, some (j, want)⟩ :: rest) ⟨N, L, H, U⟩ Q := OPS.guardU rfl hj hl hd hk
theorem O.g {op : Op} {j t : Nat} {b want : Bool} {tb : TypeId} (hj : (ops[j]?).bind (·.dst) = some t) (hl : lk L t = some (.s (.bool b), tb)) (hd : Nat.blt D N = true) (h1 : b = want → OPS P ops (⟨some D, op, ty, p, af, none⟩ :: rest) ⟨N, L, H, U⟩ Q)
    (h2 : b = !want → OPS P ops rest ⟨N, (D, (.any, 0)) :: L, H, U⟩ Q) : OPS P ops (⟨some D, op, ty, p, af, some (j, want)⟩ :: rest) ⟨N, L, H, U⟩ Q := OPS.guard rfl hj hl hd h1 h2

/-- A function of values: what it answers, whatever lies in memory. -/
def Ans (P : Program) (f : FuncId) (args : List X) (r : X) : Prop :=
  (∀ x ∈ args, np x.1 = true) ∧ np r.1 = true ∧ ACalls P f args [] ⟨[], 0⟩ fun x _ _ => x = r
theorem Ans.calls {f : FuncId} {args : List X} {r : X} (hf : Ans P f args r) (h : List AO) (u : Tips) {Kp : X → List AO → (Tips) → Prop} (hk : Kp r h u) : ACalls P f args h u Kp :=
  ACalls.frame hf.1 (hf.2.2.mono fun x h' u' e => by subst e; exact ⟨hf.2.1, hk⟩)
theorem O.fn {f : FuncId} {os : List Operand} {ats : Array TypeId} {xs : List X} {r : X} (hd : Nat.blt D N = true) (hf : Ans P f xs r) (he : enters P f = true) (ha : Args P ⟨N, L, H, U⟩ os xs) (hk : OPS P ops rest ⟨N, (D, r) :: L, H, U⟩ Q) :
    OPS P ops (⟨some D, .call { callee := .value (.func f), args := os.toArray, argTypes := ats }, ty, p, af, none⟩ :: rest) ⟨N, L, H, U⟩ Q :=
  O.call hd he ha (hf.calls H U hk)

theorem O.fnV {k : Nat} {f : FuncId} {first cap : List T} {tf : TypeId} {os : List Operand} {ats : Array TypeId} {xs : List X} {r : X} (hd : Nat.blt D N = true) (h0 : lk L k = some (.fn (.func f) first cap, tf)) (hf : Ans P f (X0 first ++ xs ++ X0 cap) r) (he : enters P f = true) (ha : Args P ⟨N, L, H, U⟩ os xs) (hk : OPS P ops rest ⟨N, (D, r) :: L, H, U⟩ Q) :
    OPS P ops (⟨some D, .call { callee := .value (.tmp k), args := os.toArray, argTypes := ats }, ty, p, af, none⟩ :: rest) ⟨N, L, H, U⟩ Q :=
  OPS.op (Kp := fun x h u => OPS P ops rest (putS ⟨N, L, H, U⟩ (some D) x h u) Q) rfl hd (OPE.callV h0 he ha (hf.calls H U hk)) (fun _ _ _ h => h)

theorem Ans.body1 (hP : WfP P) {f : FuncId} {fn : Func} {c : Code} {rv : ResultVar} {args : List X} {r : X} (hf : P.funcs[f]? = some fn) (hb : fn.body = some c) (hr : fn.results = #[rv]) (hn : Nat.ble args.length fn.ntmps = true)
    (hnp : npL (args.map (·.1)) = true) (hnr : np r.1 = true)
    (hw : AW P c ⟨fn.ntmps, argT args 0, [], ⟨[], 0⟩⟩ fun e σ' => (e = .normal ∨ e = .ret) ∧ Res1 P σ' rv r ∧ (∀ k t, rv = .cell k t → r.1.aggB = aggT P r.2 ∧ (P.underlying r.2).isSome = true)) : Ans P f args r := by
  refine ⟨fun x hx => npL_iff.1 hnp _ (List.mem_map_of_mem hx), hnr, ACalls.body1 hP hf hb hr (Nat.le_of_ble_eq_true hn) ?_⟩
  exact hw.mono fun e σ ⟨h1, h2, h3⟩ => ⟨h1, r, h2, h3, rfl⟩
theorem Ans.bodyN (hP : WfP P) {f : FuncId} {fn : Func} {c : Code} {rvs : List ResultVar} {args rs : List X} (tt : TypeId) (hf : P.funcs[f]? = some fn) (hb : fn.body = some c) (hr : fn.results = rvs.toArray) (hr1 : rvs.length ≠ 1) (hn : Nat.ble args.length fn.ntmps = true)
    (htt : P.underlying tt = some (.tuple (rs.map (·.2)).toArray)) (hnp : npL (args.map (·.1)) = true) (hnr : npL (rs.map (·.1)) = true)
    (hw : AW P c ⟨fn.ntmps, argT args 0, [], ⟨[], 0⟩⟩ fun e σ' => (e = .normal ∨ e = .ret) ∧ ResL P σ' rvs rs ∧ resOk P rvs rs) : Ans P f args (.tup (rs.map (·.1)), tt) := by
  refine ⟨fun x hx => npL_iff.1 hnp _ (List.mem_map_of_mem hx), by simpa [np] using hnr, ACalls.bodyN hP tt hf hb hr hr1 (Nat.le_of_ble_eq_true hn) ?_⟩
  exact hw.mono fun e σ ⟨h1, h2, h3⟩ => ⟨h1, rs, h2, h3, htt, rfl⟩
end Go.Am

/- A layer over the walk's rules. This text: a region that draws its order. -/
set_option linter.unusedVariables false
set_option linter.unusedSimpArgs false
namespace Go.Am
variable {P : Program}

/-- Less of a state is known: what an operation looks at is enough. -/
theorem OPE.weaken {o : Oper} {σ σ' : St} {Kp : X → List AO → (Tips) → Prop} (hw : Weak σ σ') (h : OPE P o σ' Kp) : OPE P o σ Kp := fun κ a w next R hs hn =>
  h κ a w next R (hw.sr hs) fun κ' v x h' u' w' h1 h2 h3 h4 => hn κ' v x h' u' w' (by rw [hw.u] at h1; exact h1) h2 h3 h4

/-- The slots that an operation looks at. -/
def slots (o : Oper) : List Nat := o.op.operands.toList.filterMap fun | .tmp t => some t | _ => none

/-- What stands before an operation, over the edges. B: for each number the numbers before it. -/
def befs (B : List (List Nat)) (i : Nat) : List Nat := B.getD i []
def chkRow (B : List (List Nat)) (i : Nat) (o : Oper) : Bool :=
  (o.after.toList.all fun e => !Region.binds .any e || (Nat.blt e.on i && (befs B i).contains e.on && (befs B e.on).all (befs B i).contains)) &&
  ((befs B i).all fun j => o.after.toList.any fun e => Region.binds .any e && (Nat.beq e.on j || (befs B e.on).contains j))
def chkRows (B : List (List Nat)) : Nat → List Oper → Bool
  | _, [] => true
  | i, o :: os => chkRow B i o && chkRows B (i + 1) os
theorem chkRows_at {B : List (List Nat)} : ∀ {l : List Oper} {k : Nat}, chkRows B k l = true → ∀ i o, l[i]? = some o → chkRow B (k + i) o = true
  | [], _, _, i, o, h => by simp at h
  | a :: l, k, h, i, o, hi => by
    simp only [chkRows, Bool.and_eq_true] at h
    cases i with
    | zero => simp at hi; subst hi; exact h.1
    | succ i =>
      simp only [List.getElem?_cons_succ] at hi
      have := chkRows_at h.2 i o hi
      rwa [show k + 1 + i = k + (i + 1) by omega] at this

section
variable {B : List (List Nat)} {l : List Oper}
theorem row_edge (hB : chkRows B 0 l = true) {i : Nat} {o : Oper} (hi : l[i]? = some o) {e : Edge} (he : e ∈ o.after) (hb : Region.binds .any e = true) : e.on < i ∧ e.on ∈ befs B i ∧ ∀ j ∈ befs B e.on, j ∈ befs B i := by
  have h := chkRows_at hB i o hi
  rw [Nat.zero_add] at h
  simp only [chkRow, Bool.and_eq_true] at h
  have h1 := List.all_eq_true.1 h.1 e (by simpa using he)
  simp only [hb, Bool.not_true, Bool.false_or, Bool.and_eq_true, Nat.blt_eq, List.contains_iff_mem, List.all_eq_true] at h1
  exact ⟨h1.1.1, h1.1.2, h1.2⟩
theorem row_from (hB : chkRows B 0 l = true) {i : Nat} {o : Oper} (hi : l[i]? = some o) {j : Nat} (hj : j ∈ befs B i) : ∃ e ∈ o.after, Region.binds .any e = true ∧ (e.on = j ∨ j ∈ befs B e.on) := by
  have h := chkRows_at hB i o hi
  rw [Nat.zero_add] at h
  simp only [chkRow, Bool.and_eq_true] at h
  have h1 := List.all_eq_true.1 h.2 j hj
  obtain ⟨e, he, h2⟩ := List.any_eq_true.1 h1
  simp only [Bool.and_eq_true, Bool.or_eq_true, List.contains_iff_mem] at h2
  refine ⟨e, by simpa using he, h2.1, ?_⟩
  rcases h2.2 with h3 | h3
  · exact .inl (Nat.eq_of_beq_eq_true h3)
  · exact .inr h3

/-- What is listed is closed. -/
def Cl (l : List Oper) (L : Array Bool) : Prop := ∀ i o, l[i]? = some o → L.getD i false = true → ∀ e ∈ o.after, Region.binds .any e = true → L.getD e.on false = true
theorem cl_befs (hB : chkRows B 0 l = true) {L : Array Bool} (hC : Cl l L) : ∀ (i : Nat) (o : Oper), l[i]? = some o → (∀ e ∈ o.after, Region.binds .any e = true → L.getD e.on false = true) → ∀ j ∈ befs B i, L.getD j false = true := by
  intro i
  induction i using Nat.strongRecOn with
  | _ i ih =>
    intro o hi hall j hj
    obtain ⟨e, he, hb, h⟩ := row_from hB hi hj
    have hl := hall e he hb
    rcases h with rfl | h
    · exact hl
    · obtain ⟨h1, _, _⟩ := row_edge hB hi he hb
      cases ho : l[e.on]? with
      | none =>
        have : e.on < i := h1
        have := (List.getElem?_eq_some_iff.1 hi).1
        rw [List.getElem?_eq_none_iff] at ho
        omega
      | some o' => exact ih e.on h1 o' ho (fun e' he' hb' => hC e.on o' ho hl e' he' hb') j h

/-- The bindings that the listed operations have made, the last of the text first. -/
def bindL (L : Nat → Bool) : List Oper → List X → Nat → List (Nat × T × TypeId)
  | o :: os, x :: xs, i => bindL L os xs (i + 1) ++ (match L i, o.dst with | true, some d => [(d, x)] | _, _ => [])
  | _, _, _ => []
theorem lk_append (s t : List (Nat × T × TypeId)) (k : Nat) : lk (s ++ t) k = match lk s k with | some x => some x | none => lk t k := by
  induction s with
  | nil => rfl
  | cons b s ih =>
    obtain ⟨j, x⟩ := b
    simp only [List.cons_append, lk]
    cases Nat.beq j k with
    | true => rfl
    | false => exact ih
/-- Of what a slot holds two lists tell the same, if they have the same writers of it. -/
theorem bindL_same {L L' : Nat → Bool} {k : Nat} : ∀ {os : List Oper} {xs : List X} {i : Nat}, (∀ j o, os[j]? = some o → o.dst = some k → L (i + j) = L' (i + j)) → lk (bindL L os xs i) k = lk (bindL L' os xs i) k
  | [], xs, i => fun _ => by simp [bindL]
  | o :: os, [], i => fun _ => by simp [bindL]
  | o :: os, x :: xs, i => fun h => by
    simp only [bindL, lk_append]
    have e := bindL_same (L := L) (L' := L') (k := k) (os := os) (xs := xs) (i := i + 1) fun j o' hj hd => by
      have := h (j + 1) o' (by simpa using hj) hd
      rwa [show i + (j + 1) = i + 1 + j by omega] at this
    rw [e]
    cases lk (bindL L' os xs (i + 1)) k with
    | some y => rfl
    | none =>
      simp only []
      by_cases hd : o.dst = some k
      · have h0 := h 0 o rfl hd
        rw [Nat.add_zero] at h0
        rw [h0]
      · cases ho : o.dst with
        | none => cases L i <;> cases L' i <;> rfl
        | some d =>
          have hne : Nat.beq d k = false := by
            cases hb : Nat.beq d k with
            | false => rfl
            | true => exact absurd (by rw [ho, Nat.eq_of_beq_eq_true hb]) hd
          cases L i <;> cases L' i <;> simp [lk, hne]

/-- What an operation finds of what it looks at. -/
def pickOut (ks : List Nat) (t : List (Nat × T × TypeId)) : List (Nat × T × TypeId) :=
  match ks with
  | [] => []
  | k :: ks => match lk t k with
    | some x => (k, x) :: pickOut ks t
    | none => pickOut ks t
theorem lk_pickOut {t : List (Nat × T × TypeId)} {k : Nat} {x : X} : ∀ {ks : List Nat}, lk (pickOut ks t) k = some x → k ∈ ks ∧ lk t k = some x
  | [] => fun h => by simp [pickOut, lk] at h
  | j :: ks => fun h => by
    simp only [pickOut] at h
    cases hj : lk t j with
    | none =>
      rw [hj] at h
      obtain ⟨h1, h2⟩ := lk_pickOut h
      exact ⟨.tail _ h1, h2⟩
    | some y =>
      rw [hj] at h
      simp only [lk] at h
      cases hb : Nat.beq j k with
      | true =>
        rw [hb] at h
        have := Nat.eq_of_beq_eq_true hb
        subst this
        exact ⟨.head _, by rw [hj]; exact h⟩
      | false =>
        rw [hb] at h
        obtain ⟨h1, h2⟩ := lk_pickOut h
        exact ⟨.tail _ h1, h2⟩
end
end Go.Am

/- A layer over the walk's rules. This text: a region that draws its order is walked in the order of the text. -/
set_option linter.unusedVariables false
set_option linter.unusedSimpArgs false
namespace Go.Am
variable {P : Program}

def guardSlot (l : List Oper) (o : Oper) : List Nat := match o.guard with
  | some (j, _) => match (l[j]?).bind (·.dst) with
    | some t => [t]
    | none => []
  | none => []
def slotsG (l : List Oper) (o : Oper) : List Nat := slots o ++ guardSlot l o
def env (B : List (List Nat)) (l : List Oper) (t0 : List (Nat × T × TypeId)) (o : Oper) (i : Nat) (done : List X) : List (Nat × T × TypeId) :=
  pickOut (slotsG l o) (bindL (fun j => (befs B i).contains j) l done 0 ++ t0)

/-- An operation that leaves h and u as they are, in memory of which they are known. -/
def EvS (P : Program) (N : Nat) (o : Oper) (t : List (Nat × T × TypeId)) (h : List AO) (u : Tips) (x : X) (h' : List AO) (u' : Tips) : Prop :=
  OPE P o ⟨N, t, h, u⟩ fun x' h2 u2 => x' = x ∧ h2 = h' ∧ u2 = u'
def Ev (P : Program) (N : Nat) (l : List Oper) (o : Oper) (t : List (Nat × T × TypeId)) (h : List AO) (u : Tips) (x : X) (h' : List AO) (u' : Tips) : Prop :=
  match o.guard with
  | none => EvS P N o t h u x h' u'
  | some (j, want) => ∃ k y ty, (l[j]?).bind (·.dst) = some k ∧ lk t k = some (y, ty) ∧ ((y = .s (.bool want) ∧ EvS P N { o with guard := none } t h u x h' u') ∨ ((y = .s (.bool !want) ∨ y = .any) ∧ x = (.any, 0) ∧ h' = h ∧ u' = u))

/-- The operations of a region that draws, one by one, in the order of the text. S: those that look at memory or change it; E: those that change it. -/
def DOPS (P : Program) (R : List AO → Prop) (B : List (List Nat)) (S E : List Nat) (N : Nat) (l : List Oper) (t0 : List (Nat × T × TypeId)) (Q : St → Prop) : List Oper → Nat → List X → List AO → (Tips) → Prop
  | [], _, done, h, u => Q ⟨N, bindL (fun _ => true) l done 0 ++ t0, h, u⟩
  | o :: rest, i, done, h, u =>
    dstOk ⟨N, [], [], u⟩ o.dst = true ∧ ((S.contains i = false ∧ ∃ x, (∀ h u, R h → Ev P N l o (env B l t0 o i done) h u x h u) ∧ DOPS P R B S E N l t0 Q rest (i + 1) (done ++ [x]) h u) ∨
    (S.contains i = true ∧ ∃ x h' u', Ev P N l o (env B l t0 o i done) h u x h' u' ∧ (E.contains i = false → h' = h ∧ u' = u) ∧ R h' ∧ DOPS P R B S E N l t0 Q rest (i + 1) (done ++ [x]) h' u'))

/-- All that the test asks of a region. -/
def slotsC (l : List Oper) (o : Oper) : List Nat := slotsG l o ++ o.dst.toList
def cmpB (B : List (List Nat)) (i j : Nat) : Bool := Nat.beq i j || (befs B i).contains j || (befs B j).contains i
def chkCmp (B : List (List Nat)) (l : List Oper) : Bool :=
  (List.range l.length).all fun i => match l[i]? with
    | some o => (slotsC l o).all fun k => (List.range l.length).all fun j => match l[j]? with
      | some o' => match o'.dst with
        | some d => !Nat.beq d k || cmpB B i j
        | none => true
      | none => true
    | none => true
def chkMem (B : List (List Nat)) (S E : List Nat) : Bool := E.all fun e => S.contains e && S.all fun s => cmpB B e s
def chkAll (B : List (List Nat)) (S E : List Nat) (l : List Oper) : Bool := chkRows B 0 l && chkCmp B l && chkMem B S E

theorem cmpB_iff {B : List (List Nat)} {i j : Nat} (h : cmpB B i j = true) : i = j ∨ j ∈ befs B i ∨ i ∈ befs B j := by
  simp only [cmpB, Bool.or_eq_true, List.contains_iff_mem] at h
  rcases h with (h | h) | h
  · exact .inl (Nat.eq_of_beq_eq_true h)
  · exact .inr (.inl h)
  · exact .inr (.inr h)
theorem cmp_of {B : List (List Nat)} {l : List Oper} (h : chkCmp B l = true) {i j k : Nat} {o o' : Oper} (hi : l[i]? = some o) (hk : k ∈ slotsC l o) (hj : l[j]? = some o') (hd : o'.dst = some k) : i = j ∨ j ∈ befs B i ∨ i ∈ befs B j := by
  have hil := (List.getElem?_eq_some_iff.1 hi).1
  have hjl := (List.getElem?_eq_some_iff.1 hj).1
  have h1 := List.all_eq_true.1 h i (List.mem_range.2 hil)
  rw [hi] at h1
  have h2 := List.all_eq_true.1 (List.all_eq_true.1 h1 k hk) j (List.mem_range.2 hjl)
  rw [hj] at h2
  simp only [hd] at h2
  simp only [Nat.beq_refl, Bool.not_true, Bool.false_or] at h2
  exact cmpB_iff h2

/-- What the steps are: each operation's outcome, memory before each. -/
theorem DOPS.outs {R : List AO → Prop} {B : List (List Nat)} {S E : List Nat} {N : Nat} {l : List Oper} {t0 : List (Nat × T × TypeId)} {Q : St → Prop} : ∀ (rest : List Oper) (i : Nat) (done : List X) (h : List AO) (u : Tips), DOPS P R B S E N l t0 Q rest i done h u → R h → done.length = i → (∀ j, rest[j]? = l[i + j]?) →
    ∃ (outs : List X) (M : Nat → List AO × (Tips)), outs.length = i + rest.length ∧ outs.take i = done ∧ M i = (h, u) ∧ (∀ j, i ≤ j → R (M j).1) ∧
      (∀ j o, i ≤ j → l[j]? = some o → dstOk ⟨N, [], [], u⟩ o.dst = true ∧ ∃ x, outs[j]? = some x ∧
        ((S.contains j = false ∧ (∀ h u, R h → Ev P N l o (env B l t0 o j (outs.take j)) h u x h u) ∧ M (j + 1) = M j) ∨
         (S.contains j = true ∧ Ev P N l o (env B l t0 o j (outs.take j)) (M j).1 (M j).2 x (M (j + 1)).1 (M (j + 1)).2 ∧ (E.contains j = false → M (j + 1) = M j)))) ∧
      Q ⟨N, bindL (fun _ => true) l outs 0 ++ t0, (M (i + rest.length)).1, (M (i + rest.length)).2⟩
  | [], i, done, h, u => fun hd hR hl hr => by
    refine ⟨done, fun _ => (h, u), by simpa using hl, by rw [← hl]; simp, rfl, fun _ _ => hR, fun j o hij hj => ?_, hd⟩
    have h1 := hr (j - i)
    rw [show i + (j - i) = j by omega, hj] at h1
    simp at h1
  | o :: rest, i, done, h, u => fun hd hR hl hr => by
    simp only [DOPS] at hd
    have hr' : ∀ j, rest[j]? = l[i + 1 + j]? := fun j => by
      have := hr (j + 1)
      simp only [List.getElem?_cons_succ] at this
      rw [this]; congr 1; omega
    have ho : l[i]? = some o := by have := hr 0; simpa using this.symm
    obtain ⟨hdst, hd⟩ := hd
    rcases hd with ⟨hS, x, hx, hd⟩ | ⟨hS, x, h', u', hx, hE, hR', hd⟩
    · obtain ⟨outs, M, q1, q2, q3, qR, q4, q5⟩ := DOPS.outs rest (i + 1) (done ++ [x]) h u hd hR (by simp [hl]) hr'
      have hlen : i < outs.length := by omega
      have htake : outs.take i = done := by
        have := congrArg (List.take i) q2
        rw [List.take_take, Nat.min_eq_left (by omega)] at this
        rw [this, ← hl]; simp
      have hxi : outs[i]? = some x := by
        have : (outs.take (i + 1))[i]? = some x := by rw [q2, ← hl]; simp
        rw [List.getElem?_take_of_lt (by omega)] at this; exact this
      obtain ⟨M', hM0, hM1⟩ : ∃ M' : Nat → List AO × (Tips), M' i = (h, u) ∧ ∀ j, j ≠ i → M' j = M j := ⟨fun j => if j = i then (h, u) else M j, if_pos rfl, fun j hj => if_neg hj⟩
      refine ⟨outs, M', by simp at q1 ⊢; omega, htake, hM0, fun j hj => (by
        by_cases e : j = i
        · rw [e, hM0]; exact hR
        · rw [hM1 j e]; exact qR j (by omega)), fun j o' hij hj => ?_, ?_⟩
      · by_cases e : j = i
        · subst e
          rw [ho] at hj
          cases hj
          refine ⟨hdst, x, hxi, ?_⟩
          rw [hM0, hM1 (j + 1) (by omega), q3, htake]
          exact .inl ⟨hS, hx, rfl⟩
        · obtain ⟨r0, x', r1, r2⟩ := q4 j o' (by omega) hj
          refine ⟨r0, x', r1, ?_⟩
          rw [hM1 j e, hM1 (j + 1) (by omega)]
          exact r2
      · simp only [List.length_cons]
        rw [hM1 _ (by omega), show i + (rest.length + 1) = i + 1 + rest.length by omega]; exact q5
    · obtain ⟨outs, M, q1, q2, q3, qR, q4, q5⟩ := DOPS.outs rest (i + 1) (done ++ [x]) h' u' hd hR' (by simp [hl]) hr'
      have hlen : i < outs.length := by omega
      have htake : outs.take i = done := by
        have := congrArg (List.take i) q2
        rw [List.take_take, Nat.min_eq_left (by omega)] at this
        rw [this, ← hl]; simp
      have hxi : outs[i]? = some x := by
        have : (outs.take (i + 1))[i]? = some x := by rw [q2, ← hl]; simp
        rw [List.getElem?_take_of_lt (by omega)] at this; exact this
      obtain ⟨M', hM0, hM1⟩ : ∃ M' : Nat → List AO × (Tips), M' i = (h, u) ∧ ∀ j, j ≠ i → M' j = M j := ⟨fun j => if j = i then (h, u) else M j, if_pos rfl, fun j hj => if_neg hj⟩
      refine ⟨outs, M', by simp at q1 ⊢; omega, htake, hM0, fun j hj => (by
        by_cases e : j = i
        · rw [e, hM0]; exact hR
        · rw [hM1 j e]; exact qR j (by omega)), fun j o' hij hj => ?_, ?_⟩
      · by_cases e : j = i
        · subst e
          rw [ho] at hj
          cases hj
          refine ⟨hdst, x, hxi, ?_⟩
          rw [hM0, hM1 (j + 1) (by omega), q3, htake]
          exact .inr ⟨hS, hx, fun hE' => by obtain ⟨a1, a2⟩ := hE hE'; rw [a1, a2]⟩
        · obtain ⟨r0, x', r1, r2⟩ := q4 j o' (by omega) hj
          refine ⟨r0, x', r1, ?_⟩
          rw [hM1 j e, hM1 (j + 1) (by omega)]
          exact r2
      · simp only [List.length_cons]
        rw [hM1 _ (by omega), show i + (rest.length + 1) = i + 1 + rest.length by omega]; exact q5
end Go.Am

/- A layer over the walk's rules. This text: what is walked in the order of the text holds in every order. -/
set_option linter.unusedVariables false
set_option linter.unusedSimpArgs false
namespace Go.Am
variable {P : Program}

theorem bindL_congr {L L' : Nat → Bool} : ∀ {os : List Oper} {xs : List X} {i : Nat}, (∀ j, j < os.length → L (i + j) = L' (i + j)) → bindL L os xs i = bindL L' os xs i
  | [], xs, i => fun _ => by simp [bindL]
  | o :: os, [], i => fun _ => by simp [bindL]
  | o :: os, x :: xs, i => fun h => by
    have h0 := h 0 (by simp)
    rw [Nat.add_zero] at h0
    have e := bindL_congr (L := L) (L' := L') (os := os) (xs := xs) (i := i + 1) fun j hj => by
      have := h (j + 1) (by simp; omega)
      rwa [show i + (j + 1) = i + 1 + j by omega] at this
    simp only [bindL, e, h0]
theorem bindL_off {L : Nat → Bool} : ∀ {os : List Oper} {xs : List X} {i : Nat}, (∀ j, i ≤ j → L j = false) → bindL L os xs i = []
  | [], xs, i => fun _ => by simp [bindL]
  | o :: os, [], i => fun _ => by simp [bindL]
  | o :: os, x :: xs, i => fun h => by simp only [bindL, h i (Nat.le_refl _), bindL_off (os := os) (xs := xs) (i := i + 1) fun j hj => h j (by omega), List.nil_append]
theorem bindL_take {L : Nat → Bool} {m : Nat} : ∀ {os : List Oper} {xs : List X} {i : Nat}, (∀ j, m ≤ j → L j = false) → i ≤ m → bindL L os (xs.take (m - i)) i = bindL L os xs i
  | [], xs, i => fun _ _ => by simp [bindL]
  | o :: os, [], i => fun _ _ => by simp [bindL]
  | o :: os, x :: xs, i => fun h hi => by
    by_cases e : i = m
    · subst e
      rw [bindL_off h, bindL_off h]
    · rw [show m - i = (m - (i + 1)) + 1 by omega, List.take_succ_cons]
      simp only [bindL]
      rw [bindL_take h (by omega)]
theorem lk_bindL_at {L : Nat → Bool} {d : Nat} {x : X} : ∀ {os : List Oper} {xs : List X} {i m : Nat} {o : Oper}, os[m]? = some o → o.dst = some d → xs[m]? = some x → L (i + m) = true → (∀ j o', m < j → os[j]? = some o' → o'.dst = some d → L (i + j) = false) → lk (bindL L os xs i) d = some x
  | [], _, _, _, _ => fun h => by simp at h
  | o :: os, [], i, m, _ => fun _ _ h => by simp at h
  | o :: os, y :: xs, i, 0, o1 => fun h1 h2 h3 h4 h5 => by
    simp at h1 h3
    subst h1; subst h3
    rw [Nat.add_zero] at h4
    simp only [bindL, lk_append]
    have hn : lk (bindL L os xs (i + 1)) d = lk (bindL (fun _ => false) os xs (i + 1)) d := bindL_same fun j o' hj hd => by
      have := h5 (j + 1) o' (by omega) (by simpa using hj) hd
      rwa [show i + (j + 1) = i + 1 + j by omega] at this
    rw [hn, bindL_off (fun _ _ => rfl)]
    simp [lk, h4, h2]
  | o :: os, y :: xs, i, m + 1, o1 => fun h1 h2 h3 h4 h5 => by
    simp only [List.getElem?_cons_succ] at h1 h3
    simp only [bindL, lk_append]
    rw [lk_bindL_at h1 h2 h3 (by rwa [show i + (m + 1) = i + 1 + m by omega] at h4) fun j o' hj hj2 hd => by
      have := h5 (j + 1) o' (by omega) (by simpa using hj2) hd
      rwa [show i + (j + 1) = i + 1 + j by omega] at this]

theorem befs_lt {B : List (List Nat)} {l : List Oper} (hB : chkRows B 0 l = true) : ∀ (i : Nat) (o : Oper), l[i]? = some o → ∀ j ∈ befs B i, j < i := by
  intro i
  induction i using Nat.strongRecOn with
  | _ i ih =>
    intro o hi j hj
    obtain ⟨e, he, hb, h⟩ := row_from hB hi hj
    obtain ⟨h1, _, _⟩ := row_edge hB hi he hb
    rcases h with rfl | h
    · exact h1
    · cases ho : l[e.on]? with
      | none =>
        have := (List.getElem?_eq_some_iff.1 hi).1
        rw [List.getElem?_eq_none_iff] at ho
        omega
      | some o' => have := ih e.on h1 o' ho j h; omega

structure Lim (E : List Nat) (n : Nat) (L : Array Bool) (m : Nat) : Prop where
  le : m ≤ n
  iff : ∀ e, E.contains e = true → e < n → (L.getD e false = true ↔ e < m)

theorem lim_same {E : List Nat} {n : Nat} {L : Array Bool} {M : Nat → List AO × (Tips)} (hM : ∀ j, j < n → E.contains j = false → M (j + 1) = M j) {m m' : Nat} (h : Lim E n L m) (h' : Lim E n L m') : M m = M m' := by
  have key : ∀ (a b : Nat), Lim E n L a → Lim E n L b → a ≤ b → M a = M b := by
    intro a b ha hb hab
    have : ∀ k, a + k ≤ b → M (a + k) = M a := by
      intro k
      induction k with
      | zero => intro _; rfl
      | succ k ih =>
        intro hk
        have hE : E.contains (a + k) = false := by
          cases hc : E.contains (a + k) with
          | false => rfl
          | true =>
            have hn : a + k < n := by have := hb.le; omega
            have h2 := (hb.iff _ hc hn).2 (by omega)
            have h1 := (ha.iff _ hc hn).1 h2
            omega
        rw [← ih (by omega)]
        exact hM (a + k) (by have := hb.le; omega) hE
    have := this (b - a) (by omega)
    rw [show a + (b - a) = b by omega] at this
    exact this.symm
  rcases Nat.le_total m m' with hm | hm
  · exact key m m' h h' hm
  · exact (key m' m h' h hm).symm

theorem SR.same {κ : K} {σ : St} {a : Act} {w : World} (hs : SR P κ σ a w) {t : List (Nat × T × TypeId)} (ht : ∀ k, lk t k = lk σ.t k) : SR P κ ⟨σ.n, t, σ.h, σ.u⟩ a w :=
  ⟨hs.defers, hs.size, fun k x ty hk => hs.tmp k x ty (by rw [← ht]; exact hk), hs.wr⟩

theorem getD_false_of {L : Array Bool} {i n : Nat} (hn : L.size = n) (hi : i < n) (h : L.getD i true = false) : L.getD i false = false := by
  simp [Array.getD_eq_getD_getElem?, hn, hi] at h ⊢
  exact h

structure Inv (P : Program) (E : List Nat) (N : Nat) (l : List Oper) (t0 : List (Nat × T × TypeId)) (outs : List X) (M : Nat → List AO × (Tips)) (κ : K) (U : Tips) (w : World) (L : Array Bool) (a' : Act) (w' : World) : Prop where
  size : L.size = l.length
  cl : Cl l L
  st : ∃ κ' m, Lim E l.length L m ∧ Ext κ U w κ' (M m).2 w' ∧ SR P κ' ⟨N, bindL (fun j => L.getD j false) l outs 0 ++ t0, (M m).1, (M m).2⟩ a' w'

section
variable {B : List (List Nat)} {S E : List Nat} {N : Nat} {l : List Oper} {t0 : List (Nat × T × TypeId)} {outs : List X} {M : Nat → List AO × (Tips)} {κ : K} {U : Tips} {w : World} {L : Array Bool}

/-- What an operation that may come up next finds is what the text's order finds. -/
theorem weak_env (hB : chkRows B 0 l = true) (hC : chkCmp B l = true) (hsz : L.size = l.length) (hcl : Cl l L) {i : Nat} {o : Oper} (hi : l[i]? = some o) (hun : L.getD i true = false) (hpre : ∀ e ∈ o.after, Region.binds .any e = true → L.getD e.on false = true) (h : List AO) (u : Tips) :
    Weak ⟨N, bindL (fun j => L.getD j false) l outs 0 ++ t0, h, u⟩ ⟨N, env B l t0 o i (outs.take i), h, u⟩ := by
  refine ⟨rfl, fun k x hk => ?_, rfl, rfl⟩
  have hil := (List.getElem?_eq_some_iff.1 hi).1
  obtain ⟨h1, h2⟩ := lk_pickOut hk
  have hbf : ∀ j, i ≤ j → (befs B i).contains j = false := fun j hj => by
    cases hc : (befs B i).contains j with
    | false => rfl
    | true => have := befs_lt hB i o hi j (by simpa using hc); omega
  have e1 : bindL (fun j => (befs B i).contains j) l (outs.take i) 0 = bindL (fun j => (befs B i).contains j) l outs 0 := by
    have := bindL_take (L := fun j => (befs B i).contains j) (m := i) (os := l) (xs := outs) (i := 0) hbf (Nat.zero_le _)
    simpa using this
  rw [e1, lk_append] at h2
  have e2 : lk (bindL (fun j => L.getD j false) l outs 0) k = lk (bindL (fun j => (befs B i).contains j) l outs 0) k := bindL_same fun j o' hj hd => by
    simp only [Nat.zero_add]
    have hjl := (List.getElem?_eq_some_iff.1 hj).1
    rcases cmp_of hC hi (List.mem_append_left _ h1) hj hd with rfl | hlt | hgt
    · rw [hbf i (Nat.le_refl _)]; exact getD_false_of hsz hil hun
    · have := cl_befs hB hcl i o hi hpre j hlt
      rw [this]; exact (by simpa using hlt : (befs B i).contains j = true).symm
    · have hji : i < j := befs_lt hB j o' hj i hgt
      rw [hbf j (by omega)]
      cases hc : L.getD j false with
      | false => rfl
      | true =>
        have := cl_befs hB hcl j o' hj (fun e he hb => hcl j o' hj hc e he hb) i hgt
        rw [getD_false_of hsz hil hun] at this; cases this
  show lk (bindL (fun j => L.getD j false) l outs 0 ++ t0) k = some x
  rw [lk_append, e2]; exact h2

/-- One operation more is listed. -/
theorem Inv.next (hB : chkRows B 0 l = true) (hC : chkCmp B l = true) {a' : Act} {w' w2 : World} {κ1 κ2 : K} {i m m2 : Nat} {o : Oper} {x : X} {v : Value} {h2 : List AO} {u2 : Tips}
    (hsz : L.size = l.length) (hcl : Cl l L) (hi : l[i]? = some o) (hun : L.getD i true = false) (hpre : ∀ e ∈ o.after, Region.binds .any e = true → L.getD e.on false = true) (hx : outs[i]? = some x)
    (hdst : dstOk ⟨N, [], [], U⟩ o.dst = true) (hext : Ext κ U w κ1 (M m).2 w') (hs : SR P κ1 ⟨N, bindL (fun j => L.getD j false) l outs 0 ++ t0, (M m).1, (M m).2⟩ a' w')
    (he : Ext κ1 (M m).2 w' κ2 u2 w2) (hwr : WR P κ2 w2 h2 u2) (hv : VV P κ2 x.1 x.2 v) (hh : h2 = (M m2).1) (hu : u2 = (M m2).2) (hlim : Lim E l.length (L.setIfInBounds i true) m2) :
    Inv P E N l t0 outs M κ U w (L.setIfInBounds i true) (a'.put o.dst v) w2 := by
  have hil := (List.getElem?_eq_some_iff.1 hi).1
  have hset : ∀ j, (L.setIfInBounds i true).getD j false = if i = j then true else L.getD j false := fun j => by
    by_cases e : i = j
    · subst e; simp [Array.getD_eq_getD_getElem?, hsz, hil]
    · rw [if_neg e]; simp [Array.getD_eq_getD_getElem?, Array.getElem?_setIfInBounds_ne e]
  refine ⟨by simpa using hsz, fun j o' hj hl e hedge hb => ?_, κ2, m2, hlim, hext.trans (by rw [hu] at he; exact he), ?_⟩
  · rw [hset] at hl ⊢
    by_cases e1 : i = j
    · subst e1
      rw [hi] at hj
      cases hj
      have := hpre e hedge hb
      by_cases e2 : i = e.on
      · rw [if_pos e2]
      · rw [if_neg e2]; exact this
    · rw [if_neg e1] at hl
      have := hcl j o' hj hl e hedge hb
      by_cases e2 : i = e.on
      · rw [if_pos e2]
      · rw [if_neg e2]; exact this
  · subst hh
    have hs2 := hs.put (d := o.dst) (by exact hdst) (by rw [hu] at he; exact he) (by rw [hu] at hwr; exact hwr) hv
    have := hs2.same (t := bindL (fun j => (L.setIfInBounds i true).getD j false) l outs 0 ++ t0) fun k => ?_
    · have e3 : (putS ⟨N, bindL (fun j => L.getD j false) l outs 0 ++ t0, (M m).1, (M m).2⟩ o.dst x (M m2).1 (M m2).2).n = N := by unfold putS; split <;> rfl
      have e4 : (putS ⟨N, bindL (fun j => L.getD j false) l outs 0 ++ t0, (M m).1, (M m).2⟩ o.dst x (M m2).1 (M m2).2).h = (M m2).1 := by unfold putS; split <;> rfl
      have e5 : (putS ⟨N, bindL (fun j => L.getD j false) l outs 0 ++ t0, (M m).1, (M m).2⟩ o.dst x (M m2).1 (M m2).2).u = (M m2).2 := by unfold putS; split <;> rfl
      rw [e3, e4, e5] at this
      exact this
    · cases hd : o.dst with
      | none =>
        simp only [putS, lk_append]
        rw [bindL_same (L := fun j => (L.setIfInBounds i true).getD j false) (L' := fun j => L.getD j false) fun j o' hj hd' => by
          simp only [Nat.zero_add, hset]
          rw [if_neg]
          rintro rfl
          rw [hi] at hj
          cases hj
          rw [hd] at hd'; cases hd']
      | some d =>
        simp only [putS, lk]
        cases hb : Nat.beq d k with
        | true =>
          have := Nat.eq_of_beq_eq_true hb
          subst this
          rw [lk_append, lk_bindL_at (L := fun j => (L.setIfInBounds i true).getD j false) hi hd hx (by simp only [Nat.zero_add, hset]; simp) fun j o' hj hj2 hd' => ?_]
          simp only [Nat.zero_add, hset]
          rw [if_neg (by omega)]
          rcases cmp_of hC hi (List.mem_append_right _ (by rw [hd]; simp)) hj2 hd' with e | e | e
          · omega
          · have := befs_lt hB i o hi j e; omega
          · cases hc : L.getD j false with
            | false => rfl
            | true =>
              have := cl_befs hB hcl j o' hj2 (fun e he hb => hcl j o' hj2 hc e he hb) i e
              rw [getD_false_of hsz hil hun] at this; cases this
        | false =>
          have hne : d ≠ k := Nat.ne_of_beq_eq_false hb
          simp only [lk_append]
          rw [bindL_same (L := fun j => (L.setIfInBounds i true).getD j false) (L' := fun j => L.getD j false) fun j o' hj hd' => by
            simp only [Nat.zero_add, hset]
            rw [if_neg]
            rintro rfl
            rw [hi] at hj
            cases hj
            rw [hd] at hd'
            exact hne (Option.some.inj hd')]
end
end Go.Am

/- A layer over the walk's rules. This text: the rule for a region that draws its order. -/
set_option linter.unusedVariables false
set_option linter.unusedSimpArgs false
namespace Go.Am
variable {P : Program} {R : List AO → Prop} {B : List (List Nat)} {S E : List Nat} {N : Nat} {l : List Oper} {t0 : List (Nat × T × TypeId)} {H : List AO} {U : Tips} {Q : Exit → St → Prop}

theorem chkMem_of (h : chkMem B S E = true) {e s : Nat} (he : E.contains e = true) (hs : S.contains s = true) : S.contains e = true ∧ (e = s ∨ s ∈ befs B e ∨ e ∈ befs B s) := by
  have h1 := List.all_eq_true.1 h e (by simpa using he)
  simp only [Bool.and_eq_true] at h1
  exact ⟨h1.1, cmpB_iff (List.all_eq_true.1 h1.2 s (by simpa using hs))⟩

theorem AW.draw {id : Nat} (hm : P.follows .mixedOrders = true) (hchk : chkAll B S E l = true) (h0 : R H) (h : DOPS P R B S E N l t0 (fun σ' => Q .normal σ') l 0 [] H U) :
    AW P (.region id l.toArray true) ⟨N, t0, H, U⟩ Q := by
  intro κ a w hs
  simp only [chkAll, Bool.and_eq_true] at hchk
  obtain ⟨⟨hB, hC⟩, hM⟩ := hchk
  obtain ⟨outs, M, q1, q2, q3, qR, q4, q5⟩ := DOPS.outs l 0 [] H U h h0 rfl (by simp)
  simp only [Nat.zero_add] at q1 q5
  have hMc : ∀ j, j < l.length → E.contains j = false → M (j + 1) = M j := fun j hj hE => by
    obtain ⟨_, x, _, r⟩ := q4 j l[j] (Nat.zero_le _) (List.getElem?_eq_getElem hj)
    rcases r with ⟨_, _, r⟩ | ⟨_, _, r⟩
    · exact r
    · exact r hE
  refine wp_region_any hm ?_
  have key : ∀ (fuel : Nat) (L : Array Bool) (a' : Act) (w' : World), Inv P E N l t0 outs M κ U w L a' w' → (∃ T : List Nat, T.length ≤ fuel ∧ ∀ j, j < l.length → L.getD j true = false → j ∈ T) →
      wpAny P .any l.toArray (lift P κ U w Q) fuel L a' w' := by
    have fin : ∀ (L : Array Bool) (a' : Act) (w' : World), Inv P E N l t0 outs M κ U w L a' w' → Region.ready .any l.toArray L = [] → lift P κ U w Q .normal a' w' := by
      intro L a' w' hI hr
      have hall : ∀ j, j < l.length → L.getD j false = true := by
        intro j
        induction j using Nat.strongRecOn with
        | _ j ih =>
          intro hj
          cases hc : L.getD j true with
          | true => simp [Array.getD_eq_getD_getElem?, hI.size, hj] at hc ⊢; exact hc
          | false =>
            have : j ∈ Region.ready .any l.toArray L := mem_ready.2 ⟨hc, l[j], by simp [hj], fun e he hb => by
              have h1 := (row_edge hB (List.getElem?_eq_getElem hj) he hb).1
              exact ih e.on h1 (by omega)⟩
            rw [hr] at this; cases this
      obtain ⟨κ', m, hl, he, hs'⟩ := hI.st
      have hln : Lim E l.length L l.length := ⟨Nat.le_refl _, fun e _ hn => ⟨fun _ => hn, fun _ => hall e hn⟩⟩
      rw [lim_same hMc hl hln] at he hs'
      rw [bindL_congr (L := fun j => L.getD j false) (L' := fun _ => true) fun j hj => by simpa using hall j hj] at hs'
      exact ⟨κ', _, he, hs', q5⟩
    intro fuel
    induction fuel with
    | zero =>
      rintro L a' w' hI ⟨T, hT, hTa⟩
      have hT0 : T = [] := by cases T <;> simp_all
      subst hT0
      have hr : Region.ready .any l.toArray L = [] := by
        cases hr : Region.ready .any l.toArray L with
        | nil => rfl
        | cons i rs =>
          have hi : i ∈ Region.ready .any l.toArray L := by rw [hr]; exact .head _
          obtain ⟨h1, o, h2, _⟩ := mem_ready.1 hi
          have := hTa i (by have := (Array.getElem?_eq_some_iff.1 h2).1; simpa using this) h1
          cases this
      exact ⟨hr, fin L a' w' hI hr⟩
    | succ fuel ih =>
      rintro L a' w' hI ⟨T, hT, hTa⟩
      refine ⟨fun hr => fin L a' w' hI hr, fun i hi => ?_⟩
      obtain ⟨hun, o, ho, hpre⟩ := mem_ready.1 hi
      have ho' : l[i]? = some o := by simpa using ho
      have hil := (List.getElem?_eq_some_iff.1 ho').1
      obtain ⟨hdst, x, hx, hev⟩ := q4 i o (Nat.zero_le _) ho'
      obtain ⟨κ1, m, hl, he, hs'⟩ := hI.st
      have hiT : i ∈ T := hTa i hil hun
      have hT' : ∃ T' : List Nat, T'.length ≤ fuel ∧ ∀ j, j < l.length → (L.setIfInBounds i true).getD j true = false → j ∈ T' := by
        refine ⟨T.erase i, by rw [List.length_erase_of_mem hiT]; omega, fun j hj hjl => ?_⟩
        by_cases e : i = j
        · subst e; simp [Array.getD_eq_getD_getElem?, hI.size, hil] at hjl
        · rw [getD_set_ne true e] at hjl
          exact (List.mem_erase_of_ne (Ne.symm e)).2 (hTa j hj hjl)
      -- which effects are listed
      have hset : ∀ j, (L.setIfInBounds i true).getD j false = if i = j then true else L.getD j false := fun j => by
        by_cases e : i = j
        · subst e; simp [Array.getD_eq_getD_getElem?, hI.size, hil]
        · rw [if_neg e]; simp [Array.getD_eq_getD_getElem?, Array.getElem?_setIfInBounds_ne e]
      -- the step itself, of memory m1 before and m2 behind
      have step : ∀ m1 m2, M m1 = M m → Lim E l.length (L.setIfInBounds i true) m2 → Ev P N l o (env B l t0 o i (outs.take i)) (M m1).1 (M m1).2 x (M m2).1 (M m2).2 →
          wpOp P l.toArray (lift P κ U w Q) i (wpAny P .any l.toArray (lift P κ U w Q) fuel (L.setIfInBounds i true)) a' w' := by
        intro m1 m2 hm1 hlim hE
        rw [hm1] at hE
        have hweak := weak_env (outs := outs) (t0 := t0) (N := N) hB hC hI.size hI.cl ho' hun hpre (M m).1 (M m).2
        have fire : ∀ o2 : Oper, o2.dst = o.dst → EvS P N o2 (env B l t0 o i (outs.take i)) (M m).1 (M m).2 x (M m2).1 (M m2).2 → o2.wp P a' w' (wpAny P .any l.toArray (lift P κ U w Q) fuel (L.setIfInBounds i true)) (lift P κ U w Q) := by
          intro o2 hd2 h2
          refine (OPE.weaken hweak h2) κ1 a' w' _ _ hs' fun κ' v x' h' u' w2 r1 r2 r3 ⟨r4, r5, r6⟩ => ?_
          subst r4
          rw [hd2]
          exact ih _ _ _ (Inv.next hB hC hI.size hI.cl ho' hun hpre hx hdst he hs' r1 r2 r3 r5 r6 hlim) hT'
        unfold wpOp
        rw [ho]
        unfold Ev at hE
        cases hg : o.guard with
        | none =>
          rw [hg] at hE
          simp only []
          rw [if_pos (by simp [Region.wanted, hg])]
          exact .inl (fire o rfl hE)
        | some gw =>
          obtain ⟨j, want⟩ := gw
          rw [hg] at hE
          obtain ⟨k, y, tb, e1, e2, e3⟩ := hE
          simp only []
          rcases e3 with ⟨rfl, e3⟩ | ⟨hy, rfl, e4, e5⟩
          · have hw := wanted_of (ops := l.toArray) (hweak.sr hs') hg (by simpa using e1) e2
            rw [hw, if_pos (by simp)]
            exact .inl (fire { o with guard := none } rfl e3)
          · have hw : Region.wanted o (yielded l.toArray a'.tmps) = false := by
              rcases hy with rfl | rfl
              · rw [wanted_of (ops := l.toArray) (hweak.sr hs') hg (by simpa using e1) e2]
                cases want <;> rfl
              · exact unwanted_of (ops := l.toArray) (hweak.sr hs') hg (by simpa using e1) e2
            rw [hw, if_neg (by simp)]
            exact ih _ _ _ (Inv.next (x := (.any, 0)) (v := undef) hB hC hI.size hI.cl ho' hun hpre hx hdst he hs' (.refl _ _ _) hs'.wr ⟨by simp only [VT]; rfl, rfl⟩ e4.symm e5.symm hlim) hT'
      rcases hev with ⟨hS, hf, hMi⟩ | ⟨hS, hf, hMi⟩
      · have hnE : E.contains i = false := by
          cases hc : E.contains i with
          | false => rfl
          | true => have := List.all_eq_true.1 hM i (by simpa using hc); simp only [Bool.and_eq_true] at this; rw [hS] at this; simp at this
        refine step m m rfl ⟨hl.le, fun e hec hen => ?_⟩ (hf _ _ (qR m (Nat.zero_le _)))
        rw [hset]
        by_cases e1 : i = e
        · subst e1; rw [hnE] at hec; cases hec
        · rw [if_neg e1]; exact hl.iff e hec hen
      · have hlist : ∀ e, E.contains e = true → e < l.length → e ≠ i → (L.getD e false = true ↔ e < i) := fun e hec hen hne => by
          obtain ⟨_, hcmp⟩ := chkMem_of hM hec hS
          rcases hcmp with rfl | hcmp | hcmp
          · exact absurd rfl hne
          · have hie := befs_lt hB e l[e] (List.getElem?_eq_getElem hen) i hcmp
            refine ⟨fun hle => ?_, fun h => by omega⟩
            have := cl_befs hB hI.cl e l[e] (List.getElem?_eq_getElem hen) (fun e' he' hb' => hI.cl e l[e] (List.getElem?_eq_getElem hen) hle e' he' hb') i hcmp
            rw [getD_false_of hI.size hil hun] at this; cases this
          · exact ⟨fun _ => befs_lt hB i o ho' e hcmp, fun _ => cl_befs hB hI.cl i o ho' hpre e hcmp⟩
        have hli : Lim E l.length L i := ⟨by omega, fun e hec hen => by
          by_cases hne : e = i
          · subst hne
            rw [getD_false_of hI.size hil hun]
            exact ⟨fun h => (by cases h), fun h => (by omega)⟩
          · exact hlist e hec hen hne⟩
        have hMm := lim_same hMc hli hl
        refine step i (i + 1) hMm ⟨by omega, fun e hec hen => ?_⟩ hf
        rw [hset]
        by_cases hne : e = i
        · subst hne
          rw [if_pos rfl]
          exact ⟨fun _ => by omega, fun _ => rfl⟩
        · rw [if_neg (Ne.symm hne), hlist e hec hen hne]
          omega
  refine key l.toArray.size _ _ _ ⟨by simp, fun i o hi hl => ?_, κ, 0, ⟨Nat.zero_le _, fun e _ hen => ?_⟩, ?_, ?_⟩ ⟨List.range l.length, by simp, fun j hj _ => List.mem_range.2 hj⟩
  · have := (List.getElem?_eq_some_iff.1 hi).1
    simp [Array.getD_eq_getD_getElem?, this] at hl
  · simp [Array.getD_eq_getD_getElem?, hen]
  · rw [q3]; exact Ext.drew κ U w
  · rw [q3]
    have e0 : bindL (fun j => (Array.replicate l.toArray.size false).getD j false) l outs 0 = bindL (fun _ => false) l outs 0 := bindL_congr fun j hj => by
      simp [Array.getD_eq_getD_getElem?, hj]
    rw [e0, bindL_off (fun _ _ => rfl), List.nil_append]
    exact ⟨hs.defers, hs.size, hs.tmp, hs.wr.drew⟩
end Go.Am

/- A layer over the walk's rules. This text: a region that draws its order, with a table that says for each operation what stands before it and what it looks at. -/
set_option linter.unusedVariables false
set_option linter.unusedSimpArgs false
namespace Go.Am
variable {P : Program}

abbrev Db := List (Nat × Nat × X)
def memB : List Nat → Nat → Bool
  | [], _ => false
  | a :: r, k => match Nat.beq a k with
    | true => true
    | false => memB r k
theorem memB_iff {l : List Nat} {k : Nat} : memB l k = l.contains k := by
  induction l with
  | nil => rfl
  | cons a r ih =>
    simp only [memB, List.contains_cons, ih]
    cases h : Nat.beq a k with
    | true => have := Nat.eq_of_beq_eq_true h; subst this; simp
    | false => have := Nat.ne_of_beq_eq_false h; simp [Ne.symm this]
def selD : Db → List Nat → List (Nat × T × TypeId)
  | [], _ => []
  | (j, s, x) :: r, bef => match memB bef j with
    | true => (s, x) :: selD r bef
    | false => selD r bef
def addD (i : Nat) (d : Option Nat) (x : X) (db : Db) : Db := match d with
  | some d => (i, d, x) :: db
  | none => db
def addT (d : Option Nat) (x : X) (t : List (Nat × T × TypeId)) : List (Nat × T × TypeId) := match d with
  | some d => (d, x) :: t
  | none => t
def dbOf : List Oper → List X → Nat → Db → Db
  | o :: os, x :: xs, i, acc => dbOf os xs (i + 1) (addD i o.dst x acc)
  | _, _, _, acc => acc
theorem selD_dbOf (bef : List Nat) : ∀ (os : List Oper) (xs : List X) (i : Nat) (acc : Db), selD (dbOf os xs i acc) bef = bindL (fun j => bef.contains j) os xs i ++ selD acc bef
  | [], xs, i, acc => by simp [dbOf, bindL]
  | o :: os, [], i, acc => by simp [dbOf, bindL]
  | o :: os, x :: xs, i, acc => by
    simp only [dbOf, bindL]
    rw [selD_dbOf bef os xs (i + 1)]
    cases hd : o.dst with
    | none => simp only [addD]; cases bef.contains i <;> simp
    | some d =>
      simp only [addD, selD, memB_iff]
      cases bef.contains i <;> simp
theorem dbOf_snoc : ∀ (os : List Oper) (xs : List X) (i : Nat) (acc : Db) (o : Oper) (x : X), os[xs.length]? = some o → dbOf os (xs ++ [x]) i acc = addD (i + xs.length) o.dst x (dbOf os xs i acc)
  | [], xs, i, acc, o, x => fun h => by simp at h
  | a :: os, [], i, acc, o, x => fun h => by
    simp at h; subst h
    cases os <;> simp [dbOf]
  | a :: os, y :: xs, i, acc, o, x => fun h => by
    simp only [List.cons_append, dbOf]
    rw [dbOf_snoc os xs (i + 1) _ o x (by simpa using h)]
    congr 1
    simp; omega
theorem bindL_snoc : ∀ (os : List Oper) (xs : List X) (i : Nat) (o : Oper) (x : X), os[xs.length]? = some o → bindL (fun _ => true) os (xs ++ [x]) i = addT o.dst x [] ++ bindL (fun _ => true) os xs i
  | [], xs, i, o, x => fun h => by simp at h
  | a :: os, [], i, o, x => fun h => by
    simp at h; subst h
    cases os <;> cases hd : a.dst <;> simp [bindL, addT, hd]
  | a :: os, y :: xs, i, o, x => fun h => by
    simp only [List.cons_append, bindL]
    rw [bindL_snoc os xs (i + 1) o x (by simpa using h), List.append_assoc]
theorem addT_append (d : Option Nat) (x : X) (s t : List (Nat × T × TypeId)) : addT d x (s ++ t) = addT d x [] ++ s ++ t := by cases d <;> rfl

/-- The operations, one by one. tab: for each, what stands before it, the slots that it looks at. -/
def DP (P : Program) (R : List AO → Prop) (S E : List Nat) (N : Nat) (l : List Oper) (t0 : List (Nat × T × TypeId)) (Q : St → Prop) : List Oper → List (List Nat × List Nat) → Nat → Db → List (Nat × T × TypeId) → List AO → (Tips) → Prop
  | [], _, _, _, t, h, u => Q ⟨N, t, h, u⟩
  | _ :: _, [], _, _, _, _, _ => False
  | o :: rest, (bef, ks) :: tab, i, db, t, h, u =>
    dstOk ⟨N, [], [], u⟩ o.dst = true ∧ ((∃ x, (∀ h u, R h → Ev P N l o (pickOut ks (selD db bef ++ t0)) h u x h u) ∧ DP P R S E N l t0 Q rest tab (i + 1) (addD i o.dst x db) (addT o.dst x t) h u) ∨
    (memB S i = true ∧ ∃ x h' u', Ev P N l o (pickOut ks (selD db bef ++ t0)) h u x h' u' ∧ ((memB E i = true ∧ R h') ∨ (h' = h ∧ u' = u)) ∧ DP P R S E N l t0 Q rest tab (i + 1) (addD i o.dst x db) (addT o.dst x t) h' u'))

def chkKs (l : List Oper) : List Oper → List (List Nat × List Nat) → Bool
  | [], [] => true
  | o :: os, (_, ks) :: tab => ks.all (slotsG l o).contains && chkKs l os tab
  | _, _ => false
theorem Ev.weaken {N : Nat} {l : List Oper} {o : Oper} {t t' : List (Nat × T × TypeId)} {h h' : List AO} {u u' : Tips} {x : X} (hw : ∀ k y, lk t' k = some y → lk t k = some y) (he : Ev P N l o t' h u x h' u') : Ev P N l o t h u x h' u' := by
  unfold Ev at he ⊢
  cases hg : o.guard with
  | none =>
    rw [hg] at he
    exact OPE.weaken (σ := ⟨N, t, h, u⟩) (σ' := ⟨N, t', h, u⟩) ⟨rfl, hw, rfl, rfl⟩ he
  | some gw =>
    obtain ⟨j, want⟩ := gw
    rw [hg] at he
    obtain ⟨k, b, ty, h1, h2, h3⟩ := he
    refine ⟨k, b, ty, h1, hw _ _ h2, ?_⟩
    rcases h3 with ⟨h4, h5⟩ | h4
    · exact .inl ⟨h4, OPE.weaken (σ := ⟨N, t, h, u⟩) (σ' := ⟨N, t', h, u⟩) ⟨rfl, hw, rfl, rfl⟩ h5⟩
    · exact .inr h4
theorem lk_pick_sub {ks ks' : List Nat} {t : List (Nat × T × TypeId)} (hs : ∀ k ∈ ks, k ∈ ks') {k : Nat} {x : X} (h : lk (pickOut ks t) k = some x) : lk (pickOut ks' t) k = some x := by
  obtain ⟨h1, h2⟩ := lk_pickOut h
  have key : ∀ {l : List Nat}, k ∈ l → lk (pickOut l t) k = some x := by
    intro l hl
    induction l with
    | nil => cases hl
    | cons a r ih =>
      simp only [pickOut]
      by_cases e : a = k
      · subst e
        rw [h2]
        simp [lk, Nat.beq_refl]
      · have hr : k ∈ r := by cases hl with | head => exact absurd rfl e | tail _ h => exact h
        have hb : Nat.beq a k = false := by
          cases hb : Nat.beq a k with
          | false => rfl
          | true => exact absurd (Nat.eq_of_beq_eq_true hb) e
        cases lk t a with
        | none => exact ih hr
        | some y => simp only [lk, hb]; exact ih hr
  exact key (hs k h1)

theorem DP.dops {R : List AO → Prop} {S E : List Nat} {N : Nat} {l : List Oper} {t0 : List (Nat × T × TypeId)} {Q : St → Prop} (B : List (List Nat)) : ∀ (rest : List Oper) (tab : List (List Nat × List Nat)) (i : Nat) (done : List X) (h : List AO) (u : Tips),
    DP P R S E N l t0 Q rest tab i (dbOf l done 0 []) (bindL (fun _ => true) l done 0 ++ t0) h u → R h → done.length = i → (∀ j, rest[j]? = l[i + j]?) → (∀ j q, tab[j]? = some q → befs B (i + j) = q.1) → chkKs l rest tab = true → DOPS P R B S E N l t0 Q rest i done h u
  | [], tab, i, done, h, u => fun hd _ _ _ _ _ => hd
  | o :: rest, [], i, done, h, u => fun hd _ _ _ _ _ => by simp only [DP] at hd
  | o :: rest, (bef, ks) :: tab, i, done, h, u => fun hd hR hl hr ht hk => by
    simp only [DP] at hd
    simp only [chkKs, Bool.and_eq_true, List.all_eq_true, List.contains_iff_mem] at hk
    obtain ⟨hdst, hd⟩ := hd
    have ho : l[done.length]? = some o := by have := hr 0; rw [hl]; simpa using this.symm
    have hr' : ∀ j, rest[j]? = l[i + 1 + j]? := fun j => by
      have := hr (j + 1)
      simp only [List.getElem?_cons_succ] at this
      rw [this]; congr 1; omega
    have ht' : ∀ j q, tab[j]? = some q → befs B (i + 1 + j) = q.1 := fun j q hj => by
      have := ht (j + 1) q (by simpa using hj)
      rwa [show i + (j + 1) = i + 1 + j by omega] at this
    have hb : befs B i = bef := by have := ht 0 (bef, ks) rfl; simpa using this
    have henv : ∀ k y, lk (pickOut ks (selD (dbOf l done 0 []) bef ++ t0)) k = some y → lk (env B l t0 o i done) k = some y := fun k y h => by
      rw [selD_dbOf, selD, List.append_nil] at h
      unfold env
      rw [hb]
      exact lk_pick_sub hk.1 h
    have e1 : ∀ x, addD i o.dst x (dbOf l done 0 []) = dbOf l (done ++ [x]) 0 [] := fun x => by
      rw [dbOf_snoc l done 0 [] o x ho, hl]; simp
    have e2 : ∀ x, addT o.dst x (bindL (fun _ => true) l done 0 ++ t0) = bindL (fun _ => true) l (done ++ [x]) 0 ++ t0 := fun x => by
      rw [bindL_snoc l done 0 o x ho, addT_append]
    simp only [DOPS]
    refine ⟨hdst, ?_⟩
    rcases hd with ⟨x, hx, hd⟩ | ⟨hS, x, h', u', hx, hE, hd⟩
    · rw [e1, e2] at hd
      have := DP.dops B rest tab (i + 1) (done ++ [x]) h u hd hR (by simp [hl]) hr' ht' hk.2
      cases hc : S.contains i with
      | false => exact .inl ⟨rfl, x, fun h u hr => (hx h u hr).weaken henv, this⟩
      | true => exact .inr ⟨rfl, x, h, u, (hx h u hR).weaken henv, fun _ => ⟨rfl, rfl⟩, hR, this⟩
    · rw [e1, e2] at hd
      have hR' : R h' := by
        rcases hE with hE | hE
        · exact hE.2
        · rw [hE.1]; exact hR
      have := DP.dops B rest tab (i + 1) (done ++ [x]) h' u' hd hR' (by simp [hl]) hr' ht' hk.2
      refine .inr ⟨by rw [← memB_iff]; exact hS, x, h', u', hx.weaken henv, fun hc => ?_, hR', this⟩
      rcases hE with hE | hE
      · have hE := hE.1; rw [memB_iff, hc] at hE; cases hE
      · exact hE

theorem AW.drawR (R : List AO → Prop) {id N : Nat} {l : List Oper} {t0 : List (Nat × T × TypeId)} {H : List AO} {U : Tips} {Q : Exit → St → Prop} (tab : List (List Nat × List Nat)) (S E : List Nat) (hm : P.follows .mixedOrders = true) (h0 : R H)
    (hchk : (chkAll (tab.map (·.1)) S E l && chkKs l l tab) = true) (h : DP P R S E N l t0 (fun σ' => Q .normal σ') l tab 0 [] t0 H U) : AW P (.region id l.toArray true) ⟨N, t0, H, U⟩ Q := by
  rw [Bool.and_eq_true] at hchk
  refine AW.draw hm hchk.1 h0 (DP.dops (tab.map (·.1)) l tab 0 [] H U ?_ h0 rfl (by simp) (fun j q hj => ?_) hchk.2)
  · have e1 : dbOf l [] 0 [] = [] := by cases l <;> rfl
    have e2 : bindL (fun _ => true) l [] 0 = [] := by cases l <;> rfl
    rw [e1, e2, List.nil_append]; exact h
  · rw [Nat.zero_add]
    simp [befs, List.getD_eq_getElem?_getD, hj]
theorem AW.drawP {id N : Nat} {l : List Oper} {t0 : List (Nat × T × TypeId)} {H : List AO} {U : Tips} {Q : Exit → St → Prop} (tab : List (List Nat × List Nat)) (S E : List Nat) (hm : P.follows .mixedOrders = true)
    (hchk : (chkAll (tab.map (·.1)) S E l && chkKs l l tab) = true) (h : DP P (fun _ => True) S E N l t0 (fun σ' => Q .normal σ') l tab 0 [] t0 H U) : AW P (.region id l.toArray true) ⟨N, t0, H, U⟩ Q := AW.drawR (fun _ => True) tab S E hm trivial hchk h
end Go.Am

/- A layer over the walk's rules. This text: the moves in a region that draws its order. -/
set_option linter.unusedVariables false
namespace Go.Am
variable {P : Program} {R : List AO → Prop} {S E : List Nat} {N : Nat} {l : List Oper} {t0 t : List (Nat × T × TypeId)} {Q : St → Prop} {rest : List Oper} {tab : List (List Nat × List Nat)} {bef ks : List Nat} {i : Nat} {db : Db} {H : List AO} {U : Tips}
variable {d : Option Nat} {op : Op} {ty : TypeId} {p : String} {af : Array Edge} {g : Option (Nat × Bool)}

def GuardOk (l : List Oper) (V : List (Nat × T × TypeId)) : Option (Nat × Bool) → Prop
  | none => True
  | some (j, want) => ∃ k ty, (l[j]?).bind (·.dst) = some k ∧ lk V k = some (.s (.bool want), ty)
theorem Ev.of {V : List (Nat × T × TypeId)} {h h' : List AO} {u u' : Tips} {x : X} (hg : GuardOk l V g) (he : EvS P N ⟨d, op, ty, p, af, none⟩ V h u x h' u') : Ev P N l ⟨d, op, ty, p, af, g⟩ V h u x h' u' := by
  cases g with
  | none => exact he
  | some gw =>
    obtain ⟨j, want⟩ := gw
    obtain ⟨k, tb, h1, h2⟩ := hg
    exact ⟨k, _, tb, h1, h2, .inl ⟨rfl, he⟩⟩
theorem D.free {V : List (Nat × T × TypeId)} {x : X} (hd : dstOk ⟨N, [], [], U⟩ d = true) (hV : pickOut ks (selD db bef ++ t0) = V) (hg : GuardOk l V g)
    (he : ∀ h u, OPE P ⟨d, op, ty, p, af, none⟩ ⟨N, V, h, u⟩ fun x' h2 u2 => x' = x ∧ h2 = h ∧ u2 = u) (hk : DP P R S E N l t0 Q rest tab (i + 1) (addD i d x db) (addT d x t) H U) : DP P R S E N l t0 Q (⟨d, op, ty, p, af, g⟩ :: rest) ((bef, ks) :: tab) i db t H U := by
  subst hV
  exact ⟨hd, .inl ⟨x, fun h u _ => Ev.of hg (he h u), hk⟩⟩
theorem D.sens {V : List (Nat × T × TypeId)} {x : X} {H' : List AO} {U' : Tips} (hd : dstOk ⟨N, [], [], U⟩ d = true) (hS : memB S i = true) (hV : pickOut ks (selD db bef ++ t0) = V) (hg : GuardOk l V g)
    (he : OPE P ⟨d, op, ty, p, af, none⟩ ⟨N, V, H, U⟩ fun x' h2 u2 => x' = x ∧ h2 = H' ∧ u2 = U') (hE : (memB E i = true ∧ R H') ∨ (H' = H ∧ U' = U)) (hk : DP P R S E N l t0 Q rest tab (i + 1) (addD i d x db) (addT d x t) H' U') : DP P R S E N l t0 Q (⟨d, op, ty, p, af, g⟩ :: rest) ((bef, ks) :: tab) i db t H U := by
  subst hV
  exact ⟨hd, .inr ⟨hS, x, H', U', Ev.of hg he, hE, hk⟩⟩
/-- An operation that looks at what the region leaves as it is. -/
theorem D.freeR {V : List (Nat × T × TypeId)} {x : X} (hd : dstOk ⟨N, [], [], U⟩ d = true) (hV : pickOut ks (selD db bef ++ t0) = V) (hg : GuardOk l V g)
    (he : ∀ h u, R h → OPE P ⟨d, op, ty, p, af, none⟩ ⟨N, V, h, u⟩ fun x' h2 u2 => x' = x ∧ h2 = h ∧ u2 = u) (hk : DP P R S E N l t0 Q rest tab (i + 1) (addD i d x db) (addT d x t) H U) : DP P R S E N l t0 Q (⟨d, op, ty, p, af, g⟩ :: rest) ((bef, ks) :: tab) i db t H U := by
  subst hV
  exact ⟨hd, .inl ⟨x, fun h u hr => Ev.of hg (he h u hr), hk⟩⟩
theorem D.skip {j k : Nat} {b want : Bool} {tb : TypeId} {V : List (Nat × T × TypeId)} (hd : dstOk ⟨N, [], [], U⟩ d = true) (hV : pickOut ks (selD db bef ++ t0) = V) (hj : (l[j]?).bind (·.dst) = some k) (hl : lk V k = some (.s (.bool b), tb)) (hb : (b == want) = false)
    (hk : DP P R S E N l t0 Q rest tab (i + 1) (addD i d (.any, 0) db) (addT d (.any, 0) t) H U) : DP P R S E N l t0 Q (⟨d, op, ty, p, af, some (j, want)⟩ :: rest) ((bef, ks) :: tab) i db t H U := by
  subst hV
  have hb' : b = !want := by cases b <;> cases want <;> simp_all
  subst hb'
  exact ⟨hd, .inl ⟨_, fun h u _ => ⟨k, _, tb, hj, hl, .inr ⟨.inl rfl, rfl, rfl, rfl⟩⟩, hk⟩⟩
theorem D.skipU {j k : Nat} {want : Bool} {tb : TypeId} {V : List (Nat × T × TypeId)} (hd : dstOk ⟨N, [], [], U⟩ d = true) (hV : pickOut ks (selD db bef ++ t0) = V) (hj : (l[j]?).bind (·.dst) = some k) (hl : lk V k = some (.any, tb))
    (hk : DP P R S E N l t0 Q rest tab (i + 1) (addD i d (.any, 0) db) (addT d (.any, 0) t) H U) : DP P R S E N l t0 Q (⟨d, op, ty, p, af, some (j, want)⟩ :: rest) ((bef, ks) :: tab) i db t H U := by
  subst hV
  exact ⟨hd, .inl ⟨_, fun h u _ => ⟨k, _, tb, hj, hl, .inr ⟨.inr rfl, rfl, rfl, rfl⟩⟩, hk⟩⟩
theorem D.nil {Q : St → Prop} (h : Q ⟨N, t, H, U⟩) : DP P R S E N l t0 Q [] tab i db t H U := h
theorem D.fn {V : List (Nat × T × TypeId)} {f : FuncId} {os : List Operand} {ats : Array TypeId} {xs : List X} {r : X} (hd : dstOk ⟨N, [], [], U⟩ d = true) (hf : Ans P f xs r) (he : enters P f = true)
    (hV : pickOut ks (selD db bef ++ t0) = V) (hg : GuardOk l V g) (ha : ∀ h u, Args P ⟨N, V, h, u⟩ os xs) (hk : DP P R S E N l t0 Q rest tab (i + 1) (addD i d r db) (addT d r t) H U) :
    DP P R S E N l t0 Q (⟨d, .call { callee := .value (.func f), args := os.toArray, argTypes := ats }, ty, p, af, g⟩ :: rest) ((bef, ks) :: tab) i db t H U :=
  D.free hd hV hg (fun h u => OPE.call he (ha h u) (hf.calls h u ⟨rfl, rfl, rfl⟩)) hk
end Go.Am
