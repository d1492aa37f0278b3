/- A layer over the walk's rules. This text: a walk as one step: the moves stand as the way to fill in an argument. Printed by mkM.py. -/
import Derived.Test.YtecacooabofloaaL9
/- A layer over the walk's rules. This text: a walk as one step: the moves stand as the way to fill in an argument. Printed by mkM.py. -/
set_option linter.unusedVariables false
namespace Go.Am
variable {P : Program}

/-- The tree of a zero value. -/
def rdF (rd : TypeId → List Value → Option T) (P : Program) : List Field → List Value → Option (List T)
  | [], _ => some []
  | f :: fs, vs => match rd f.type ((vs.drop f.offset).take (szOf P f.type)) with
    | some x => match rdF rd P fs vs with
      | some xs => some (x :: xs)
      | none => none
    | none => none
def rdA (rd : TypeId → List Value → Option T) (P : Program) (e : TypeId) : Nat → List Value → Option (List T)
  | 0, vs => bif vs.isEmpty then some [] else none
  | n + 1, vs => bif Nat.ble (szOf P e) vs.length then (match rd e (vs.take (szOf P e)) with
    | some x => match rdA rd P e n (vs.drop (szOf P e)) with
      | some xs => some (x :: xs)
      | none => none
    | none => none) else none
def rdS : List Value → Option T
  | [.slice _ _ _] => none
  | [v] => bif one v then some (.s v) else none
  | _ => none
def rdT (P : Program) : Nat → TypeId → List Value → Option T
  | 0, _, _ => none
  | d + 1, t, vs => match P.underlying t with
    | some (.struct fs) => bif Nat.beq vs.length (szOf P t) && vs.all one then (match rdF (rdT P d) P fs.toList vs with | some xs => some (.st xs) | none => none) else none
    | some (.array n e) => bif Nat.beq vs.length (szOf P t) && vs.all one then (match rdA (rdT P d) P e n vs with | some xs => some (.arr xs) | none => none) else none
    | some (.slice e) => match vs with
      | [.slice none 0 0] => some (.lst [] .nil)
      | _ => none
    | some _ => rdS vs
    | none => none
theorem rdF_ok {rd : TypeId → List Value → Option T} {κ : K} (h : ∀ t vs x, rd t vs = some x → VT P κ x t vs) : ∀ {fs : List Field} {vs : List Value} {xs : List T}, rdF rd P fs vs = some xs → VF P κ xs fs vs
  | [], vs, xs, hh => by simp only [rdF, Option.some.injEq] at hh; subst hh; simp only [VF]
  | f :: fs, vs, xs, hh => by
    simp only [rdF] at hh
    split at hh
    · rename_i x hx
      split at hh
      · rename_i ys hy
        cases hh
        simp only [VF]
        exact ⟨h _ _ _ hx, rdF_ok h hy⟩
      · cases hh
    · cases hh
theorem rdA_ok {rd : TypeId → List Value → Option T} {κ : K} {e : TypeId} (h : ∀ t vs x, rd t vs = some x → VT P κ x t vs) : ∀ {n : Nat} {vs : List Value} {xs : List T}, rdA rd P e n vs = some xs → VA P κ xs e vs ∧ xs.length = n
  | 0, vs, xs, hh => by
    cases vs with
    | nil => simp [rdA] at hh; subst hh; simp [VA]
    | cons v vs => simp [rdA] at hh
  | n + 1, vs, xs, hh => by
    simp only [rdA] at hh
    cases hb : Nat.ble (szOf P e) vs.length with
    | false => rw [hb] at hh; cases hh
    | true =>
      rw [hb] at hh
      simp only [cond_true] at hh
      split at hh
      · rename_i x hx
        split at hh
        · rename_i ys hy
          cases hh
          obtain ⟨h1, h2⟩ := rdA_ok h hy
          exact ⟨by simp only [VA]; exact ⟨Nat.le_of_ble_eq_true hb, h _ _ _ hx, h1⟩, by simp [h2]⟩
        · cases hh
      · cases hh
theorem rdS_ok {κ : K} {t : TypeId} {vs : List Value} {x : T} (h : rdS vs = some x) : VT P κ x t vs := by
  unfold rdS at h
  split at h
  · cases h
  · rename_i v _
    cases hv : one v with
    | false => rw [hv] at h; cases h
    | true => rw [hv] at h; cases h; unfold VT; exact ⟨rfl, hv⟩
  · cases h
theorem rdT_ok {κ : K} : ∀ (d : Nat) (t : TypeId) (vs : List Value) (x : T), rdT P d t vs = some x → VT P κ x t vs
  | 0, _, _, _, h => by simp [rdT] at h
  | d + 1, t, vs, x, h => by
    have ih := rdT_ok (κ := κ) d
    unfold rdT at h
    split at h
    · rename_i fs hu
      cases hb : (Nat.beq vs.length (szOf P t) && vs.all one) with
      | false => rw [hb] at h; cases h
      | true =>
        rw [hb] at h
        simp only [cond_true] at h
        split at h
        · rename_i xs hx
          cases h
          rw [Bool.and_eq_true] at hb
          simp only [VT]
          exact ⟨fs, hu, Nat.eq_of_beq_eq_true hb.1, fun v hv => List.all_eq_true.1 hb.2 v hv, rdF_ok ih hx⟩
        · cases h
    · rename_i n e hu
      cases hb : (Nat.beq vs.length (szOf P t) && vs.all one) with
      | false => rw [hb] at h; cases h
      | true =>
        rw [hb] at h
        simp only [cond_true] at h
        split at h
        · rename_i xs hx
          cases h
          rw [Bool.and_eq_true] at hb
          obtain ⟨h1, h2⟩ := rdA_ok ih hx
          simp only [VT]
          exact ⟨n, e, hu, h2, Nat.eq_of_beq_eq_true hb.1, fun v hv => List.all_eq_true.1 hb.2 v hv, h1⟩
        · cases h
    · rename_i e hu
      split at h
      · cases h
        simp only [VT]
        exact ⟨e, none, 0, [], hu, rfl, ⟨rfl, rfl⟩, by simp only [VA], .inl rfl⟩
      · cases h
    · exact rdS_ok h
    · cases h
def zeroC (P : Program) (t : TypeId) : Option T := match P.info? t with
  | some i => match i.zero with
    | some z => match rdT P 9 t z.cells.toList with
      | some x => bif Nat.blt t P.types.size && x.cell && Nat.beq z.cells.toList.length (szOf P t) && (aggB z == x.aggB) then some x else none
      | none => none
    | none => none
  | none => none
theorem zero_of {t : TypeId} {x : T} (h : zeroC P t = some x) : ZeroOk P t x := by
  unfold zeroC at h
  split at h
  · rename_i i hi
    split at h
    · rename_i z hz
      split at h
      · rename_i y hy
        cases hb : (Nat.blt t P.types.size && y.cell && Nat.beq z.cells.toList.length (szOf P t) && (aggB z == y.aggB)) with
        | false => rw [hb] at h; cases h
        | true =>
          rw [hb] at h
          cases h
          simp only [Bool.and_eq_true, Nat.blt_eq, beq_iff_eq] at hb
          exact ⟨hb.1.1.1, hb.1.1.2, i, z, hi, hz, Nat.eq_of_beq_eq_true hb.1.2, fun κ => ⟨rdT_ok _ _ _ _ hy, hb.2⟩⟩
      · cases h
    · cases h
  · cases h
/-- Lists' room is forgotten. -/
def WkL (P : Program) (s t : List (Nat × T × TypeId)) : Prop := ∀ k y ty, lk s k = some (y, ty) → ∃ x, lk t k = some (x, ty) ∧ Wk P ty x y
theorem WkL.nil {t : List (Nat × T × TypeId)} : WkL P [] t := fun _ _ _ h => by cases h
theorem WkL.cons {s t : List (Nat × T × TypeId)} {k : Nat} {x y : T} {ty : TypeId} (h : lk t k = some (x, ty)) (hw : Wk P ty x y) (r : WkL P s t) : WkL P ((k, (y, ty)) :: s) t := fun j z tz hj => by
  unfold lk at hj
  split at hj
  · rename_i hb
    cases hj
    have := Nat.eq_of_beq_eq_true hb
    subst this
    exact ⟨x, h, hw⟩
  · exact r j z tz hj
theorem AW.retag {c : Code} {N : Nat} {t t' : List (Nat × T × TypeId)} {h : List AO} {u : Tips} {Q : Exit → St → Prop} (ht : WkL P t' t) (hk : AW P c ⟨N, t', h, u⟩ Q) : AW P c ⟨N, t, h, u⟩ Q := fun κ a w hs =>
  hk κ a w ⟨hs.defers, hs.size, fun k y ty hy => by
    obtain ⟨x, h1, h2⟩ := ht k y ty hy
    obtain ⟨v, h3, h4⟩ := hs.tmp k x ty h1
    exact ⟨v, h3, h2.val h4⟩, hs.wr⟩
structure BoxP (q : Prop) : Prop where
  out : q
class WFC (P : Program) : Prop where
  wf : WfP P
class ZC (P : Program) (t : TypeId) (x : outParam T) : Prop where
  zero : ZeroOk P t x
section
variable {N : Nat} {L : List (Nat × T × TypeId)} {H : List AO} {U : Tips} {ops : Array Oper} {rest : List Oper} {Q : St → Prop} {D : Nat} {ty : TypeId} {p : String} {af : Array Edge}
theorem O.fnA {f : FuncId} {os : List Operand} {ats : Array TypeId} {xs : List X} {r : X} (hd : Nat.blt D N = true) (ha : Args P ⟨N, L, H, U⟩ os xs) (hf : Ans P f xs r) (he : enters P f = true) (hk : OPS P ops rest ⟨N, (D, r) :: L, H, U⟩ Q) :
    OPS P ops (⟨some D, .call { callee := .value (.func f), args := os.toArray, argTypes := ats }, ty, p, af, none⟩ :: rest) ⟨N, L, H, U⟩ Q := O.fn hd hf he ha hk
theorem O.fnVA {k : Nat} {f : FuncId} {tf : TypeId} {os : List Operand} {ats : Array TypeId} {xs : List X} {r : X} (hd : Nat.blt D N = true) (h0 : lk L k = some (.fn (.func f) [] [], tf)) (ha : Args P ⟨N, L, H, U⟩ os xs) (hf : Ans P f xs r) (he : enters P f = true) (hk : OPS P ops rest ⟨N, (D, r) :: L, H, U⟩ Q) :
    OPS P ops (⟨some D, .call { callee := .value (.tmp k), args := os.toArray, argTypes := ats }, ty, p, af, none⟩ :: rest) ⟨N, L, H, U⟩ Q := O.fnV0 hd h0 hf he ha hk
end
section
variable {R : List AO → Prop} {S E : List Nat} {N : Nat} {l : List Oper} {t0 t : List (Nat × T × TypeId)} {Q : St → Prop} {rest : List Oper} {tab : List (List Nat × List Nat)} {bef ks : List Nat} {i : Nat} {db : Db} {H : List AO} {U : Tips}
variable {d : Option Nat} {ty : TypeId} {p : String} {af : Array Edge} {g : Option (Nat × Bool)}
theorem D.fnA {V : List (Nat × T × TypeId)} {f : FuncId} {os : List Operand} {ats : Array TypeId} {xs : List X} {r : X} (hd : dstOk ⟨N, [], [], U⟩ d = true)
    (hV : pickOut ks (selD db bef ++ t0) = V) (hg : GuardOk l V g) (ha : ∀ h u, Args P ⟨N, V, h, u⟩ os xs) (hf : Ans P f xs r) (he : enters P f = true) (hk : DP P R S E N l t0 Q rest tab (i + 1) (addD i d r db) (addT d r t) H U) :
    DP P R S E N l t0 Q (⟨d, .call { callee := .value (.func f), args := os.toArray, argTypes := ats }, ty, p, af, g⟩ :: rest) ((bef, ks) :: tab) i db t H U := D.fn hd hf he hV hg ha hk
theorem D.fnVA {V : List (Nat × T × TypeId)} {f : FuncId} {k : Nat} {tf : TypeId} {os : List Operand} {ats : Array TypeId} {xs : List X} {r : X} (hd : dstOk ⟨N, [], [], U⟩ d = true)
    (hV : pickOut ks (selD db bef ++ t0) = V) (hk0 : lk V k = some (.fn (.func f) [] [], tf)) (hg : GuardOk l V g) (ha : ∀ h u, Args P ⟨N, V, h, u⟩ os xs) (hf : Ans P f xs r) (he : enters P f = true)
    (hk : DP P R S E N l t0 Q rest tab (i + 1) (addD i d r db) (addT d r t) H U) :
    DP P R S E N l t0 Q (⟨d, .call { callee := .value (.tmp k), args := os.toArray, argTypes := ats }, ty, p, af, g⟩ :: rest) ((bef, ks) :: tab) i db t H U := D.fnV0 hd hV hk0 hf he hg ha hk
end

theorem walk {p q : Prop} (k : q) (h : BoxP q → p := by
  intro hq_
  repeat (first
    | ((with_reducible apply O.move); (· rfl); (· rfl))
    | ((with_reducible apply O.assign); (· rfl); (· rfl))
    | ((with_reducible apply O.assignN); (· rfl); (· rfl))
    | ((with_reducible apply O.assignC); (· rfl); (· rfl))
    | ((with_reducible apply O.moveC); (· rfl); (· rfl))
    | ((with_reducible apply O.assignF); (· rfl))
    | ((with_reducible apply O.load); (· rfl); (· exact WFC.wf); (· rfl); (· rfl); (· (first | rfl | assumption)); (· (first | rfl | assumption)); (· rfl); (· rfl))
    | ((with_reducible apply O.loadE); (· rfl); (· exact WFC.wf); (· rfl); (· decide); (· rfl); (· (first | exact .inl rfl | exact .inr rfl)); (· rfl))
    | ((with_reducible apply O.fieldAddr); (· rfl); (· exact WFC.wf); (· rfl); (· rfl); (· rfl); (· decide); (· rfl); (· rfl); (· decide))
    | ((with_reducible apply O.fieldAddrE); (· rfl); (· exact WFC.wf); (· rfl); (· decide); (· rfl); (· rfl); (· rfl); (· decide))
    | ((with_reducible apply O.gT); (· rfl); (· rfl); (· rfl))
    | ((with_reducible apply O.gF); (· rfl); (· rfl); (· rfl); (· rfl))
    | ((with_reducible apply O.gU); (· rfl); (· rfl); (· rfl))
    | ((with_reducible apply O.cmp); (· rfl); (· (first | exact .tmp rfl | exact .const)); (· (first | exact .tmp rfl | exact .const)); (· rfl))
    | ((with_reducible apply O.arith); (· rfl); (· (first | exact .tmp rfl | exact .const)); (· (first | exact .tmp rfl | exact .const)); (· rfl); (· exact wrapI (by omega) (by omega)))
    | ((with_reducible apply O.not); (· rfl); (· (first | exact .tmp rfl | exact .const)))
    | ((with_reducible apply O.pickT); (· rfl); (· (first | exact .tmp rfl | exact .const)); (· (first | exact .tmp rfl | exact .const)))
    | ((with_reducible apply O.pickF); (· rfl); (· (first | exact .tmp rfl | exact .const)); (· (first | exact .tmp rfl | exact .const)))
    | ((with_reducible apply O.pickB); (· rfl); (· (first | exact .tmp rfl | exact .const)); (· (first | exact .tmp rfl | exact .const)); (· (first | exact .tmp rfl | exact .const)))
    | ((with_reducible apply O.extract); (· rfl); (· rfl); (· rfl); (· rfl); (· rfl))
    | ((with_reducible apply O.len); (· rfl); (· rfl); (· rfl))
    | ((with_reducible apply O.lenV); (· rfl); (· rfl); (· rfl))
    | ((with_reducible apply O.indexL); (· rfl); (· exact WFC.wf); (· rfl); (· (first | exact .tmp rfl | exact .const)); (· exact ⟨rfl, rfl⟩); (· decide); (· rfl); (· decide); (· omega); (· (first | rfl | assumption)))
    | ((with_reducible apply O.indexV); (· rfl); (· exact WFC.wf); (· rfl); (· (first | exact .tmp rfl | exact .const)); (· exact ⟨rfl, rfl⟩); (· decide); (· rfl); (· omega); (· omega); (· (first | rfl | assumption)); (· rfl); (· rfl))
    | ((with_reducible apply O.indexA); (· rfl); (· exact WFC.wf); (· rfl); (· (first | exact .tmp rfl | exact .const)); (· rfl); (· rfl); (· decide); (· rfl); (· omega); (· omega))
    | ((with_reducible apply O.indexE); (· rfl); (· exact WFC.wf); (· rfl); (· (first | exact .tmp rfl | exact .const)); (· decide); (· rfl); (· omega); (· omega); (· (first | rfl | assumption)))
    | ((with_reducible apply O.indexVw); (· rfl); (· exact WFC.wf); (· rfl); (· (first | exact .tmp rfl | exact .const)); (· exact ⟨rfl, rfl⟩); (· decide); (· rfl); (· omega); (· omega))
    | ((with_reducible apply O.box); (· rfl); (· rfl); (· exact ⟨rfl, rfl⟩); (· decide); (· (first | exact .inl rfl | exact .inr rfl)))
    | ((with_reducible apply O.store); (· exact WFC.wf); (· rfl); (· (first | exact ArgAt.tmp rfl ⟨rfl, rfl⟩ | exact ArgAt.free rfl rfl | exact ArgAt.nil rfl | exact ArgAt.const rfl)); (· rfl); (· (first | rfl | assumption)); (· decide); (· (first | rfl | assumption)); (· rfl); (· (first | exact .inl rfl | exact .inr rfl)))
    | (apply O.makeFunc; (· rfl); (· repeat (first | exact Caps.nil | apply Caps.cons rfl rfl)); (· repeat (first | exact Caps.nil | apply Caps.cons rfl rfl)))
    | ((with_reducible apply O.alloc); (· rfl); (· exact ZC.zero))
    | (apply O.build; (· rfl); (· exact WFC.wf); (· exact ZC.zero); (· rfl); (· rfl); (· repeat (first | exact PutsAt.nil | apply PutsAt.cons rfl (ArgAt.tmp rfl ⟨rfl, rfl⟩) rfl (by first | exact .inr rfl | exact .inl rfl) rfl | apply PutsAt.cons rfl (ArgAt.const rfl) rfl (Or.inr rfl) rfl | apply PutsAt.cons rfl (ArgAt.free rfl rfl) rfl (by first | exact .inr rfl | exact .inl rfl) rfl | apply PutsAt.cons rfl ArgAt.func rfl (Or.inr rfl) rfl)))
    | ((with_reducible apply O.buildSlice); (· rfl); (· exact WFC.wf); (· rfl); (· decide); (· repeat (first | exact Parts.nil | apply Parts.cons (ArgAt.tmp rfl ⟨rfl, rfl⟩) (Or.inr rfl) | apply Parts.cons (ArgAt.tmp rfl ⟨rfl, rfl⟩) (Or.inl rfl) | apply Parts.cons (ArgAt.const rfl) (Or.inr rfl) | apply Parts.cons (ArgAt.free rfl rfl) (Or.inr rfl))); (· rfl); (· decide); (· decide); (· exact ⟨_, _, rfl, rfl⟩))
    | ((with_reducible apply O.eqT); (· rfl); (· (exact ArgAt.tmp rfl ⟨rfl, rfl⟩)); (· (exact ArgAt.tmp rfl ⟨rfl, rfl⟩)); (· rfl); (· rfl); (· kernel_rfl); (· assumption))
    | ((with_reducible apply O.neT); (· rfl); (· (exact ArgAt.tmp rfl ⟨rfl, rfl⟩)); (· (exact ArgAt.tmp rfl ⟨rfl, rfl⟩)); (· rfl); (· rfl); (· kernel_rfl); (· assumption))
    | ((with_reducible apply O.min2); (· rfl); (· (first | exact .tmp rfl | exact .const)); (· (first | exact .tmp rfl | exact .const)))
    | ((with_reducible apply O.max2); (· rfl); (· (first | exact .tmp rfl | exact .const)); (· (first | exact .tmp rfl | exact .const)))
    | ((with_reducible apply O.nilCheck); (· rfl); (· rfl))
    | ((with_reducible apply O.sliceE); (· rfl); (· exact WFC.wf); (· rfl); (· decide); (· rfl); (· rfl))
    | ((with_reducible apply O.eqNilP); (· rfl); (· rfl); (· rfl))
    | (apply O.fnA; (· rfl); (· repeat (first | exact Args.nil | apply Args.cons (ArgAt.tmp rfl ⟨rfl, rfl⟩) | apply Args.cons (ArgAt.nilno rfl) | apply Args.cons (ArgAt.const rfl) | apply Args.cons ArgAt.func)); (· assumption); (· rfl))
    | (apply O.fnA; (· rfl); (· repeat (first | exact Args.nil | apply Args.cons (ArgAt.wk rfl ⟨rfl, rfl⟩ (Wk.noS rfl)) | apply Args.cons (ArgAt.tmp rfl ⟨rfl, rfl⟩) | apply Args.cons (ArgAt.nilno rfl) | apply Args.cons (ArgAt.const rfl) | apply Args.cons ArgAt.func)); (· assumption); (· rfl))
    | (apply O.fnT; (· rfl); (· repeat (first | exact ArgsA.nil | apply ArgsA.cons (ArgAt.tmp rfl ⟨rfl, rfl⟩) | apply ArgsA.cons (ArgAt.nilno rfl) | apply ArgsA.cons (ArgAt.const rfl) | apply ArgsA.cons ArgAt.func | apply ArgsA.cons (ArgAt.free rfl rfl))); (· assumption); (· rfl))
    | (apply O.fnR; (· rfl); (· repeat (first | exact Args.nil | apply Args.cons (ArgAt.tmp rfl ⟨rfl, rfl⟩) | apply Args.cons (ArgAt.nilno rfl) | apply Args.cons (ArgAt.const rfl) | apply Args.cons ArgAt.func)); (· rfl); (· assumption); (· rfl))
    | (apply O.fnW; (· rfl); (· repeat (first | exact Args.nil | apply Args.cons (ArgAt.tmp rfl ⟨rfl, rfl⟩) | apply Args.cons (ArgAt.nilno rfl) | apply Args.cons (ArgAt.const rfl) | apply Args.cons ArgAt.func)); (· rfl); (· assumption); (· omega); (· rfl))
    | (apply O.fnN; (· rfl); (· repeat (first | exact Args.nil | apply Args.cons (ArgAt.tmp rfl ⟨rfl, rfl⟩) | apply Args.cons (ArgAt.nilno rfl) | apply Args.cons (ArgAt.const rfl) | apply Args.cons ArgAt.func)); (· rfl); (· assumption); (· rfl))
    | (apply O.fnM; (· rfl); (· repeat (first | exact Args.nil | apply Args.cons (ArgAt.tmp rfl ⟨rfl, rfl⟩) | apply Args.cons (ArgAt.nilno rfl) | apply Args.cons (ArgAt.const rfl) | apply Args.cons ArgAt.func)); (· assumption); (· rfl))
    | (apply O.fnVR; (· rfl); (· rfl); (· rfl); (· assumption); (· rfl))
    | (apply O.fn; (· rfl); (· assumption); (· rfl); (· repeat (first | exact Args.nil | apply Args.cons (ArgAt.wk rfl ⟨rfl, rfl⟩ (Wk.noS rfl)) | apply Args.cons (ArgAt.tmp rfl ⟨rfl, rfl⟩) | apply Args.cons (ArgAt.nilno rfl) | apply Args.cons (ArgAt.const rfl) | apply Args.cons ArgAt.func)))
    | (apply O.fnVA; (· rfl); (· rfl); (· repeat (first | exact Args.nil | apply Args.cons (ArgAt.tmp rfl ⟨rfl, rfl⟩) | apply Args.cons (ArgAt.nilno rfl) | apply Args.cons (ArgAt.const rfl) | apply Args.cons ArgAt.func)); (· assumption); (· rfl))
    | (apply O.fnVA; (· rfl); (· rfl); (· repeat (first | exact Args.nil | apply Args.cons (ArgAt.wk rfl ⟨rfl, rfl⟩ (Wk.noS rfl)) | apply Args.cons (ArgAt.tmp rfl ⟨rfl, rfl⟩) | apply Args.cons (ArgAt.nilno rfl) | apply Args.cons (ArgAt.const rfl) | apply Args.cons ArgAt.func)); (· assumption); (· rfl))
    | ((with_reducible apply Then.n))
    | ((with_reducible apply Then.r))
    | ((with_reducible apply Then.e))
    | ((with_reducible apply Then.g))
    | ((with_reducible apply InB.n))
    | ((with_reducible apply InB.r))
    | ((with_reducible apply InB.g))
    | ((with_reducible apply InB.here))
    | ((with_reducible apply OPS.nil))
    | ((with_reducible apply AW.seq))
    | ((with_reducible apply AW.region))
    | ((with_reducible apply AW.skip))
    | ((with_reducible apply AW.ret))
    | ((with_reducible apply AW.exit))
    | ((with_reducible apply AW.block))
    | ((with_reducible apply AW.label))
    | ((with_reducible apply AW.goto))
    | ((with_reducible apply NG.n))
    | ((with_reducible apply NG.r))
    | ((with_reducible apply NG.e))
    | ((with_reducible apply JG.n))
    | ((with_reducible apply JG.r))
    | ((with_reducible apply JG.e))
    | ((with_reducible apply O.bin); (· rfl); (· first | exact .tmp rfl | exact .const); (· first | exact .tmp rfl | exact .const); (· assumption); (· rfl))
    | ((with_reducible apply O.bin); (· rfl); (· first | exact .tmp rfl | exact .const); (· first | exact .tmp rfl | exact .const); (· exact fun w => rfl); (· rfl))
    | ((with_reducible apply O.conv); (· rfl); (· first | exact .tmp rfl | exact .const); (· exact fun w => rfl); (· rfl))
    | ((with_reducible apply InB.past); (· rfl))
    | ((with_reducible apply AW.condT); (· rfl))
    | ((with_reducible apply AW.condF); (· rfl)))
  exact hq_.out) : p := h ⟨k⟩
theorem walkD {p q : Prop} (k : q) (h : BoxP q → p := by
  intro hq_
  repeat (first
    | ((with_reducible apply O.move); (· rfl); (· rfl))
    | ((with_reducible apply O.assign); (· rfl); (· rfl))
    | ((with_reducible apply O.assignN); (· rfl); (· rfl))
    | ((with_reducible apply O.assignC); (· rfl); (· rfl))
    | ((with_reducible apply O.moveC); (· rfl); (· rfl))
    | ((with_reducible apply O.assignF); (· rfl))
    | ((with_reducible apply O.load); (· rfl); (· exact WFC.wf); (· rfl); (· rfl); (· (first | rfl | assumption)); (· (first | rfl | assumption)); (· rfl); (· rfl))
    | ((with_reducible apply O.loadE); (· rfl); (· exact WFC.wf); (· rfl); (· decide); (· rfl); (· (first | exact .inl rfl | exact .inr rfl)); (· rfl))
    | ((with_reducible apply O.fieldAddr); (· rfl); (· exact WFC.wf); (· rfl); (· rfl); (· rfl); (· decide); (· rfl); (· rfl); (· decide))
    | ((with_reducible apply O.fieldAddrE); (· rfl); (· exact WFC.wf); (· rfl); (· decide); (· rfl); (· rfl); (· rfl); (· decide))
    | ((with_reducible apply O.gT); (· rfl); (· rfl); (· rfl))
    | ((with_reducible apply O.gF); (· rfl); (· rfl); (· rfl); (· rfl))
    | ((with_reducible apply O.gU); (· rfl); (· rfl); (· rfl))
    | ((with_reducible apply O.cmp); (· rfl); (· (first | exact .tmp rfl | exact .const)); (· (first | exact .tmp rfl | exact .const)); (· (first | exact eqT (by omega) | exact eqF (by omega) | exact neT (by omega) | exact neF (by omega) | exact ltT (by omega) | exact ltF (by omega) | exact leT (by omega) | exact leF (by omega) | exact gtT (by omega) | exact gtF (by omega) | exact geT (by omega) | exact geF (by omega))))
    | ((with_reducible apply O.cmp); (· rfl); (· (first | exact .tmp rfl | exact .const)); (· (first | exact .tmp rfl | exact .const)); (· rfl))
    | ((with_reducible apply O.arith); (· rfl); (· (first | exact .tmp rfl | exact .const)); (· (first | exact .tmp rfl | exact .const)); (· rfl); (· exact wrapI (by omega) (by omega)))
    | ((with_reducible apply O.not); (· rfl); (· (first | exact .tmp rfl | exact .const)))
    | ((with_reducible apply O.pickT); (· rfl); (· (first | exact .tmp rfl | exact .const)); (· (first | exact .tmp rfl | exact .const)))
    | ((with_reducible apply O.pickF); (· rfl); (· (first | exact .tmp rfl | exact .const)); (· (first | exact .tmp rfl | exact .const)))
    | ((with_reducible apply O.pickB); (· rfl); (· (first | exact .tmp rfl | exact .const)); (· (first | exact .tmp rfl | exact .const)); (· (first | exact .tmp rfl | exact .const)))
    | ((with_reducible apply O.extract); (· rfl); (· rfl); (· rfl); (· rfl); (· rfl))
    | ((with_reducible apply O.len); (· rfl); (· rfl); (· rfl))
    | ((with_reducible apply O.lenV); (· rfl); (· rfl); (· rfl))
    | ((with_reducible apply O.indexL); (· rfl); (· exact WFC.wf); (· rfl); (· (first | exact .tmp rfl | exact .const)); (· exact ⟨rfl, rfl⟩); (· decide); (· rfl); (· decide); (· omega); (· (first | rfl | assumption)))
    | ((with_reducible apply O.indexV); (· rfl); (· exact WFC.wf); (· rfl); (· (first | exact .tmp rfl | exact .const)); (· exact ⟨rfl, rfl⟩); (· decide); (· rfl); (· omega); (· omega); (· (first | rfl | assumption)); (· rfl); (· rfl))
    | ((with_reducible apply O.indexA); (· rfl); (· exact WFC.wf); (· rfl); (· (first | exact .tmp rfl | exact .const)); (· rfl); (· rfl); (· decide); (· rfl); (· omega); (· omega))
    | ((with_reducible apply O.indexE); (· rfl); (· exact WFC.wf); (· rfl); (· (first | exact .tmp rfl | exact .const)); (· decide); (· rfl); (· omega); (· omega); (· (first | rfl | assumption)))
    | ((with_reducible apply O.indexVw); (· rfl); (· exact WFC.wf); (· rfl); (· (first | exact .tmp rfl | exact .const)); (· exact ⟨rfl, rfl⟩); (· decide); (· rfl); (· omega); (· omega))
    | ((with_reducible apply O.box); (· rfl); (· rfl); (· exact ⟨rfl, rfl⟩); (· decide); (· (first | exact .inl rfl | exact .inr rfl)))
    | ((with_reducible apply O.store); (· exact WFC.wf); (· rfl); (· (first | exact ArgAt.tmp rfl ⟨rfl, rfl⟩ | exact ArgAt.free rfl rfl | exact ArgAt.nil rfl | exact ArgAt.const rfl)); (· rfl); (· (first | rfl | assumption)); (· decide); (· (first | rfl | assumption)); (· rfl); (· (first | exact .inl rfl | exact .inr rfl)))
    | (apply O.makeFunc; (· rfl); (· repeat (first | exact Caps.nil | apply Caps.cons rfl rfl)); (· repeat (first | exact Caps.nil | apply Caps.cons rfl rfl)))
    | ((with_reducible apply O.alloc); (· rfl); (· exact ZC.zero))
    | (apply O.build; (· rfl); (· exact WFC.wf); (· exact ZC.zero); (· rfl); (· rfl); (· repeat (first | exact PutsAt.nil | apply PutsAt.cons rfl (ArgAt.tmp rfl ⟨rfl, rfl⟩) rfl (by first | exact .inr rfl | exact .inl rfl) rfl | apply PutsAt.cons rfl (ArgAt.const rfl) rfl (Or.inr rfl) rfl | apply PutsAt.cons rfl (ArgAt.free rfl rfl) rfl (by first | exact .inr rfl | exact .inl rfl) rfl | apply PutsAt.cons rfl ArgAt.func rfl (Or.inr rfl) rfl)))
    | ((with_reducible apply O.buildSlice); (· rfl); (· exact WFC.wf); (· rfl); (· decide); (· repeat (first | exact Parts.nil | apply Parts.cons (ArgAt.tmp rfl ⟨rfl, rfl⟩) (Or.inr rfl) | apply Parts.cons (ArgAt.tmp rfl ⟨rfl, rfl⟩) (Or.inl rfl) | apply Parts.cons (ArgAt.const rfl) (Or.inr rfl) | apply Parts.cons (ArgAt.free rfl rfl) (Or.inr rfl))); (· rfl); (· decide); (· decide); (· exact ⟨_, _, rfl, rfl⟩))
    | ((with_reducible apply O.eqT); (· rfl); (· (exact ArgAt.tmp rfl ⟨rfl, rfl⟩)); (· (exact ArgAt.tmp rfl ⟨rfl, rfl⟩)); (· rfl); (· rfl); (· kernel_rfl); (· assumption))
    | ((with_reducible apply O.neT); (· rfl); (· (exact ArgAt.tmp rfl ⟨rfl, rfl⟩)); (· (exact ArgAt.tmp rfl ⟨rfl, rfl⟩)); (· rfl); (· rfl); (· kernel_rfl); (· assumption))
    | ((with_reducible apply O.min2); (· rfl); (· (first | exact .tmp rfl | exact .const)); (· (first | exact .tmp rfl | exact .const)))
    | ((with_reducible apply O.max2); (· rfl); (· (first | exact .tmp rfl | exact .const)); (· (first | exact .tmp rfl | exact .const)))
    | ((with_reducible apply O.nilCheck); (· rfl); (· rfl))
    | ((with_reducible apply O.sliceE); (· rfl); (· exact WFC.wf); (· rfl); (· decide); (· rfl); (· rfl))
    | ((with_reducible apply O.eqNilP); (· rfl); (· rfl); (· rfl))
    | (apply O.fnA; (· rfl); (· repeat (first | exact Args.nil | apply Args.cons (ArgAt.tmp rfl ⟨rfl, rfl⟩) | apply Args.cons (ArgAt.nilno rfl) | apply Args.cons (ArgAt.const rfl) | apply Args.cons ArgAt.func)); (· assumption); (· rfl))
    | (apply O.fnA; (· rfl); (· repeat (first | exact Args.nil | apply Args.cons (ArgAt.wk rfl ⟨rfl, rfl⟩ (Wk.noS rfl)) | apply Args.cons (ArgAt.tmp rfl ⟨rfl, rfl⟩) | apply Args.cons (ArgAt.nilno rfl) | apply Args.cons (ArgAt.const rfl) | apply Args.cons ArgAt.func)); (· assumption); (· rfl))
    | (apply O.fnT; (· rfl); (· repeat (first | exact ArgsA.nil | apply ArgsA.cons (ArgAt.tmp rfl ⟨rfl, rfl⟩) | apply ArgsA.cons (ArgAt.nilno rfl) | apply ArgsA.cons (ArgAt.const rfl) | apply ArgsA.cons ArgAt.func | apply ArgsA.cons (ArgAt.free rfl rfl))); (· assumption); (· rfl))
    | (apply O.fnR; (· rfl); (· repeat (first | exact Args.nil | apply Args.cons (ArgAt.tmp rfl ⟨rfl, rfl⟩) | apply Args.cons (ArgAt.nilno rfl) | apply Args.cons (ArgAt.const rfl) | apply Args.cons ArgAt.func)); (· rfl); (· assumption); (· rfl))
    | (apply O.fnW; (· rfl); (· repeat (first | exact Args.nil | apply Args.cons (ArgAt.tmp rfl ⟨rfl, rfl⟩) | apply Args.cons (ArgAt.nilno rfl) | apply Args.cons (ArgAt.const rfl) | apply Args.cons ArgAt.func)); (· rfl); (· assumption); (· omega); (· rfl))
    | (apply O.fnN; (· rfl); (· repeat (first | exact Args.nil | apply Args.cons (ArgAt.tmp rfl ⟨rfl, rfl⟩) | apply Args.cons (ArgAt.nilno rfl) | apply Args.cons (ArgAt.const rfl) | apply Args.cons ArgAt.func)); (· rfl); (· assumption); (· rfl))
    | (apply O.fnM; (· rfl); (· repeat (first | exact Args.nil | apply Args.cons (ArgAt.tmp rfl ⟨rfl, rfl⟩) | apply Args.cons (ArgAt.nilno rfl) | apply Args.cons (ArgAt.const rfl) | apply Args.cons ArgAt.func)); (· assumption); (· rfl))
    | (apply O.fnVR; (· rfl); (· rfl); (· rfl); (· assumption); (· rfl))
    | (apply O.fn; (· rfl); (· assumption); (· rfl); (· repeat (first | exact Args.nil | apply Args.cons (ArgAt.wk rfl ⟨rfl, rfl⟩ (Wk.noS rfl)) | apply Args.cons (ArgAt.tmp rfl ⟨rfl, rfl⟩) | apply Args.cons (ArgAt.nilno rfl) | apply Args.cons (ArgAt.const rfl) | apply Args.cons ArgAt.func)))
    | (apply O.fnVA; (· rfl); (· rfl); (· repeat (first | exact Args.nil | apply Args.cons (ArgAt.tmp rfl ⟨rfl, rfl⟩) | apply Args.cons (ArgAt.nilno rfl) | apply Args.cons (ArgAt.const rfl) | apply Args.cons ArgAt.func)); (· assumption); (· rfl))
    | (apply O.fnVA; (· rfl); (· rfl); (· repeat (first | exact Args.nil | apply Args.cons (ArgAt.wk rfl ⟨rfl, rfl⟩ (Wk.noS rfl)) | apply Args.cons (ArgAt.tmp rfl ⟨rfl, rfl⟩) | apply Args.cons (ArgAt.nilno rfl) | apply Args.cons (ArgAt.const rfl) | apply Args.cons ArgAt.func)); (· assumption); (· rfl))
    | ((with_reducible apply Then.n))
    | ((with_reducible apply Then.r))
    | ((with_reducible apply Then.e))
    | ((with_reducible apply Then.g))
    | ((with_reducible apply InB.n))
    | ((with_reducible apply InB.r))
    | ((with_reducible apply InB.g))
    | ((with_reducible apply InB.here))
    | ((with_reducible apply OPS.nil))
    | ((with_reducible apply AW.seq))
    | ((with_reducible apply AW.region))
    | ((with_reducible apply AW.skip))
    | ((with_reducible apply AW.ret))
    | ((with_reducible apply AW.exit))
    | ((with_reducible apply AW.block))
    | ((with_reducible apply AW.label))
    | ((with_reducible apply AW.goto))
    | ((with_reducible apply NG.n))
    | ((with_reducible apply NG.r))
    | ((with_reducible apply NG.e))
    | ((with_reducible apply JG.n))
    | ((with_reducible apply JG.r))
    | ((with_reducible apply JG.e))
    | ((with_reducible apply O.bin); (· rfl); (· first | exact .tmp rfl | exact .const); (· first | exact .tmp rfl | exact .const); (· assumption); (· rfl))
    | ((with_reducible apply O.bin); (· rfl); (· first | exact .tmp rfl | exact .const); (· first | exact .tmp rfl | exact .const); (· exact fun w => rfl); (· rfl))
    | ((with_reducible apply O.conv); (· rfl); (· first | exact .tmp rfl | exact .const); (· exact fun w => rfl); (· rfl))
    | ((with_reducible apply InB.past); (· rfl))
    | ((with_reducible apply AW.condT); (· rfl))
    | ((with_reducible apply AW.condF); (· rfl)))
  exact hq_.out) : p := h ⟨k⟩
theorem walkG {p q : Prop} (k : q) (h : BoxP q → p := by
  intro hq_
  repeat (first
    | ((with_reducible apply D.nil))
    | ((with_reducible apply D.move); (· rfl); (· rfl); (· (first | exact trivial | exact ⟨_, _, rfl, rfl⟩)); (· rfl))
    | ((with_reducible apply D.assign); (· rfl); (· rfl); (· (first | exact trivial | exact ⟨_, _, rfl, rfl⟩)); (· rfl))
    | ((with_reducible apply D.assignN); (· rfl); (· rfl); (· (first | exact trivial | exact ⟨_, _, rfl, rfl⟩)); (· rfl))
    | ((with_reducible apply D.assignC); (· rfl); (· rfl); (· (first | exact trivial | exact ⟨_, _, rfl, rfl⟩)); (· rfl))
    | ((with_reducible apply D.moveC); (· rfl); (· rfl); (· (first | exact trivial | exact ⟨_, _, rfl, rfl⟩)); (· rfl))
    | ((with_reducible apply D.load); (· rfl); (· rfl); (· rfl); (· (first | exact trivial | exact ⟨_, _, rfl, rfl⟩)); (· exact WFC.wf); (· rfl); (· rfl); (· (first | rfl | assumption)); (· (first | rfl | assumption)); (· rfl); (· rfl))
    | ((with_reducible apply D.loadE); (· rfl); (· rfl); (· (first | exact trivial | exact ⟨_, _, rfl, rfl⟩)); (· exact WFC.wf); (· rfl); (· decide); (· rfl); (· (first | exact .inl rfl | exact .inr rfl)); (· rfl))
    | ((with_reducible apply D.fieldAddr); (· rfl); (· rfl); (· rfl); (· (first | exact trivial | exact ⟨_, _, rfl, rfl⟩)); (· exact WFC.wf); (· rfl); (· rfl); (· rfl); (· decide); (· rfl); (· rfl); (· decide))
    | ((with_reducible apply D.fieldAddrE); (· rfl); (· rfl); (· (first | exact trivial | exact ⟨_, _, rfl, rfl⟩)); (· exact WFC.wf); (· rfl); (· decide); (· rfl); (· rfl); (· rfl); (· decide))
    | ((with_reducible apply D.cmp); (· rfl); (· rfl); (· (first | exact trivial | exact ⟨_, _, rfl, rfl⟩)); (· (intro _ _; first | exact .tmp rfl | exact .const)); (· (intro _ _; first | exact .tmp rfl | exact .const)); (· (first | exact eqT (by omega) | exact eqF (by omega) | exact neT (by omega) | exact neF (by omega) | exact ltT (by omega) | exact ltF (by omega) | exact leT (by omega) | exact leF (by omega) | exact gtT (by omega) | exact gtF (by omega) | exact geT (by omega) | exact geF (by omega))))
    | ((with_reducible apply D.cmp); (· rfl); (· rfl); (· (first | exact trivial | exact ⟨_, _, rfl, rfl⟩)); (· (intro _ _; first | exact .tmp rfl | exact .const)); (· (intro _ _; first | exact .tmp rfl | exact .const)); (· rfl))
    | ((with_reducible apply D.arith); (· rfl); (· rfl); (· (first | exact trivial | exact ⟨_, _, rfl, rfl⟩)); (· (intro _ _; first | exact .tmp rfl | exact .const)); (· (intro _ _; first | exact .tmp rfl | exact .const)); (· rfl); (· exact wrapI (by omega) (by omega)))
    | ((with_reducible apply D.not); (· rfl); (· rfl); (· (first | exact trivial | exact ⟨_, _, rfl, rfl⟩)); (· (intro _ _; first | exact .tmp rfl | exact .const)))
    | ((with_reducible apply D.pickT); (· rfl); (· rfl); (· (first | exact trivial | exact ⟨_, _, rfl, rfl⟩)); (· (intro _ _; first | exact .tmp rfl | exact .const)); (· (intro _ _; first | exact .tmp rfl | exact .const)))
    | ((with_reducible apply D.pickF); (· rfl); (· rfl); (· (first | exact trivial | exact ⟨_, _, rfl, rfl⟩)); (· (intro _ _; first | exact .tmp rfl | exact .const)); (· (intro _ _; first | exact .tmp rfl | exact .const)))
    | ((with_reducible apply D.pickB); (· rfl); (· rfl); (· (first | exact trivial | exact ⟨_, _, rfl, rfl⟩)); (· (intro _ _; first | exact .tmp rfl | exact .const)); (· (intro _ _; first | exact .tmp rfl | exact .const)); (· (intro _ _; first | exact .tmp rfl | exact .const)))
    | ((with_reducible apply D.extract); (· rfl); (· rfl); (· (first | exact trivial | exact ⟨_, _, rfl, rfl⟩)); (· rfl); (· rfl); (· rfl); (· rfl))
    | ((with_reducible apply D.len); (· rfl); (· rfl); (· (first | exact trivial | exact ⟨_, _, rfl, rfl⟩)); (· rfl); (· rfl))
    | ((with_reducible apply D.indexL); (· rfl); (· rfl); (· (first | exact trivial | exact ⟨_, _, rfl, rfl⟩)); (· exact WFC.wf); (· rfl); (· (intro _ _; first | exact .tmp rfl | exact .const)); (· exact ⟨rfl, rfl⟩); (· decide); (· rfl); (· decide); (· omega); (· (first | rfl | assumption)))
    | ((with_reducible apply D.indexA); (· rfl); (· rfl); (· rfl); (· (first | exact trivial | exact ⟨_, _, rfl, rfl⟩)); (· exact WFC.wf); (· rfl); (· (first | exact .tmp rfl | exact .const)); (· rfl); (· rfl); (· decide); (· rfl); (· omega); (· omega))
    | ((with_reducible apply D.indexE); (· rfl); (· rfl); (· (first | exact trivial | exact ⟨_, _, rfl, rfl⟩)); (· exact WFC.wf); (· rfl); (· (intro _ _; first | exact .tmp rfl | exact .const)); (· decide); (· rfl); (· omega); (· omega); (· (first | rfl | assumption)))
    | ((with_reducible apply D.bin); (· rfl); (· rfl); (· (first | exact trivial | exact ⟨_, _, rfl, rfl⟩)); (· intro _ _; first | exact .tmp rfl | exact .const); (· intro _ _; first | exact .tmp rfl | exact .const); (· assumption); (· rfl))
    | ((with_reducible apply D.bin); (· rfl); (· rfl); (· (first | exact trivial | exact ⟨_, _, rfl, rfl⟩)); (· intro _ _; first | exact .tmp rfl | exact .const); (· intro _ _; first | exact .tmp rfl | exact .const); (· exact fun w => rfl); (· rfl))
    | ((with_reducible apply D.skip); (· rfl); (· rfl); (· rfl); (· rfl); (· rfl))
    | ((with_reducible apply D.skipU); (· rfl); (· rfl); (· rfl); (· rfl))
    | (apply D.alloc; (· rfl); (· rfl); (· rfl); (· (first | exact trivial | exact ⟨_, _, rfl, rfl⟩)); (· exact ZC.zero); (· rfl); (· (first | exact trivial | exact ⟨rfl, rfl⟩ | exact rfl | exact ⟨rfl, rfl, rfl⟩)))
    | ((with_reducible apply D.box); (· rfl); (· rfl); (· rfl); (· (first | exact trivial | exact ⟨_, _, rfl, rfl⟩)); (· rfl); (· exact ⟨rfl, rfl⟩); (· decide); (· (first | exact .inl rfl | exact .inr rfl)); (· rfl); (· (first | exact trivial | exact ⟨rfl, rfl⟩ | exact rfl | exact ⟨rfl, rfl, rfl⟩)))
    | (apply D.build; (· rfl); (· rfl); (· (first | exact trivial | exact ⟨_, _, rfl, rfl⟩)); (· exact WFC.wf); (· exact ZC.zero); (· rfl); (· rfl); (· intro _ _; repeat (first | exact PutsAt.nil | apply PutsAt.cons rfl (ArgAt.tmp rfl ⟨rfl, rfl⟩) rfl (by first | exact .inr rfl | exact .inl rfl) rfl | apply PutsAt.cons rfl (ArgAt.const rfl) rfl (Or.inr rfl) rfl | apply PutsAt.cons rfl (ArgAt.free rfl rfl) rfl (by first | exact .inr rfl | exact .inl rfl) rfl | apply PutsAt.cons rfl ArgAt.func rfl (Or.inr rfl) rfl)))
    | ((with_reducible apply D.store); (· rfl); (· rfl); (· rfl); (· (first | exact trivial | exact ⟨_, _, rfl, rfl⟩)); (· exact WFC.wf); (· rfl); (· (first | exact ArgAt.tmp rfl ⟨rfl, rfl⟩ | exact ArgAt.free rfl rfl | exact ArgAt.nil rfl | exact ArgAt.const rfl)); (· rfl); (· (first | rfl | assumption)); (· decide); (· (first | rfl | assumption)); (· rfl); (· (first | exact .inl rfl | exact .inr rfl)); (· rfl); (· (first | exact trivial | exact ⟨rfl, rfl⟩ | exact rfl | exact ⟨rfl, rfl, rfl⟩)))
    | ((with_reducible apply D.buildSlice); (· rfl); (· rfl); (· (first | exact trivial | exact ⟨_, _, rfl, rfl⟩)); (· exact WFC.wf); (· rfl); (· decide); (· (intro _ _; repeat (first | exact Parts.nil | apply Parts.cons (ArgAt.tmp rfl ⟨rfl, rfl⟩) (Or.inr rfl) | apply Parts.cons (ArgAt.tmp rfl ⟨rfl, rfl⟩) (Or.inl rfl) | apply Parts.cons (ArgAt.const rfl) (Or.inr rfl) | apply Parts.cons (ArgAt.free rfl rfl) (Or.inr rfl)))); (· rfl); (· decide); (· decide); (· exact ⟨_, _, rfl, rfl⟩))
    | ((with_reducible apply D.eqT); (· rfl); (· rfl); (· (first | exact trivial | exact ⟨_, _, rfl, rfl⟩)); (· (intro _ _; exact ArgAt.tmp rfl ⟨rfl, rfl⟩)); (· (intro _ _; exact ArgAt.tmp rfl ⟨rfl, rfl⟩)); (· rfl); (· rfl); (· kernel_rfl); (· assumption))
    | ((with_reducible apply D.neT); (· rfl); (· rfl); (· (first | exact trivial | exact ⟨_, _, rfl, rfl⟩)); (· (intro _ _; exact ArgAt.tmp rfl ⟨rfl, rfl⟩)); (· (intro _ _; exact ArgAt.tmp rfl ⟨rfl, rfl⟩)); (· rfl); (· rfl); (· kernel_rfl); (· assumption))
    | ((with_reducible apply D.nilCheck); (· rfl); (· rfl); (· (first | exact trivial | exact ⟨_, _, rfl, rfl⟩)); (· rfl))
    | ((with_reducible apply D.sliceE); (· rfl); (· rfl); (· (first | exact trivial | exact ⟨_, _, rfl, rfl⟩)); (· exact WFC.wf); (· rfl); (· decide); (· rfl); (· rfl))
    | ((with_reducible apply D.fieldAddrR); (· rfl); (· rfl); (· (first | exact trivial | exact ⟨_, _, rfl, rfl⟩)); (· exact WFC.wf); (· rfl); (· (intro h hr; first | exact hr | exact hr.1 | exact hr.2 | exact hr.2.1 | exact hr.2.2)); (· rfl); (· decide); (· rfl); (· rfl); (· decide))
    | ((with_reducible apply D.loadR); (· rfl); (· rfl); (· (first | exact trivial | exact ⟨_, _, rfl, rfl⟩)); (· exact WFC.wf); (· rfl); (· (intro h hr; first | exact hr | exact hr.1 | exact hr.2 | exact hr.2.1 | exact hr.2.2)); (· (first | rfl | assumption)); (· (first | rfl | assumption)); (· rfl); (· rfl))
    | (apply D.makeFunc; (· rfl); (· rfl); (· (first | exact trivial | exact ⟨_, _, rfl, rfl⟩)); (· intro _ _; repeat (first | exact Caps.nil | apply Caps.cons rfl rfl)); (· intro _ _; repeat (first | exact Caps.nil | apply Caps.cons rfl rfl)))
    | ((with_reducible apply D.min2); (· rfl); (· rfl); (· (first | exact trivial | exact ⟨_, _, rfl, rfl⟩)); (· (intro _ _; first | exact .tmp rfl | exact .const)); (· (intro _ _; first | exact .tmp rfl | exact .const)))
    | ((with_reducible apply D.max2); (· rfl); (· rfl); (· (first | exact trivial | exact ⟨_, _, rfl, rfl⟩)); (· (intro _ _; first | exact .tmp rfl | exact .const)); (· (intro _ _; first | exact .tmp rfl | exact .const)))
    | (apply D.fnA; (· rfl); (· rfl); (· (first | exact trivial | exact ⟨_, _, rfl, rfl⟩)); (· intro _ _; repeat (first | exact Args.nil | apply Args.cons (ArgAt.tmp rfl ⟨rfl, rfl⟩) | apply Args.cons (ArgAt.nilno rfl) | apply Args.cons (ArgAt.const rfl) | apply Args.cons ArgAt.func)); (· assumption); (· rfl))
    | (apply D.fnA; (· rfl); (· rfl); (· (first | exact trivial | exact ⟨_, _, rfl, rfl⟩)); (· intro _ _; repeat (first | exact Args.nil | apply Args.cons (ArgAt.wk rfl ⟨rfl, rfl⟩ (Wk.noS rfl)) | apply Args.cons (ArgAt.tmp rfl ⟨rfl, rfl⟩) | apply Args.cons (ArgAt.nilno rfl) | apply Args.cons (ArgAt.const rfl) | apply Args.cons ArgAt.func)); (· assumption); (· rfl))
    | (apply D.fn; (· rfl); (· assumption); (· rfl); (· rfl); (· (first | exact trivial | exact ⟨_, _, rfl, rfl⟩)); (· intro _ _; repeat (first | exact Args.nil | apply Args.cons (ArgAt.wk rfl ⟨rfl, rfl⟩ (Wk.noS rfl)) | apply Args.cons (ArgAt.tmp rfl ⟨rfl, rfl⟩) | apply Args.cons (ArgAt.nilno rfl) | apply Args.cons (ArgAt.const rfl) | apply Args.cons ArgAt.func)))
    | (apply D.fnT; (· rfl); (· rfl); (· (first | exact trivial | exact ⟨_, _, rfl, rfl⟩)); (· intro _ _; repeat (first | exact ArgsA.nil | apply ArgsA.cons (ArgAt.tmp rfl ⟨rfl, rfl⟩) | apply ArgsA.cons (ArgAt.nilno rfl) | apply ArgsA.cons (ArgAt.const rfl) | apply ArgsA.cons ArgAt.func | apply ArgsA.cons (ArgAt.free rfl rfl))); (· assumption); (· rfl))
    | (apply D.fnR; (· rfl); (· rfl); (· rfl); (· (first | exact trivial | exact ⟨_, _, rfl, rfl⟩)); (· repeat (first | exact Args.nil | apply Args.cons (ArgAt.tmp rfl ⟨rfl, rfl⟩) | apply Args.cons (ArgAt.nilno rfl) | apply Args.cons (ArgAt.const rfl) | apply Args.cons ArgAt.func)); (· rfl); (· assumption); (· rfl); (· rfl); (· (first | exact trivial | exact ⟨rfl, rfl⟩ | exact rfl | exact ⟨rfl, rfl, rfl⟩)))
    | (apply D.fnW; (· rfl); (· rfl); (· rfl); (· (first | exact trivial | exact ⟨_, _, rfl, rfl⟩)); (· repeat (first | exact Args.nil | apply Args.cons (ArgAt.tmp rfl ⟨rfl, rfl⟩) | apply Args.cons (ArgAt.nilno rfl) | apply Args.cons (ArgAt.const rfl) | apply Args.cons ArgAt.func)); (· rfl); (· assumption); (· omega); (· rfl); (· rfl); (· (first | exact trivial | exact ⟨rfl, rfl⟩ | exact rfl | exact ⟨rfl, rfl, rfl⟩)))
    | (apply D.fnM; (· rfl); (· rfl); (· rfl); (· (first | exact trivial | exact ⟨_, _, rfl, rfl⟩)); (· repeat (first | exact Args.nil | apply Args.cons (ArgAt.tmp rfl ⟨rfl, rfl⟩) | apply Args.cons (ArgAt.nilno rfl) | apply Args.cons (ArgAt.const rfl) | apply Args.cons ArgAt.func)); (· assumption); (· rfl); (· rfl); (· (first | exact trivial | exact ⟨rfl, rfl⟩ | exact rfl | exact ⟨rfl, rfl, rfl⟩)))
    | (apply D.fnVA; (· rfl); (· rfl); (· rfl); (· (first | exact trivial | exact ⟨_, _, rfl, rfl⟩)); (· intro _ _; repeat (first | exact Args.nil | apply Args.cons (ArgAt.tmp rfl ⟨rfl, rfl⟩) | apply Args.cons (ArgAt.nilno rfl) | apply Args.cons (ArgAt.const rfl) | apply Args.cons ArgAt.func)); (· assumption); (· rfl)))
  exact hq_.out) : p := h ⟨k⟩
end Go.Am
