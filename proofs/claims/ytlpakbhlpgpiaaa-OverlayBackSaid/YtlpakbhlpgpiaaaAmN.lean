/- A layer over the walk's rules. This text: a scope with one jump ahead to a label; function values called in a region that draws. -/
import Derived.Test.YtlpakbhlpgpiaaaAmS
import Derived.Test.YtlpakbhlpgpiaaaAmI
import Derived.ScopeJumps
import Derived.ChangeKeysEq
set_option linter.unusedVariables false
namespace Go.Am
variable {P : Program} {σ : St} {Q : Exit → St → Prop}

/-- A goto to label l is caught, where R holds. -/
def JG (l : Nat) (R : St → Prop) (Q : Exit → St → Prop) : Exit → St → Prop
  | .goto l', σ => l' = l ∧ R σ
  | e, σ => Q e σ
theorem JG.n {l : Nat} {R : St → Prop} (h : Q .normal σ) : JG l R Q .normal σ := h
theorem JG.r {l : Nat} {R : St → Prop} (h : Q .ret σ) : JG l R Q .ret σ := h
theorem JG.e {l : Nat} {R : St → Prop} {i : Nat} (h : Q (.exit i) σ) : JG l R Q (.exit i) σ := h
theorem JG.g {l : Nat} {R : St → Prop} (h : R σ) : JG l R Q (.goto l) σ := ⟨rfl, h⟩
theorem AW.scopeJ {c rest : Code} (l : Nat) (R : St → Prop) (hf : findLabel c l = some rest) (first : AW P c σ (JG l R Q)) (pass : ∀ σ', R σ' → AW P rest σ' (NG Q)) : AW P (.scope c) σ Q := fun κ a w hs => by
  refine wp_scope_jumps l (fun a' w' => ∃ κ' σ', Ext κ σ.u w κ' σ'.u w' ∧ SR P κ' σ' a' w' ∧ R σ') (fun _ _ => 0) hf (wp_mono (first κ a w hs) fun e a1 w1 ⟨κ1, σ1, h1, h2, h3⟩ => ?_) ?_
  · cases e with
    | goto l' => exact ⟨h3.1, κ1, σ1, h1, h2, h3.2⟩
    | _ => exact ⟨κ1, σ1, h1, h2, h3⟩
  · rintro a1 w1 ⟨κ1, σ1, h1, h2, h3⟩
    refine wp_mono (pass σ1 h3 κ1 a1 w1 h2) fun e a2 w2 ⟨κ2, σ2, r1, r2, r3⟩ => ?_
    cases e with
    | goto l' => exact r3.elim
    | _ => exact ⟨κ2, σ2, h1.trans r1, r2, r3⟩

section
variable {S E : List Nat} {N : Nat} {l : List Oper} {t0 t : List (Nat × T × TypeId)} {Q : St → Prop} {rest : List Oper} {tab : List (List Nat × List Nat)} {bef ks : List Nat} {i : Nat} {db : Db} {H : List AO} {U : Tips}
variable {d : Option Nat} {op : Op} {ty : TypeId} {p : String} {af : Array Edge} {g : Option (Nat × Bool)}
theorem D.fnV {V : List (Nat × T × TypeId)} {f : FuncId} {k : Nat} {first cap : List T} {tf : TypeId} {os : List Operand} {ats : Array TypeId} {xs : List X} {r : X} (hd : dstOk ⟨N, [], [], U⟩ d = true)
    (hV : pickOut ks (selD db bef ++ t0) = V) (hk0 : lk V k = some (.fn (.func f) first cap, tf)) (hf : Ans P f (X0 first ++ xs ++ X0 cap) r) (he : enters P f = true) (hg : GuardOk l V g) (ha : ∀ h u, Args P ⟨N, V, h, u⟩ os xs)
    (hk : DP P S E N l t0 Q rest tab (i + 1) (addD i d r db) (addT d r t) H U) :
    DP P S E N l t0 Q (⟨d, .call { callee := .value (.tmp k), args := os.toArray, argTypes := ats }, ty, p, af, g⟩ :: rest) ((bef, ks) :: tab) i db t H U :=
  D.free hd hV hg (fun h u => OPE.callV (σ := ⟨N, V, h, u⟩) hk0 he (ha h u) (hf.calls h u ⟨rfl, rfl, rfl⟩)) hk
end
end Go.Am
namespace Go.Am
theorem X0_nil (xs : List X) : X0 [] ++ xs ++ X0 [] = xs := by simp [X0]
section
variable {P : Program} {N : Nat} {L : List (Nat × T × TypeId)} {H : List AO} {U : Tips} {ops : Array Oper} {rest : List Oper} {Q : St → Prop} {D : Nat} {ty : TypeId} {p : String} {af : Array Edge}
theorem O.fnV0 {k : Nat} {f : FuncId} {tf : TypeId} {os : List Operand} {ats : Array TypeId} {xs : List X} {r : X} (hd : Nat.blt D N = true) (h0 : lk L k = some (.fn (.func f) [] [], tf)) (hf : Ans P f xs r) (he : enters P f = true) (ha : Args P ⟨N, L, H, U⟩ os xs) (hk : OPS P ops rest ⟨N, (D, r) :: L, H, U⟩ Q) :
    OPS P ops (⟨some D, .call { callee := .value (.tmp k), args := os.toArray, argTypes := ats }, ty, p, af, none⟩ :: rest) ⟨N, L, H, U⟩ Q :=
  O.fnV hd h0 (by rw [X0_nil]; exact hf) he ha hk
end
section
variable {P : Program} {S E : List Nat} {N : Nat} {l : List Oper} {t0 t : List (Nat × T × TypeId)} {Q : St → Prop} {rest : List Oper} {tab : List (List Nat × List Nat)} {bef ks : List Nat} {i : Nat} {db : Db} {H : List AO} {U : Tips}
variable {d : Option Nat} {op : Op} {ty : TypeId} {p : String} {af : Array Edge} {g : Option (Nat × Bool)}
theorem D.fnV0 {V : List (Nat × T × TypeId)} {f : FuncId} {k : Nat} {tf : TypeId} {os : List Operand} {ats : Array TypeId} {xs : List X} {r : X} (hd : dstOk ⟨N, [], [], U⟩ d = true)
    (hV : pickOut ks (selD db bef ++ t0) = V) (hk0 : lk V k = some (.fn (.func f) [] [], tf)) (hf : Ans P f xs r) (he : enters P f = true) (hg : GuardOk l V g) (ha : ∀ h u, Args P ⟨N, V, h, u⟩ os xs)
    (hk : DP P S E N l t0 Q rest tab (i + 1) (addD i d r db) (addT d r t) H U) :
    DP P S E N l t0 Q (⟨d, .call { callee := .value (.tmp k), args := os.toArray, argTypes := ats }, ty, p, af, g⟩ :: rest) ((bef, ks) :: tab) i db t H U :=
  D.fnV hd hV hk0 (by rw [X0_nil]; exact hf) he hg ha hk
end
end Go.Am
namespace Go.Am
section
variable {P : Program} {N : Nat} {L : List (Nat × T × TypeId)} {H : List AO} {U : Tips} {ops : Array Oper} {rest : List Oper} {Q : St → Prop} {D : Nat} {ty : TypeId} {p : String} {af : Array Edge}
/-- A part of a list, named. -/
theorem O.sliceLn (hd : Nat.blt D N = true) (hP : WfP P) {k : Nat} {xs ys : List T} {tag : Tag} {ts st e : TypeId} {lo hi : Option Operand} {l0 h : Int} (ha : lk L k = some (.lst xs tag, ts)) (hT : SameT P ts st) (hst : st < P.types.size) (hu : P.underlying st = some (.slice e)) (hz : szOf P e ≠ 0)
    (hl : OptAt ⟨N, L, H, U⟩ lo 0 l0) (hh : OptAt ⟨N, L, H, U⟩ hi xs.length h) (hb : 0 ≤ l0 ∧ l0 ≤ h ∧ h ≤ xs.length) (he : (xs.drop l0.toNat).take (h.toNat - l0.toNat) = ys) (hk : OPS P ops rest ⟨N, (D, (.lst ys .no, st)) :: L, H, U⟩ Q) :
    OPS P ops (⟨some D, .slice st (.tmp k) lo hi none, ty, p, af, none⟩ :: rest) ⟨N, L, H, U⟩ Q := by
  subst he; exact O.sliceL hd hP ha hT hst hu hz hl hh hb.1 hb.2.1 hb.2.2 hk
theorem O.sliceFn (hd : Nat.blt D N = true) (hP : WfP P) {k : Nat} {xs ys : List T} {tag : Tag} {ts st e : TypeId} {lo : Option Operand} {hi mx : Operand} {l0 h m : Int} {i1 i2 : IntKind} (ha : lk L k = some (.lst xs tag, ts)) (hT : SameT P ts st) (hst : st < P.types.size) (hu : P.underlying st = some (.slice e)) (hz : szOf P e ≠ 0)
    (hl : OptAt ⟨N, L, H, U⟩ lo 0 l0) (hh : IntAt ⟨N, L, H, U⟩ hi i1 h) (hm : IntAt ⟨N, L, H, U⟩ mx i2 m) (hmh : m = h) (hb : 0 ≤ l0 ∧ l0 ≤ h ∧ h ≤ xs.length) (he : (xs.drop l0.toNat).take (h.toNat - l0.toNat) = ys) (hk : OPS P ops rest ⟨N, (D, (.lst ys .full, st)) :: L, H, U⟩ Q) :
    OPS P ops (⟨some D, .slice st (.tmp k) lo (some hi) (some mx), ty, p, af, none⟩ :: rest) ⟨N, L, H, U⟩ Q := by
  subst he; exact O.sliceF hd hP ha hT hst hu hz hl hh hm hmh hb.1 hb.2.1 hb.2.2 hk
end
end Go.Am
namespace Go.Am
section
variable {P : Program} {ty : TypeId}
/-- Arrays held against each other. -/
inductive EqA (P : Program) (n : Nat) (e : TypeId) : List T → List T → Bool → Prop where
  | nil : EqA P n e [] [] true
  | cons {x y : T} {xs ys : List T} {b1 b2 : Bool} (hx : x.aggB = aggT P e) (hy : y.aggB = aggT P e) (h : EqT P n e x y b1) (k : EqA P n e xs ys b2) : EqA P n e (x :: xs) (y :: ys) (b1 && b2)
theorem EqA.len {n : Nat} {e : TypeId} : ∀ {xs ys : List T} {b : Bool}, EqA P n e xs ys b → xs.length = ys.length
  | _, _, _, .nil => rfl
  | _, _, _, .cons _ _ _ k => by simp [k.len]
theorem EqA.run (hP : WfP P) {κ : K} {n : Nat} {e : TypeId} {cx cy : List Value} (w : World) (he : e < P.types.size) (hu : (P.underlying e).isSome = true) : ∀ {xs ys : List T} {b : Bool}, EqA P n e xs ys b → ∀ (j : Nat),
    (∀ (i : Nat) x, xs[i]? = some x → VT P κ x e ((cx.drop ((j + i) * szOf P e)).take (szOf P e)) ∧ (j + i) * szOf P e + szOf P e ≤ cx.length) → (∀ (i : Nat) x, ys[i]? = some x → VT P κ x e ((cy.drop ((j + i) * szOf P e)).take (szOf P e)) ∧ (j + i) * szOf P e + szOf P e ≤ cy.length) →
    (Op.eqItems n e (szOf P e) cx.toArray cy.toArray (List.range' j xs.length)).run P w = .ok b w
  | _, _, _, .nil => fun _ _ _ => rfl
  | _, _, _, .cons (b1 := b1) (b2 := b2) hx hy h k => fun j h1 h2 => by
    have a1 := h1 0 _ rfl
    have a2 := h2 0 _ rfl
    rw [Nat.add_zero] at a1 a2
    obtain ⟨va, r1, r2⟩ := run_part hP w he a1.1 hx hu a1.2
    obtain ⟨vb, r3, r4⟩ := run_part hP w he a2.1 hy hu a2.2
    simp only [List.length_cons, List.range'_succ, Op.eqItems, Sem.run_bind, r1, r3, Result.andThen_ok, h κ va vb w r2 r4]
    cases b1 with
    | false => rfl
    | true =>
      simp only [Bool.not_true, Bool.false_eq_true, if_false, Bool.true_and]
      exact k.run hP w he hu (j + 1) (fun i x hi => by rw [show j + 1 + i = j + (i + 1) by omega]; exact h1 (i + 1) x (by simpa using hi)) (fun i x hi => by rw [show j + 1 + i = j + (i + 1) by omega]; exact h2 (i + 1) x (by simpa using hi))
theorem EqT.arr (hP : WfP P) {n k : Nat} {e : TypeId} {i : TypeInfo} {xs ys : List T} {b : Bool} (hty : ty < P.types.size) (hu : P.underlying ty = some (.array k e)) (hi : P.info? e = some i) (hue : (P.underlying e).isSome = true) (h : EqA P n e xs ys b) : EqT P (n + 1) ty (.arr xs) (.arr ys) b := fun κ vx vy w hx hy => by
  obtain ⟨cx, rfl, h1⟩ := VV_cells rfl hx
  obtain ⟨cy, rfl, h2⟩ := VV_cells rfl hy
  have he := (hP.arr ty k e hty hu).1
  rw [run_equalIn_array w n _ _ hu hi]
  simp only [VT] at h1 h2
  obtain ⟨n1, e1, a1, a2, a3, a4, a5⟩ := h1
  obtain ⟨n2, e2, b1, b2, b3, b4, b5⟩ := h2
  rw [hu] at a1 b1
  cases a1
  cases b1
  have hsz : P.cellsOf e = szOf P e := by simp [Program.cellsOf, szOf, hi]
  rw [hsz, List.range_eq_range', ← a2]
  exact h.run hP w he hue 0 (fun i x hx => by rw [Nat.zero_add]; exact VA_get a5 hx) (fun i x hx => by rw [Nat.zero_add]; exact VA_get b5 hx)
end
end Go.Am
namespace Go.Am
section
variable {P : Program} {N : Nat} {ops : Array Oper} {rest : List Oper} {Q : St → Prop}
/-- A row becomes a list, between two operations. -/
theorem OPS.freeze {n b : Nat} {t t' : List (Nat × T × TypeId)} {h : List AO} {u : Tips} {e : TypeId} {xs : List T} (hb : h[b]? = some ⟨.row e n, .arr xs⟩) (hz : szOf P e ≠ 0)
    (ht : ∀ k y, lk t' k = some y → ∃ x, lk t k = some x ∧ Froze b xs x y) (hk : OPS P ops rest ⟨N, t', h.set b ⟨.dead, .any⟩, u⟩ Q) : OPS P ops rest ⟨N, t, h, u⟩ Q := fun κ a w R hs hR => by
  obtain ⟨κ', h1, h2⟩ := Am.freeze hs hb hz ht
  exact hk κ' a w R h2 fun κ2 σ2 a2 w2 e2 s2 q2 => hR κ2 σ2 a2 w2 (h1.trans e2) s2 q2
end
section
variable {P : Program} {S E : List Nat} {N : Nat} {l : List Oper} {t0 tt : List (Nat × T × TypeId)} {Q : St → Prop} {rest : List Oper} {tab : List (List Nat × List Nat)} {bef ks : List Nat} {i : Nat} {db : Db} {H : List AO} {U : Tips}
variable {d : Option Nat} {ty : TypeId} {p : String} {af : Array Edge} {g : Option (Nat × Bool)} {V : List (Nat × T × TypeId)}
theorem D.sliceLn {k : Nat} {xs ys : List T} {tag : Tag} {ts st e : TypeId} {lo hi : Option Operand} {l0 h : Int} (hd : dstOk ⟨N, [], [], U⟩ d = true) (hV : pickOut ks (selD db bef ++ t0) = V) (hgd : GuardOk l V g) (hP : WfP P) (ha : lk V k = some (.lst xs tag, ts)) (hT : SameT P ts st) (hst : st < P.types.size) (hu : P.underlying st = some (.slice e)) (hz : szOf P e ≠ 0)
    (hl : ∀ m u, OptAt ⟨N, V, m, u⟩ lo 0 l0) (hh : ∀ m u, OptAt ⟨N, V, m, u⟩ hi xs.length h) (hb : 0 ≤ l0 ∧ l0 ≤ h ∧ h ≤ xs.length) (he : (xs.drop l0.toNat).take (h.toNat - l0.toNat) = ys)
    (hk : DP P S E N l t0 Q rest tab (i + 1) (addD i d (.lst ys .no, st) db) (addT d (.lst ys .no, st) tt) H U) : DP P S E N l t0 Q (⟨d, .slice st (.tmp k) lo hi none, ty, p, af, g⟩ :: rest) ((bef, ks) :: tab) i db tt H U := by
  subst he
  exact D.free hd hV hgd (fun m u => OPE.sliceL hP ha hT hst hu hz (hl m u) (hh m u) hb.1 hb.2.1 hb.2.2 ⟨rfl, rfl, rfl⟩) hk
theorem D.sliceFn {k : Nat} {xs ys : List T} {tag : Tag} {ts st e : TypeId} {lo : Option Operand} {hi mx : Operand} {l0 h m' : Int} {i1 i2 : IntKind} (hd : dstOk ⟨N, [], [], U⟩ d = true) (hV : pickOut ks (selD db bef ++ t0) = V) (hgd : GuardOk l V g) (hP : WfP P) (ha : lk V k = some (.lst xs tag, ts)) (hT : SameT P ts st) (hst : st < P.types.size) (hu : P.underlying st = some (.slice e)) (hz : szOf P e ≠ 0)
    (hl : ∀ m u, OptAt ⟨N, V, m, u⟩ lo 0 l0) (hh : ∀ m u, IntAt ⟨N, V, m, u⟩ hi i1 h) (hm : ∀ m u, IntAt ⟨N, V, m, u⟩ mx i2 m') (hmh : m' = h) (hb : 0 ≤ l0 ∧ l0 ≤ h ∧ h ≤ xs.length) (he : (xs.drop l0.toNat).take (h.toNat - l0.toNat) = ys)
    (hk : DP P S E N l t0 Q rest tab (i + 1) (addD i d (.lst ys .full, st) db) (addT d (.lst ys .full, st) tt) H U) : DP P S E N l t0 Q (⟨d, .slice st (.tmp k) lo (some hi) (some mx), ty, p, af, g⟩ :: rest) ((bef, ks) :: tab) i db tt H U := by
  subst he
  exact D.free hd hV hgd (fun m u => OPE.sliceF hP ha hT hst hu hz (hl m u) (hh m u) (hm m u) hmh hb.1 hb.2.1 hb.2.2 ⟨rfl, rfl, rfl⟩) hk
end
end Go.Am
