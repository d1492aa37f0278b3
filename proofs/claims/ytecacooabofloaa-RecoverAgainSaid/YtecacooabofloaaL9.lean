/- A layer over the walk's rules. This text: a scope with one jump ahead to a label; function values called in a region that draws. -/
import Derived.Test.YtecacooabofloaaL7
import Derived.Test.YtecacooabofloaaL5
import Derived.ScopeJumps
import Derived.ChangeKeysEq
/- A layer over the walk's rules. This text: a scope with one jump ahead to a label; function values called in a region that draws. -/
set_option linter.unusedVariables false
namespace Go.Am
variable {P : Program} {σ : St} {Q : Exit → St → Prop}

/-- A goto to label l is caught, where R holds. -/
def JG (l : Nat) (R : St → Prop) (Q : Exit → St → Prop) : Exit → St → Prop
  | .goto l', σ => l' = l ∧ R σ
  | e, σ => Q e σ
theorem JG.n {l : Nat} {R : St → Prop} (h : Q .normal σ) : JG l R Q .normal σ := h
theorem JG.r {l : Nat} {R : St → Prop} (h : Q .ret σ) : JG l R Q .ret σ := h
theorem JG.e {l : Nat} {R : St → Prop} {i : Nat} (h : Q (.exit i) σ) : JG l R Q (.exit i) σ := h
theorem JG.g {l : Nat} {R : St → Prop} (h : R σ) : JG l R Q (.goto l) σ := ⟨rfl, h⟩
theorem AW.scopeJ {c rest : Code} (l : Nat) (R : St → Prop) (hf : findLabel c l = some rest) (first : AW P c σ (JG l R Q)) (pass : ∀ σ', R σ' → AW P rest σ' (NG Q)) : AW P (.scope c) σ Q := fun κ a w hs => by
  refine wp_scope_jumps l (fun a' w' => ∃ κ' σ', Ext κ σ.u w κ' σ'.u w' ∧ SR P κ' σ' a' w' ∧ R σ') (fun _ _ => 0) hf (wp_mono (first κ a w hs) fun e a1 w1 ⟨κ1, σ1, h1, h2, h3⟩ => ?_) ?_
  · cases e with
    | goto l' => exact ⟨h3.1, κ1, σ1, h1, h2, h3.2⟩
    | _ => exact ⟨κ1, σ1, h1, h2, h3⟩
  · rintro a1 w1 ⟨κ1, σ1, h1, h2, h3⟩
    refine wp_mono (pass σ1 h3 κ1 a1 w1 h2) fun e a2 w2 ⟨κ2, σ2, r1, r2, r3⟩ => ?_
    cases e with
    | goto l' => exact r3.elim
    | _ => exact ⟨κ2, σ2, h1.trans r1, r2, r3⟩

section
variable {R : List AO → Prop} {S E : List Nat} {N : Nat} {l : List Oper} {t0 t : List (Nat × T × TypeId)} {Q : St → Prop} {rest : List Oper} {tab : List (List Nat × List Nat)} {bef ks : List Nat} {i : Nat} {db : Db} {H : List AO} {U : Tips}
variable {d : Option Nat} {op : Op} {ty : TypeId} {p : String} {af : Array Edge} {g : Option (Nat × Bool)}
theorem D.fnV {V : List (Nat × T × TypeId)} {f : FuncId} {k : Nat} {first cap : List T} {tf : TypeId} {os : List Operand} {ats : Array TypeId} {xs : List X} {r : X} (hd : dstOk ⟨N, [], [], U⟩ d = true)
    (hV : pickOut ks (selD db bef ++ t0) = V) (hk0 : lk V k = some (.fn (.func f) first cap, tf)) (hf : Ans P f (X0 first ++ xs ++ X0 cap) r) (he : enters P f = true) (hg : GuardOk l V g) (ha : ∀ h u, Args P ⟨N, V, h, u⟩ os xs)
    (hk : DP P R S E N l t0 Q rest tab (i + 1) (addD i d r db) (addT d r t) H U) :
    DP P R S E N l t0 Q (⟨d, .call { callee := .value (.tmp k), args := os.toArray, argTypes := ats }, ty, p, af, g⟩ :: rest) ((bef, ks) :: tab) i db t H U :=
  D.free hd hV hg (fun h u => OPE.callV (σ := ⟨N, V, h, u⟩) hk0 he (ha h u) (hf.calls h u ⟨rfl, rfl, rfl⟩)) hk
end
end Go.Am
namespace Go.Am
theorem X0_nil (xs : List X) : X0 [] ++ xs ++ X0 [] = xs := by simp [X0]
section
variable {P : Program} {N : Nat} {L : List (Nat × T × TypeId)} {H : List AO} {U : Tips} {ops : Array Oper} {rest : List Oper} {Q : St → Prop} {D : Nat} {ty : TypeId} {p : String} {af : Array Edge}
theorem O.fnV0 {k : Nat} {f : FuncId} {tf : TypeId} {os : List Operand} {ats : Array TypeId} {xs : List X} {r : X} (hd : Nat.blt D N = true) (h0 : lk L k = some (.fn (.func f) [] [], tf)) (hf : Ans P f xs r) (he : enters P f = true) (ha : Args P ⟨N, L, H, U⟩ os xs) (hk : OPS P ops rest ⟨N, (D, r) :: L, H, U⟩ Q) :
    OPS P ops (⟨some D, .call { callee := .value (.tmp k), args := os.toArray, argTypes := ats }, ty, p, af, none⟩ :: rest) ⟨N, L, H, U⟩ Q :=
  O.fnV hd h0 (by rw [X0_nil]; exact hf) he ha hk
end
section
variable {P : Program} {R : List AO → Prop} {S E : List Nat} {N : Nat} {l : List Oper} {t0 t : List (Nat × T × TypeId)} {Q : St → Prop} {rest : List Oper} {tab : List (List Nat × List Nat)} {bef ks : List Nat} {i : Nat} {db : Db} {H : List AO} {U : Tips}
variable {d : Option Nat} {op : Op} {ty : TypeId} {p : String} {af : Array Edge} {g : Option (Nat × Bool)}
theorem D.fnV0 {V : List (Nat × T × TypeId)} {f : FuncId} {k : Nat} {tf : TypeId} {os : List Operand} {ats : Array TypeId} {xs : List X} {r : X} (hd : dstOk ⟨N, [], [], U⟩ d = true)
    (hV : pickOut ks (selD db bef ++ t0) = V) (hk0 : lk V k = some (.fn (.func f) [] [], tf)) (hf : Ans P f xs r) (he : enters P f = true) (hg : GuardOk l V g) (ha : ∀ h u, Args P ⟨N, V, h, u⟩ os xs)
    (hk : DP P R S E N l t0 Q rest tab (i + 1) (addD i d r db) (addT d r t) H U) :
    DP P R S E N l t0 Q (⟨d, .call { callee := .value (.tmp k), args := os.toArray, argTypes := ats }, ty, p, af, g⟩ :: rest) ((bef, ks) :: tab) i db t H U :=
  D.fnV hd hV hk0 (by rw [X0_nil]; exact hf) he hg ha hk
end
end Go.Am
namespace Go.Am
section
variable {P : Program} {N : Nat} {L : List (Nat × T × TypeId)} {H : List AO} {U : Tips} {ops : Array Oper} {rest : List Oper} {Q : St → Prop} {D : Nat} {ty : TypeId} {p : String} {af : Array Edge}
/-- A part of a list, named. -/
theorem O.sliceLn (hd : Nat.blt D N = true) (hP : WfP P) {k : Nat} {xs ys : List T} {tag : Tag} {ts st e : TypeId} {lo hi : Option Operand} {l0 h : Int} (ha : lk L k = some (.lst xs tag, ts)) (hT : SameT P ts st) (hst : st < P.types.size) (hu : P.underlying st = some (.slice e)) (hz : szOf P e ≠ 0)
    (hl : OptAt ⟨N, L, H, U⟩ lo 0 l0) (hh : OptAt ⟨N, L, H, U⟩ hi xs.length h) (hb : 0 ≤ l0 ∧ l0 ≤ h ∧ h ≤ xs.length) (he : (xs.drop l0.toNat).take (h.toNat - l0.toNat) = ys) (hk : OPS P ops rest ⟨N, (D, (.lst ys .no, st)) :: L, H, U⟩ Q) :
    OPS P ops (⟨some D, .slice st (.tmp k) lo hi none, ty, p, af, none⟩ :: rest) ⟨N, L, H, U⟩ Q := by
  subst he; exact O.sliceL hd hP ha hT hst hu hz hl hh hb.1 hb.2.1 hb.2.2 hk
theorem O.sliceFn (hd : Nat.blt D N = true) (hP : WfP P) {k : Nat} {xs ys : List T} {tag : Tag} {ts st e : TypeId} {lo : Option Operand} {hi mx : Operand} {l0 h m : Int} {i1 i2 : IntKind} (ha : lk L k = some (.lst xs tag, ts)) (hT : SameT P ts st) (hst : st < P.types.size) (hu : P.underlying st = some (.slice e)) (hz : szOf P e ≠ 0)
    (hl : OptAt ⟨N, L, H, U⟩ lo 0 l0) (hh : IntAt ⟨N, L, H, U⟩ hi i1 h) (hm : IntAt ⟨N, L, H, U⟩ mx i2 m) (hmh : m = h) (hb : 0 ≤ l0 ∧ l0 ≤ h ∧ h ≤ xs.length) (he : (xs.drop l0.toNat).take (h.toNat - l0.toNat) = ys) (hk : OPS P ops rest ⟨N, (D, (.lst ys .full, st)) :: L, H, U⟩ Q) :
    OPS P ops (⟨some D, .slice st (.tmp k) lo (some hi) (some mx), ty, p, af, none⟩ :: rest) ⟨N, L, H, U⟩ Q := by
  subst he; exact O.sliceF hd hP ha hT hst hu hz hl hh hm hmh hb.1 hb.2.1 hb.2.2 hk
end
end Go.Am
namespace Go.Am
section
variable {P : Program} {ty : TypeId}
/-- Arrays held against each other. -/
inductive EqA (P : Program) (n : Nat) (e : TypeId) : List T → List T → Bool → Prop where
  | nil : EqA P n e [] [] true
  | cons {x y : T} {xs ys : List T} {b1 b2 : Bool} (hx : x.aggB = aggT P e) (hy : y.aggB = aggT P e) (h : EqT P n e x y b1) (k : EqA P n e xs ys b2) : EqA P n e (x :: xs) (y :: ys) (b1 && b2)
theorem EqA.len {n : Nat} {e : TypeId} : ∀ {xs ys : List T} {b : Bool}, EqA P n e xs ys b → xs.length = ys.length
  | _, _, _, .nil => rfl
  | _, _, _, .cons _ _ _ k => by simp [k.len]
theorem EqA.run (hP : WfP P) {κ : K} {n : Nat} {e : TypeId} {cx cy : List Value} (w : World) (he : e < P.types.size) (hu : (P.underlying e).isSome = true) : ∀ {xs ys : List T} {b : Bool}, EqA P n e xs ys b → ∀ (j : Nat),
    (∀ (i : Nat) x, xs[i]? = some x → VT P κ x e ((cx.drop ((j + i) * szOf P e)).take (szOf P e)) ∧ (j + i) * szOf P e + szOf P e ≤ cx.length) → (∀ (i : Nat) x, ys[i]? = some x → VT P κ x e ((cy.drop ((j + i) * szOf P e)).take (szOf P e)) ∧ (j + i) * szOf P e + szOf P e ≤ cy.length) →
    (Op.eqItems n e (szOf P e) cx.toArray cy.toArray (List.range' j xs.length)).run P w = .ok b w
  | _, _, _, .nil => fun _ _ _ => rfl
  | _, _, _, .cons (b1 := b1) (b2 := b2) hx hy h k => fun j h1 h2 => by
    have a1 := h1 0 _ rfl
    have a2 := h2 0 _ rfl
    rw [Nat.add_zero] at a1 a2
    obtain ⟨va, r1, r2⟩ := run_part hP w he a1.1 hx hu a1.2
    obtain ⟨vb, r3, r4⟩ := run_part hP w he a2.1 hy hu a2.2
    simp only [List.length_cons, List.range'_succ, Op.eqItems, Sem.run_bind, r1, r3, Result.andThen_ok, h κ va vb w r2 r4]
    cases b1 with
    | false => rfl
    | true =>
      simp only [Bool.not_true, Bool.false_eq_true, if_false, Bool.true_and]
      exact k.run hP w he hu (j + 1) (fun i x hi => by rw [show j + 1 + i = j + (i + 1) by omega]; exact h1 (i + 1) x (by simpa using hi)) (fun i x hi => by rw [show j + 1 + i = j + (i + 1) by omega]; exact h2 (i + 1) x (by simpa using hi))
theorem EqT.arr (hP : WfP P) {n k : Nat} {e : TypeId} {i : TypeInfo} {xs ys : List T} {b : Bool} (hty : ty < P.types.size) (hu : P.underlying ty = some (.array k e)) (hi : P.info? e = some i) (hue : (P.underlying e).isSome = true) (h : EqA P n e xs ys b) : EqT P (n + 1) ty (.arr xs) (.arr ys) b := fun κ vx vy w hx hy => by
  obtain ⟨cx, rfl, h1⟩ := VV_cells rfl hx
  obtain ⟨cy, rfl, h2⟩ := VV_cells rfl hy
  have he := (hP.arr ty k e hty hu).1
  rw [run_equalIn_array w n _ _ hu hi]
  simp only [VT] at h1 h2
  obtain ⟨n1, e1, a1, a2, a3, a4, a5⟩ := h1
  obtain ⟨n2, e2, b1, b2, b3, b4, b5⟩ := h2
  rw [hu] at a1 b1
  cases a1
  cases b1
  have hsz : P.cellsOf e = szOf P e := by simp [Program.cellsOf, szOf, hi]
  rw [hsz, List.range_eq_range', ← a2]
  exact h.run hP w he hue 0 (fun i x hx => by rw [Nat.zero_add]; exact VA_get a5 hx) (fun i x hx => by rw [Nat.zero_add]; exact VA_get b5 hx)
end
end Go.Am
namespace Go.Am
section
variable {P : Program} {N : Nat} {ops : Array Oper} {rest : List Oper} {Q : St → Prop}
/-- A row becomes a list, between two operations. -/
theorem OPS.freeze {n b : Nat} {t t' : List (Nat × T × TypeId)} {h : List AO} {u : Tips} {e : TypeId} {xs : List T} (hb : h[b]? = some ⟨.row e n, .arr xs⟩) (hz : szOf P e ≠ 0)
    (ht : ∀ k y, lk t' k = some y → ∃ x, lk t k = some x ∧ Froze b xs x y) (hk : OPS P ops rest ⟨N, t', h.set b ⟨.dead, .any⟩, u⟩ Q) : OPS P ops rest ⟨N, t, h, u⟩ Q := fun κ a w R hs hR => by
  obtain ⟨κ', h1, h2⟩ := Am.freeze hs hb hz ht
  exact hk κ' a w R h2 fun κ2 σ2 a2 w2 e2 s2 q2 => hR κ2 σ2 a2 w2 (h1.trans e2) s2 q2
end
section
variable {P : Program} {R : List AO → Prop} {S E : List Nat} {N : Nat} {l : List Oper} {t0 tt : List (Nat × T × TypeId)} {Q : St → Prop} {rest : List Oper} {tab : List (List Nat × List Nat)} {bef ks : List Nat} {i : Nat} {db : Db} {H : List AO} {U : Tips}
variable {d : Option Nat} {ty : TypeId} {p : String} {af : Array Edge} {g : Option (Nat × Bool)} {V : List (Nat × T × TypeId)}
theorem D.sliceLn {k : Nat} {xs ys : List T} {tag : Tag} {ts st e : TypeId} {lo hi : Option Operand} {l0 h : Int} (hd : dstOk ⟨N, [], [], U⟩ d = true) (hV : pickOut ks (selD db bef ++ t0) = V) (hgd : GuardOk l V g) (hP : WfP P) (ha : lk V k = some (.lst xs tag, ts)) (hT : SameT P ts st) (hst : st < P.types.size) (hu : P.underlying st = some (.slice e)) (hz : szOf P e ≠ 0)
    (hl : ∀ m u, OptAt ⟨N, V, m, u⟩ lo 0 l0) (hh : ∀ m u, OptAt ⟨N, V, m, u⟩ hi xs.length h) (hb : 0 ≤ l0 ∧ l0 ≤ h ∧ h ≤ xs.length) (he : (xs.drop l0.toNat).take (h.toNat - l0.toNat) = ys)
    (hk : DP P R S E N l t0 Q rest tab (i + 1) (addD i d (.lst ys .no, st) db) (addT d (.lst ys .no, st) tt) H U) : DP P R S E N l t0 Q (⟨d, .slice st (.tmp k) lo hi none, ty, p, af, g⟩ :: rest) ((bef, ks) :: tab) i db tt H U := by
  subst he
  exact D.free hd hV hgd (fun m u => OPE.sliceL hP ha hT hst hu hz (hl m u) (hh m u) hb.1 hb.2.1 hb.2.2 ⟨rfl, rfl, rfl⟩) hk
theorem D.sliceFn {k : Nat} {xs ys : List T} {tag : Tag} {ts st e : TypeId} {lo : Option Operand} {hi mx : Operand} {l0 h m' : Int} {i1 i2 : IntKind} (hd : dstOk ⟨N, [], [], U⟩ d = true) (hV : pickOut ks (selD db bef ++ t0) = V) (hgd : GuardOk l V g) (hP : WfP P) (ha : lk V k = some (.lst xs tag, ts)) (hT : SameT P ts st) (hst : st < P.types.size) (hu : P.underlying st = some (.slice e)) (hz : szOf P e ≠ 0)
    (hl : ∀ m u, OptAt ⟨N, V, m, u⟩ lo 0 l0) (hh : ∀ m u, IntAt ⟨N, V, m, u⟩ hi i1 h) (hm : ∀ m u, IntAt ⟨N, V, m, u⟩ mx i2 m') (hmh : m' = h) (hb : 0 ≤ l0 ∧ l0 ≤ h ∧ h ≤ xs.length) (he : (xs.drop l0.toNat).take (h.toNat - l0.toNat) = ys)
    (hk : DP P R S E N l t0 Q rest tab (i + 1) (addD i d (.lst ys .full, st) db) (addT d (.lst ys .full, st) tt) H U) : DP P R S E N l t0 Q (⟨d, .slice st (.tmp k) lo (some hi) (some mx), ty, p, af, g⟩ :: rest) ((bef, ks) :: tab) i db tt H U := by
  subst he
  exact D.free hd hV hgd (fun m u => OPE.sliceF hP ha hT hst hu hz (hl m u) (hh m u) (hm m u) hmh hb.1 hb.2.1 hb.2.2 ⟨rfl, rfl, rfl⟩) hk
end
end Go.Am

/- A layer over the walk's rules. This text: loops unrolled; calls that change memory, in walks. -/
set_option linter.unusedVariables false
set_option linter.unusedSimpArgs false
namespace Go.Am
variable {P : Program}

/-- So many rounds. -/
def AWR (P : Program) (body : Code) (Q : Exit → St → Prop) : Nat → Nat → List (Nat × T × TypeId) → List AO → Tips → Prop
  | 0, _, _, _, _ => False
  | n + 1, N, t, h, u => AW P body ⟨N, t, h, u⟩ (Then (fun σ' => σ'.n = N ∧ ∃ t', WeakL t' σ'.t ∧ AWR P body Q n N t' σ'.h σ'.u) Q)
theorem AW.rounds {body : Code} {Q : Exit → St → Prop} {N : Nat} {t : List (Nat × T × TypeId)} {h : List AO} {u : Tips} (n : Nat) (hr : AWR P body Q n N t h u) : AW P (.loop body) ⟨N, t, h, u⟩ Q :=
  AW.loopT (fun m t h u => AWR P body Q m N t h u) n t (fun _ _ h => h) hr fun m t h u hI => by
    cases m with
    | zero => exact hI.elim
    | succ m =>
      refine AW.mono hI fun e σ hq => ?_
      cases e with
      | normal => obtain ⟨a1, t', a2, a3⟩ := hq; exact ⟨a1, m, t', Nat.lt_succ_self _, a2, a3⟩
      | exit i => exact hq
      | goto i => exact hq
      | ret => exact hq
      | panic c => exact hq
      | outgrown => exact hq
theorem AW.roundsW {body : Code} {Q : Exit → St → Prop} {N : Nat} {t : List (Nat × T × TypeId)} {h : List AO} {u : Tips} (n : Nat) (t1 : List (Nat × T × TypeId)) (hw : WeakL t1 t) (hr : AWR P body Q n N t1 h u) : AW P (.loop body) ⟨N, t, h, u⟩ Q :=
  AW.weak (σ' := ⟨N, t1, h, u⟩) ⟨rfl, hw, rfl, rfl⟩ (AW.rounds n hr)
theorem AWR.next {body : Code} {Q : Exit → St → Prop} {N n : Nat} {t : List (Nat × T × TypeId)} {h : List AO} {u : Tips} (hk : AW P body ⟨N, t, h, u⟩ (Then (fun σ' => σ'.n = N ∧ ∃ t', WeakL t' σ'.t ∧ AWR P body Q n N t' σ'.h σ'.u) Q)) : AWR P body Q (n + 1) N t h u := hk
theorem AWR.go {body : Code} {Q : Exit → St → Prop} {N n : Nat} {t : List (Nat × T × TypeId)} {h : List AO} {u : Tips} (hk : AWR P body Q n N t h u) : (⟨N, t, h, u⟩ : St).n = N ∧ ∃ t', WeakL t' (⟨N, t, h, u⟩ : St).t ∧ AWR P body Q n N t' (⟨N, t, h, u⟩ : St).h (⟨N, t, h, u⟩ : St).u := ⟨rfl, t, fun _ _ h => h, hk⟩
/-- So many rounds, each forgetting what it made. -/
def AWF (P : Program) (body : Code) (Q : Exit → St → Prop) (N : Nat) : Nat → List (Nat × T × TypeId) → List AO → Tips → Prop
  | 0, _, _, _ => False
  | n + 1, t, h, u => AW P body ⟨N, t, h, u⟩ (Then (fun σ' => σ'.n = N ∧ ∃ t' h' g, WeakL t' σ'.t ∧ σ'.h = h' ++ g ∧ h.length = h'.length ∧ tb h'.length t' = true ∧ hbB h'.length h' = true ∧ AWF P body Q N n t' h' σ'.u) Q)
theorem AW.roundsF {body : Code} {Q : Exit → St → Prop} {N : Nat} {t t1 : List (Nat × T × TypeId)} {h : List AO} {u : Tips} (n : Nat) (hw : WeakL t1 t) (hr : AWF P body Q N n t1 h u) : AW P (.loop body) ⟨N, t, h, u⟩ Q :=
  AW.loopF (fun m t h u => AWF P body Q N m t h u) n t1 hw hr fun m t h u hI => by
    cases m with
    | zero => exact hI.elim
    | succ m =>
      refine AW.mono hI fun e σ hq => ?_
      cases e with
      | normal => obtain ⟨a1, t', h', g, a2, a3, a4, a5, a6, a7⟩ := hq; exact ⟨a1, m, t', h', g, Nat.lt_succ_self _, a2, a3, a4, a5, a6, a7⟩
      | exit i => exact hq
      | goto i => exact hq
      | ret => exact hq
      | panic c => exact hq
      | outgrown => exact hq

/-- An object is written no more: a pointer to it is a pointer to what does not change. -/
def FzP (b : Nat) (ty : TypeId) (x : T) (t' t : List (Nat × T × TypeId)) : Prop := ∀ k y, lk t' k = some y → ∃ z, lk t k = some z ∧ (z = y ∨ (z.1 = .ptr b [] ∧ y = (.ep ty x, z.2)))
theorem FzP.nil {b : Nat} {ty : TypeId} {x : T} {t : List (Nat × T × TypeId)} : FzP b ty x [] t := fun _ _ h => by cases h
theorem FzP.keep {b k : Nat} {ty : TypeId} {x : T} {y : X} {t' t : List (Nat × T × TypeId)} (h : lk t k = some y) (r : FzP b ty x t' t) : FzP b ty x ((k, y) :: t') t := fun j z hj => by
  unfold lk at hj
  split at hj
  · rename_i hb
    cases hj
    have := Nat.eq_of_beq_eq_true hb
    subst this
    exact ⟨_, h, .inl rfl⟩
  · exact r j z hj
theorem FzP.ep {b k : Nat} {ty pt : TypeId} {x : T} {t' t : List (Nat × T × TypeId)} (h : lk t k = some (.ptr b [], pt)) (r : FzP b ty x t' t) : FzP b ty x ((k, (.ep ty x, pt)) :: t') t := fun j z hj => by
  unfold lk at hj
  split at hj
  · rename_i hb
    cases hj
    have := Nat.eq_of_beq_eq_true hb
    subst this
    exact ⟨_, h, .inr ⟨rfl, rfl⟩⟩
  · exact r j z hj
theorem AW.freezeP {c : Code} {N b : Nat} {t t' : List (Nat × T × TypeId)} {h : List AO} {u : Tips} {ty : TypeId} {x : T} {Q : Exit → St → Prop} (hb : h[b]? = some ⟨.one ty, x⟩) (ht : FzP b ty x t' t) (hk : AW P c ⟨N, t', h.set b ⟨.dead, .any⟩, u⟩ Q) : AW P c ⟨N, t, h, u⟩ Q := fun κ a w hs => by
  obtain ⟨h1, h2, vs, ce, h3, h4, h5⟩ := hs.wr.obj b _ hb
  have hty := h2.resolve_left (by simp)
  obtain ⟨e1, e2⟩ := hs.wr.dead hb (by simp) h3
  refine wp_mono (hk _ a w ⟨hs.defers, hs.size, fun k y tb hy => ?_, e2⟩) fun e' a' w' k => lift_trans e1 k
  obtain ⟨z, z1, z2⟩ := ht k _ hy
  obtain ⟨v, v1, v2⟩ := hs.tmp k z.1 z.2 z1
  rcases z2 with rfl | ⟨z2, z3⟩
  · exact ⟨v, v1, v2.mono e1.le⟩
  · cases z3
    rw [z2] at v2
    obtain ⟨o', t', hbn, hw', hev⟩ := VV_ptr v2
    rw [hty] at hw'
    simp only [walkO, walkPath, Option.some.injEq, Prod.mk.injEq] at hw'
    obtain ⟨rfl, _⟩ := hw'
    refine ⟨v, v1, hev ▸ VV_ep_mk (VT_mono e1.le _ _ _ h4) fun j v hj => ?_⟩
    rw [Nat.zero_add]
    show (if κ.ι b = κ.ι b then _ else _) = _
    rw [if_pos rfl]; exact hj
/-- Arguments, of the types that the call names. -/
inductive ArgsA (P : Program) (σ : St) : List Operand → List TypeId → List X → Prop where
  | nil : ArgsA P σ [] [] []
  | cons {o : Operand} {os : List Operand} {x : T} {ty : TypeId} {tys : List TypeId} {xs : List X} (h : ArgAt P σ o ty x) (k : ArgsA P σ os tys xs) : ArgsA P σ (o :: os) (ty :: tys) ((x, ty) :: xs)
theorem ArgsA.args {σ : St} : ∀ {os : List Operand} {tys : List TypeId} {xs : List X}, ArgsA P σ os tys xs → Args P σ os xs
  | _, _, _, .nil => .nil
  | _, _, _, .cons h k => .cons h k.args
/-- A function of one object, of no tips. -/
structure AnsR (P : Program) (f : FuncId) (pt : TypeId) (xs : List X) (o : AO) (r : X) (o' : AO) : Prop where
  hc : AnsM P f ((.ptr 0 [], pt) :: xs) [o] ⟨[], 0⟩ r [o'] ⟨[], 0⟩
  ho : np o.t = true
  ho' : np o'.t = true
  hx : npL (xs.map (·.1)) = true
  hr : np r.1 = true
/-- A function that appends behind a tip; one that makes the first row. -/
structure AnsW (P : Program) (f : FuncId) (pt tw : TypeId) (xs : List X) (bs : List T) (r : X) (bs' : List T) : Prop where
  hc : AnsM P f ((.ptr 0 [], pt) :: xs) [WO tw bs (.tip 0)] ⟨[0], 1⟩ r [WO tw bs' (.tip 1)] ⟨[1], 2⟩
  ho : npL bs = true
  ho' : npL bs' = true
  hx : npL (xs.map (·.1)) = true
  hr : np r.1 = true
structure AnsN (P : Program) (f : FuncId) (pt tw : TypeId) (xs : List X) (r : X) (bs' : List T) : Prop where
  hc : AnsM P f ((.ptr 0 [], pt) :: xs) [WO tw [] .nil] ⟨[], 0⟩ r [WO tw bs' (.tip 0)] ⟨[0], 1⟩
  ho' : npL bs' = true
  hx : npL (xs.map (·.1)) = true
  hr : np r.1 = true
section
variable {N : Nat} {L : List (Nat × T × TypeId)} {H : List AO} {U : Tips} {ops : Array Oper} {rest : List Oper} {Q : St → Prop} {D : Nat} {ty : TypeId} {p : String} {af : Array Edge}
theorem O.fnT {f : FuncId} {os : List Operand} {ats : Array TypeId} {xs : List X} {r : X} (hd : Nat.blt D N = true) (ha : ArgsA P ⟨N, L, H, U⟩ os ats.toList xs) (hf : Ans P f xs r) (he : enters P f = true) (hk : OPS P ops rest ⟨N, (D, r) :: L, H, U⟩ Q) :
    OPS P ops (⟨some D, .call { callee := .value (.func f), args := os.toArray, argTypes := ats }, ty, p, af, none⟩ :: rest) ⟨N, L, H, U⟩ Q := O.fn hd hf he ha.args hk
theorem O.fnM {f : FuncId} {os : List Operand} {ats : Array TypeId} {xs : List X} {r : X} {H' : List AO} {U' : Tips} (hd : Nat.blt D N = true) (ha : Args P ⟨N, L, H, U⟩ os xs) (hc : AnsM P f xs H U r H' U') (he : enters P f = true) (hk : OPS P ops rest ⟨N, (D, r) :: L, H', U'⟩ Q) :
    OPS P ops (⟨some D, .call { callee := .value (.func f), args := os.toArray, argTypes := ats }, ty, p, af, none⟩ :: rest) ⟨N, L, H, U⟩ Q :=
  O.call hd he ha (hc.mono fun x h u ⟨h1, h2, h3⟩ => by subst h1; subst h2; subst h3; exact hk)
theorem O.fnR {f : FuncId} {b : Nat} {pt : TypeId} {os : List Operand} {ats : Array TypeId} {xs : List X} {r : X} {o o' : AO} (hd : Nat.blt D N = true) (ha : Args P ⟨N, L, H, U⟩ os ((.ptr b [], pt) :: xs)) (hb : H[b]? = some o) (hc : AnsR P f pt xs o r o') (he : enters P f = true) (hk : OPS P ops rest ⟨N, (D, r) :: L, H.set b o', U⟩ Q) :
    OPS P ops (⟨some D, .call { callee := .value (.func f), args := os.toArray, argTypes := ats }, ty, p, af, none⟩ :: rest) ⟨N, L, H, U⟩ Q :=
  O.fnM hd ha (hc.hc.at hc.ho hc.ho' hc.hx hc.hr hb) he hk
theorem O.fnW {f : FuncId} {b t m : Nat} {pt tw : TypeId} {os : List Operand} {ats : Array TypeId} {xs : List X} {r : X} {bs bs' : List T} (hd : Nat.blt D N = true) (ha : Args P ⟨N, L, H, ⟨[t], m⟩⟩ os ((.ptr b [], pt) :: xs)) (hb : H[b]? = some (WO tw bs (.tip t))) (hc : AnsW P f pt tw xs bs r bs') (ht : t < m) (he : enters P f = true) (hk : OPS P ops rest ⟨N, (D, r) :: L, H.set b (WO tw bs' (.tip m)), ⟨[m], m + 1⟩⟩ Q) :
    OPS P ops (⟨some D, .call { callee := .value (.func f), args := os.toArray, argTypes := ats }, ty, p, af, none⟩ :: rest) ⟨N, L, H, ⟨[t], m⟩⟩ Q :=
  O.fnM hd ha (hc.hc.atW hc.ho hc.ho' hc.hx hc.hr hb ht) he hk
theorem O.fnN {f : FuncId} {b m : Nat} {pt tw : TypeId} {os : List Operand} {ats : Array TypeId} {xs : List X} {r : X} {bs' : List T} (hd : Nat.blt D N = true) (ha : Args P ⟨N, L, H, ⟨[], m⟩⟩ os ((.ptr b [], pt) :: xs)) (hb : H[b]? = some (WO tw [] .nil)) (hc : AnsN P f pt tw xs r bs') (he : enters P f = true) (hk : OPS P ops rest ⟨N, (D, r) :: L, H.set b (WO tw bs' (.tip m)), ⟨[m], m + 1⟩⟩ Q) :
    OPS P ops (⟨some D, .call { callee := .value (.func f), args := os.toArray, argTypes := ats }, ty, p, af, none⟩ :: rest) ⟨N, L, H, ⟨[], m⟩⟩ Q :=
  O.fnM hd ha (hc.hc.atN hc.ho' hc.hx hc.hr hb) he hk
theorem O.fnVM {k : Nat} {f : FuncId} {first cap : List T} {tf : TypeId} {os : List Operand} {ats : Array TypeId} {xs : List X} {r : X} {H' : List AO} {U' : Tips} (hd : Nat.blt D N = true) (h0 : lk L k = some (.fn (.func f) first cap, tf)) (ha : Args P ⟨N, L, H, U⟩ os xs) (hc : AnsM P f (X0 first ++ xs ++ X0 cap) H U r H' U') (he : enters P f = true) (hk : OPS P ops rest ⟨N, (D, r) :: L, H', U'⟩ Q) :
    OPS P ops (⟨some D, .call { callee := .value (.tmp k), args := os.toArray, argTypes := ats }, ty, p, af, none⟩ :: rest) ⟨N, L, H, U⟩ Q :=
  O.callV hd h0 he ha (hc.mono fun x h u ⟨h1, h2, h3⟩ => by subst h1; subst h2; subst h3; exact hk)
/-- A closure that holds one pointer. -/
theorem O.fnVR {k : Nat} {f : FuncId} {b : Nat} {tf : TypeId} {ats : Array TypeId} {r : X} {o o' : AO} (hd : Nat.blt D N = true) (h0 : lk L k = some (.fn (.func f) [.ptr b []] [], tf)) (hb : H[b]? = some o) (hc : AnsR P f 0 [] o r o') (he : enters P f = true) (hk : OPS P ops rest ⟨N, (D, r) :: L, H.set b o', U⟩ Q) :
    OPS P ops (⟨some D, .call { callee := .value (.tmp k), args := #[], argTypes := ats }, ty, p, af, none⟩ :: rest) ⟨N, L, H, U⟩ Q :=
  O.fnVM (os := []) hd h0 .nil (hc.hc.at hc.ho hc.ho' hc.hx hc.hr hb) he hk
end
section
variable {R : List AO → Prop} {S E : List Nat} {N : Nat} {l : List Oper} {t0 t : List (Nat × T × TypeId)} {Q : St → Prop} {rest : List Oper} {tab : List (List Nat × List Nat)} {bef ks : List Nat} {i : Nat} {db : Db} {H : List AO} {U : Tips}
variable {d : Option Nat} {ty : TypeId} {p : String} {af : Array Edge} {g : Option (Nat × Bool)}
theorem D.fnT {V : List (Nat × T × TypeId)} {f : FuncId} {os : List Operand} {ats : Array TypeId} {xs : List X} {r : X} (hd : dstOk ⟨N, [], [], U⟩ d = true)
    (hV : pickOut ks (selD db bef ++ t0) = V) (hg : GuardOk l V g) (ha : ∀ h u, ArgsA P ⟨N, V, h, u⟩ os ats.toList xs) (hf : Ans P f xs r) (he : enters P f = true) (hk : DP P R S E N l t0 Q rest tab (i + 1) (addD i d r db) (addT d r t) H U) :
    DP P R S E N l t0 Q (⟨d, .call { callee := .value (.func f), args := os.toArray, argTypes := ats }, ty, p, af, g⟩ :: rest) ((bef, ks) :: tab) i db t H U := D.fn hd hf he hV hg (fun h u => (ha h u).args) hk
theorem D.fieldAddrR {V : List (Nat × T × TypeId)} {s : TypeId} {fs : Array Field} {f : Field} {ii k b o : Nat} {path : List Nat} {bt : OTy} {pt : TypeId} (hd : dstOk ⟨N, [], [], U⟩ d = true) (hV : pickOut ks (selD db bef ++ t0) = V) (hg : GuardOk l V g) (hP : WfP P)
    (ha : lk V k = some (.ptr b path, pt)) (hr : ∀ h, R h → (h[b]?).map (·.ty) = some bt) (hw : walkO P bt path = some (o, s)) (hs0 : s < P.types.size) (hu : P.underlying s = some (.struct fs)) (hf : fs[ii]? = some f) (hz : szOf P f.type ≠ 0)
    (hk : DP P R S E N l t0 Q rest tab (i + 1) (addD i d (.ptr b (path ++ [ii]), 0) db) (addT d (.ptr b (path ++ [ii]), 0) t) H U) : DP P R S E N l t0 Q (⟨d, .fieldAddr s (.tmp k) ii, ty, p, af, g⟩ :: rest) ((bef, ks) :: tab) i db t H U :=
  D.freeR hd hV hg (fun h u hr' => OPE.fieldAddr hP ha (hr h hr') hw hs0 hu hf hz ⟨rfl, rfl, rfl⟩) hk
theorem D.loadR {V : List (Nat × T × TypeId)} {s : TypeId} {k b off : Nat} {path : List Nat} {o : AO} {x : T} {pt : TypeId} (hd : dstOk ⟨N, [], [], U⟩ d = true) (hV : pickOut ks (selD db bef ++ t0) = V) (hg : GuardOk l V g) (hP : WfP P)
    (ha : lk V k = some (.ptr b path, pt)) (hr : ∀ h, R h → h[b]? = some o) (hx : o.t.get path = some x) (hw : walkO P o.ty path = some (off, s)) (hgg : x.aggB = aggT P s) (hu : (P.underlying s).isSome = true)
    (hk : DP P R S E N l t0 Q rest tab (i + 1) (addD i d (x, s) db) (addT d (x, s) t) H U) : DP P R S E N l t0 Q (⟨d, .load s (.tmp k), ty, p, af, g⟩ :: rest) ((bef, ks) :: tab) i db t H U :=
  D.freeR hd hV hg (fun h u hr' => OPE.load hP ha (hr h hr') hx hw hgg hu ⟨rfl, rfl, rfl⟩) hk
theorem D.fnM {V : List (Nat × T × TypeId)} {f : FuncId} {os : List Operand} {ats : Array TypeId} {xs : List X} {r : X} {H' : List AO} {U' : Tips} (hd : dstOk ⟨N, [], [], U⟩ d = true) (hS : memB S i = true)
    (hV : pickOut ks (selD db bef ++ t0) = V) (hg : GuardOk l V g) (ha : Args P ⟨N, V, H, U⟩ os xs) (hc : AnsM P f xs H U r H' U') (he : enters P f = true) (hE : memB E i = true) (hR : R H') (hk : DP P R S E N l t0 Q rest tab (i + 1) (addD i d r db) (addT d r t) H' U') :
    DP P R S E N l t0 Q (⟨d, .call { callee := .value (.func f), args := os.toArray, argTypes := ats }, ty, p, af, g⟩ :: rest) ((bef, ks) :: tab) i db t H U :=
  D.sens hd hS hV hg (OPE.call he ha hc) (.inl ⟨hE, hR⟩) hk
theorem D.fnR {V : List (Nat × T × TypeId)} {f : FuncId} {b : Nat} {pt : TypeId} {os : List Operand} {ats : Array TypeId} {xs : List X} {r : X} {o o' : AO} (hd : dstOk ⟨N, [], [], U⟩ d = true) (hS : memB S i = true)
    (hV : pickOut ks (selD db bef ++ t0) = V) (hg : GuardOk l V g) (ha : Args P ⟨N, V, H, U⟩ os ((.ptr b [], pt) :: xs)) (hb : H[b]? = some o) (hc : AnsR P f pt xs o r o') (he : enters P f = true) (hE : memB E i = true) (hR : R (H.set b o')) (hk : DP P R S E N l t0 Q rest tab (i + 1) (addD i d r db) (addT d r t) (H.set b o') U) :
    DP P R S E N l t0 Q (⟨d, .call { callee := .value (.func f), args := os.toArray, argTypes := ats }, ty, p, af, g⟩ :: rest) ((bef, ks) :: tab) i db t H U :=
  D.fnM hd hS hV hg ha (hc.hc.at hc.ho hc.ho' hc.hx hc.hr hb) he hE hR hk
theorem D.fnW {V : List (Nat × T × TypeId)} {f : FuncId} {b t1 m : Nat} {pt tw : TypeId} {os : List Operand} {ats : Array TypeId} {xs : List X} {r : X} {bs bs' : List T} (hd : dstOk ⟨N, [], [], ⟨[t1], m⟩⟩ d = true) (hS : memB S i = true)
    (hV : pickOut ks (selD db bef ++ t0) = V) (hg : GuardOk l V g) (ha : Args P ⟨N, V, H, ⟨[t1], m⟩⟩ os ((.ptr b [], pt) :: xs)) (hb : H[b]? = some (WO tw bs (.tip t1))) (hc : AnsW P f pt tw xs bs r bs') (ht : t1 < m) (he : enters P f = true) (hE : memB E i = true) (hR : R (H.set b (WO tw bs' (.tip m))))
    (hk : DP P R S E N l t0 Q rest tab (i + 1) (addD i d r db) (addT d r t) (H.set b (WO tw bs' (.tip m))) ⟨[m], m + 1⟩) :
    DP P R S E N l t0 Q (⟨d, .call { callee := .value (.func f), args := os.toArray, argTypes := ats }, ty, p, af, g⟩ :: rest) ((bef, ks) :: tab) i db t H ⟨[t1], m⟩ :=
  D.fnM hd hS hV hg ha (hc.hc.atW hc.ho hc.ho' hc.hx hc.hr hb ht) he hE hR hk
theorem D.fnVM {V : List (Nat × T × TypeId)} {k : Nat} {f : FuncId} {first cap : List T} {tf : TypeId} {os : List Operand} {ats : Array TypeId} {xs : List X} {r : X} {H' : List AO} {U' : Tips} (hd : dstOk ⟨N, [], [], U⟩ d = true) (hS : memB S i = true)
    (hV : pickOut ks (selD db bef ++ t0) = V) (hk0 : lk V k = some (.fn (.func f) first cap, tf)) (hg : GuardOk l V g) (ha : Args P ⟨N, V, H, U⟩ os xs) (hc : AnsM P f (X0 first ++ xs ++ X0 cap) H U r H' U') (he : enters P f = true) (hE : memB E i = true) (hR : R H')
    (hk : DP P R S E N l t0 Q rest tab (i + 1) (addD i d r db) (addT d r t) H' U') :
    DP P R S E N l t0 Q (⟨d, .call { callee := .value (.tmp k), args := os.toArray, argTypes := ats }, ty, p, af, g⟩ :: rest) ((bef, ks) :: tab) i db t H U :=
  D.sens hd hS hV hg (OPE.callV hk0 he ha hc) (.inl ⟨hE, hR⟩) hk
end
theorem AnsM.dropE {f : FuncId} {args : List X} {H h1 : List AO} {m : Nat} {r : X} (hc : ACalls P f args H ⟨[], m⟩ fun x h u => x = r ∧ ∃ g, h = h1 ++ g) (hl : Nat.ble H.length h1.length = true) (hr : inB h1.length m r.1 = true) (hh : (h1.all fun o => inB h1.length m o.t) = true) (er : r.1.ren id id = r.1) (eh : h1.map (AO.ren id id) = h1) : AnsM P f args H ⟨[], m⟩ r h1 ⟨[], m⟩ :=
  ACalls.norm hc fun x h u ⟨e1, g, e2⟩ => by
    subst e1; subst e2
    exact ⟨id, x, h1, g, ⟨[], m⟩, by rw [er], by rw [eh], Nat.le_of_ble_eq_true hl, hr, fun o ho => List.all_eq_true.1 hh o ho, fun _ _ => rfl, Nat.le_refl _, fun σ h => (by cases h), fun σ σ' h => (by cases h), rfl, rfl, rfl⟩
/-- Of no objects: what it makes stands behind what is there. -/
theorem AnsM.app {f : FuncId} {xs : List X} {h1 : List AO} {r : X} (hc : AnsM P f xs [] ⟨[], 0⟩ r h1 ⟨[], 0⟩) (hx : npL (xs.map (·.1)) = true) {H : List AO} {U : Tips} {L : Nat} (hL : H.length = L) {r' : T} {h' : List AO} (er : r.1.ren (mapTo [] L) (mapTo [] U.m) = r') (eh : H ++ h1.map (AO.ren (mapTo [] L) (mapTo [] U.m)) = h') : AnsM P f xs H U (r', r.2) h' U := by
  subst hL; subst er; subst eh
  have hx' : ∀ x ∈ xs, np x.1 = true := fun x hx2 => npL_iff.1 hx _ (List.mem_map_of_mem hx2)
  have := ACalls.sub (H := H) (U := U) (Kp := fun x h u => x = (r.1.ren (mapTo [] H.length) (mapTo [] U.m), r.2) ∧ h = H ++ h1.map (AO.ren (mapTo [] H.length) (mapTo [] U.m)) ∧ u = U) [] [] hc rfl (by simp) (fun r hr => by simp at hr) (fun c q s hc hs => by simp at hs)
    (fun q hq => by simp at hq) (fun x hx2 => in_np _ (hx' x hx2)) (fun t' ht' => by simp at ht') rfl (fun τ hτ => by cases hτ) (fun τ σ hτ => by cases hτ)
    (fun x h u ⟨h1, h2, h3⟩ => by subst h1; subst h2; subst h3; exact ⟨rfl, by simp [upd], rfl⟩)
  rw [args_np hx] at this
  exact this
section
variable {f : FuncId} {fn : Func} {c : Code} {rv : ResultVar} {rvs : List ResultVar} {pt tw : TypeId} {xs rs : List X} {o o' : AO} {r : X} {bs bs' : List T}
theorem AnsR.of (hc : ACalls P f ((.ptr 0 [], pt) :: xs) [o] ⟨[], 0⟩ fun x h u => x = r ∧ ∃ g, h = o' :: g) (ho : np o.t = true) (ho' : np o'.t = true) (hx : npL (xs.map (·.1)) = true) (hr : np r.1 = true) : AnsR P f pt xs o r o' :=
  ⟨ACalls.norm hc fun x h u ⟨h1, g, h2⟩ => by
    subst h1; subst h2
    exact ⟨id, x, [o'], g, ⟨[], 0⟩, by rw [ren_np _ hr], by simp [AO.ren, ren_np _ ho'], Nat.le_refl _, in_np _ hr, fun q hq => by simp at hq; subst hq; exact in_np _ ho', fun _ h => absurd h (Nat.not_lt_zero _), Nat.le_refl _, fun σ h => (by cases h), fun σ σ' h => (by cases h), rfl, rfl, rfl⟩, ho, ho', hx, hr⟩
theorem AnsR.body1 (hP : WfP P) (hf : P.funcs[f]? = some fn) (hb : fn.body = some c) (hr : fn.results = #[rv]) (hn : Nat.ble (xs.length + 1) fn.ntmps = true) (ho : np o.t = true) (ho' : np o'.t = true) (hx : npL (xs.map (·.1)) = true) (hnr : np r.1 = true)
    (hw : AW P c ⟨fn.ntmps, argT ((.ptr 0 [], pt) :: xs) 0, [o], ⟨[], 0⟩⟩ fun e σ' => (e = .normal ∨ e = .ret) ∧ Res1 P σ' rv r ∧ (∀ k t, rv = .cell k t → r.1.aggB = aggT P r.2 ∧ (P.underlying r.2).isSome = true) ∧ ∃ g, σ'.h = o' :: g) : AnsR P f pt xs o r o' :=
  AnsR.of (ACalls.body1 hP hf hb hr (Nat.le_of_ble_eq_true hn) (hw.mono fun e σ ⟨h1, h2, h3, h4⟩ => ⟨h1, r, h2, h3, rfl, h4⟩)) ho ho' hx hnr
theorem AnsR.bodyN (hP : WfP P) (tt : TypeId) (hf : P.funcs[f]? = some fn) (hb : fn.body = some c) (hr : fn.results = rvs.toArray) (hr1 : rvs.length ≠ 1) (hn : Nat.ble (xs.length + 1) fn.ntmps = true) (htt : P.underlying tt = some (.tuple (rs.map (·.2)).toArray)) (ho : np o.t = true) (ho' : np o'.t = true) (hx : npL (xs.map (·.1)) = true) (hnr : npL (rs.map (·.1)) = true)
    (hw : AW P c ⟨fn.ntmps, argT ((.ptr 0 [], pt) :: xs) 0, [o], ⟨[], 0⟩⟩ fun e σ' => (e = .normal ∨ e = .ret) ∧ ResL P σ' rvs rs ∧ resOk P rvs rs ∧ ∃ g, σ'.h = o' :: g) : AnsR P f pt xs o (.tup (rs.map (·.1)), tt) o' :=
  AnsR.of (ACalls.bodyN hP tt hf hb hr hr1 (Nat.le_of_ble_eq_true hn) (hw.mono fun e σ ⟨h1, h2, h3, h4⟩ => ⟨h1, rs, h2, h3, htt, rfl, h4⟩)) ho ho' hx (by simpa [np] using hnr)
theorem AnsM.body1R {args : List X} (hP : WfP P) (hf : P.funcs[f]? = some fn) (hb : fn.body = some c) (hr : fn.results = #[rv]) (hn : Nat.ble args.length fn.ntmps = true) (ho' : np o'.t = true) (hnr : np r.1 = true)
    (hw : AW P c ⟨fn.ntmps, argT args 0, [o], ⟨[], 0⟩⟩ fun e σ' => (e = .normal ∨ e = .ret) ∧ Res1 P σ' rv r ∧ (∀ k t, rv = .cell k t → r.1.aggB = aggT P r.2 ∧ (P.underlying r.2).isSome = true) ∧ ∃ g, σ'.h = o' :: g) : AnsM P f args [o] ⟨[], 0⟩ r [o'] ⟨[], 0⟩ :=
  ACalls.norm (ACalls.body1 hP hf hb hr (Nat.le_of_ble_eq_true hn) (hw.mono fun e σ ⟨h1, h2, h3, h4⟩ => ⟨h1, r, h2, h3, (⟨rfl, h4⟩ : r = r ∧ ∃ g, σ.h = o' :: g)⟩) (Kp := fun x h u => x = r ∧ ∃ g, h = o' :: g)) fun x h u ⟨h1, g, h2⟩ => by
    subst h1; subst h2
    exact ⟨id, x, [o'], g, ⟨[], 0⟩, by rw [ren_np _ hnr], by simp [AO.ren, ren_np _ ho'], Nat.le_refl _, in_np _ hnr, fun q hq => by simp at hq; subst hq; exact in_np _ ho', fun _ h => absurd h (Nat.not_lt_zero _), Nat.le_refl _, fun σ h => (by cases h), fun σ σ' h => (by cases h), rfl, rfl, rfl⟩
theorem AnsM.body1D {args : List X} {H h1 : List AO} {m : Nat} (hP : WfP P) (hf : P.funcs[f]? = some fn) (hb : fn.body = some c) (hr : fn.results = #[rv]) (hn : Nat.ble args.length fn.ntmps = true) (hl : Nat.ble H.length h1.length = true) (hri : inB h1.length m r.1 = true) (hh : (h1.all fun o => inB h1.length m o.t) = true) (er : r.1.ren id id = r.1) (eh : h1.map (AO.ren id id) = h1)
    (hw : AW P c ⟨fn.ntmps, argT args 0, H, ⟨[], m⟩⟩ fun e σ' => (e = .normal ∨ e = .ret) ∧ Res1 P σ' rv r ∧ (∀ k t, rv = .cell k t → r.1.aggB = aggT P r.2 ∧ (P.underlying r.2).isSome = true) ∧ ∃ g, σ'.h = h1 ++ g) : AnsM P f args H ⟨[], m⟩ r h1 ⟨[], m⟩ :=
  AnsM.dropE (ACalls.body1 hP hf hb hr (Nat.le_of_ble_eq_true hn) (hw.mono fun e σ ⟨h1, h2, h3, h4⟩ => ⟨h1, r, h2, h3, rfl, h4⟩)) hl hri hh er eh
theorem AnsM.bodyND {args : List X} {H h1 : List AO} {m : Nat} (hP : WfP P) (tt : TypeId) (hf : P.funcs[f]? = some fn) (hb : fn.body = some c) (hr : fn.results = rvs.toArray) (hr1 : rvs.length ≠ 1) (hn : Nat.ble args.length fn.ntmps = true) (htt : P.underlying tt = some (.tuple (rs.map (·.2)).toArray)) (hl : Nat.ble H.length h1.length = true) (hri : inB h1.length m (T.tup (rs.map (·.1))) = true) (hh : (h1.all fun o => inB h1.length m o.t) = true) (er : (T.tup (rs.map (·.1))).ren id id = T.tup (rs.map (·.1))) (eh : h1.map (AO.ren id id) = h1)
    (hw : AW P c ⟨fn.ntmps, argT args 0, H, ⟨[], m⟩⟩ fun e σ' => (e = .normal ∨ e = .ret) ∧ ResL P σ' rvs rs ∧ resOk P rvs rs ∧ ∃ g, σ'.h = h1 ++ g) : AnsM P f args H ⟨[], m⟩ (.tup (rs.map (·.1)), tt) h1 ⟨[], m⟩ :=
  AnsM.dropE (ACalls.bodyN hP tt hf hb hr hr1 (Nat.le_of_ble_eq_true hn) (hw.mono fun e σ ⟨h1, h2, h3, h4⟩ => ⟨h1, rs, h2, h3, htt, rfl, h4⟩)) hl hri hh er eh
theorem norm_wo {args : List X} {H : List AO} {U : Tips} (hc : ACalls P f args H U fun x h u => x = r ∧ ∃ g t m, h = WO tw bs' (.tip t) :: g ∧ u = ⟨[t], m⟩) (ho' : npL bs' = true) (hr : np r.1 = true) (hH : H.length = 1) : AnsM P f args H U r [WO tw bs' (.tip U.m)] ⟨[U.m], U.m + 1⟩ :=
  ACalls.norm hc fun x h u ⟨h1, g, t, m, h2, h3⟩ => by
    subst h1; subst h2; subst h3
    refine ⟨fun σ => if σ < U.m then σ else t, x, [WO tw bs' (.tip U.m)], g, ⟨[U.m], U.m + 1⟩, by rw [ren_np _ hr], ?_, by simp [hH], in_np _ hr, fun q hq => ?_, fun σ h => if_pos h, Nat.le_succ _, fun σ h => ?_, fun σ σ' h h' _ => ?_, rfl, rfl, rfl⟩
    · simp only [List.map_cons, List.map_nil, ren_wo ho', List.cons_append, List.nil_append]
      simp [Tag.ren]
    · simp at hq; subst hq; simp [inB, inL, inL_np _ ho', Tag.below]
    · simp at h; subst h; simp
    · simp at h h'; omega
theorem AnsW.bodyN (hP : WfP P) (tt : TypeId) (hf : P.funcs[f]? = some fn) (hb : fn.body = some c) (hr : fn.results = rvs.toArray) (hr1 : rvs.length ≠ 1) (hn : Nat.ble (xs.length + 1) fn.ntmps = true) (htt : P.underlying tt = some (.tuple (rs.map (·.2)).toArray)) (ho : npL bs = true) (ho' : npL bs' = true) (hx : npL (xs.map (·.1)) = true) (hnr : npL (rs.map (·.1)) = true)
    (hw : AW P c ⟨fn.ntmps, argT ((.ptr 0 [], pt) :: xs) 0, [WO tw bs (.tip 0)], ⟨[0], 1⟩⟩ fun e σ' => (e = .normal ∨ e = .ret) ∧ ResL P σ' rvs rs ∧ resOk P rvs rs ∧ ∃ g t m, σ'.h = WO tw bs' (.tip t) :: g ∧ σ'.u = ⟨[t], m⟩) : AnsW P f pt tw xs bs (.tup (rs.map (·.1)), tt) bs' :=
  have hnr' : np (T.tup (rs.map (·.1))) = true := by simpa [np] using hnr
  ⟨norm_wo (ACalls.bodyN hP tt hf hb hr hr1 (Nat.le_of_ble_eq_true hn) (hw.mono fun e σ ⟨h1, h2, h3, h4⟩ => ⟨h1, rs, h2, h3, htt, rfl, h4⟩)) ho' hnr' rfl, ho, ho', hx, hnr'⟩
theorem AnsN.bodyN (hP : WfP P) (tt : TypeId) (hf : P.funcs[f]? = some fn) (hb : fn.body = some c) (hr : fn.results = rvs.toArray) (hr1 : rvs.length ≠ 1) (hn : Nat.ble (xs.length + 1) fn.ntmps = true) (htt : P.underlying tt = some (.tuple (rs.map (·.2)).toArray)) (ho' : npL bs' = true) (hx : npL (xs.map (·.1)) = true) (hnr : npL (rs.map (·.1)) = true)
    (hw : AW P c ⟨fn.ntmps, argT ((.ptr 0 [], pt) :: xs) 0, [WO tw [] .nil], ⟨[], 0⟩⟩ fun e σ' => (e = .normal ∨ e = .ret) ∧ ResL P σ' rvs rs ∧ resOk P rvs rs ∧ ∃ g t m, σ'.h = WO tw bs' (.tip t) :: g ∧ σ'.u = ⟨[t], m⟩) : AnsN P f pt tw xs (.tup (rs.map (·.1)), tt) bs' :=
  have hnr' : np (T.tup (rs.map (·.1))) = true := by simpa [np] using hnr
  ⟨norm_wo (ACalls.bodyN hP tt hf hb hr hr1 (Nat.le_of_ble_eq_true hn) (hw.mono fun e σ ⟨h1, h2, h3, h4⟩ => ⟨h1, rs, h2, h3, htt, rfl, h4⟩)) ho' hnr' rfl, ho', hx, hnr'⟩
end
end Go.Am

/- A layer over the walk's rules. This text: a row that was written is written no more, also where views of it stand inside structs. -/
set_option linter.unusedVariables false
set_option linter.unusedSimpArgs false
namespace Go.Am
variable {P : Program}

mutual
/-- Views of row k are lists of its elements. -/
def T.fz (k : Nat) (zs : List T) : T → T
  | .s v => .s v
  | .st fs => .st (fzL k zs fs)
  | .arr xs => .arr (fzL k zs xs)
  | .lst xs g => .lst (fzL k zs xs) g
  | .ptr b p => .ptr b p
  | .vw b off len cap => if Nat.beq b k = true then .lst ((zs.drop off).take len) .no else .vw b off len cap
  | .ep ty x => .ep ty (x.fz k zs)
  | .tup xs => .tup (fzL k zs xs)
  | .fn f a c => .fn f (fzL k zs a) (fzL k zs c)
  | .ifc t x => .ifc t (x.fz k zs)
  | .any => .any
def fzL (k : Nat) (zs : List T) : List T → List T
  | [] => []
  | x :: xs => x.fz k zs :: fzL k zs xs
end
theorem fzL_len (k : Nat) (zs : List T) : ∀ xs : List T, (fzL k zs xs).length = xs.length
  | [] => rfl
  | x :: xs => by simp [fzL, fzL_len k zs xs]
theorem fz_agg (k : Nat) (zs : List T) (t : T) : (t.fz k zs).aggB = t.aggB := by
  cases t with
  | vw b off len cap =>
    simp only [T.fz]
    by_cases h : Nat.beq b k = true
    · rw [if_pos h]; rfl
    · rw [if_neg h]
  | _ => simp [T.fz, T.aggB]
mutual
theorem fz_np {k : Nat} {zs : List T} : ∀ t : T, np t = true → t.fz k zs = t
  | .s v => fun _ => rfl
  | .st fs => fun h => by simp only [np] at h; simp only [T.fz, fzL_np fs h]
  | .arr xs => fun h => by simp only [np] at h; simp only [T.fz, fzL_np xs h]
  | .lst xs g => fun h => by simp only [np, Bool.and_eq_true] at h; simp only [T.fz, fzL_np xs h.1]
  | .ptr b p => fun h => rfl
  | .vw b off len cap => fun h => by simp only [np] at h; cases h
  | .ep ty x => fun h => by simp only [np] at h; simp only [T.fz, fz_np x h]
  | .tup xs => fun h => by simp only [np] at h; simp only [T.fz, fzL_np xs h]
  | .fn f a c => fun h => by simp only [np, Bool.and_eq_true] at h; simp only [T.fz, fzL_np a h.1, fzL_np c h.2]
  | .ifc t x => fun h => by simp only [np] at h; simp only [T.fz, fz_np x h]
  | .any => fun _ => rfl
theorem fzL_np {k : Nat} {zs : List T} : ∀ xs : List T, npL xs = true → fzL k zs xs = xs
  | [] => fun _ => rfl
  | x :: xs => fun h => by
    simp only [npL, Bool.and_eq_true] at h
    simp only [fzL, fz_np x h.1, fzL_np xs h.2]
end
structure Fz (P : Program) (a b : K) (k : Nat) (zs : List T) : Prop where
  le : a.Le b
  row : ∃ e n ws, a.ty k = .row e n ∧ zs.length = n ∧ VA P a zs e ws ∧ HoldsAt b (a.ι k) 0 ws
mutual
theorem VT_fz {a b : K} {k : Nat} {zs : List T} (h : Fz P a b k zs) : ∀ (t : T) (ty : TypeId) (vs : List Value), VT P a t ty vs → VT P b (t.fz k zs) ty vs
  | .s v, ty, vs => fun hh => by simp only [VT, T.fz] at hh ⊢; exact hh
  | .st fs, ty, vs => fun hh => by
    simp only [VT, T.fz] at hh ⊢
    obtain ⟨f, h1, h2, h2', h3⟩ := hh
    exact ⟨f, h1, h2, h2', VF_fz h fs _ _ h3⟩
  | .arr xs, ty, vs => fun hh => by
    simp only [VT, T.fz] at hh ⊢
    obtain ⟨n, e, h1, h2, h3, h3', h4⟩ := hh
    exact ⟨n, e, h1, by rw [fzL_len]; exact h2, h3, h3', VA_fz h xs _ _ h4⟩
  | .lst xs tag, ty, vs => fun hh => by
    simp only [VT, T.fz] at hh ⊢
    obtain ⟨e, A, c, us, h1, h2, h3, h4, h5⟩ := hh
    exact ⟨e, A, c, us, h1, by rw [fzL_len]; exact h2, by rw [fzL_len]; exact h3.mono h.le, VA_fz h xs _ _ h4, h5.mono h.le⟩
  | .ptr i p, ty, vs => fun hh => by
    have := VT_mono h.le (.ptr i p) ty vs hh
    simp only [T.fz]; exact this
  | .vw i off len cap, ty, vs => fun hh => by
    have hm := VT_mono h.le (.vw i off len cap) ty vs hh
    simp only [T.fz]
    split
    · rename_i hb
      have := Nat.eq_of_beq_eq_true hb
      subst this
      simp only [VT] at hh ⊢
      obtain ⟨e, n, h1, h2, h3, h4, h5, h6⟩ := hh
      obtain ⟨e', n', ws, z1, z2, z3, z4⟩ := h.row
      rw [z1] at h3; cases h3
      have hlen : ((zs.drop off).take len).length = len := by simp; omega
      have hva := VA_take len (VA_drop off z3)
      refine ⟨e, some ⟨a.ι i, off * szOf P e, none⟩, cap, _, h1, by rw [hlen]; exact h6, (by rw [hlen]; exact h5 : TagOk _ _ .no _ _ _), VA_mono h.le _ _ _ hva, .inr ⟨_, _, rfl, fun j v hj => ?_⟩⟩
      rw [part_get] at hj
      split at hj
      · have := z4 _ v hj
        rwa [Nat.zero_add] at this
      · cases hj
    · exact hm
  | .ep ty' x, ty, vs => fun hh => by
    simp only [VT, T.fz] at hh ⊢
    obtain ⟨g, o, us, h1, h2, h3⟩ := hh
    exact ⟨g, o, us, VT_fz h x _ _ h1, h2.mono h.le, h3⟩
  | .tup xs, ty, vs => fun hh => by
    simp only [VT, T.fz] at hh ⊢
    obtain ⟨es, us, h1, h2, h3⟩ := hh
    exact ⟨es, us, h1, h2, VL_fz h xs _ _ h3⟩
  | .fn f x y, ty, vs => fun hh => by
    simp only [VT, T.fz] at hh ⊢
    obtain ⟨us, ws, h1, h2, h3⟩ := hh
    exact ⟨us, ws, h1, VC_fz h x _ h2, VC_fz h y _ h3⟩
  | .ifc t x, ty, vs => fun hh => by
    simp only [VT, T.fz] at hh ⊢
    obtain ⟨v, ⟨h1, h2⟩, h3⟩ := hh
    exact ⟨v, ⟨VT_fz h x _ _ h1, by rw [fz_agg]; exact h2⟩, h3⟩
  | .any, ty, vs => fun hh => by simp only [VT, T.fz] at hh ⊢; exact hh
theorem VF_fz {a b : K} {k : Nat} {zs : List T} (h : Fz P a b k zs) : ∀ (ts : List T) (fs : List Field) (vs : List Value), VF P a ts fs vs → VF P b (fzL k zs ts) fs vs
  | [], [], vs => fun _ => by simp only [VF, fzL]
  | t :: ts, f :: fs, vs => fun hh => by
    simp only [VF, fzL] at hh ⊢
    exact ⟨VT_fz h t _ _ hh.1, VF_fz h ts _ _ hh.2⟩
  | [], _ :: _, _ => fun hh => by simp only [VF] at hh
  | _ :: _, [], _ => fun hh => by simp only [VF] at hh
theorem VA_fz {a b : K} {k : Nat} {zs : List T} (h : Fz P a b k zs) : ∀ (ts : List T) (e : TypeId) (vs : List Value), VA P a ts e vs → VA P b (fzL k zs ts) e vs
  | [], _, vs => fun hh => by simp only [VA, fzL] at hh ⊢; exact hh
  | t :: ts, e, vs => fun hh => by
    simp only [VA, fzL] at hh ⊢
    exact ⟨hh.1, VT_fz h t _ _ hh.2.1, VA_fz h ts _ _ hh.2.2⟩
theorem VL_fz {a b : K} {k : Nat} {zs : List T} (h : Fz P a b k zs) : ∀ (ts : List T) (es : List TypeId) (vs : List Value), VL P a ts es vs → VL P b (fzL k zs ts) es vs
  | [], [], vs => fun hh => by simp only [VL, fzL] at hh ⊢; exact hh
  | t :: ts, e :: es, v :: vs => fun hh => by
    simp only [VL, fzL] at hh ⊢
    exact ⟨⟨VT_fz h t _ _ hh.1.1, by rw [fz_agg]; exact hh.1.2⟩, VL_fz h ts _ _ hh.2⟩
  | [], _ :: _, _ => fun hh => by simp only [VL] at hh
  | _ :: _, [], _ => fun hh => by simp only [VL] at hh
  | _ :: _, _ :: _, [] => fun hh => by simp only [VL] at hh
theorem VC_fz {a b : K} {k : Nat} {zs : List T} (h : Fz P a b k zs) : ∀ (ts : List T) (vs : List Value), VC P a ts vs → VC P b (fzL k zs ts) vs
  | [], vs => fun hh => by simp only [VC, fzL] at hh ⊢; exact hh
  | t :: ts, v :: vs => fun hh => by
    simp only [VC, fzL] at hh ⊢
    exact ⟨⟨VT_fz h t _ _ hh.1.1, by rw [fz_agg]; exact hh.1.2⟩, VC_fz h ts _ hh.2⟩
  | _ :: _, [] => fun hh => by simp only [VC] at hh
end
theorem VO_fz {a b : K} {k : Nat} {zs : List T} (h : Fz P a b k zs) {t : T} {ty : OTy} {vs : List Value} (hh : VO P a t ty vs) : VO P b (t.fz k zs) ty vs := by
  cases ty with
  | one ty => exact ⟨VT_fz h _ _ _ hh.1, hh.2⟩
  | row e n =>
    obtain ⟨xs, rfl, h2, h3, h4, h5⟩ := hh
    exact ⟨fzL k zs xs, by simp only [T.fz], by rw [fzL_len]; exact h2, h3, h4, VA_fz h _ _ _ h5⟩
  | dead => trivial


def AO.fz (k : Nat) (zs : List T) (o : AO) : AO := ⟨o.ty, o.t.fz k zs⟩
/-- Slots: views become lists. -/
def FzS (k : Nat) (zs : List T) (t' t : List (Nat × T × TypeId)) : Prop := ∀ j y ty, lk t' j = some (y, ty) → ∃ x, lk t j = some (x, ty) ∧ y = x.fz k zs
theorem FzS.nil {k : Nat} {zs : List T} {t : List (Nat × T × TypeId)} : FzS k zs [] t := fun _ _ _ h => by cases h
theorem FzS.cons {k j : Nat} {zs : List T} {x y : T} {ty : TypeId} {t' t : List (Nat × T × TypeId)} (h : lk t j = some (x, ty)) (hy : x.fz k zs = y) (r : FzS k zs t' t) : FzS k zs ((j, (y, ty)) :: t') t := fun i z tz hj => by
  unfold lk at hj
  split at hj
  · rename_i hb
    cases hj
    have := Nat.eq_of_beq_eq_true hb
    subst this
    exact ⟨x, h, hy.symm⟩
  · exact r i z tz hj
theorem AW.freezeD {c : Code} {N k n : Nat} {t t' : List (Nat × T × TypeId)} {h h' : List AO} {u : Tips} {e : TypeId} {zs : List T} {Q : Exit → St → Prop} (hb : h[k]? = some ⟨.row e n, .arr zs⟩) (ht : FzS k zs t' t) (hh : (h.set k ⟨.dead, .any⟩).map (AO.fz k zs) = h') (hk : AW P c ⟨N, t', h', u⟩ Q) : AW P c ⟨N, t, h, u⟩ Q := fun κ a w hs => by
  obtain ⟨h1, h2, vs, ce, h3, h4⟩ := hs.wr.obj k _ hb
  have hty := h2.resolve_left (by simp)
  obtain ⟨e1, e2⟩ := hs.wr.dead hb (by simp) h3
  obtain ⟨xs', hx, r4, r5, r6, r7⟩ := h4
  cases hx
  have hz : Fz P κ (κ.frozen (κ.ι k) vs) k zs := ⟨e1.le, e, n, vs, hty, r4, r7, fun j v hj => by
    rw [Nat.zero_add]
    show (if κ.ι k = κ.ι k then _ else _) = _
    rw [if_pos rfl]; exact hj⟩
  subst hh
  refine wp_mono (hk _ a w ⟨hs.defers, hs.size, fun j y tb hy => ?_, ?_⟩) fun e' a' w' k => lift_trans e1 k
  · obtain ⟨x, z1, rfl⟩ := ht j y tb hy
    obtain ⟨v, v1, v2⟩ := hs.tmp j x tb z1
    exact ⟨v, v1, VT_fz hz _ _ _ v2.1, by rw [fz_agg]; exact v2.2⟩
  · have hn := hs.wr.n
    refine ⟨by rw [List.length_map, List.length_set]; exact hn, fun c q hc => ?_, e2.inj, e2.imm, fun g j v c q hv hc hq => ?_, e2.tip, e2.fresh⟩
    · rw [List.getElem?_map] at hc
      cases hc0 : (h.set k ⟨.dead, .any⟩)[c]? with
      | none => rw [hc0] at hc; cases hc
      | some q0 =>
        rw [hc0] at hc
        cases hc
        by_cases hck : c = k
        · obtain ⟨q1, q2, ws, ce', q3, q4⟩ := e2.obj c q0 hc0
          have hlt : k < h.length := (List.getElem?_eq_some_iff.1 hb).1
          rw [hck, List.getElem?_set_self hlt] at hc0
          cases hc0
          exact ⟨q1, q2, ws, ce', q3, trivial⟩
        · have hc1 := hc0
          rw [List.getElem?_set_ne (fun e => hck e.symm)] at hc1
          obtain ⟨q1, q2, ws, ce', q3, q4⟩ := hs.wr.obj c q0 hc1
          exact ⟨q1, q2, ws, ce', q3, VO_fz hz q4⟩
    · rw [List.getElem?_map] at hc
      cases hc0 : (h.set k ⟨.dead, .any⟩)[c]? with
      | none => rw [hc0] at hc; cases hc
      | some q0 =>
        rw [hc0] at hc
        cases hc
        exact e2.immo g j v c q0 hv hc0 hq
/-- Of one object, wherever the pointers to it stand in the arguments. -/
theorem AnsM.atX {f : FuncId} {args0 : List X} {o o' : AO} {r : X} (hc : AnsM P f args0 [o] ⟨[], 0⟩ r [o'] ⟨[], 0⟩) (ho : np o.t = true) (ho' : np o'.t = true) (hx : (args0.all fun x => inB 1 0 x.1) = true) (hr : np r.1 = true)
    {H : List AO} {U : Tips} {b : Nat} {args : List X} (hb : H[b]? = some o) (he : args0.map (fun x => (x.1.ren (mapTo [b] H.length) (mapTo [] U.m), x.2)) = args) : AnsM P f args H U r (H.set b o') U := by
  have := ACalls.sub (H := H) (U := U) (Kp := fun x h u => x = r ∧ h = H.set b o' ∧ u = U) [b] [] hc rfl (by simp) (fun r hr => by simp at hr; subst hr; exact (List.getElem?_eq_some_iff.1 hb).1)
    (fun c q s hc hs => by
      cases c with
      | zero => simp at hc hs; subst hc; subst hs; rw [hb]; simp [AO.ren, ren_np _ ho]
      | succ c => simp at hs)
    (fun q hq => by simp at hq; subst hq; exact in_np _ ho) (fun x hx2 => List.all_eq_true.1 hx x hx2) (fun t ht => by simp at ht) rfl (fun τ hτ => by cases hτ) (fun τ σ hτ => by cases hτ)
    (fun x h u ⟨h1, h2, h3⟩ => by
      subst h1; subst h2; subst h3
      refine ⟨by rw [ren_np _ hr], ?_, rfl⟩
      simp [upd, AO.ren, ren_np _ ho'])
  rw [he] at this
  exact this
section
variable {R : List AO → Prop} {S E : List Nat} {N : Nat} {l : List Oper} {t0 tt_ : List (Nat × T × TypeId)} {Q : St → Prop} {rest : List Oper} {tab : List (List Nat × List Nat)} {bef ks : List Nat} {i : Nat} {db : Db} {H : List AO} {U : Tips} {V L : List (Nat × T × TypeId)} {ops : Array Oper} {D : Nat}
variable {d : Option Nat} {ty : TypeId} {p : String} {af : Array Edge} {g : Option (Nat × Bool)}
/-- A part of a view, named. -/
theorem D.sliceVn {k : Nat} {b off len cap : Nat} {ts st e : TypeId} {lo hi : Option Operand} {l0 h : Int} {y : T} (hd : dstOk ⟨N, [], [], U⟩ d = true) (hV : pickOut ks (selD db bef ++ t0) = V) (hgd : GuardOk l V g) (hP : WfP P) (ha : lk V k = some (.vw b off len cap, ts)) (hT : SameT P ts st) (hst : st < P.types.size) (hu : P.underlying st = some (.slice e)) (hl : ∀ m_ u_, OptAt ⟨N, V, m_, u_⟩ lo 0 l0) (hh : ∀ m_ u_, OptAt ⟨N, V, m_, u_⟩ hi len h)
    (hb : 0 ≤ l0 ∧ l0 ≤ h ∧ h ≤ cap) (hy : T.vw b (if cap = l0.toNat then off else off + l0.toNat) (h.toNat - l0.toNat) (cap - l0.toNat) = y) (hk : DP P R S E N l t0 Q rest tab (i + 1) (addD i d (y, st) db) (addT d (y, st) tt_) H U) : DP P R S E N l t0 Q (⟨d, .slice st (.tmp k) lo hi none, ty, p, af, g⟩ :: rest) ((bef, ks) :: tab) i db tt_ H U := by
  subst hy; exact D.sliceV hd hV hgd hP ha hT hst hu hl hh hb.1 hb.2.1 hb.2.2 hk
theorem O.sliceVn {k : Nat} {b off len cap : Nat} {ts st e : TypeId} {lo hi : Option Operand} {l0 h : Int} {y : T} {Q : St → Prop} (hd : Nat.blt D N = true) (hP : WfP P) (ha : lk L k = some (.vw b off len cap, ts)) (hT : SameT P ts st) (hst : st < P.types.size) (hu : P.underlying st = some (.slice e)) (hl : OptAt ⟨N, L, H, U⟩ lo 0 l0) (hh : OptAt ⟨N, L, H, U⟩ hi len h)
    (hb : 0 ≤ l0 ∧ l0 ≤ h ∧ h ≤ cap) (hy : T.vw b (if cap = l0.toNat then off else off + l0.toNat) (h.toNat - l0.toNat) (cap - l0.toNat) = y) (hk : OPS P ops rest ⟨N, (D, (y, st)) :: L, H, U⟩ Q) : OPS P ops (⟨some D, .slice st (.tmp k) lo hi none, ty, p, af, none⟩ :: rest) ⟨N, L, H, U⟩ Q := by
  subst hy; exact O.sliceV hd hP ha hT hst hu hl hh hb.1 hb.2.1 hb.2.2 hk
theorem O.clearN {k b off len cap n : Nat} {xs : List T} {x : T} {t ts e : TypeId} {Q : St → Prop} (hP : WfP P) (ha : lk L k = some (.vw b off len cap, ts)) (hT : SameT P ts t) (hr : H[b]? = some ⟨.row e n, .arr xs⟩)
    (hu : P.underlying t = some (.slice e)) (hzo : ZeroOk P e x) (hz : szOf P e ≠ 0) (hl : len ≠ 0) (hu0 : P.underlying ty = some (.tuple #[])) (hk : OPS P ops rest ⟨N, L, H.set b ⟨.row e n, .arr (put2 xs off (List.replicate len x))⟩, U⟩ Q) :
    OPS P ops (⟨none, .call { callee := .builtin .clear, args := #[.tmp k], argTypes := #[t] }, ty, p, af, none⟩ :: rest) ⟨N, L, H, U⟩ Q :=
  OPS.op (Kp := fun x h u => OPS P ops rest (putS ⟨N, L, H, U⟩ none x h u) Q) rfl rfl (OPE.clearV hP ha hT hr hu hzo hz hl hu0 hk) (fun _ _ _ h => h)
end
end Go.Am
