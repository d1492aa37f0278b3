/- A layer over the walk's rules. This text: new objects, stores, lists. -/
import Derived.Test.YtlpakbhlpgpiaaaAm7
import Derived.Laws.CopyRow
set_option linter.unusedVariables false
set_option linter.unusedSimpArgs false
namespace Go.Am
variable {P : Program} {σ : St}
variable {d : Option Nat} {ty : TypeId} {p : String} {af : Array Edge} {g : Option (Nat × Bool)} {Kp : X → List AO → (Tips) → Prop}

/-- Types of one layout. -/
structure SameT (P : Program) (a b : TypeId) : Prop where
  u : P.underlying a = P.underlying b
  s : szOf P a = szOf P b
theorem SameT.refl (P : Program) (a : TypeId) : SameT P a a := ⟨rfl, rfl⟩
theorem VT_same {κ : K} {a b : TypeId} (h : SameT P a b) {t : T} {vs : List Value} (k : VT P κ t a vs) : VT P κ t b vs := by
  cases t <;> simp only [VT, ← h.u, ← h.s] at k ⊢ <;> exact k
theorem VV_same {κ : K} {a b : TypeId} (h : SameT P a b) {t : T} {v : Value} (k : VV P κ t a v) : VV P κ t b v := ⟨VT_same h k.1, k.2⟩

theorem VV_len {κ : K} {t : T} {ty : TypeId} {v : Value} (h : VV P κ t ty v) (hsz : t.aggB = true ∨ szOf P ty = 1) : v.cells.toList.length = szOf P ty := by
  obtain ⟨h1, h2⟩ := h
  cases hx : t.aggB with
  | true =>
    cases t <;> simp [T.aggB] at hx <;> simp only [VT] at h1
    · obtain ⟨_, _, h, _⟩ := h1; exact h
    · obtain ⟨_, _, _, _, h, _⟩ := h1; exact h
  | false =>
    obtain ⟨v', h3, _⟩ := VT_single hx h1
    rw [h3]
    rcases hsz with hsz | hsz
    · rw [hx] at hsz; cases hsz
    · simp [hsz]

/-- The zero value of a type, as a tree. -/
def ZeroOk (P : Program) (t : TypeId) (x : T) : Prop :=
  t < P.types.size ∧ x.cell = true ∧ ∃ i z, P.info? t = some i ∧ i.zero = some z ∧ z.cells.toList.length = szOf P t ∧ ∀ κ, VV P κ x t z
theorem OPE.alloc {e : TypeId} {x : T} (hz : ZeroOk P e x) (hk : Kp (.ptr σ.h.length [], 0) (σ.h ++ [⟨.one e, x⟩]) σ.u) : OPE P ⟨d, .alloc e, ty, p, af, g⟩ σ Kp :=
  .run fun κ a w hs => by
    obtain ⟨h1, h2, i, z, h3, h4, h5, h6⟩ := hz
    obtain ⟨e1, e2⟩ := hs.wr.alloc (ty := .one e) (e := e) h1 ⟨(h6 κ).1, h5⟩
    refine ⟨.pointer (some ⟨w.heap.size, 0, none⟩), _, _, _, _, _, ?_, e1, e2, ?_, hk⟩
    · simp [execOp, Instr.alloc, zeroValue, typeInfo, h3, h4, newVar, newRow]
    · have hn := hs.wr.n
      refine ⟨?_, rfl⟩
      simp only [VT]
      refine ⟨0, e, by rw [← hn]; exact Nat.lt_succ_self _, ?_, ?_⟩
      · rw [← hn]; simp [K.obj, walkO, walkPath]
      · rw [← hn]; simp [K.obj, Value.cells]
theorem OPE.box {e : TypeId} {k : Nat} {x : T} {tx : TypeId} (hx : lk σ.t k = some (x, tx)) (hT : SameT P tx e) (he : e < P.types.size) (hsz : x.aggB = true ∨ szOf P e = 1) (hk : Kp (.ptr σ.h.length [], 0) (σ.h ++ [⟨.one e, x⟩]) σ.u) :
    OPE P ⟨d, .box e (.tmp k), ty, p, af, g⟩ σ Kp :=
  .run fun κ a w hs => by
    have hv := VV_same hT (hs.eval hx)
    obtain ⟨e1, e2⟩ := hs.wr.alloc (ty := .one e) (e := e) he ⟨hv.1, VV_len hv hsz⟩
    refine ⟨.pointer (some ⟨w.heap.size, 0, none⟩), _, _, _, _, _, ?_, e1, e2, ?_, hk⟩
    · simp [execOp, Instr.box, newVar, newRow]
    · have hn := hs.wr.n
      refine ⟨?_, rfl⟩
      simp only [VT]
      refine ⟨0, e, by rw [← hn]; exact Nat.lt_succ_self _, ?_, ?_⟩
      · rw [← hn]; simp [K.obj, walkO, walkPath]
      · rw [← hn]; simp [K.obj, Value.cells]

theorem run_storeAt (hP : WfP P) {w : World} {b o : Nat} {t e : TypeId} {cur : Array Value} {v : Value} (hb : w.heap[b]? = some (.cells cur e (0, 0))) (ht : t < P.types.size) (hl : v.cells.toList.length = szOf P t) (ho : ∀ u ∈ v.cells.toList, one u = true)
    (hc : o + v.cells.toList.length ≤ cur.size) : (Instr.storeAt t (.pointer (some ⟨b, o, none⟩)) v).run P w = .ok () (w.setRow b (splice cur.toList o v.cells.toList).toArray) := by
  have h := run_storeCells_at (P := P) b o e v.cells.toList 0 cur w hb (by omega) (fun u hu => by rw [one_eq]; exact ho u hu)
  simp only [Nat.add_zero] at h
  have hsz : ¬ (v.cells.size ≠ szOf P t) := by simp at hl; simp [hl]
  simp only [Instr.storeAt, Instr.sureAddr, Sem.run_bind, Sem.run_pure, Result.andThen_ok, storeVar, run_sizeOf hP ht, if_neg hsz, h]
  rfl
theorem tag_cap {κ : K} {e : TypeId} {tag : Tag} {A : Option Addr} {c : Nat} {xs : List T} {us : List Value} (hz : szOf P e ≠ 0) (q3 : TagOk κ (szOf P e) tag A xs.length c) (q4 : VA P κ xs e us) (q5 : Holds κ A us) : xs.length ≤ c := by
  cases tag with
  | no => exact q3
  | full => exact Nat.le_of_eq q3.symm
  | nil =>
    obtain ⟨rfl, _⟩ := q3
    rcases q5 with rfl | ⟨_, _, hA, _⟩
    · have := VA_len q4
      rcases Nat.mul_eq_zero.1 this.symm with h | h
      · omega
      · exact absurd h hz
    · cases hA
  | tip τ => exact q3.1
/-- Less is said of a value: a list's room is forgotten. -/
structure Wk (P : Program) (ty : TypeId) (x y : T) : Prop where
  vt : ∀ (κ : K) (vs : List Value), VT P κ x ty vs → VT P κ y ty vs
  agg : x.aggB = y.aggB
theorem Wk.refl {ty : TypeId} {x : T} : Wk P ty x x := ⟨fun _ _ h => h, rfl⟩
theorem Wk.no {ty e : TypeId} {xs : List T} {tag : Tag} (hu : P.underlying ty = some (.slice e)) (hz : szOf P e ≠ 0) : Wk P ty (.lst xs tag) (.lst xs .no) := ⟨fun κ vs h => by
  simp only [VT] at h ⊢
  obtain ⟨e', A, c, us, h1, h2, h3, h4, h5⟩ := h
  rw [hu] at h1; cases h1
  exact ⟨e, A, c, us, hu, h2, tag_cap hz h3 h4 h5, h4, h5⟩, rfl⟩
def sliced (P : Program) (ty : TypeId) : Bool := match P.underlying ty with
  | some (.slice e) => !(Nat.beq (szOf P e) 0)
  | _ => false
theorem Wk.noS {ty : TypeId} {xs : List T} {tag : Tag} (h : sliced P ty = true) : Wk P ty (.lst xs tag) (.lst xs .no) := by
  unfold sliced at h
  split at h
  · rename_i e hu
    exact Wk.no hu (fun h0 => by rw [h0] at h; cases h)
  · cases h
theorem Wk.val {ty : TypeId} {x y : T} (h : Wk P ty x y) {κ : K} {v : Value} (k : VV P κ x ty v) : VV P κ y ty v := ⟨h.vt κ _ k.1, by rw [← h.agg]; exact k.2⟩
inductive WkF (P : Program) : List Field → List T → List T → Prop where
  | nil : WkF P [] [] []
  | cons {f : Field} {fs : List Field} {x y : T} {xs ys : List T} (h : Wk P f.type x y) (k : WkF P fs xs ys) : WkF P (f :: fs) (x :: xs) (y :: ys)
theorem WkF.vf {κ : K} {vs : List Value} : ∀ {fs : List Field} {xs ys : List T}, WkF P fs xs ys → VF P κ xs fs vs → VF P κ ys fs vs
  | _, _, _, .nil => fun h => h
  | _, _, _, .cons h k => fun hh => by
    simp only [VF] at hh ⊢
    exact ⟨h.vt _ _ hh.1, k.vf hh.2⟩
theorem Wk.st {ty : TypeId} {fs : Array Field} {xs ys : List T} (hu : P.underlying ty = some (.struct fs)) (h : WkF P fs.toList xs ys) : Wk P ty (.st xs) (.st ys) := ⟨fun κ vs hh => by
  simp only [VT] at hh ⊢
  obtain ⟨f, h1, h2, h3, h4⟩ := hh
  rw [hu] at h1; cases h1
  exact ⟨fs, hu, h2, h3, h.vf h4⟩, rfl⟩
/-- What is stored. -/
inductive ArgAt (P : Program) (σ : St) : Operand → TypeId → T → Prop where
  | tmp {k : Nat} {x : T} {tx ty : TypeId} (h : lk σ.t k = some (x, tx)) (hT : SameT P tx ty) : ArgAt P σ (.tmp k) ty x
  | const {v : Value} {ty : TypeId} (h : one v = true) : ArgAt P σ (.const v) ty (.s v)
  | nil {ty e : TypeId} (h : P.underlying ty = some (.slice e)) : ArgAt P σ (.const (.slice none 0 0)) ty (.lst [] .nil)
  | func {f : Nat} {ty : TypeId} : ArgAt P σ (.func f) ty (.fn (.func f) [] [])
  | wk {k : Nat} {x y : T} {tx ty : TypeId} (h : lk σ.t k = some (x, tx)) (hT : SameT P tx ty) (hw : Wk P ty x y) : ArgAt P σ (.tmp k) ty y
  | nilno {ty : TypeId} (h : sliced P ty = true) : ArgAt P σ (.const (.slice none 0 0)) ty (.lst [] .no)
theorem ArgAt.eval {κ : K} {a : Act} {w : World} (hs : SR P κ σ a w) {x : Operand} {ty : TypeId} {t : T} (h : ArgAt P σ x ty t) : VV P κ t ty (a.eval x) := by
  cases h with
  | tmp h hT => exact VV_same hT (hs.eval h)
  | const h => exact VV_s_mk h
  | nil h => exact VV_nil h
  | func => exact ⟨by simp only [VT]; exact ⟨[], [], rfl, by simp only [VC], by simp only [VC]⟩, rfl⟩
  | wk h hT hw => exact hw.val (VV_same hT (hs.eval h))
  | nilno h =>
    have h' := h
    unfold sliced at h
    split at h
    · rename_i e hu
      exact (Wk.noS h').val (VV_nil hu)
    · cases h
theorem OPE.store (hP : WfP P) {t : TypeId} {k b off : Nat} {y : Operand} {path : List Nat} {o : AO} {x z : T} {pt : TypeId} (ha : lk σ.t k = some (.ptr b path, pt)) (hy : ArgAt P σ y t x) (hb : σ.h[b]? = some o) (hw : walkO P o.ty path = some (off, t))
    (ht : t < P.types.size) (hz : o.t.put path x = some z) (hc : x.cell = true) (hsz : x.aggB = true ∨ szOf P t = 1) (hk : Kp (.any, 0) (σ.h.set b ⟨o.ty, z⟩) σ.u) : OPE P ⟨none, .store t (.tmp k) y, ty, p, af, g⟩ σ Kp := fun κ a w next R hs hn => by
  obtain ⟨o', t', hbn, hw', hev⟩ := VV_ptr (hs.eval ha)
  have hv := hy.eval hs
  have hl := VV_len hv hsz
  have hty := alive hw (hs.wr.obj b o hb).2.1
  rw [hty, hw] at hw'
  cases hw'
  obtain ⟨cur, e, q1, q2, q3, q4⟩ := hs.wr.store hP hb hw hz hv.1 hl (VT_ones hc hv.1)
  have hr := run_storeAt hP q1 ht hl (VT_ones hc hv.1) q2
  unfold Oper.wp
  simp only [execOp, hev, Sem.run_bind, hr, Result.andThen_ok, Sem.run_pure, Oper.upon]
  exact hn κ undef (.any, 0) _ σ.u _ q3 q4 ⟨by simp only [VT]; rfl, rfl⟩ hk

/-! Parts of a tuple, a struct, an array -/
theorem VV_tup {κ : K} {tt : TypeId} {ts : List T} {v : Value} (h : VV P κ (.tup ts) tt v) : ∃ es us, P.underlying tt = some (.tuple es) ∧ v = .tuple us.toArray ∧ VL P κ ts es.toList us := by
  obtain ⟨q1, q2⟩ := h
  simp only [VT] at q1
  obtain ⟨es, us, h1, h2, h3⟩ := q1
  exact ⟨es, us, h1, one_cell q2 h2, h3⟩
theorem VL_get {κ : K} : ∀ {ts : List T} {es : List TypeId} {us : List Value} {i : Nat} {t : T}, VL P κ ts es us → ts[i]? = some t → ∃ e v, es[i]? = some e ∧ us[i]? = some v ∧ VV P κ t e v
  | [], _, _, _, _ => fun _ h => by simp at h
  | _ :: _, [], _, _, _ => fun h => by simp only [VL] at h
  | _ :: _, _ :: _, [], _, _ => fun h => by simp only [VL] at h
  | a :: ts, e :: es, v :: us, 0, t => fun h hi => by
    simp only [VL] at h
    simp at hi; subst hi
    exact ⟨e, v, rfl, rfl, h.1⟩
  | a :: ts, e :: es, v :: us, i + 1, t => fun h hi => by
    simp only [VL] at h
    simp only [List.getElem?_cons_succ] at hi ⊢
    exact VL_get h.2 hi
theorem OPE.extract {k i : Nat} {ts : List T} {t : T} {tt e : TypeId} {es : Array TypeId} (ha : lk σ.t k = some (.tup ts, tt)) (hu : P.underlying tt = some (.tuple es)) (hi : ts[i]? = some t) (he : es[i]? = some e) (hk : Kp (t, e) σ.h σ.u) :
    OPE P ⟨d, .extract (.tmp k) i, ty, p, af, g⟩ σ Kp :=
  .pure (fun κ a w hs => by
    obtain ⟨es', us, h1, h2, h3⟩ := VV_tup (hs.eval ha)
    rw [hu] at h1
    cases h1
    obtain ⟨e', v, h4, h5, h6⟩ := VL_get h3 hi
    have : e' = e := by
      have : es[i]? = some e' := by simpa using h4
      rw [he] at this; exact (Option.some.inj this).symm
    subst this
    refine ⟨v, ?_, h6⟩
    simp only [execOp, h2, Instr.extract]
    have : us.toArray[i]? = some v := by simpa using h5
    simp [this]) hk

/-! Lists -/
theorem VV_lst {κ : K} {ts : TypeId} {xs : List T} {tag : Tag} {v : Value} (h : VV P κ (.lst xs tag) ts v) : ∃ e A c us, P.underlying ts = some (.slice e) ∧ v = .slice A xs.length c ∧ TagOk κ (szOf P e) tag A xs.length c ∧ VA P κ xs e us ∧ Holds κ A us := by
  obtain ⟨q1, q2⟩ := h
  simp only [VT] at q1
  obtain ⟨e, A, c, us, h1, h2, h3, h4, h5⟩ := q1
  exact ⟨e, A, c, us, h1, one_cell q2 h2, h3, h4, h5⟩
theorem VV_lst_mk {κ : K} {ts e : TypeId} {xs : List T} {tag : Tag} {A : Option Addr} {n c : Nat} {us : List Value} (h1 : P.underlying ts = some (.slice e)) (hn : n = xs.length) (h3 : TagOk κ (szOf P e) tag A n c) (h4 : VA P κ xs e us) (h5 : Holds κ A us) :
    VV P κ (.lst xs tag) ts (.slice A n c) := ⟨by subst hn; simp only [VT]; exact ⟨e, A, c, us, h1, rfl, h3, h4, h5⟩, rfl⟩
theorem OPE.len {k : Nat} {xs : List T} {tag : Tag} {ts st e : TypeId} (ha : lk σ.t k = some (.lst xs tag, ts)) (hu : P.underlying st = some (.slice e)) (hk : Kp (.s (.int .i64 (xs.length : Nat)), ty) σ.h σ.u) :
    OPE P ⟨d, .call { callee := .builtin .len, args := #[.tmp k], argTypes := #[st] }, ty, p, af, g⟩ σ Kp :=
  .pure (fun κ a w hs => by
    obtain ⟨e', A, c, us, h1, h2, _⟩ := VV_lst (hs.eval ha)
    refine ⟨.int .i64 (xs.length : Nat), ?_, VV_s_mk rfl⟩
    simp [execOp, resolve, invoke, builtin, Builtin.len_, h2, Go.run_underlying hu, Sem.run_bind, goInt]) hk
/-- An element's address. -/
theorem OPE.indexL (hP : WfP P) {k : Nat} {y : Operand} {i : Int} {ik : IntKind} {xs : List T} {x : T} {tag : Tag} {ts st e : TypeId} (ha : lk σ.t k = some (.lst xs tag, ts)) (hy : IntAt σ y ik i) (hT : SameT P ts st) (hst : st < P.types.size) (hu : P.underlying st = some (.slice e)) (hz : szOf P e ≠ 0)
    (h0 : 0 ≤ i) (hx : xs[i.toNat]? = some x) (hk : Kp (.ep e x, 0) σ.h σ.u) : OPE P ⟨d, .indexAddr st (.tmp k) y, ty, p, af, g⟩ σ Kp :=
  .pure (fun κ a w hs => by
    obtain ⟨e', A, c, us, h1, h2, h3, h4, h5⟩ := VV_lst (VV_same hT (hs.eval ha))
    rw [hu] at h1
    cases h1
    have hlt : i.toNat < xs.length := (List.getElem?_eq_some_iff.1 hx).1
    obtain ⟨q1, q2⟩ := VA_get h4 hx
    have hget : ∀ b o, A = some ⟨b, o, none⟩ → HoldsAt κ b o us → (Instr.indexAt st (.slice A xs.length c) (.int ik i)).run P w = .ok (.pointer (some ⟨b, o + i.toNat * szOf P e, none⟩)) w := fun b o hA _ => by
      subst hA
      have he : e < P.types.size := hP.sli st e hst hu
      have hcond : 0 ≤ i ∧ i < (xs.length : Int) := ⟨h0, by omega⟩
      simp only [Instr.indexAt, asIntOf, Sem.run_bind, Sem.run_pure, Result.andThen_ok, Go.run_underlying hu, if_pos hcond, run_sizeOf hP he, Addr.add_mid]
    have hA : ∃ b o, A = some ⟨b, o, none⟩ ∧ HoldsAt κ b o us := by
      rcases h5 with h5 | h5
      · subst h5
        have hl := VA_len h4
        simp only [List.length_nil] at hl
        rcases Nat.mul_eq_zero.1 hl.symm with h | h
        · omega
        · exact absurd h hz
      · exact h5
    obtain ⟨b, o, hA, hh⟩ := hA
    refine ⟨_, by simp only [execOp, h2, hy.eval hs, Sem.run_bind, hget b o hA hh, Result.andThen_ok]; rfl, VV_ep_mk q1 fun j v hj => ?_⟩
    rw [part_get] at hj
    by_cases hjn : j < szOf P e
    · rw [if_pos hjn] at hj
      rw [Nat.add_assoc]; exact hh _ _ hj
    · rw [if_neg hjn] at hj; cases hj) hk
end Go.Am
