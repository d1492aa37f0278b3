/- A layer over the walk's rules. This text: slices over rows that may be written. -/
import Derived.Test.YtlpakbhlpgpiaaaAmU
import Derived.Laws.MakeOwn
import Derived.Laws.Slices
set_option linter.unusedVariables false
set_option linter.unusedSimpArgs false
namespace Go.Am
variable {P : Program} {σ : St}
variable {d : Option Nat} {ty : TypeId} {p : String} {af : Array Edge} {g : Option (Nat × Bool)} {Kp : X → List AO → (Tips) → Prop}

theorem made_get {z : Array Value} {n j : Nat} (h : j < n) : ((madeCells z n).toList)[j]? = some z[j % z.size]! := by
  simp [madeCells, h]
theorem made_VA (κ : K) {e : TypeId} {x : T} {z : Array Value} {c : Nat} (hz : z.toList.length = szOf P e) (h0 : szOf P e ≠ 0) (hv : VT P κ x e z.toList) : VA P κ (List.replicate c x) e (madeCells z (c * szOf P e)).toList := by
  have hl : (madeCells z (c * szOf P e)).toList.length = c * szOf P e := by simp [madeCells]
  have hs : z.size = szOf P e := by simpa using hz
  refine VA_of_get (by rw [hl]; simp) fun i t hi => ?_
  have hic : i < c := by have := (List.getElem?_eq_some_iff.1 hi).1; simpa using this
  have ht : t = x := by rw [List.getElem?_replicate, if_pos hic] at hi; exact (Option.some.inj hi).symm
  subst ht
  have hm : i * szOf P e + szOf P e ≤ c * szOf P e := by rw [← Nat.succ_mul]; exact Nat.mul_le_mul_right _ hic
  have heq : ((madeCells z (c * szOf P e)).toList.drop (i * szOf P e)).take (szOf P e) = z.toList := by
    apply List.ext_getElem?
    intro j
    rw [part_get]
    by_cases hj : j < szOf P e
    · rw [if_pos hj, made_get (by omega), hs, Nat.mul_add_mod_self_right, Nat.mod_eq_of_lt hj, List.getElem?_eq_getElem (by omega)]
      simp [hs, hj]
    · rw [if_neg hj, List.getElem?_eq_none (by omega)]
  rw [heq]; exact hv
theorem VV_vw {κ : K} {b off len cap : Nat} {t : TypeId} {v : Value} (h : VV P κ (.vw b off len cap) t v) : ∃ e n, P.underlying t = some (.slice e) ∧ b < κ.n ∧ κ.ty b = .row e n ∧ off + cap ≤ n ∧ len ≤ cap ∧ v = .slice (some ⟨κ.ι b, off * szOf P e, none⟩) len cap := by
  obtain ⟨q1, q2⟩ := h
  simp only [VT] at q1
  obtain ⟨e, n, h1, h2, h3, h4, h5, h6⟩ := q1
  exact ⟨e, n, h1, h2, h3, h4, h5, one_cell q2 h6⟩
theorem VV_vw_mk {κ : K} {b off len cap n : Nat} {t e : TypeId} (h1 : P.underlying t = some (.slice e)) (h2 : b < κ.n) (h3 : κ.ty b = .row e n) (h4 : off + cap ≤ n) (h5 : len ≤ cap) : VV P κ (.vw b off len cap) t (.slice (some ⟨κ.ι b, off * szOf P e, none⟩) len cap) :=
  ⟨by simp only [VT]; exact ⟨e, n, h1, h2, h3, h4, h5, rfl⟩, rfl⟩

theorem OPE.makeSlice (hP : WfP P) {t e : TypeId} {x : T} {y1 y2 : Operand} {i1 i2 : IntKind} {l0 c : Int} {i : TypeInfo} (hy1 : IntAt σ y1 i1 l0) (hy2 : IntAt σ y2 i2 c) (hu : P.underlying t = some (.slice e)) (hz : ZeroOk P e x) (hi : P.info? e = some i) (hs0 : szOf P e ≠ 0)
    (h0 : 0 ≤ l0) (hlc : l0 ≤ c) (hb : (i.bytes : Int) * c ≤ 281474976710656) (hc : c ≤ 9223372036854775807) (hk : Kp (.vw σ.h.length 0 l0.toNat c.toNat, t) (σ.h ++ [⟨.row e c.toNat, .arr (List.replicate c.toNat x)⟩]) σ.u) :
    OPE P ⟨d, .makeSlice t y1 y2, ty, p, af, g⟩ σ Kp :=
  .run fun κ a w hs => by
    obtain ⟨h1, h2, i', z, h3, h4, h5, h6⟩ := hz
    rw [hi] at h3
    cases h3
    have hsz : i.size = szOf P e := by unfold szOf; rw [hi]
    have hr := run_make (P := P) w t e i z hu hi h4 i1 i2 l0 c h0 hlc hb hc
    rw [hsz] at hr
    have hzl : z.cells.toList.length = szOf P e := h5
    obtain ⟨e1, e2⟩ := hs.wr.alloc (ty := .row e c.toNat) (t := .arr (List.replicate c.toNat x)) (e := e) (vs := (madeCells z.cells (c.toNat * szOf P e)).toList) h1
      ⟨_, rfl, by simp, by simp [madeCells], fun v hv => by
        obtain ⟨j, hj⟩ := List.getElem?_of_mem hv
        have hjl := (List.getElem?_eq_some_iff.1 hj).1
        rw [made_get (by simpa [madeCells] using hjl)] at hj
        have hs2 : z.cells.size = szOf P e := by simpa using hzl
        have hlt : j % z.cells.size < z.cells.size := Nat.mod_lt _ (by omega)
        have : v ∈ z.cells.toList := by
          rw [← Option.some.inj hj, getElem!_pos z.cells _ hlt]; simp
        exact VT_ones h2 (h6 κ).1 v this, made_VA κ hzl hs0 (h6 κ).1⟩
    have hn := hs.wr.n
    refine ⟨.slice (some ⟨w.heap.size, 0, none⟩) l0.toNat c.toNat, _, _, (.vw σ.h.length 0 l0.toNat c.toNat, t), _, _, ?_, e1, e2, ?_, hk⟩
    · simp only [execOp, hy1.eval hs, hy2.eval hs, Sem.run_bind, hr, Result.andThen_ok]
      simp
    · have := VV_vw_mk (P := P) (κ := κ.obj w.heap.size (.row e c.toNat)) (b := κ.n) (off := 0) (len := l0.toNat) (cap := c.toNat) (n := c.toNat) hu (Nat.lt_succ_self _) (if_pos rfl) (by omega) (by omega)
      rw [Nat.zero_mul, show (κ.obj w.heap.size (.row e c.toNat)).ι κ.n = w.heap.size from if_pos rfl, hn] at this
      exact this

theorem OPE.lenV {k : Nat} {b off len cap : Nat} {ts st e : TypeId} (ha : lk σ.t k = some (.vw b off len cap, ts)) (hu : P.underlying st = some (.slice e)) (hk : Kp (.s (.int .i64 (len : Nat)), ty) σ.h σ.u) :
    OPE P ⟨d, .call { callee := .builtin .len, args := #[.tmp k], argTypes := #[st] }, ty, p, af, g⟩ σ Kp :=
  .pure (fun κ a w hs => by
    obtain ⟨e', n, h1, h2, h3, h4, h5, h6⟩ := VV_vw (hs.eval ha)
    refine ⟨.int .i64 (len : Nat), ?_, VV_s_mk rfl⟩
    simp [execOp, resolve, invoke, builtin, Builtin.len_, h6, Go.run_underlying hu, Sem.run_bind, goInt]) hk

theorem OPE.indexVw (hP : WfP P) {k : Nat} {y : Operand} {i : Int} {ik : IntKind} {b off len cap : Nat} {ts st e : TypeId} (ha : lk σ.t k = some (.vw b off len cap, ts)) (hy : IntAt σ y ik i) (hT : SameT P ts st) (hst : st < P.types.size) (hu : P.underlying st = some (.slice e))
    (h0 : 0 ≤ i) (h1 : i < len) (hk : Kp (.ptr b [off + i.toNat], 0) σ.h σ.u) : OPE P ⟨d, .indexAddr st (.tmp k) y, ty, p, af, g⟩ σ Kp :=
  .pure (fun κ a w hs => by
    obtain ⟨e', n, q1, q2, q3, q4, q5, q6⟩ := VV_vw (VV_same hT (hs.eval ha))
    rw [hu] at q1
    cases q1
    have he : e < P.types.size := hP.sli st e hst hu
    have hcond : 0 ≤ i ∧ i < (len : Int) := ⟨h0, h1⟩
    refine ⟨.pointer (some ⟨κ.ι b, off * szOf P e + i.toNat * szOf P e, none⟩), ?_, VV_ptr_mk (t' := e) q2 ?_⟩
    · simp only [execOp, q6, hy.eval hs, Instr.indexAt, asIntOf, Sem.run_bind, Sem.run_pure, Result.andThen_ok, Go.run_underlying hu, if_pos hcond, run_sizeOf hP he, Addr.add_mid]
    · have hlt : Nat.blt (off + i.toNat) n = true := by
        have : off + i.toNat < n := by omega
        simpa [Nat.blt_eq] using this
      rw [q3]
      simp only [walkO, hlt, walkPath, Nat.add_zero, Nat.add_mul]) hk
end Go.Am
namespace Go.Am
variable {P : Program} {σ : St}
variable {d : Option Nat} {ty : TypeId} {p : String} {af : Array Edge} {g : Option (Nat × Bool)} {Kp : X → List AO → (Tips) → Prop}
/-- A bound that may be left out. -/
inductive OptAt (σ : St) : Option Operand → Int → Int → Prop where
  | no {d : Int} : OptAt σ none d d
  | yes {x : Operand} {k : IntKind} {n d : Int} (h : IntAt σ x k n) : OptAt σ (some x) d n
theorem OptAt.eval {κ : K} {a : Act} {w : World} (hs : SR P κ σ a w) {x : Option Operand} {d n : Int} (h : OptAt σ x d n) : (x.map a.eval = none ∧ x = none ∧ n = d) ∨ ∃ k, x.map a.eval = some (.int k n) := by
  cases h with
  | no => exact .inl ⟨rfl, rfl, rfl⟩
  | yes h => exact .inr ⟨_, by rw [Option.map_some, h.eval hs]⟩
theorem run_bounds2 {κ : K} {a : Act} {w : World} (hs : SR P κ σ a w) {lo hi : Option Operand} {l0 h : Int} {len cap : Nat} (hl : OptAt σ lo 0 l0) (hh : OptAt σ hi len h) (h0 : 0 ≤ l0) (h1 : l0 ≤ h) (h2 : h ≤ cap) (w' : World) :
    (Instr.sliceBounds true len cap (lo.map a.eval) (hi.map a.eval) none).run P w' = .ok (l0.toNat, h.toNat, cap) w' := by
  have e1 : h ≤ ((h.toNat : Nat) : Int) := by omega
  rcases hl.eval hs with ⟨q1, _, rfl⟩ | ⟨k1, q1⟩ <;> rcases hh.eval hs with ⟨q2, _, rfl⟩ | ⟨k2, q2⟩ <;> rw [q1, q2] <;> simp only [Instr.sliceBounds, Sem.run_bind, Sem.run_pure, Result.andThen_ok]
  · simp
  · rw [run_sliceBound _ k2 h cap _ (by omega) h2]; rfl
  · rw [run_sliceBound _ k1 l0 len _ h0 h1]; simp
  · rw [run_sliceBound _ k2 h cap _ (by omega) h2]
    simp only [Result.andThen_ok]
    rw [run_sliceBound _ k1 l0 h.toNat _ h0 (by omega)]; rfl
theorem run_bounds3 {κ : K} {a : Act} {w : World} (hs : SR P κ σ a w) {lo : Option Operand} {hi mx : Operand} {l0 h m : Int} {i1 i2 : IntKind} {len cap : Nat} (hl : OptAt σ lo 0 l0) (hh : IntAt σ hi i1 h) (hm : IntAt σ mx i2 m) (h0 : 0 ≤ l0) (h1 : l0 ≤ h) (h2 : h ≤ m) (h3 : m ≤ cap) (w' : World) :
    (Instr.sliceBounds true len cap (lo.map a.eval) ((some hi).map a.eval) ((some mx).map a.eval)).run P w' = .ok (l0.toNat, h.toNat, m.toNat) w' := by
  rw [Option.map_some, Option.map_some, hh.eval hs, hm.eval hs]
  rcases hl.eval hs with ⟨q1, _, rfl⟩ | ⟨k1, q1⟩ <;> rw [q1] <;> simp only [Instr.sliceBounds, Sem.run_bind, Sem.run_pure, Result.andThen_ok]
  · rw [run_sliceBound _ i2 m cap _ (by omega) h3]
    simp only [Result.andThen_ok]
    rw [run_sliceBound _ i1 h m.toNat _ (by omega) (by omega)]; rfl
  · rw [run_sliceBound _ i2 m cap _ (by omega) h3]
    simp only [Result.andThen_ok]
    rw [run_sliceBound _ i1 h m.toNat _ (by omega) (by omega)]
    simp only [Result.andThen_ok]
    rw [run_sliceBound _ k1 l0 h.toNat _ h0 (by omega)]; rfl
theorem run_sliceAt {t e : TypeId} (hP : WfP P) (ht : t < P.types.size) (hu : P.underlying t = some (.slice e)) {A : Option Addr} {len cap l0 h m : Nat} {lo hi mx : Option Value} {w : World} (hb : (Instr.sliceBounds true len cap lo hi mx).run P w = .ok (l0, h, m) w) :
    (Instr.sliceAt t (.slice A len cap) lo hi mx).run P w = .ok (.slice (if m = l0 then A else A.map (·.add (l0 * szOf P e))) (h - l0) (m - l0)) w := by
  have he := hP.sli t e ht hu
  simp only [Instr.sliceAt, Instr.slice, Sem.run_bind, Go.run_underlying hu, Result.andThen_ok, hb, run_sizeOf hP he, Sem.run_pure]

theorem Holds.part {κ : K} {A : Option Addr} {us : List Value} (hh : Holds κ A us) {q : Prop} [Decidable q] {l0 n : Nat} (hm : q → n = 0) : Holds κ (if q then A else A.map (·.add l0)) ((us.drop l0).take n) := by
  by_cases h0 : q
  · rw [if_pos h0, hm h0]; exact .inl (by simp)
  · rw [if_neg h0]
    rcases hh with rfl | ⟨g, o, rfl, hh⟩
    · exact .inl (by simp)
    · refine .inr ⟨g, o + l0, by simp [Addr.add_mid], fun j v hj => ?_⟩
      rw [part_get] at hj
      by_cases hjn : j < n
      · rw [if_pos hjn] at hj
        rw [Nat.add_assoc]; exact hh _ _ hj
      · rw [if_neg hjn] at hj; cases hj
theorem OPE.sliceL (hP : WfP P) {k : Nat} {xs : List T} {tag : Tag} {ts st e : TypeId} {lo hi : Option Operand} {l0 h : Int} (ha : lk σ.t k = some (.lst xs tag, ts)) (hT : SameT P ts st) (hst : st < P.types.size) (hu : P.underlying st = some (.slice e)) (hz : szOf P e ≠ 0)
    (hl : OptAt σ lo 0 l0) (hh : OptAt σ hi xs.length h) (h0 : 0 ≤ l0) (h1 : l0 ≤ h) (h2 : h ≤ xs.length) (hk : Kp (.lst ((xs.drop l0.toNat).take (h.toNat - l0.toNat)) .no, st) σ.h σ.u) : OPE P ⟨d, .slice st (.tmp k) lo hi none, ty, p, af, g⟩ σ Kp :=
  .pure (fun κ a w hs => by
    obtain ⟨e', A, c, us, q1, q2, q3, q4, q5⟩ := VV_lst (VV_same hT (hs.eval ha))
    rw [hu] at q1
    cases q1
    have hc := tag_cap hz q3 q4 q5
    have hb := run_bounds2 hs hl hh h0 h1 (show h ≤ (c : Int) by omega) w
    refine ⟨.slice (if c = l0.toNat then A else A.map (·.add (l0.toNat * szOf P e))) (h.toNat - l0.toNat) (c - l0.toNat), by
      simp only [execOp, q2, Sem.run_bind, Option.map_none]; rw [run_sliceAt hP hst hu hb]; rfl, ?_⟩
    have hlen : ((xs.drop l0.toNat).take (h.toNat - l0.toNat)).length = h.toNat - l0.toNat := by simp; omega
    have hva := VA_take (h.toNat - l0.toNat) (VA_drop l0.toNat q4)
    exact VV_lst_mk hu hlen.symm (show h.toNat - l0.toNat ≤ c - l0.toNat by omega) hva (q5.part fun hq => by rw [show h.toNat - l0.toNat = 0 by omega, Nat.zero_mul])) hk
/-- x[l0:h:h]. -/
theorem OPE.sliceF (hP : WfP P) {k : Nat} {xs : List T} {tag : Tag} {ts st e : TypeId} {lo : Option Operand} {hi mx : Operand} {l0 h m : Int} {i1 i2 : IntKind} (ha : lk σ.t k = some (.lst xs tag, ts)) (hT : SameT P ts st) (hst : st < P.types.size) (hu : P.underlying st = some (.slice e)) (hz : szOf P e ≠ 0)
    (hl : OptAt σ lo 0 l0) (hh : IntAt σ hi i1 h) (hm : IntAt σ mx i2 m) (hmh : m = h) (h0 : 0 ≤ l0) (h1 : l0 ≤ h) (h2 : h ≤ xs.length) (hk : Kp (.lst ((xs.drop l0.toNat).take (h.toNat - l0.toNat)) .full, st) σ.h σ.u) : OPE P ⟨d, .slice st (.tmp k) lo (some hi) (some mx), ty, p, af, g⟩ σ Kp :=
  .pure (fun κ a w hs => by
    subst hmh
    obtain ⟨e', A, c, us, q1, q2, q3, q4, q5⟩ := VV_lst (VV_same hT (hs.eval ha))
    rw [hu] at q1
    cases q1
    have hc := tag_cap hz q3 q4 q5
    have hb := run_bounds3 (len := xs.length) hs hl hh hm h0 h1 (Int.le_refl _) (show m ≤ (c : Int) by omega) w
    refine ⟨.slice (if m.toNat = l0.toNat then A else A.map (·.add (l0.toNat * szOf P e))) (m.toNat - l0.toNat) (m.toNat - l0.toNat), by
      simp only [execOp, q2, Sem.run_bind]; rw [run_sliceAt hP hst hu hb]; rfl, ?_⟩
    have hlen : ((xs.drop l0.toNat).take (m.toNat - l0.toNat)).length = m.toNat - l0.toNat := by simp; omega
    have hva := VA_take (m.toNat - l0.toNat) (VA_drop l0.toNat q4)
    exact VV_lst_mk hu hlen.symm (show m.toNat - l0.toNat = m.toNat - l0.toNat from rfl) hva (q5.part fun hq => by rw [show m.toNat - l0.toNat = 0 by omega, Nat.zero_mul])) hk
theorem vw_sliced {κ : K} {b off cap n l0 h m : Nat} {st e : TypeId} (hu : P.underlying st = some (.slice e)) (q2 : b < κ.n) (q3 : κ.ty b = .row e n) (q4 : off + cap ≤ n) (h1 : l0 ≤ h) (h2 : h ≤ m) (h3 : m ≤ cap) :
    VV P κ (.vw b (if m = l0 then off else off + l0) (h - l0) (m - l0)) st (.slice (if m = l0 then some ⟨κ.ι b, off * szOf P e, none⟩ else (some (⟨κ.ι b, off * szOf P e, none⟩ : Addr)).map (·.add (l0 * szOf P e))) (h - l0) (m - l0)) := by
  by_cases hq : m = l0
  · rw [if_pos hq, if_pos hq]
    exact VV_vw_mk hu q2 q3 (by omega) (by omega)
  · rw [if_neg hq, if_neg hq]
    have := VV_vw_mk (off := off + l0) (len := h - l0) (cap := m - l0) hu q2 q3 (by omega) (by omega)
    rw [Nat.add_mul] at this
    simpa [Addr.add_mid] using this
theorem OPE.sliceV (hP : WfP P) {k : Nat} {b off len cap : Nat} {ts st e : TypeId} {lo hi : Option Operand} {l0 h : Int} (ha : lk σ.t k = some (.vw b off len cap, ts)) (hT : SameT P ts st) (hst : st < P.types.size) (hu : P.underlying st = some (.slice e))
    (hl : OptAt σ lo 0 l0) (hh : OptAt σ hi len h) (h0 : 0 ≤ l0) (h1 : l0 ≤ h) (h2 : h ≤ cap) (hk : Kp (.vw b (if cap = l0.toNat then off else off + l0.toNat) (h.toNat - l0.toNat) (cap - l0.toNat), st) σ.h σ.u) : OPE P ⟨d, .slice st (.tmp k) lo hi none, ty, p, af, g⟩ σ Kp :=
  .pure (fun κ a w hs => by
    obtain ⟨e', n, q1, q2, q3, q4, q5, q6⟩ := VV_vw (VV_same hT (hs.eval ha))
    rw [hu] at q1
    cases q1
    have hb := run_bounds2 hs hl hh h0 h1 h2 w
    exact ⟨_, by simp only [execOp, q6, Sem.run_bind, Option.map_none]; rw [run_sliceAt hP hst hu hb]; rfl, vw_sliced hu q2 q3 q4 (by omega) (by omega) (Nat.le_refl _)⟩) hk
theorem OPE.sliceV3 (hP : WfP P) {k : Nat} {b off len cap : Nat} {ts st e : TypeId} {lo : Option Operand} {hi mx : Operand} {l0 h m : Int} {i1 i2 : IntKind} (ha : lk σ.t k = some (.vw b off len cap, ts)) (hT : SameT P ts st) (hst : st < P.types.size) (hu : P.underlying st = some (.slice e))
    (hl : OptAt σ lo 0 l0) (hh : IntAt σ hi i1 h) (hm : IntAt σ mx i2 m) (h0 : 0 ≤ l0) (h1 : l0 ≤ h) (h2 : h ≤ m) (h3 : m ≤ cap) (hk : Kp (.vw b (if m.toNat = l0.toNat then off else off + l0.toNat) (h.toNat - l0.toNat) (m.toNat - l0.toNat), st) σ.h σ.u) : OPE P ⟨d, .slice st (.tmp k) lo (some hi) (some mx), ty, p, af, g⟩ σ Kp :=
  .pure (fun κ a w hs => by
    obtain ⟨e', n, q1, q2, q3, q4, q5, q6⟩ := VV_vw (VV_same hT (hs.eval ha))
    rw [hu] at q1
    cases q1
    have hb := run_bounds3 (len := len) hs hl hh hm h0 h1 h2 h3 w
    exact ⟨_, by simp only [execOp, q6, Sem.run_bind]; rw [run_sliceAt hP hst hu hb]; rfl, vw_sliced hu q2 q3 q4 (by omega) (by omega) (by omega)⟩) hk
end Go.Am
