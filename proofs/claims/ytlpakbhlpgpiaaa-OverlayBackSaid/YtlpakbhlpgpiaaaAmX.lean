/- A layer over the walk's rules. This text: append. -/
import Derived.Test.YtlpakbhlpgpiaaaAmV
import Derived.Laws.AppendOwn
set_option linter.unusedVariables false
set_option linter.unusedSimpArgs false
namespace Go.Am
variable {P : Program} {σ : St}
variable {d : Option Nat} {ty : TypeId} {p : String} {af : Array Edge} {g : Option (Nat × Bool)} {Kp : X → List AO → (Tips) → Prop}

theorem holds_some {κ : K} {A : Option Addr} {xs : List T} {e : TypeId} {us : List Value} (hz : szOf P e ≠ 0) (hx : xs ≠ []) (h4 : VA P κ xs e us) (h5 : Holds κ A us) : ∃ b o, A = some ⟨b, o, none⟩ ∧ HoldsAt κ b o us := by
  rcases h5 with h5 | h5
  · subst h5
    have hl := VA_len h4
    rcases Nat.mul_eq_zero.1 hl.symm with h | h
    · exact absurd (List.eq_nil_of_length_eq_zero h) hx
    · exact absurd h hz
  · exact h5
theorem VA_ones {κ : K} {e : TypeId} : ∀ {xs : List T} {vs : List Value}, (∀ x ∈ xs, x.cell = true) → VA P κ xs e vs → ∀ v ∈ vs, one v = true
  | [], vs, _, h => by simp only [VA] at h; subst h; simp
  | x :: xs, vs, hc, h => fun v hv => by
    simp only [VA] at h
    rw [← List.take_append_drop (szOf P e) vs, List.mem_append] at hv
    rcases hv with hv | hv
    · exact VT_ones (hc x (List.mem_cons_self ..)) h.2.1 v hv
    · exact VA_ones (fun y hy => hc y (List.mem_cons_of_mem _ hy)) h.2.2 v hv
/-- What append makes where there is no room. -/
theorem grown {κ : K} {w : World} {h : List AO} {u : Tips} (H : WR P κ w h u) {t e : TypeId} {i : TypeInfo} {x : T} {xs ys : List T} {A B : Option Addr} {c c2 : Nat} {us vs : List Value}
    (hu : P.underlying t = some (.slice e)) (hi : P.info? e = some i) (hzo : ZeroOk P e x) (hz : szOf P e ≠ 0) (h1 : VA P κ xs e us) (h2 : Holds κ A us) (hA : A = none → c = 0) (h3 : VA P κ ys e vs) (h4 : Holds κ B vs) (hy : ys ≠ [])
    (hc : xs.length ≤ c) (hg : c < xs.length + ys.length) (h63 : xs.length + ys.length ≤ 9223372036854775807) (hb : (xs.length + ys.length) * i.bytes ≤ 140737488355328) (ty : TypeId) :
    ∃ (n : Nat) (rest : List Value) (w' : World), xs.length + ys.length ≤ n ∧ (n - (xs.length + ys.length)) * szOf P e = rest.length ∧ (∀ κ' : K, VA P κ' (List.replicate (n - (xs.length + ys.length)) x) e rest) ∧ (∀ v ∈ rest, one v = true) ∧ w' = w.drew.alloc (.cells ((us ++ vs) ++ rest).toArray e (0, 0)) ∧
      (Builtin.append_ #[t, t] ty #[.slice A xs.length c, .slice B ys.length c2]).run P w = .ok (.slice (some ⟨w.heap.size, 0, none⟩) (xs.length + ys.length) n) w' := by
  obtain ⟨_, qc, i', z, q1, q2, q3, q4⟩ := hzo
  rw [hi] at q1
  cases q1
  have hsz : i.size = szOf P e := by unfold szOf; rw [hi]
  obtain ⟨b, o, rfl, hB⟩ := holds_some hz hy h3 h4
  have hyl : 0 < ys.length := List.length_pos_iff.2 hy
  have hnews : ∀ j v, vs[j]? = some v → w.cell? ((⟨b, o, none⟩ : Addr).add j) = some v := fun j v hj => by
    rw [Addr.add_mid]; exact H.imm _ _ _ (hB j v hj)
  have hvl : vs.length = ys.length * i.size := by rw [hsz]; exact VA_len h3
  have hul : us.length = xs.length * i.size := by rw [hsz]; exact VA_len h1
  have hzs : z.cells.size = szOf P e := by simpa using q3
  have hfit := growslice_fits hg hb
  refine ⟨grownCap w (xs.length + ys.length) c e, (Builtin.zeroCells z.cells (grownCap w (xs.length + ys.length) c e - (xs.length + ys.length))).toList, _, grownCap_ge _ _ _ _, by simp [size_zeroCells, hzs], fun κ' => ?_, fun v hv => ?_, rfl, ?_⟩
  · have := made_VA κ' (c := grownCap w (xs.length + ys.length) c e - (xs.length + ys.length)) q3 hz (q4 κ').1
    rw [← hzs] at this; exact this
  · have := made_VA κ (c := grownCap w (xs.length + ys.length) c e - (xs.length + ys.length)) q3 hz (q4 κ).1
    rw [← hzs] at this
    exact VA_ones (fun y hy => by rw [(List.mem_replicate.1 hy).2]; exact qc) this v hv
  cases A with
  | none =>
    have hc0 := hA rfl
    subst hc0
    have hx0 : xs.length = 0 := by omega
    have hxn := List.eq_nil_of_length_eq_zero hx0
    subst hxn
    have hus : us = [] := List.eq_nil_of_length_eq_zero (by rw [hul]; simp)
    subst hus
    have hr := run_append_nil (P := P) w t ty e i z hu hi q2 ⟨b, o, none⟩ ys.length c2 vs hvl hnews hyl (by simp at h63; omega) (by simp at hb; omega)
    simp only [List.length_nil, Nat.zero_add, List.nil_append] at hr ⊢
    rw [hr]
    congr 3
    simp
  | some a =>
    have hold : ∀ j v, us[j]? = some v → w.cell? (a.add j) = some v := fun j v hj => by
      rcases h2 with rfl | ⟨b', o', hA', hh⟩
      · simp at hj
      · cases hA'
        rw [Addr.add_mid]; exact H.imm _ _ _ (hh j v hj)
    have hr := run_append_grow (P := P) w t ty e i z hu hi q2 a xs.length c us hul hold ⟨b, o, none⟩ ys.length c2 vs hvl hnews hg (by omega) hfit
    rw [hr]
    congr 3
    simp

theorem run_appendOp {a : Act} {o1 o2 : Operand} {t : TypeId} {w w' : World} {v1 v2 v : Value} (h1 : a.eval o1 = v1) (h2 : a.eval o2 = v2) (h : (Builtin.append_ #[t, t] ty #[v1, v2]).run P w = .ok v w') :
    (execOp a.eval ⟨d, .call { callee := .builtin .append, args := #[o1, o2], argTypes := #[t, t] }, ty, p, af, g⟩).run P w = .ok (.value v) w' := by
  simp only [execOp, resolve, Sem.run_bind, Sem.run_pure, Result.andThen_ok, invoke, builtin, List.map_toArray, List.map_cons, List.map_nil, h1, h2, h]

/-- Behind a list that has no room. -/
theorem OPE.appendG (hP : WfP P) {o1 o2 : Operand} {xs ys : List T} {tag tag2 : Tag} {t e : TypeId} {i : TypeInfo} {x : T} (ha : ArgAt P σ o1 t (.lst xs tag)) (hb : ArgAt P σ o2 t (.lst ys tag2))
    (hu : P.underlying t = some (.slice e)) (hi : P.info? e = some i) (hzo : ZeroOk P e x) (hz : szOf P e ≠ 0) (htag : tag = .full ∨ tag = .nil) (hy : ys ≠ []) (h63 : xs.length + ys.length ≤ 9223372036854775807) (hbig : (xs.length + ys.length) * i.bytes ≤ 140737488355328)
    (hk : Kp (.lst (xs ++ ys) (.tip σ.u.m), t) σ.h σ.u.more) :
    OPE P ⟨d, .call { callee := .builtin .append, args := #[o1, o2], argTypes := #[t, t] }, ty, p, af, g⟩ σ Kp :=
  .run fun κ a w hs => by
    obtain ⟨e1, A, c, us, q1, q2, q3, q4, q5⟩ := VV_lst (ha.eval hs)
    rw [hu] at q1; cases q1
    obtain ⟨e2, B, c2, vs, r1, r2, r3, r4, r5⟩ := VV_lst (hb.eval hs)
    rw [hu] at r1; cases r1
    have hc0 := tag_cap hz q3 q4 q5
    have hyl : 0 < ys.length := List.length_pos_iff.2 hy
    have hcl : c ≤ xs.length := by
      rcases htag with rfl | rfl
      · exact Nat.le_of_eq q3
      · have := q3.2; omega
    have hA : A = none → c = 0 := fun hA => by
      rcases q5 with rfl | ⟨_, _, h, _⟩
      · have := VA_len q4
        rcases Nat.mul_eq_zero.1 this.symm with h | h
        · omega
        · exact absurd h hz
      · rw [hA] at h; cases h
    obtain ⟨n, rest, w', n1, n2, n5, n6, rfl, n4⟩ := grown hs.wr (c2 := c2) hu hi hzo hz q4 q5 hA r4 r5 hy hc0 (by omega) h63 hbig ty
    have hva := VA_append q4 r4
    obtain ⟨e3, e4, e5⟩ := hs.wr.drew.row (us ++ vs) rest e (xs.length + ys.length) n (szOf P e) (by rw [VA_len hva, List.length_append]) (by rw [← n2, VA_len hva, List.length_append, ← Nat.add_mul]; exact Nat.mul_le_mul_right _ (by omega))
    have e6 := (Ext.drew κ σ.u w).trans e3
    refine ⟨_, _, _, (.lst (xs ++ ys) (.tip σ.u.m), t), σ.h, _, run_appendOp q2 r2 n4, e6, e4, ?_, hk⟩
    exact VV_lst_mk hu (by simp) (show _ ∧ _ from ⟨n1, w.heap.size, 0, rfl, if_pos rfl⟩) (VA_mono e3.le _ _ _ hva) (.inr ⟨_, _, rfl, e5⟩)
/-- The same, and the row may be written. -/
theorem OPE.appendV (hP : WfP P) {o1 o2 : Operand} {xs ys : List T} {tag tag2 : Tag} {t e : TypeId} {i : TypeInfo} {x : T} (ha : ArgAt P σ o1 t (.lst xs tag)) (hb : ArgAt P σ o2 t (.lst ys tag2))
    (hu : P.underlying t = some (.slice e)) (hi : P.info? e = some i) (hzo : ZeroOk P e x) (hz : szOf P e ≠ 0) (htag : tag = .full ∨ tag = .nil) (hy : ys ≠ []) (h63 : xs.length + ys.length ≤ 9223372036854775807) (hbig : (xs.length + ys.length) * i.bytes ≤ 140737488355328)
    (hcx : ∀ y ∈ xs, y.cell = true) (hcy : ∀ y ∈ ys, y.cell = true)
    (hk : ∀ m, Kp (.vw σ.h.length 0 (xs.length + ys.length) (xs.length + ys.length + m), t) (σ.h ++ [⟨.row e (xs.length + ys.length + m), .arr (xs ++ ys ++ List.replicate m x)⟩]) σ.u) :
    OPE P ⟨d, .call { callee := .builtin .append, args := #[o1, o2], argTypes := #[t, t] }, ty, p, af, g⟩ σ Kp :=
  .run fun κ a w hs => by
    obtain ⟨e1, A, c, us, q1, q2, q3, q4, q5⟩ := VV_lst (ha.eval hs)
    rw [hu] at q1; cases q1
    obtain ⟨e2, B, c2, vs, r1, r2, r3, r4, r5⟩ := VV_lst (hb.eval hs)
    rw [hu] at r1; cases r1
    have hc0 := tag_cap hz q3 q4 q5
    have hyl : 0 < ys.length := List.length_pos_iff.2 hy
    have hcl : c ≤ xs.length := by
      rcases htag with rfl | rfl
      · exact Nat.le_of_eq q3
      · have := q3.2; omega
    have hA : A = none → c = 0 := fun hA => by
      rcases q5 with rfl | ⟨_, _, h, _⟩
      · have := VA_len q4
        rcases Nat.mul_eq_zero.1 this.symm with h | h
        · omega
        · exact absurd h hz
      · rw [hA] at h; cases h
    obtain ⟨n, rest, w', n1, n2, n5, n6, rfl, n4⟩ := grown hs.wr (c2 := c2) hu hi hzo hz q4 q5 hA r4 r5 hy hc0 (by omega) h63 hbig ty
    have hva := VA_append (VA_append q4 r4) (n5 κ)
    obtain ⟨m, rfl⟩ : ∃ m, n = xs.length + ys.length + m := ⟨n - (xs.length + ys.length), by omega⟩
    have hm : xs.length + ys.length + m - (xs.length + ys.length) = m := by omega
    rw [hm] at hva n2
    obtain ⟨e3, e4⟩ := hs.wr.drew.alloc (ty := .row e (xs.length + ys.length + m)) (t := .arr (xs ++ ys ++ List.replicate m x)) (e := e) (vs := us ++ vs ++ rest) hzo.1
      ⟨_, rfl, by simp [Nat.add_assoc], by rw [VA_len hva]; simp [Nat.add_assoc], fun v hv => by
        simp only [List.mem_append] at hv
        rcases hv with (hv | hv) | hv
        · exact VA_ones hcx q4 v hv
        · exact VA_ones hcy r4 v hv
        · exact n6 v hv, hva⟩
    have e6 := (Ext.drew κ σ.u w).trans e3
    have hn := hs.wr.n
    refine ⟨_, _, _, (.vw σ.h.length 0 (xs.length + ys.length) (xs.length + ys.length + m), t), _, _, run_appendOp q2 r2 n4, e6, e4, ?_, hk m⟩
    have := VV_vw_mk (P := P) (κ := κ.obj w.heap.size (.row e (xs.length + ys.length + m))) (b := κ.n) (off := 0) (len := xs.length + ys.length) (cap := xs.length + ys.length + m) hu (Nat.lt_succ_self _) (if_pos rfl) (Nat.le_of_eq (Nat.zero_add _)) (by omega)
    rw [Nat.zero_mul, show (κ.obj w.heap.size (.row e (xs.length + ys.length + m))).ι κ.n = w.heap.size from if_pos rfl, hn] at this
    exact this

/-- Nothing is appended. -/
theorem OPE.appendE (hP : WfP P) {o1 o2 : Operand} {xs : List T} {tag tag2 : Tag} {t e : TypeId} {i : TypeInfo} (ha : ArgAt P σ o1 t (.lst xs tag)) (hb : ArgAt P σ o2 t (.lst [] tag2))
    (hu : P.underlying t = some (.slice e)) (hi : P.info? e = some i) (hz : szOf P e ≠ 0) (hk : Kp (.lst xs tag, t) σ.h σ.u) :
    OPE P ⟨d, .call { callee := .builtin .append, args := #[o1, o2], argTypes := #[t, t] }, ty, p, af, g⟩ σ Kp :=
  .pure (fun κ a w hs => by
    have hv := ha.eval hs
    obtain ⟨e1, A, c, us, q1, q2, q3, q4, q5⟩ := VV_lst hv
    rw [hu] at q1; cases q1
    obtain ⟨e2, B, c2, vs, r1, r2, r3, r4, r5⟩ := VV_lst (hb.eval hs)
    rw [hu] at r1; cases r1
    have hc0 := tag_cap hz q3 q4 q5
    refine ⟨_, run_appendOp (v := .slice A xs.length c) q2 r2 ?_, by rw [← q2]; exact hv⟩
    have hf : (Builtin.firstCells i.size 0 (.slice B 0 c2)).run P w = .ok #[] w := by
      cases B with
      | none => exact run_firstCells_none w i.size 0 0 c2
      | some b => have := run_firstCells_some (P := P) w i.size 0 b 0 c2 [] (by simp) (by simp); simpa using this
    cases A <;> simp [Builtin.append_, run_underlying hu, sizeOf, typeInfo, hi, Builtin.lenOf, hc0, hf, storeCells]) hk

/-- Behind a list that has its room for itself. -/
theorem OPE.appendT (hP : WfP P) {o1 o2 : Operand} {xs ys : List T} {τ0 : Nat} {tag2 : Tag} {t e : TypeId} {i : TypeInfo} {x : T} (ha : ArgAt P σ o1 t (.lst xs (.tip τ0))) (hb : ArgAt P σ o2 t (.lst ys tag2)) (hτ : σ.u τ0)
    (hu : P.underlying t = some (.slice e)) (hi : P.info? e = some i) (hzo : ZeroOk P e x) (hz : szOf P e ≠ 0) (hy : ys ≠ []) (hcy : ∀ y ∈ ys, y.cell = true) (h63 : xs.length + ys.length ≤ 9223372036854775807) (hbig : (xs.length + ys.length) * i.bytes ≤ 140737488355328)
    (hk : Kp (.lst (xs ++ ys) (.tip σ.u.m), t) σ.h (σ.u.used τ0)) :
    OPE P ⟨d, .call { callee := .builtin .append, args := #[o1, o2], argTypes := #[t, t] }, ty, p, af, g⟩ σ Kp :=
  .run fun κ a w hs => by
    obtain ⟨e1, A, c, us, q1, q2, q3, q4, q5⟩ := VV_lst (ha.eval hs)
    rw [hu] at q1; cases q1
    obtain ⟨e2, B, c2, vs, r1, r2, r3, r4, r5⟩ := VV_lst (hb.eval hs)
    rw [hu] at r1; cases r1
    obtain ⟨hc0, g0, o0, rfl, htip⟩ := q3
    have hyl : 0 < ys.length := List.length_pos_iff.2 hy
    have hva := VA_append q4 r4
    by_cases hroom : xs.length + ys.length ≤ c
    · obtain ⟨cur, e', z1, z2, z3, z4, z5⟩ := hs.wr.grow (us := vs) (m := ys.length) hτ htip (VA_len r4) hroom
      have hsz : i.size = szOf P e := by unfold szOf; rw [hi]
      obtain ⟨b, o, rfl, hB⟩ := holds_some hz hy r4 r5
      have hf := run_firstCells_some (P := P) w i.size ys.length ⟨b, o, none⟩ ys.length c2 vs (by rw [hsz]; exact VA_len r4) (fun j v hj => by rw [Addr.add_mid]; exact hs.wr.imm _ _ _ (hB j v hj))
      have hst := run_storeCells_at (P := P) g0 (o0 + xs.length * szOf P e) e' vs 0 cur w z1 (by omega) (fun v hv => by rw [one_eq]; exact VA_ones hcy r4 v hv)
      simp only [Nat.add_zero] at hst
      have hrun : (Builtin.append_ #[t, t] ty #[.slice (some ⟨g0, o0, none⟩) xs.length c, .slice (some ⟨b, o, none⟩) ys.length c2]).run P w = .ok (.slice (some ⟨g0, o0, none⟩) (xs.length + ys.length) c) (w.setRow g0 (splice cur.toList (o0 + xs.length * szOf P e) vs).toArray) := by
        rw [← hsz] at hst ⊢
        simp [Builtin.append_, run_underlying hu, sizeOf, typeInfo, hi, Builtin.lenOf, hroom, hf, Addr.add_mid, hst, splice]
      have htm : (κ.grow g0 o0 xs.length ys.length c (szOf P e) vs σ.u.m).tip σ.u.m = some (g0, o0, xs.length + ys.length, c, szOf P e) := if_pos rfl
      refine ⟨_, _, _, (.lst (xs ++ ys) (.tip σ.u.m), t), σ.h, _, run_appendOp q2 r2 hrun, z3, z4, ?_, hk⟩
      refine VV_lst_mk hu (by simp) (show _ ∧ _ from ⟨hroom, g0, o0, rfl, htm⟩) (VA_mono z3.le _ _ _ hva) (.inr ⟨_, _, rfl, fun j v hj => ?_⟩)
      by_cases hjl : j < us.length
      · rw [List.getElem?_append_left hjl] at hj
        rcases q5.mono z3.le with rfl | ⟨g1, o1, hA, hh⟩
        · simp at hjl
        · cases hA; exact hh j v hj
      · rw [List.getElem?_append_right (by omega)] at hj
        have := z5 _ v hj
        have hul := VA_len q4
        rw [show o0 + j = o0 + xs.length * szOf P e + (j - us.length) by omega]; exact this
    · obtain ⟨n, rest, w', n1, n2, n5, n6, rfl, n4⟩ := grown hs.wr (c2 := c2) hu hi hzo hz q4 q5 (fun h => by cases h) r4 r5 hy hc0 (by omega) h63 hbig ty
      obtain ⟨e3, e4, e5⟩ := hs.wr.drew.row (us ++ vs) rest e (xs.length + ys.length) n (szOf P e) (by rw [VA_len hva, List.length_append]) (by rw [← n2, VA_len hva, List.length_append, ← Nat.add_mul]; exact Nat.mul_le_mul_right _ (by omega))
      have e6 := (Ext.drew κ σ.u w).trans e3
      have hless : (σ.u.used τ0).Le σ.u.more := ⟨fun τ' h => Tips.more_iff.2 ((Tips.used_iff.1 h).imp id And.right), Nat.le_refl _⟩
      refine ⟨_, _, _, (.lst (xs ++ ys) (.tip σ.u.m), t), σ.h, _, run_appendOp q2 r2 n4, e6.less hless, e4.less hless, ?_, hk⟩
      exact VV_lst_mk hu (by simp) (show _ ∧ _ from ⟨n1, w.heap.size, 0, rfl, if_pos rfl⟩) (VA_mono e3.le _ _ _ hva) (.inr ⟨_, _, rfl, e5⟩)
end Go.Am
