/- A layer over the walk's rules. This text: memory is read and written. -/
import Derived.Test.YtlpakbhlpgpiaaaAm3
import Derived.Laws.CopyRow
import Derived.Deep.MidRow
namespace Go.Am
variable {P : Program} {κ : K} {w : World} {h : List AO} {u : Tips}

theorem one_eq (v : Value) : v.oneCell' = one v := by cases v <;> rfl

/- Each cell of a tree is one cell. -/
theorem list_part_mem {vs : List Value} {o n : Nat} {v : Value} (h : v ∈ (vs.drop o).take n) : v ∈ vs := List.mem_of_mem_drop (List.mem_of_mem_take h)

/-- What an object's cells are behind a store. -/
theorem WR.store (hP : WfP P) (H : WR P κ w h u) {b : Nat} {o : AO} {path : List Nat} {off : Nat} {ty' : TypeId} {x z : T} {us : List Value}
    (hb : h[b]? = some o) (hw : walkO P o.ty path = some (off, ty')) (hz : o.t.put path x = some z) (hx : VT P κ x ty' us) (hl : us.length = szOf P ty') (ho : ∀ v ∈ us, one v = true) :
    ∃ (cur : Array Value) (e : TypeId), w.heap[κ.ι b]? = some (.cells cur e (0, 0)) ∧ off + us.length ≤ cur.size ∧
      Ext κ u w κ u (w.setRow (κ.ι b) (splice cur.toList off us).toArray) ∧ WR P κ (w.setRow (κ.ι b) (splice cur.toList off us).toArray) (h.set b ⟨o.ty, z⟩) u := by
  obtain ⟨h1, h2, vs, e, h3, h4⟩ := H.obj b o hb
  have hal : o.ty ≠ .dead := fun hd => by rw [hd] at hw; cases path <;> cases hw
  have hbn : b < κ.n := by have := (List.getElem?_eq_some_iff.1 hb).1; have := H.n; omega
  obtain ⟨r1, r2⟩ := VO_put hP h1 h4 hw hz hx hl ho
  refine ⟨vs.toArray, e, h3, by simpa using r2, ⟨.refl κ, rfl, rfl, rfl, by simp, fun g hg hf _ => setRow_other _ _ _ _ (fun e => hf b hbn e.symm), fun b h1 h2 => by omega, fun τ g o n c sz hu ht => .inr ⟨τ, o, n, c, sz, hu, ht⟩, fun g o v hv => .inl hv⟩, ?_⟩
  refine ⟨by simp [H.n], fun c q hc => ?_, H.inj, fun g i v hv => ?_, fun g i v c q hv hc hq => ?_, fun τ hu => ?_, H.fresh⟩
  · have hcn : c < κ.n := by have := (List.getElem?_eq_some_iff.1 hc).1; simp at this; have := H.n; omega
    rw [List.getElem?_set] at hc
    by_cases e1 : b = c
    · subst e1
      have : b < h.length := by have := H.n; omega
      rw [if_pos rfl, if_pos this] at hc
      cases hc
      refine ⟨h1, h2, splice vs off us, e, ?_, r1⟩
      exact setRow_heap w _ _ _ _ _ h3
    · rw [if_neg e1] at hc
      obtain ⟨q1, q2, vs', e', q3, q4⟩ := H.obj c q hc
      refine ⟨q1, q2, vs', e', ?_, q4⟩
      rw [setRow_other _ _ _ _ (fun e => e1 (H.inj b c hbn hcn e.symm))]; exact q3
  · rw [cell_setRow_other _ _ _ _ (fun e => H.immo g i v b o hv hb hal e.symm)]; exact H.imm g i v hv
  · rw [List.getElem?_set] at hc
    by_cases e1 : b = c
    · subst e1; exact H.immo g i v b o hv hb hal
    · rw [if_neg e1] at hc; exact H.immo g i v c q hv hc hq
  · obtain ⟨g, o', n, c, sz, t1, ⟨cs, e', t2, t3⟩, t4, t5, t6⟩ := H.tip τ hu
    exact ⟨g, o', n, c, sz, t1, ⟨cs, e', by rw [setRow_other _ _ _ _ (fun e => t5 b hbn e.symm)]; exact t2, t3⟩, t4, t5, t6⟩

/-- In place: what stands behind a tip. -/
def K.grow (κ : K) (g o n m c sz : Nat) (us : List Value) (t : Nat) : K :=
  { κ with I := fun g' j => if g' = g ∧ o + n * sz ≤ j ∧ j < o + n * sz + us.length then us[j - (o + n * sz)]? else κ.I g' j,
           tip := fun τ => if τ = t then some (g, o, n + m, c, sz) else κ.tip τ }
theorem WR.grow (H : WR P κ w h u) {τ g o n c sz m : Nat} {us : List Value} (hu : u τ) (ht : κ.tip τ = some (g, o, n, c, sz)) (hl : us.length = m * sz) (hc : n + m ≤ c) :
    ∃ (cur : Array Value) (e : TypeId), w.heap[g]? = some (.cells cur e (0, 0)) ∧ o + n * sz + us.length ≤ cur.size ∧
      Ext κ u w (κ.grow g o n m c sz us u.m) (u.used τ) (w.setRow g (splice cur.toList (o + n * sz) us).toArray) ∧
      WR P (κ.grow g o n m c sz us u.m) (w.setRow g (splice cur.toList (o + n * sz) us).toArray) h (u.used τ) ∧
      HoldsAt (κ.grow g o n m c sz us u.m) g (o + n * sz) us := by
  obtain ⟨g', o', n', c', sz', h1, ⟨cur, e, h2, h3⟩, h4, h5, h6⟩ := H.tip τ hu
  rw [ht] at h1
  cases h1
  have hnm : n * sz + m * sz ≤ c * sz := by rw [← Nat.add_mul]; exact Nat.mul_le_mul_right _ hc
  have hcs : o + n * sz + us.length ≤ cur.size := by omega
  have hlt : ∀ j, o + n * sz ≤ j → j < o + n * sz + us.length → κ.I g j = none := fun j a b => h4 j a (by omega)
  have hle : κ.Le (κ.grow g o n m c sz us u.m) := by
    refine ⟨Nat.le_refl _, fun _ _ => rfl, fun _ _ => rfl, fun g' j v hv => ?_, fun σ x hx => ?_⟩
    · show (if _ then _ else _) = _
      rw [if_neg]
      · exact hv
      · rintro ⟨rfl, a, b⟩
        rw [hlt j a b] at hv
        cases hv
    · show (if σ = u.m then _ else _) = _
      rw [if_neg]
      · exact hx
      · rintro rfl
        rw [H.fresh _ (Nat.le_refl _)] at hx
        cases hx
  have hum : ∀ σ, u σ → σ ≠ u.m := fun σ hu e => by
    subst e
    obtain ⟨_, _, _, _, _, h1, _⟩ := H.tip _ hu
    rw [H.fresh _ (Nat.le_refl _)] at h1; cases h1
  have hmi := @Tips.used_iff u τ
  have htm : (κ.grow g o n m c sz us u.m).tip u.m = some (g, o, n + m, c, sz) := if_pos rfl
  have hto : ∀ σ, σ ≠ u.m → (κ.grow g o n m c sz us u.m).tip σ = κ.tip σ := fun σ e => if_neg e
  refine ⟨cur, e, h2, hcs, ⟨hle, rfl, rfl, rfl, by simp, fun g' hg' _ hf => setRow_other _ _ _ _ (fun e => hf τ g o n c sz hu ht e.symm), fun b a1 a2 => ?_, fun σ g' o' n' c' sz' hσ hσt => ?_, fun g' j v hv => ?_⟩, ?_, fun j v hv => ?_⟩
  · have : b < κ.n := a2
    omega
  · rcases hmi.1 hσ with rfl | ⟨hne, hσ⟩
    · rw [htm] at hσt; cases hσt; exact .inr ⟨τ, _, _, _, _, hu, ht⟩
    · rw [hto σ (hum σ hσ)] at hσt; exact .inr ⟨σ, _, _, _, _, hσ, hσt⟩
  · have hv' : (if g' = g ∧ o + n * sz ≤ j ∧ j < o + n * sz + us.length then us[j - (o + n * sz)]? else κ.I g' j) = some v := hv
    by_cases hg : g' = g ∧ o + n * sz ≤ j ∧ j < o + n * sz + us.length
    · obtain ⟨rfl, _⟩ := hg
      exact .inr (.inr (.inr ⟨τ, _, _, _, _, hu, ht⟩))
    · rw [if_neg hg] at hv'; exact .inl hv'
  · refine ⟨H.n, fun b q hb => ?_, H.inj, fun g' j v hv => ?_, fun g' j v b q hv hb hq => ?_, fun σ hσ => ?_, fun σ hσ => ?_⟩
    · obtain ⟨q1, q2, vs', e', q3, q4⟩ := H.obj b q hb
      have hbn : b < κ.n := by have := (List.getElem?_eq_some_iff.1 hb).1; have := H.n; omega
      refine ⟨q1, q2, vs', e', ?_, q4.mono hle⟩
      show (w.setRow g _).heap[κ.ι b]? = _
      rw [setRow_other _ _ _ _ (h5 b hbn)]; exact q3
    · have hv' : (if g' = g ∧ o + n * sz ≤ j ∧ j < o + n * sz + us.length then us[j - (o + n * sz)]? else κ.I g' j) = some v := hv
      by_cases hg : g' = g
      · subst hg
        rw [cell_setRow_same _ _ _ _ _ _ _ h2]
        have hsp := splice_get (vs := cur.toList) (us := us) (o := o + n * sz) (by simpa using hcs) j
        rw [List.getElem?_toArray, hsp]
        by_cases a1 : j < o + n * sz
        · rw [if_neg (by omega)] at hv'
          have := H.imm _ _ _ hv'
          simp only [World.cell?, h2] at this
          rw [if_pos a1]; simpa using this
        · rw [if_neg a1]
          by_cases a2 : j < o + n * sz + us.length
          · rw [if_pos ⟨rfl, by omega, a2⟩] at hv'
            rw [if_pos a2]; exact hv'
          · rw [if_neg (by omega)] at hv'
            have := H.imm _ _ _ hv'
            simp only [World.cell?, h2] at this
            rw [if_neg a2]; simpa using this
      · rw [if_neg (fun a => hg a.1)] at hv'
        rw [cell_setRow_other _ _ _ _ hg]; exact H.imm g' j v hv'
    · have hv' : (if g' = g ∧ o + n * sz ≤ j ∧ j < o + n * sz + us.length then us[j - (o + n * sz)]? else κ.I g' j) = some v := hv
      by_cases hg : g' = g
      · subst hg; exact h5 b (by have := (List.getElem?_eq_some_iff.1 hb).1; have := H.n; omega)
      · rw [if_neg (fun a => hg a.1)] at hv'
        exact H.immo g' j v b q hv' hb hq
    · rcases hmi.1 hσ with rfl | ⟨hne, hσ⟩
      · refine ⟨g, o, n + m, c, sz, htm, ⟨_, e, setRow_heap _ _ _ _ _ _ h2, by simp [splice_length (show o + n * sz + us.length ≤ cur.toList.length by simpa using hcs)]; exact h3⟩, fun j a1 a2 => ?_, h5, fun σ' g' o' n' c' sz' hσ' hne' hσt => ?_⟩
        · show (if _ then _ else _) = _
          rw [Nat.add_mul] at a1
          rw [if_neg (by omega)]; exact h4 j (by omega) a2
        · rcases hmi.1 hσ' with rfl | ⟨hne2, hσ'⟩
          · exact absurd rfl hne'
          · rw [hto σ' (hum σ' hσ')] at hσt
            exact h6 σ' g' o' n' c' sz' hσ' hne2 hσt
      · obtain ⟨g1, o1, n1, c1, sz1, q1, ⟨cs1, e1, q2, q3⟩, q4, q5, q6⟩ := H.tip σ hσ
        have hgg : g1 ≠ g := fun e => h6 σ g1 o1 n1 c1 sz1 hσ hne q1 e
        refine ⟨g1, o1, n1, c1, sz1, by rw [hto σ (hum σ hσ)]; exact q1, ⟨cs1, e1, by rw [setRow_other _ _ _ _ hgg]; exact q2, q3⟩, fun j a1 a2 => ?_, q5, fun σ' g' o' n' c' sz' hσ' hne' hσt => ?_⟩
        · show (if _ then _ else _) = _
          rw [if_neg (fun a => hgg a.1)]; exact q4 j a1 a2
        · rcases hmi.1 hσ' with rfl | ⟨hne2, hσ'⟩
          · rw [htm] at hσt; cases hσt; exact fun e => hgg e.symm
          · rw [hto σ' (hum σ' hσ')] at hσt
            exact q6 σ' g' o' n' c' sz' hσ' hne' hσt
    · show (if σ = u.m then _ else κ.tip σ) = none
      have : u.m + 1 ≤ σ := hσ
      rw [if_neg (by omega)]; exact H.fresh σ (by omega)
  · have hj := (List.getElem?_eq_some_iff.1 hv).1
    show (if _ then _ else _) = _
    rw [if_pos ⟨rfl, by omega, by omega⟩, show o + n * sz + j - (o + n * sz) = j by omega]; exact hv
end Go.Am
