/- A layer over the walk's rules. This text: memory: what holds of a world, and how it goes on. -/
import Derived.Test.YtlpakbhlpgpiaaaAm1
namespace Go.Am

/-- An object: its type, what it holds. -/
structure AO where
  ty : OTy
  t : T

structure WR (P : Program) (κ : K) (w : World) (h : List AO) (u : Tips) : Prop where
  n : κ.n = h.length
  obj : ∀ b o, h[b]? = some o → o.ty.ok P ∧ (o.ty = .dead ∨ κ.ty b = o.ty) ∧ ∃ vs e, w.heap[κ.ι b]? = some (.cells vs.toArray e (0, 0)) ∧ VO P κ o.t o.ty vs
  inj : ∀ b c, b < κ.n → c < κ.n → κ.ι b = κ.ι c → b = c
  imm : ∀ g o v, κ.I g o = some v → w.cell? ⟨g, o, none⟩ = some v
  immo : ∀ g o v b q, κ.I g o = some v → h[b]? = some q → q.ty ≠ .dead → κ.ι b ≠ g
  tip : ∀ τ, u τ → ∃ g o n c sz, κ.tip τ = some (g, o, n, c, sz) ∧ (∃ cs e, w.heap[g]? = some (.cells cs e (0, 0)) ∧ o + c * sz ≤ cs.size) ∧
    (∀ j, o + n * sz ≤ j → j < o + c * sz → κ.I g j = none) ∧ (∀ b, b < κ.n → κ.ι b ≠ g) ∧
    (∀ σ g' o' n' c' sz', u σ → σ ≠ τ → κ.tip σ = some (g', o', n', c', sz') → g' ≠ g)
  fresh : ∀ τ, u.m ≤ τ → κ.tip τ = none

structure Ext (κ : K) (u : Tips) (w : World) (κ' : K) (u' : Tips) (w' : World) : Prop where
  le : κ.Le κ'
  os : w'.os = w.os
  tape : w'.tape = w.tape
  output : w'.output = w.output
  size : w.heap.size ≤ w'.heap.size
  frame : ∀ g, g < w.heap.size → (∀ b, b < κ.n → κ.ι b ≠ g) → (∀ τ g' o n c sz, u τ → κ.tip τ = some (g', o, n, c, sz) → g' ≠ g) → w'.heap[g]? = w.heap[g]?
  new : ∀ b, κ.n ≤ b → b < κ'.n → w.heap.size ≤ κ'.ι b
  tips : ∀ τ g o n c sz, u' τ → κ'.tip τ = some (g, o, n, c, sz) → w.heap.size ≤ g ∨ ∃ σ o' n' c' sz', u σ ∧ κ.tip σ = some (g, o', n', c', sz')
  imms : ∀ g o v, κ'.I g o = some v → κ.I g o = some v ∨ w.heap.size ≤ g ∨ (∃ b, b < κ.n ∧ κ.ι b = g) ∨ ∃ σ o' n' c' sz', u σ ∧ κ.tip σ = some (g, o', n', c', sz')

theorem Ext.refl (κ : K) (u : Tips) (w : World) : Ext κ u w κ u w :=
  ⟨.refl κ, rfl, rfl, rfl, Nat.le_refl _, fun _ _ _ _ => rfl, fun b h1 h2 => by omega, fun τ g o n c sz hu ht => .inr ⟨τ, o, n, c, sz, hu, ht⟩, fun g o v hv => .inl hv⟩

theorem Ext.trans {κ κ1 κ2 : K} {u u1 u2 : Tips} {w w1 w2 : World} (h : Ext κ u w κ1 u1 w1) (k : Ext κ1 u1 w1 κ2 u2 w2) : Ext κ u w κ2 u2 w2 where
  le := h.le.trans k.le
  os := k.os.trans h.os
  tape := k.tape.trans h.tape
  output := k.output.trans h.output
  size := Nat.le_trans h.size k.size
  frame := fun g hg h1 h2 => by
    rw [← h.frame g hg h1 h2]
    refine k.frame g (Nat.lt_of_lt_of_le hg h.size) (fun b hb e => ?_) (fun τ g' o n c sz hu ht e => ?_)
    · by_cases hn : b < κ.n
      · exact h1 b hn (by rw [← h.le.ι b hn]; exact e)
      · have := h.new b (by omega) hb; omega
    · subst e
      rcases h.tips τ g' o n c sz hu ht with h3 | ⟨σ, o', n', c', sz', h3, h4⟩
      · omega
      · exact h2 σ g' o' n' c' sz' h3 h4 rfl
  new := fun b h1 h2 => by
    by_cases hn : b < κ1.n
    · rw [k.le.ι b hn]; exact h.new b h1 hn
    · exact Nat.le_trans h.size (k.new b (by omega) h2)
  tips := fun τ g o n c sz hu ht => by
    rcases k.tips τ g o n c sz hu ht with h3 | ⟨σ, o', n', c', sz', h3, h4⟩
    · exact .inl (Nat.le_trans h.size h3)
    · exact h.tips σ g o' n' c' sz' h3 h4
  imms := fun g o v hv => by
    rcases k.imms g o v hv with h3 | h3 | ⟨b, h3, h4⟩ | ⟨σ, o', n', c', sz', h3, h4⟩
    · exact h.imms g o v h3
    · exact .inr (.inl (Nat.le_trans h.size h3))
    · by_cases hn : b < κ.n
      · exact .inr (.inr (.inl ⟨b, hn, by rw [← h.le.ι b hn]; exact h4⟩))
      · exact .inr (.inl (by rw [← h4]; exact h.new b (by omega) h3))
    · rcases h.tips σ g o' n' c' sz' h3 h4 with q | q
      · exact .inr (.inl q)
      · exact .inr (.inr (.inr q))

section
variable {P : Program} {κ : K} {w : World} {h : List AO} {u : Tips}

theorem WR.ι_lt (H : WR P κ w h u) {b : Nat} (hb : b < κ.n) : κ.ι b < w.heap.size := by
  have hb' : b < h.length := by have := H.n; omega
  obtain ⟨_, _, vs, e, h1, _⟩ := H.obj b h[b] (List.getElem?_eq_getElem hb')
  exact (Array.getElem?_eq_some_iff.1 h1).1
theorem WR.I_lt (H : WR P κ w h u) {g o : Nat} {v : Value} (hv : κ.I g o = some v) : g < w.heap.size :=
  World.block_lt_of_cell? w ⟨g, o, none⟩ (H.imm g o v hv)
theorem WR.tip_lt (H : WR P κ w h u) {τ g o n c sz : Nat} (hu : u τ) (ht : κ.tip τ = some (g, o, n, c, sz)) : g < w.heap.size := by
  obtain ⟨g', o', n', c', sz', h1, ⟨cs, e, h2, _⟩, _⟩ := H.tip τ hu
  rw [ht] at h1
  cases h1
  exact (Array.getElem?_eq_some_iff.1 h2).1

theorem Ext.drew (κ : K) (u : Tips) (w : World) : Ext κ u w κ u { w with drawn := w.drawn + 1 } :=
  ⟨.refl κ, rfl, rfl, rfl, Nat.le_refl _, fun _ _ _ _ => rfl, fun b h1 h2 => by omega, fun τ g o n c sz hu ht => .inr ⟨τ, o, n, c, sz, hu, ht⟩, fun g o v hv => .inl hv⟩
theorem WR.drew (H : WR P κ w h u) : WR P κ { w with drawn := w.drawn + 1 } h u := ⟨H.n, H.obj, H.inj, H.imm, H.immo, H.tip, H.fresh⟩

theorem heap_alloc_old (o : Obj) {g : Nat} (hg : g < w.heap.size) : (w.alloc o).heap[g]? = w.heap[g]? := RowKit.Below.heap_alloc w o g hg
theorem heap_alloc_new (o : Obj) : (w.alloc o).heap[w.heap.size]? = some o := by
  show (w.heap.push o)[w.heap.size]? = _
  simp
theorem size_alloc (o : Obj) : (w.alloc o).heap.size = w.heap.size + 1 := by show (w.heap.push o).size = _; simp
theorem cell_alloc_old (o : Obj) {g i : Nat} (hg : g < w.heap.size) : (w.alloc o).cell? ⟨g, i, none⟩ = w.cell? ⟨g, i, none⟩ := by
  unfold World.cell?
  rw [heap_alloc_old o hg]

/-- What is known of the new world when an object is made. -/
def K.obj (κ : K) (g : Nat) (t : OTy) : K :=
  { κ with n := κ.n + 1, ι := fun b => if b = κ.n then g else κ.ι b, ty := fun b => if b = κ.n then t else κ.ty b }
theorem K.obj_le (κ : K) (g : Nat) (t : OTy) : κ.Le (κ.obj g t) :=
  ⟨Nat.le_succ _, fun b hb => if_neg (by omega), fun b hb => if_neg (by omega), fun _ _ _ h => h, fun _ _ h => h⟩

theorem WR.alloc (H : WR P κ w h u) {t : T} {ty : OTy} {e : TypeId} {vs : List Value} (hty : ty.ok P) (hv : VO P κ t ty vs) :
    Ext κ u w (κ.obj w.heap.size ty) u (w.alloc (.cells vs.toArray e (0, 0))) ∧ WR P (κ.obj w.heap.size ty) (w.alloc (.cells vs.toArray e (0, 0))) (h ++ [⟨ty, t⟩]) u := by
  have hle := κ.obj_le w.heap.size ty
  constructor
  · refine ⟨hle, rfl, rfl, rfl, by rw [size_alloc]; omega, fun g hg _ _ => heap_alloc_old _ hg, fun b h1 h2 => ?_, fun τ g o n c sz hu ht => .inr ⟨τ, o, n, c, sz, hu, ht⟩, fun g o v hv => .inl hv⟩
    have : b = κ.n := by simp [K.obj] at h2; omega
    simp [K.obj, this]
  · have hold : ∀ b, b < κ.n → (κ.obj w.heap.size ty).ι b = κ.ι b := fun b hb => hle.ι b hb
    have hnew : (κ.obj w.heap.size ty).ι κ.n = w.heap.size := if_pos rfl
    refine ⟨by simp [K.obj, H.n], fun b o hb => ?_, fun b c hb hc hbc => ?_, fun g o v hv => ?_, fun g o v b q hv hb hq => ?_, fun τ hu => ?_, H.fresh⟩
    · by_cases hbn : b < κ.n
      · rw [List.getElem?_append_left (by have := H.n; omega)] at hb
        obtain ⟨h1, h2, vs', e', h3, h4⟩ := H.obj b o hb
        exact ⟨h1, h2.imp id fun h2 => (hle.ty b hbn).trans h2, vs', e', by rw [hold b hbn, heap_alloc_old _ (H.ι_lt hbn)]; exact h3, h4.mono hle⟩
      · have hbn' : b = κ.n := by
          have := (List.getElem?_eq_some_iff.1 hb).1
          simp at this
          have := H.n
          omega
        subst hbn'
        rw [H.n] at hb
        simp at hb
        subst hb
        exact ⟨hty, .inr (if_pos rfl), vs, e, by rw [hnew]; exact heap_alloc_new _, hv.mono hle⟩
    · have hb' : b < κ.n + 1 := hb
      have hc' : c < κ.n + 1 := hc
      by_cases h1 : b < κ.n <;> by_cases h2 : c < κ.n
      · rw [hold b h1, hold c h2] at hbc; exact H.inj b c h1 h2 hbc
      · have : c = κ.n := by omega
        subst this
        rw [hold b h1, hnew] at hbc
        have := H.ι_lt h1; omega
      · have : b = κ.n := by omega
        subst this
        rw [hold c h2, hnew] at hbc
        have := H.ι_lt h2; omega
      · omega
    · have := H.I_lt hv
      rw [cell_alloc_old _ this]; exact H.imm g o v hv
    · have hb' : b < κ.n + 1 := by have := (List.getElem?_eq_some_iff.1 hb).1; simp at this; have := H.n; omega
      by_cases h1 : b < κ.n
      · rw [hold b h1]; exact H.immo g o v b q hv (by rw [List.getElem?_append_left (by have := H.n; omega)] at hb; exact hb) hq
      · have : b = κ.n := by omega
        subst this
        rw [hnew]
        have := H.I_lt hv; omega
    · obtain ⟨g, o, n, c, sz, h1, ⟨cs, e', h2, h3⟩, h4, h5, h6⟩ := H.tip τ hu
      have hg := H.tip_lt hu h1
      refine ⟨g, o, n, c, sz, h1, ⟨cs, e', by rw [heap_alloc_old _ hg]; exact h2, h3⟩, h4, fun b hb => ?_, h6⟩
      have hb' : b < κ.n + 1 := hb
      by_cases hbn : b < κ.n
      · rw [hold b hbn]; exact h5 b hbn
      · have : b = κ.n := by omega
        subst this
        rw [hnew]; omega

/-- A new row of which the first cells do not change any more. -/
def K.row (κ : K) (g : Nat) (us : List Value) (m : Nat) (tp : Option (Nat × Nat × Nat)) : K :=
  { κ with I := fun g' j => if g' = g then us[j]? else κ.I g' j, tip := fun τ => if τ = m then tp.map (fun x => (g, 0, x.1, x.2.1, x.2.2)) else κ.tip τ }
/-- One tip more. -/
def Tips.more (u : Tips) : Tips := ⟨u.m :: u.live, u.m + 1⟩
theorem Tips.more_iff {u : Tips} {τ : Nat} : u.more τ ↔ τ = u.m ∨ u τ := List.mem_cons
/-- A tip is used up, there is another one. -/
def remN (τ : Nat) : List Nat → List Nat
  | [] => []
  | σ :: r => match Nat.beq σ τ with
    | true => remN τ r
    | false => σ :: remN τ r
theorem mem_remN {τ σ : Nat} : ∀ {l : List Nat}, σ ∈ remN τ l ↔ σ ≠ τ ∧ σ ∈ l
  | [] => by simp [remN]
  | a :: l => by
    have ih := mem_remN (τ := τ) (σ := σ) (l := l)
    unfold remN
    cases h : Nat.beq a τ with
    | true =>
      have := Nat.eq_of_beq_eq_true h
      subst this
      simp only [ih, List.mem_cons]
      constructor
      · exact fun ⟨h1, h2⟩ => ⟨h1, .inr h2⟩
      · rintro ⟨h1, h2 | h2⟩
        · exact absurd h2 h1
        · exact ⟨h1, h2⟩
    | false =>
      have := Nat.ne_of_beq_eq_false h
      simp only [ih, List.mem_cons]
      constructor
      · rintro (rfl | ⟨h1, h2⟩)
        · exact ⟨this, .inl rfl⟩
        · exact ⟨h1, .inr h2⟩
      · rintro ⟨h1, h2 | h2⟩
        · exact .inl h2
        · exact .inr ⟨h1, h2⟩
def Tips.used (u : Tips) (τ : Nat) : Tips := ⟨u.m :: remN τ u.live, u.m + 1⟩
theorem Tips.used_iff {u : Tips} {τ σ : Nat} : u.used τ σ ↔ σ = u.m ∨ (σ ≠ τ ∧ u σ) := by
  show σ ∈ u.m :: remN τ u.live ↔ _
  rw [List.mem_cons, mem_remN]
theorem WR.row_le (H : WR P κ w h u) (us : List Value) (tp : Option (Nat × Nat × Nat)) : κ.Le (κ.row w.heap.size us u.m tp) :=
  ⟨Nat.le_refl _, fun _ _ => rfl, fun _ _ => rfl, fun g o v hv => by
    have := H.I_lt hv
    show (if g = w.heap.size then _ else _) = _
    rw [if_neg (by omega)]; exact hv, fun τ x hx => by
    show (if τ = u.m then _ else _) = _
    by_cases e : τ = u.m
    · subst e; rw [H.fresh _ (Nat.le_refl _)] at hx; cases hx
    · rw [if_neg e]; exact hx⟩

theorem WR.row (H : WR P κ w h u) (us rest : List Value) (e : TypeId) (n c sz : Nat) (hl : us.length = n * sz) (hc : c * sz ≤ us.length + rest.length) :
    Ext κ u w (κ.row w.heap.size us u.m (some (n, c, sz))) u.more (w.alloc (.cells (us ++ rest).toArray e (0, 0))) ∧
    WR P (κ.row w.heap.size us u.m (some (n, c, sz))) (w.alloc (.cells (us ++ rest).toArray e (0, 0))) h u.more ∧
    HoldsAt (κ.row w.heap.size us u.m (some (n, c, sz))) w.heap.size 0 us := by
  have hle := H.row_le us (some (n, c, sz))
  have htm : (κ.row w.heap.size us u.m (some (n, c, sz))).tip u.m = some (w.heap.size, 0, n, c, sz) := if_pos rfl
  have hto : ∀ τ, τ ≠ u.m → (κ.row w.heap.size us u.m (some (n, c, sz))).tip τ = κ.tip τ := fun τ e => if_neg e
  have hum : ∀ τ, u τ → τ ≠ u.m := fun τ hu e => by
    subst e
    obtain ⟨_, _, _, _, _, h1, _⟩ := H.tip _ hu
    rw [H.fresh _ (Nat.le_refl _)] at h1; cases h1
  have hmi := @Tips.more_iff u
  refine ⟨⟨hle, rfl, rfl, rfl, by rw [size_alloc]; omega, fun g hg _ _ => heap_alloc_old _ hg, fun b h1 h2 => ?_, fun τ g o n' c' sz' hu ht => ?_, fun g o v hv => ?_⟩, ?_, fun j v hv => ?_⟩
  · have h2' : b < κ.n := h2
    omega
  · rcases hmi.1 hu with rfl | hu
    · rw [htm] at ht; cases ht; exact .inl (Nat.le_refl _)
    · rw [hto τ (hum τ hu)] at ht
      exact .inr ⟨τ, o, n', c', sz', hu, ht⟩
  · have hv' : (if g = w.heap.size then us[o]? else κ.I g o) = some v := hv
    by_cases hg : g = w.heap.size
    · exact .inr (.inl (by omega))
    · rw [if_neg hg] at hv'; exact .inl hv'
  · refine ⟨H.n, fun b o hb => ?_, H.inj, fun g o v hv => ?_, fun g o v b q hv hb hq => ?_, fun τ hu => ?_, fun τ hτ => ?_⟩
    · obtain ⟨h1, h2, vs', e', h3, h4⟩ := H.obj b o hb
      have hbn : b < κ.n := by have := (List.getElem?_eq_some_iff.1 hb).1; have := H.n; omega
      exact ⟨h1, h2, vs', e', by show (w.alloc _).heap[κ.ι b]? = _; rw [heap_alloc_old _ (H.ι_lt hbn)]; exact h3, h4.mono hle⟩
    · have hv' : (if g = w.heap.size then us[o]? else κ.I g o) = some v := hv
      by_cases hg : g = w.heap.size
      · subst hg
        rw [if_pos rfl] at hv'
        unfold World.cell?
        rw [heap_alloc_new]
        have ho := (List.getElem?_eq_some_iff.1 hv').1
        simp [List.getElem?_append_left ho, hv']
      · rw [if_neg hg] at hv'
        rw [cell_alloc_old _ (H.I_lt hv')]; exact H.imm g o v hv'
    · have hv' : (if g = w.heap.size then us[o]? else κ.I g o) = some v := hv
      by_cases hg : g = w.heap.size
      · subst hg
        have hb' : b < κ.n := by have := (List.getElem?_eq_some_iff.1 hb).1; have := H.n; omega
        have := H.ι_lt hb'
        show κ.ι b ≠ _
        omega
      · rw [if_neg hg] at hv'
        exact H.immo g o v b q hv' hb hq
    · rcases hmi.1 hu with rfl | hu
      · refine ⟨_, _, _, _, _, htm, ⟨_, e, heap_alloc_new _, by simp; omega⟩, fun j h1 _ => ?_, fun b hb => ?_, fun σ g' o' n' c' sz' hσ hne ht => ?_⟩
        · show (if w.heap.size = w.heap.size then us[j]? else _) = none
          rw [if_pos rfl, List.getElem?_eq_none (by omega)]
        · have hb' : b < κ.n := hb
          have := H.ι_lt hb'
          show κ.ι b ≠ _
          omega
        · rcases hmi.1 hσ with rfl | hσ
          · exact absurd rfl hne
          · rw [hto σ hne] at ht
            have := H.tip_lt hσ ht
            omega
      · obtain ⟨g, o, n', c', sz', h1, ⟨cs, e', h2, h3⟩, h4, h5, h6⟩ := H.tip τ hu
        have hg := H.tip_lt hu h1
        refine ⟨g, o, n', c', sz', by rw [hto τ (hum τ hu)]; exact h1, ⟨cs, e', by rw [heap_alloc_old _ hg]; exact h2, h3⟩, fun j h7 h8 => ?_, h5, fun σ g' o' n'' c'' sz'' hσ hne ht => ?_⟩
        · show (if g = w.heap.size then us[j]? else _) = none
          rw [if_neg (by omega)]; exact h4 j h7 h8
        · rcases hmi.1 hσ with rfl | hσ
          · rw [htm] at ht; cases ht; omega
          · rw [hto σ (hum σ hσ)] at ht
            exact h6 σ g' o' n'' c'' sz'' hσ hne ht
    · show (if τ = u.m then _ else κ.tip τ) = none
      have hτ' : u.m + 1 ≤ τ := hτ
      rw [if_neg (by omega)]; exact H.fresh τ (by omega)
  · show (if w.heap.size = w.heap.size then us[0 + j]? else _) = some v
    rw [if_pos rfl, Nat.zero_add]; exact hv

/-- A new row of which nothing changes any more. -/
theorem WR.row0 (H : WR P κ w h u) (us rest : List Value) (e : TypeId) :
    Ext κ u w (κ.row w.heap.size us u.m none) u (w.alloc (.cells (us ++ rest).toArray e (0, 0))) ∧
    WR P (κ.row w.heap.size us u.m none) (w.alloc (.cells (us ++ rest).toArray e (0, 0))) h u ∧
    HoldsAt (κ.row w.heap.size us u.m none) w.heap.size 0 us := by
  have hle := H.row_le us none
  have hto : ∀ τ x, (κ.row w.heap.size us u.m none).tip τ = some x → κ.tip τ = some x := fun τ x h => by
    have h' : (if τ = u.m then none else κ.tip τ) = some x := h
    split at h'
    · cases h'
    · exact h'
  have hum : ∀ τ, u τ → τ ≠ u.m := fun τ hu e => by
    subst e
    obtain ⟨_, _, _, _, _, h1, _⟩ := H.tip _ hu
    rw [H.fresh _ (Nat.le_refl _)] at h1; cases h1
  refine ⟨⟨hle, rfl, rfl, rfl, by rw [size_alloc]; omega, fun g hg _ _ => heap_alloc_old _ hg, fun b h1 h2 => ?_, fun τ g o n' c' sz' hu ht => .inr ⟨τ, o, n', c', sz', hu, hto _ _ ht⟩, fun g o v hv => ?_⟩, ?_, fun j v hv => ?_⟩
  · have h2' : b < κ.n := h2
    omega
  · have hv' : (if g = w.heap.size then us[o]? else κ.I g o) = some v := hv
    by_cases hg : g = w.heap.size
    · exact .inr (.inl (by omega))
    · rw [if_neg hg] at hv'; exact .inl hv'
  · refine ⟨H.n, fun b o hb => ?_, H.inj, fun g o v hv => ?_, fun g o v b q hv hb hq => ?_, fun τ hu => ?_, fun τ hτ => ?_⟩
    · obtain ⟨h1, h2, vs', e', h3, h4⟩ := H.obj b o hb
      have hbn : b < κ.n := by have := (List.getElem?_eq_some_iff.1 hb).1; have := H.n; omega
      exact ⟨h1, h2, vs', e', by show (w.alloc _).heap[κ.ι b]? = _; rw [heap_alloc_old _ (H.ι_lt hbn)]; exact h3, h4.mono hle⟩
    · have hv' : (if g = w.heap.size then us[o]? else κ.I g o) = some v := hv
      by_cases hg : g = w.heap.size
      · subst hg
        rw [if_pos rfl] at hv'
        unfold World.cell?
        rw [heap_alloc_new]
        have ho := (List.getElem?_eq_some_iff.1 hv').1
        simp [List.getElem?_append_left ho, hv']
      · rw [if_neg hg] at hv'
        rw [cell_alloc_old _ (H.I_lt hv')]; exact H.imm g o v hv'
    · have hv' : (if g = w.heap.size then us[o]? else κ.I g o) = some v := hv
      by_cases hg : g = w.heap.size
      · subst hg
        have hb' : b < κ.n := by have := (List.getElem?_eq_some_iff.1 hb).1; have := H.n; omega
        have := H.ι_lt hb'
        show κ.ι b ≠ _
        omega
      · rw [if_neg hg] at hv'
        exact H.immo g o v b q hv' hb hq
    · obtain ⟨g, o, n', c', sz', h1, ⟨cs, e', h2, h3⟩, h4, h5, h6⟩ := H.tip τ hu
      have hg := H.tip_lt hu h1
      refine ⟨g, o, n', c', sz', by show (if τ = u.m then none else κ.tip τ) = _; rw [if_neg (hum τ hu)]; exact h1, ⟨cs, e', by rw [heap_alloc_old _ hg]; exact h2, h3⟩, fun j h7 h8 => ?_, h5, fun σ g' o' n'' c'' sz'' hσ hne ht => h6 σ g' o' n'' c'' sz'' hσ hne (hto _ _ ht)⟩
      show (if g = w.heap.size then us[j]? else _) = none
      rw [if_neg (by omega)]; exact h4 j h7 h8
    · show (if τ = u.m then none else κ.tip τ) = none
      split
      · rfl
      · exact H.fresh τ hτ
  · show (if w.heap.size = w.heap.size then us[0 + j]? else _) = some v
    rw [if_pos rfl, Nat.zero_add]; exact hv
end
end Go.Am
