/- A layer over the walk's rules: values as trees, memory as objects. This text: the trees and how they lie in memory. -/
import Derived.WalkKit
import Derived.WalkSpells
import Derived.Laws.CopyRow
import Derived.Deep.MidRow
/- A layer over the walk's rules: values as trees, memory as objects. This text: the trees and how they lie in memory. -/
namespace Go.Am

inductive Tag where
  | no | full | nil | tip (τ : Nat)

inductive T where
  | s (v : Value)
  | st (fs : List T)
  | arr (xs : List T)
  | lst (xs : List T) (tag : Tag)
  | ptr (b : Nat) (path : List Nat)
  | vw (b off len cap : Nat)   -- a slice over a row that may be written
  | ep (ty : TypeId) (x : T)
  | tup (xs : List T)
  | fn (f : Fn) (first captured : List T)
  | ifc (t : TypeId) (x : T)
  | any   -- what an operation leaves that was not carried out

instance : Inhabited T := ⟨.s .nilIface⟩

def one : Value → Bool
  | .agg _ | .tuple _ => false
  | _ => true
def aggB : Value → Bool
  | .agg _ => true
  | _ => false
def T.aggB : T → Bool
  | .st _ | .arr _ => true
  | _ => false

def szOf (P : Program) (t : TypeId) : Nat := match P.info? t with | some i => i.size | none => 0

/-- The place that a path leads to: its offset, its type. -/
def stepPath (P : Program) (t : TypeId) (i : Nat) : Option (Nat × TypeId) :=
  match P.underlying t with
  | some (.struct fs) => (fs[i]?).map fun f => (f.offset, f.type)
  | some (.array n e) => if i < n then some (i * szOf P e, e) else none
  | _ => none
def walkPath (P : Program) : TypeId → List Nat → Option (Nat × TypeId)
  | t, [] => some (0, t)
  | t, i :: r => match stepPath P t i with
    | some (o, t') => match walkPath P t' r with
      | some (o', t'') => some (o + o', t'')
      | none => none
    | none => none

/-- What an object is: a variable; a row of elements; one of which no more is known than that it is there. -/
inductive OTy where
  | one (t : TypeId)
  | row (e : TypeId) (n : Nat)
  | dead
def OTy.ok (P : Program) : OTy → Prop
  | .one t => t < P.types.size
  | .row e _ => e < P.types.size
  | .dead => True
def walkO (P : Program) : OTy → List Nat → Option (Nat × TypeId)
  | .one t, p => walkPath P t p
  | .row e n, i :: p => match Nat.blt i n with
    | true => match walkPath P e p with
      | some (o, t) => some (i * szOf P e + o, t)
      | none => none
    | false => none
  | _, _ => none

/-- What is known of how the trees lie in memory. -/
structure K where
  n : Nat
  ι : Nat → Nat
  ty : Nat → OTy
  I : Nat → Nat → Option Value
  tip : Nat → Option (Nat × Nat × Nat × Nat × Nat)   -- block, offset, length, capacity, size of an element

/-- Which tips are live; from which number on there is none. -/
structure Tips where
  live : List Nat
  m : Nat
instance : CoeFun Tips fun _ => Nat → Prop := ⟨fun u τ => τ ∈ u.live⟩

def HoldsAt (κ : K) (g o : Nat) (us : List Value) : Prop := ∀ j v, us[j]? = some v → κ.I g (o + j) = some v
def Holds (κ : K) (A : Option Addr) (us : List Value) : Prop := us = [] ∨ ∃ g o, A = some ⟨g, o, none⟩ ∧ HoldsAt κ g o us
def TagOk (κ : K) (sz : Nat) : Tag → Option Addr → Nat → Nat → Prop
  | .no, _, n, c => n ≤ c
  | .full, _, n, c => c = n
  | .nil, A, _, c => A = none ∧ c = 0
  | .tip τ, A, n, c => n ≤ c ∧ ∃ g o, A = some ⟨g, o, none⟩ ∧ κ.tip τ = some (g, o, n, c, sz)

mutual
def VT (P : Program) (κ : K) : T → TypeId → List Value → Prop
  | .s v, _, vs => vs = [v] ∧ one v = true
  | .st fs, ty, vs => ∃ fields, P.underlying ty = some (.struct fields) ∧ vs.length = szOf P ty ∧ (∀ v ∈ vs, one v = true) ∧ VF P κ fs fields.toList vs
  | .arr xs, ty, vs => ∃ n e, P.underlying ty = some (.array n e) ∧ xs.length = n ∧ vs.length = szOf P ty ∧ (∀ v ∈ vs, one v = true) ∧ VA P κ xs e vs
  | .lst xs tag, ty, vs => ∃ e A c us, P.underlying ty = some (.slice e) ∧ vs = [.slice A xs.length c] ∧ TagOk κ (szOf P e) tag A xs.length c ∧ VA P κ xs e us ∧ Holds κ A us
  | .ptr b path, _, vs => ∃ o t', b < κ.n ∧ walkO P (κ.ty b) path = some (o, t') ∧ vs = [.pointer (some ⟨κ.ι b, o, none⟩)]
  | .vw b off len cap, ty, vs => ∃ e n, P.underlying ty = some (.slice e) ∧ b < κ.n ∧ κ.ty b = .row e n ∧ off + cap ≤ n ∧ len ≤ cap ∧ vs = [.slice (some ⟨κ.ι b, off * szOf P e, none⟩) len cap]
  | .ep ty' x, _, vs => ∃ g o us, VT P κ x ty' us ∧ HoldsAt κ g o us ∧ vs = [.pointer (some ⟨g, o, none⟩)]
  | .tup xs, ty, vs => ∃ es us, P.underlying ty = some (.tuple es) ∧ vs = [.tuple us.toArray] ∧ VL P κ xs es.toList us
  | .fn f first captured, _, vs => ∃ us ws, vs = [.func f us.toArray ws.toArray] ∧ VC P κ first us ∧ VC P κ captured ws
  | .ifc t x, _, vs => ∃ v, (VT P κ x t v.cells.toList ∧ aggB v = x.aggB) ∧ vs = [.iface t v]
  | .any, _, vs => vs = [undef]
/-- A struct's fields. -/
def VF (P : Program) (κ : K) : List T → List Field → List Value → Prop
  | [], [], _ => True
  | t :: ts, f :: fs, vs => VT P κ t f.type ((vs.drop f.offset).take (szOf P f.type)) ∧ VF P κ ts fs vs
  | _, _, _ => False
/-- Elements, one behind the other. -/
def VA (P : Program) (κ : K) : List T → TypeId → List Value → Prop
  | [], _, vs => vs = []
  | t :: ts, e, vs => szOf P e ≤ vs.length ∧ VT P κ t e (vs.take (szOf P e)) ∧ VA P κ ts e (vs.drop (szOf P e))
/-- Values of types. -/
def VL (P : Program) (κ : K) : List T → List TypeId → List Value → Prop
  | [], [], vs => vs = []
  | t :: ts, e :: es, v :: vs => (VT P κ t e v.cells.toList ∧ aggB v = t.aggB) ∧ VL P κ ts es vs
  | _, _, _ => False
/-- Values whose types do not matter. -/
def VC (P : Program) (κ : K) : List T → List Value → Prop
  | [], vs => vs = []
  | t :: ts, v :: vs => (VT P κ t 0 v.cells.toList ∧ aggB v = t.aggB) ∧ VC P κ ts vs
  | _, _ => False
end

/-- A value: its cells are a tree's. -/
def VV (P : Program) (κ : K) (t : T) (ty : TypeId) (v : Value) : Prop := VT P κ t ty v.cells.toList ∧ aggB v = t.aggB

structure K.Le (κ κ' : K) : Prop where
  n : κ.n ≤ κ'.n
  ι : ∀ b, b < κ.n → κ'.ι b = κ.ι b
  ty : ∀ b, b < κ.n → κ'.ty b = κ.ty b
  I : ∀ g o v, κ.I g o = some v → κ'.I g o = some v
  tip : ∀ τ x, κ.tip τ = some x → κ'.tip τ = some x

theorem K.Le.refl (κ : K) : κ.Le κ := ⟨Nat.le_refl _, fun _ _ => rfl, fun _ _ => rfl, fun _ _ _ h => h, fun _ _ h => h⟩
theorem K.Le.trans {a b c : K} (h : a.Le b) (k : b.Le c) : a.Le c :=
  ⟨Nat.le_trans h.n k.n, fun x hx => (k.ι x (Nat.lt_of_lt_of_le hx h.n)).trans (h.ι x hx), fun x hx => (k.ty x (Nat.lt_of_lt_of_le hx h.n)).trans (h.ty x hx),
    fun g o v hv => k.I g o v (h.I g o v hv), fun τ x hx => k.tip τ x (h.tip τ x hx)⟩

theorem HoldsAt.mono {κ κ' : K} (h : κ.Le κ') {g o : Nat} {us : List Value} (hh : HoldsAt κ g o us) : HoldsAt κ' g o us := fun j v hv => h.I _ _ _ (hh j v hv)
theorem Holds.mono {κ κ' : K} (h : κ.Le κ') {A : Option Addr} {us : List Value} (hh : Holds κ A us) : Holds κ' A us := by
  rcases hh with hh | ⟨g, o, hA, hh⟩
  · exact .inl hh
  · exact .inr ⟨g, o, hA, hh.mono h⟩
theorem TagOk.mono {κ κ' : K} (h : κ.Le κ') {sz : Nat} {tag : Tag} {A : Option Addr} {n c : Nat} (hh : TagOk κ sz tag A n c) : TagOk κ' sz tag A n c := by
  cases tag with
  | no => exact hh
  | full => exact hh
  | nil => exact hh
  | tip τ => obtain ⟨h1, g, o, h2, h3⟩ := hh; exact ⟨h1, g, o, h2, h.tip _ _ h3⟩

mutual
theorem VT_mono {P : Program} {κ κ' : K} (h : κ.Le κ') : ∀ (t : T) (ty : TypeId) (vs : List Value), VT P κ t ty vs → VT P κ' t ty vs
  | .s v, ty, vs => fun hh => by simp only [VT] at hh ⊢; exact hh
  | .st fs, ty, vs => fun hh => by
    simp only [VT] at hh ⊢
    obtain ⟨f, h1, h2, h2', h3⟩ := hh
    exact ⟨f, h1, h2, h2', VF_mono h fs _ _ h3⟩
  | .arr xs, ty, vs => fun hh => by
    simp only [VT] at hh ⊢
    obtain ⟨n, e, h1, h2, h3, h3', h4⟩ := hh
    exact ⟨n, e, h1, h2, h3, h3', VA_mono h xs _ _ h4⟩
  | .lst xs tag, ty, vs => fun hh => by
    simp only [VT] at hh ⊢
    obtain ⟨e, A, c, us, h1, h2, h3, h4, h5⟩ := hh
    exact ⟨e, A, c, us, h1, h2, h3.mono h, VA_mono h xs _ _ h4, h5.mono h⟩
  | .ptr b path, ty, vs => fun hh => by
    simp only [VT] at hh ⊢
    obtain ⟨o, t', h1, h2, h3⟩ := hh
    exact ⟨o, t', Nat.lt_of_lt_of_le h1 h.n, by rw [h.ty b h1]; exact h2, by rw [h.ι b h1]; exact h3⟩
  | .vw b off len cap, ty, vs => fun hh => by
    simp only [VT] at hh ⊢
    obtain ⟨e, n, h1, h2, h3, h4, h5, h6⟩ := hh
    exact ⟨e, n, h1, Nat.lt_of_lt_of_le h2 h.n, by rw [h.ty b h2]; exact h3, h4, h5, by rw [h.ι b h2]; exact h6⟩
  | .ep ty' x, ty, vs => fun hh => by
    simp only [VT] at hh ⊢
    obtain ⟨g, o, us, h1, h2, h3⟩ := hh
    exact ⟨g, o, us, VT_mono h x _ _ h1, h2.mono h, h3⟩
  | .tup xs, ty, vs => fun hh => by
    simp only [VT] at hh ⊢
    obtain ⟨es, us, h1, h2, h3⟩ := hh
    exact ⟨es, us, h1, h2, VL_mono h xs _ _ h3⟩
  | .fn f first captured, ty, vs => fun hh => by
    simp only [VT] at hh ⊢
    obtain ⟨us, ws, h1, h2, h3⟩ := hh
    exact ⟨us, ws, h1, VC_mono h first _ h2, VC_mono h captured _ h3⟩
  | .ifc t x, ty, vs => fun hh => by
    simp only [VT] at hh ⊢
    obtain ⟨v, ⟨h1, h2⟩, h3⟩ := hh
    exact ⟨v, ⟨VT_mono h x _ _ h1, h2⟩, h3⟩
  | .any, ty, vs => fun hh => by simp only [VT] at hh ⊢; exact hh
theorem VF_mono {P : Program} {κ κ' : K} (h : κ.Le κ') : ∀ (ts : List T) (fs : List Field) (vs : List Value), VF P κ ts fs vs → VF P κ' ts fs vs
  | [], [], vs => fun _ => by simp only [VF]
  | t :: ts, f :: fs, vs => fun hh => by
    simp only [VF] at hh ⊢
    exact ⟨VT_mono h t _ _ hh.1, VF_mono h ts _ _ hh.2⟩
  | [], _ :: _, _ => fun hh => by simp only [VF] at hh
  | _ :: _, [], _ => fun hh => by simp only [VF] at hh
theorem VA_mono {P : Program} {κ κ' : K} (h : κ.Le κ') : ∀ (ts : List T) (e : TypeId) (vs : List Value), VA P κ ts e vs → VA P κ' ts e vs
  | [], _, vs => fun hh => by simp only [VA] at hh ⊢; exact hh
  | t :: ts, e, vs => fun hh => by
    simp only [VA] at hh ⊢
    exact ⟨hh.1, VT_mono h t _ _ hh.2.1, VA_mono h ts _ _ hh.2.2⟩
theorem VL_mono {P : Program} {κ κ' : K} (h : κ.Le κ') : ∀ (ts : List T) (es : List TypeId) (vs : List Value), VL P κ ts es vs → VL P κ' ts es vs
  | [], [], vs => fun hh => by simp only [VL] at hh ⊢; exact hh
  | t :: ts, e :: es, v :: vs => fun hh => by
    simp only [VL] at hh ⊢
    exact ⟨⟨VT_mono h t _ _ hh.1.1, hh.1.2⟩, VL_mono h ts _ _ hh.2⟩
  | [], _ :: _, _ => fun hh => by simp only [VL] at hh
  | _ :: _, [], _ => fun hh => by simp only [VL] at hh
  | _ :: _, _ :: _, [] => fun hh => by simp only [VL] at hh
theorem VC_mono {P : Program} {κ κ' : K} (h : κ.Le κ') : ∀ (ts : List T) (vs : List Value), VC P κ ts vs → VC P κ' ts vs
  | [], vs => fun hh => by simp only [VC] at hh ⊢; exact hh
  | t :: ts, v :: vs => fun hh => by
    simp only [VC] at hh ⊢
    exact ⟨⟨VT_mono h t _ _ hh.1.1, hh.1.2⟩, VC_mono h ts _ hh.2⟩
  | _ :: _, [] => fun hh => by simp only [VC] at hh
end
theorem VV.mono {P : Program} {κ κ' : K} (h : κ.Le κ') {t : T} {ty : TypeId} {v : Value} (hh : VV P κ t ty v) : VV P κ' t ty v := ⟨VT_mono h _ _ _ hh.1, hh.2⟩

/-- An object's cells. -/
def VO (P : Program) (κ : K) (t : T) : OTy → List Value → Prop
  | .one ty, vs => VT P κ t ty vs ∧ vs.length = szOf P ty
  | .row e n, vs => ∃ xs, t = .arr xs ∧ xs.length = n ∧ vs.length = n * szOf P e ∧ (∀ v ∈ vs, one v = true) ∧ VA P κ xs e vs
  | .dead, _ => True
theorem VO.mono {P : Program} {κ κ' : K} (h : κ.Le κ') {t : T} {ty : OTy} {vs : List Value} (hh : VO P κ t ty vs) : VO P κ' t ty vs := by
  cases ty with
  | one ty => exact ⟨VT_mono h _ _ _ hh.1, hh.2⟩
  | row e n => obtain ⟨xs, h1, h2, h3, h4, h5⟩ := hh; exact ⟨xs, h1, h2, h3, h4, VA_mono h _ _ _ h5⟩
  | dead => trivial

end Go.Am

/- A layer over the walk's rules. This text: memory: what holds of a world, and how it goes on. -/
namespace Go.Am

/-- An object: its type, what it holds. -/
structure AO where
  ty : OTy
  t : T

structure WR (P : Program) (κ : K) (w : World) (h : List AO) (u : Tips) : Prop where
  n : κ.n = h.length
  obj : ∀ b o, h[b]? = some o → o.ty.ok P ∧ (o.ty = .dead ∨ κ.ty b = o.ty) ∧ ∃ vs e, w.heap[κ.ι b]? = some (.cells vs.toArray e (0, 0)) ∧ VO P κ o.t o.ty vs
  inj : ∀ b c, b < κ.n → c < κ.n → κ.ι b = κ.ι c → b = c
  imm : ∀ g o v, κ.I g o = some v → w.cell? ⟨g, o, none⟩ = some v
  immo : ∀ g o v b q, κ.I g o = some v → h[b]? = some q → q.ty ≠ .dead → κ.ι b ≠ g
  tip : ∀ τ, u τ → ∃ g o n c sz, κ.tip τ = some (g, o, n, c, sz) ∧ (∃ cs e, w.heap[g]? = some (.cells cs e (0, 0)) ∧ o + c * sz ≤ cs.size) ∧
    (∀ j, o + n * sz ≤ j → j < o + c * sz → κ.I g j = none) ∧ (∀ b, b < κ.n → κ.ι b ≠ g) ∧
    (∀ σ g' o' n' c' sz', u σ → σ ≠ τ → κ.tip σ = some (g', o', n', c', sz') → g' ≠ g)
  fresh : ∀ τ, u.m ≤ τ → κ.tip τ = none

structure Ext (κ : K) (u : Tips) (w : World) (κ' : K) (u' : Tips) (w' : World) : Prop where
  le : κ.Le κ'
  m : u.m ≤ u'.m
  old : ∀ τ, τ < u.m → κ'.tip τ = κ.tip τ
  os : w'.os = w.os
  tape : w'.tape = w.tape
  output : w'.output = w.output
  size : w.heap.size ≤ w'.heap.size
  frame : ∀ g, g < w.heap.size → (∀ b, b < κ.n → κ.ι b ≠ g) → (∀ τ g' o n c sz, u τ → κ.tip τ = some (g', o, n, c, sz) → g' ≠ g) → w'.heap[g]? = w.heap[g]?
  new : ∀ b, κ.n ≤ b → b < κ'.n → w.heap.size ≤ κ'.ι b
  tips : ∀ τ g o n c sz, u' τ → κ'.tip τ = some (g, o, n, c, sz) → w.heap.size ≤ g ∨ ∃ σ o' n' c' sz', u σ ∧ κ.tip σ = some (g, o', n', c', sz')
  imms : ∀ g o v, κ'.I g o = some v → κ.I g o = some v ∨ w.heap.size ≤ g ∨ (∃ b, b < κ.n ∧ κ.ι b = g) ∨ ∃ σ o' n' c' sz', u σ ∧ κ.tip σ = some (g, o', n', c', sz')

theorem Ext.refl (κ : K) (u : Tips) (w : World) : Ext κ u w κ u w :=
  ⟨.refl κ, Nat.le_refl _, fun _ _ => rfl, rfl, rfl, rfl, Nat.le_refl _, fun _ _ _ _ => rfl, fun b h1 h2 => by omega, fun τ g o n c sz hu ht => .inr ⟨τ, o, n, c, sz, hu, ht⟩, fun g o v hv => .inl hv⟩

theorem Ext.trans {κ κ1 κ2 : K} {u u1 u2 : Tips} {w w1 w2 : World} (h : Ext κ u w κ1 u1 w1) (k : Ext κ1 u1 w1 κ2 u2 w2) : Ext κ u w κ2 u2 w2 where
  le := h.le.trans k.le
  m := Nat.le_trans h.m k.m
  old := fun τ hτ => (k.old τ (Nat.lt_of_lt_of_le hτ h.m)).trans (h.old τ hτ)
  os := k.os.trans h.os
  tape := k.tape.trans h.tape
  output := k.output.trans h.output
  size := Nat.le_trans h.size k.size
  frame := fun g hg h1 h2 => by
    rw [← h.frame g hg h1 h2]
    refine k.frame g (Nat.lt_of_lt_of_le hg h.size) (fun b hb e => ?_) (fun τ g' o n c sz hu ht e => ?_)
    · by_cases hn : b < κ.n
      · exact h1 b hn (by rw [← h.le.ι b hn]; exact e)
      · have := h.new b (by omega) hb; omega
    · subst e
      rcases h.tips τ g' o n c sz hu ht with h3 | ⟨σ, o', n', c', sz', h3, h4⟩
      · omega
      · exact h2 σ g' o' n' c' sz' h3 h4 rfl
  new := fun b h1 h2 => by
    by_cases hn : b < κ1.n
    · rw [k.le.ι b hn]; exact h.new b h1 hn
    · exact Nat.le_trans h.size (k.new b (by omega) h2)
  tips := fun τ g o n c sz hu ht => by
    rcases k.tips τ g o n c sz hu ht with h3 | ⟨σ, o', n', c', sz', h3, h4⟩
    · exact .inl (Nat.le_trans h.size h3)
    · exact h.tips σ g o' n' c' sz' h3 h4
  imms := fun g o v hv => by
    rcases k.imms g o v hv with h3 | h3 | ⟨b, h3, h4⟩ | ⟨σ, o', n', c', sz', h3, h4⟩
    · exact h.imms g o v h3
    · exact .inr (.inl (Nat.le_trans h.size h3))
    · by_cases hn : b < κ.n
      · exact .inr (.inr (.inl ⟨b, hn, by rw [← h.le.ι b hn]; exact h4⟩))
      · exact .inr (.inl (by rw [← h4]; exact h.new b (by omega) h3))
    · rcases h.tips σ g o' n' c' sz' h3 h4 with q | q
      · exact .inr (.inl q)
      · exact .inr (.inr (.inr q))

section
variable {P : Program} {κ : K} {w : World} {h : List AO} {u : Tips}

theorem WR.ι_lt (H : WR P κ w h u) {b : Nat} (hb : b < κ.n) : κ.ι b < w.heap.size := by
  have hb' : b < h.length := by have := H.n; omega
  obtain ⟨_, _, vs, e, h1, _⟩ := H.obj b h[b] (List.getElem?_eq_getElem hb')
  exact (Array.getElem?_eq_some_iff.1 h1).1
theorem WR.I_lt (H : WR P κ w h u) {g o : Nat} {v : Value} (hv : κ.I g o = some v) : g < w.heap.size :=
  World.block_lt_of_cell? w ⟨g, o, none⟩ (H.imm g o v hv)
theorem WR.tip_lt (H : WR P κ w h u) {τ g o n c sz : Nat} (hu : u τ) (ht : κ.tip τ = some (g, o, n, c, sz)) : g < w.heap.size := by
  obtain ⟨g', o', n', c', sz', h1, ⟨cs, e, h2, _⟩, _⟩ := H.tip τ hu
  rw [ht] at h1
  cases h1
  exact (Array.getElem?_eq_some_iff.1 h2).1

theorem Ext.drew (κ : K) (u : Tips) (w : World) : Ext κ u w κ u { w with drawn := w.drawn + 1 } :=
  ⟨.refl κ, Nat.le_refl _, fun _ _ => rfl, rfl, rfl, rfl, Nat.le_refl _, fun _ _ _ _ => rfl, fun b h1 h2 => by omega, fun τ g o n c sz hu ht => .inr ⟨τ, o, n, c, sz, hu, ht⟩, fun g o v hv => .inl hv⟩
theorem WR.drew (H : WR P κ w h u) : WR P κ { w with drawn := w.drawn + 1 } h u := ⟨H.n, H.obj, H.inj, H.imm, H.immo, H.tip, H.fresh⟩

theorem heap_alloc_old (o : Obj) {g : Nat} (hg : g < w.heap.size) : (w.alloc o).heap[g]? = w.heap[g]? := RowKit.Below.heap_alloc w o g hg
theorem heap_alloc_new (o : Obj) : (w.alloc o).heap[w.heap.size]? = some o := by
  show (w.heap.push o)[w.heap.size]? = _
  simp
theorem size_alloc (o : Obj) : (w.alloc o).heap.size = w.heap.size + 1 := by show (w.heap.push o).size = _; simp
theorem cell_alloc_old (o : Obj) {g i : Nat} (hg : g < w.heap.size) : (w.alloc o).cell? ⟨g, i, none⟩ = w.cell? ⟨g, i, none⟩ := by
  unfold World.cell?
  rw [heap_alloc_old o hg]

/-- What is known of the new world when an object is made. -/
def K.obj (κ : K) (g : Nat) (t : OTy) : K :=
  { κ with n := κ.n + 1, ι := fun b => if b = κ.n then g else κ.ι b, ty := fun b => if b = κ.n then t else κ.ty b }
theorem K.obj_le (κ : K) (g : Nat) (t : OTy) : κ.Le (κ.obj g t) :=
  ⟨Nat.le_succ _, fun b hb => if_neg (by omega), fun b hb => if_neg (by omega), fun _ _ _ h => h, fun _ _ h => h⟩

theorem WR.alloc (H : WR P κ w h u) {t : T} {ty : OTy} {e : TypeId} {vs : List Value} (hty : ty.ok P) (hv : VO P κ t ty vs) :
    Ext κ u w (κ.obj w.heap.size ty) u (w.alloc (.cells vs.toArray e (0, 0))) ∧ WR P (κ.obj w.heap.size ty) (w.alloc (.cells vs.toArray e (0, 0))) (h ++ [⟨ty, t⟩]) u := by
  have hle := κ.obj_le w.heap.size ty
  constructor
  · refine ⟨hle, Nat.le_refl _, fun _ _ => rfl, rfl, rfl, rfl, by rw [size_alloc]; omega, fun g hg _ _ => heap_alloc_old _ hg, fun b h1 h2 => ?_, fun τ g o n c sz hu ht => .inr ⟨τ, o, n, c, sz, hu, ht⟩, fun g o v hv => .inl hv⟩
    have : b = κ.n := by simp [K.obj] at h2; omega
    simp [K.obj, this]
  · have hold : ∀ b, b < κ.n → (κ.obj w.heap.size ty).ι b = κ.ι b := fun b hb => hle.ι b hb
    have hnew : (κ.obj w.heap.size ty).ι κ.n = w.heap.size := if_pos rfl
    refine ⟨by simp [K.obj, H.n], fun b o hb => ?_, fun b c hb hc hbc => ?_, fun g o v hv => ?_, fun g o v b q hv hb hq => ?_, fun τ hu => ?_, H.fresh⟩
    · by_cases hbn : b < κ.n
      · rw [List.getElem?_append_left (by have := H.n; omega)] at hb
        obtain ⟨h1, h2, vs', e', h3, h4⟩ := H.obj b o hb
        exact ⟨h1, h2.imp id fun h2 => (hle.ty b hbn).trans h2, vs', e', by rw [hold b hbn, heap_alloc_old _ (H.ι_lt hbn)]; exact h3, h4.mono hle⟩
      · have hbn' : b = κ.n := by
          have := (List.getElem?_eq_some_iff.1 hb).1
          simp at this
          have := H.n
          omega
        subst hbn'
        rw [H.n] at hb
        simp at hb
        subst hb
        exact ⟨hty, .inr (if_pos rfl), vs, e, by rw [hnew]; exact heap_alloc_new _, hv.mono hle⟩
    · have hb' : b < κ.n + 1 := hb
      have hc' : c < κ.n + 1 := hc
      by_cases h1 : b < κ.n <;> by_cases h2 : c < κ.n
      · rw [hold b h1, hold c h2] at hbc; exact H.inj b c h1 h2 hbc
      · have : c = κ.n := by omega
        subst this
        rw [hold b h1, hnew] at hbc
        have := H.ι_lt h1; omega
      · have : b = κ.n := by omega
        subst this
        rw [hold c h2, hnew] at hbc
        have := H.ι_lt h2; omega
      · omega
    · have := H.I_lt hv
      rw [cell_alloc_old _ this]; exact H.imm g o v hv
    · have hb' : b < κ.n + 1 := by have := (List.getElem?_eq_some_iff.1 hb).1; simp at this; have := H.n; omega
      by_cases h1 : b < κ.n
      · rw [hold b h1]; exact H.immo g o v b q hv (by rw [List.getElem?_append_left (by have := H.n; omega)] at hb; exact hb) hq
      · have : b = κ.n := by omega
        subst this
        rw [hnew]
        have := H.I_lt hv; omega
    · obtain ⟨g, o, n, c, sz, h1, ⟨cs, e', h2, h3⟩, h4, h5, h6⟩ := H.tip τ hu
      have hg := H.tip_lt hu h1
      refine ⟨g, o, n, c, sz, h1, ⟨cs, e', by rw [heap_alloc_old _ hg]; exact h2, h3⟩, h4, fun b hb => ?_, h6⟩
      have hb' : b < κ.n + 1 := hb
      by_cases hbn : b < κ.n
      · rw [hold b hbn]; exact h5 b hbn
      · have : b = κ.n := by omega
        subst this
        rw [hnew]; omega

/-- A new row of which the first cells do not change any more. -/
def K.row (κ : K) (g : Nat) (us : List Value) (m : Nat) (tp : Option (Nat × Nat × Nat)) : K :=
  { κ with I := fun g' j => if g' = g then us[j]? else κ.I g' j, tip := fun τ => if τ = m then tp.map (fun x => (g, 0, x.1, x.2.1, x.2.2)) else κ.tip τ }
/-- One tip more. -/
def Tips.more (u : Tips) : Tips := ⟨u.m :: u.live, u.m + 1⟩
theorem Tips.more_iff {u : Tips} {τ : Nat} : u.more τ ↔ τ = u.m ∨ u τ := List.mem_cons
/-- A tip is used up, there is another one. -/
def remN (τ : Nat) : List Nat → List Nat
  | [] => []
  | σ :: r => match Nat.beq σ τ with
    | true => remN τ r
    | false => σ :: remN τ r
theorem mem_remN {τ σ : Nat} : ∀ {l : List Nat}, σ ∈ remN τ l ↔ σ ≠ τ ∧ σ ∈ l
  | [] => by simp [remN]
  | a :: l => by
    have ih := mem_remN (τ := τ) (σ := σ) (l := l)
    unfold remN
    cases h : Nat.beq a τ with
    | true =>
      have := Nat.eq_of_beq_eq_true h
      subst this
      simp only [ih, List.mem_cons]
      constructor
      · exact fun ⟨h1, h2⟩ => ⟨h1, .inr h2⟩
      · rintro ⟨h1, h2 | h2⟩
        · exact absurd h2 h1
        · exact ⟨h1, h2⟩
    | false =>
      have := Nat.ne_of_beq_eq_false h
      simp only [ih, List.mem_cons]
      constructor
      · rintro (rfl | ⟨h1, h2⟩)
        · exact ⟨this, .inl rfl⟩
        · exact ⟨h1, .inr h2⟩
      · rintro ⟨h1, h2 | h2⟩
        · exact .inl h2
        · exact .inr ⟨h1, h2⟩
def Tips.used (u : Tips) (τ : Nat) : Tips := ⟨u.m :: remN τ u.live, u.m + 1⟩
theorem Tips.used_iff {u : Tips} {τ σ : Nat} : u.used τ σ ↔ σ = u.m ∨ (σ ≠ τ ∧ u σ) := by
  show σ ∈ u.m :: remN τ u.live ↔ _
  rw [List.mem_cons, mem_remN]
theorem WR.row_le (H : WR P κ w h u) (us : List Value) (tp : Option (Nat × Nat × Nat)) : κ.Le (κ.row w.heap.size us u.m tp) :=
  ⟨Nat.le_refl _, fun _ _ => rfl, fun _ _ => rfl, fun g o v hv => by
    have := H.I_lt hv
    show (if g = w.heap.size then _ else _) = _
    rw [if_neg (by omega)]; exact hv, fun τ x hx => by
    show (if τ = u.m then _ else _) = _
    by_cases e : τ = u.m
    · subst e; rw [H.fresh _ (Nat.le_refl _)] at hx; cases hx
    · rw [if_neg e]; exact hx⟩

theorem WR.row (H : WR P κ w h u) (us rest : List Value) (e : TypeId) (n c sz : Nat) (hl : us.length = n * sz) (hc : c * sz ≤ us.length + rest.length) :
    Ext κ u w (κ.row w.heap.size us u.m (some (n, c, sz))) u.more (w.alloc (.cells (us ++ rest).toArray e (0, 0))) ∧
    WR P (κ.row w.heap.size us u.m (some (n, c, sz))) (w.alloc (.cells (us ++ rest).toArray e (0, 0))) h u.more ∧
    HoldsAt (κ.row w.heap.size us u.m (some (n, c, sz))) w.heap.size 0 us := by
  have hle := H.row_le us (some (n, c, sz))
  have htm : (κ.row w.heap.size us u.m (some (n, c, sz))).tip u.m = some (w.heap.size, 0, n, c, sz) := if_pos rfl
  have hto : ∀ τ, τ ≠ u.m → (κ.row w.heap.size us u.m (some (n, c, sz))).tip τ = κ.tip τ := fun τ e => if_neg e
  have hum : ∀ τ, u τ → τ ≠ u.m := fun τ hu e => by
    subst e
    obtain ⟨_, _, _, _, _, h1, _⟩ := H.tip _ hu
    rw [H.fresh _ (Nat.le_refl _)] at h1; cases h1
  have hmi := @Tips.more_iff u
  refine ⟨⟨hle, Nat.le_succ _, fun τ hτ => if_neg (by omega), rfl, rfl, rfl, by rw [size_alloc]; omega, fun g hg _ _ => heap_alloc_old _ hg, fun b h1 h2 => ?_, fun τ g o n' c' sz' hu ht => ?_, fun g o v hv => ?_⟩, ?_, fun j v hv => ?_⟩
  · have h2' : b < κ.n := h2
    omega
  · rcases hmi.1 hu with rfl | hu
    · rw [htm] at ht; cases ht; exact .inl (Nat.le_refl _)
    · rw [hto τ (hum τ hu)] at ht
      exact .inr ⟨τ, o, n', c', sz', hu, ht⟩
  · have hv' : (if g = w.heap.size then us[o]? else κ.I g o) = some v := hv
    by_cases hg : g = w.heap.size
    · exact .inr (.inl (by omega))
    · rw [if_neg hg] at hv'; exact .inl hv'
  · refine ⟨H.n, fun b o hb => ?_, H.inj, fun g o v hv => ?_, fun g o v b q hv hb hq => ?_, fun τ hu => ?_, fun τ hτ => ?_⟩
    · obtain ⟨h1, h2, vs', e', h3, h4⟩ := H.obj b o hb
      have hbn : b < κ.n := by have := (List.getElem?_eq_some_iff.1 hb).1; have := H.n; omega
      exact ⟨h1, h2, vs', e', by show (w.alloc _).heap[κ.ι b]? = _; rw [heap_alloc_old _ (H.ι_lt hbn)]; exact h3, h4.mono hle⟩
    · have hv' : (if g = w.heap.size then us[o]? else κ.I g o) = some v := hv
      by_cases hg : g = w.heap.size
      · subst hg
        rw [if_pos rfl] at hv'
        unfold World.cell?
        rw [heap_alloc_new]
        have ho := (List.getElem?_eq_some_iff.1 hv').1
        simp [List.getElem?_append_left ho, hv']
      · rw [if_neg hg] at hv'
        rw [cell_alloc_old _ (H.I_lt hv')]; exact H.imm g o v hv'
    · have hv' : (if g = w.heap.size then us[o]? else κ.I g o) = some v := hv
      by_cases hg : g = w.heap.size
      · subst hg
        have hb' : b < κ.n := by have := (List.getElem?_eq_some_iff.1 hb).1; have := H.n; omega
        have := H.ι_lt hb'
        show κ.ι b ≠ _
        omega
      · rw [if_neg hg] at hv'
        exact H.immo g o v b q hv' hb hq
    · rcases hmi.1 hu with rfl | hu
      · refine ⟨_, _, _, _, _, htm, ⟨_, e, heap_alloc_new _, by simp; omega⟩, fun j h1 _ => ?_, fun b hb => ?_, fun σ g' o' n' c' sz' hσ hne ht => ?_⟩
        · show (if w.heap.size = w.heap.size then us[j]? else _) = none
          rw [if_pos rfl, List.getElem?_eq_none (by omega)]
        · have hb' : b < κ.n := hb
          have := H.ι_lt hb'
          show κ.ι b ≠ _
          omega
        · rcases hmi.1 hσ with rfl | hσ
          · exact absurd rfl hne
          · rw [hto σ hne] at ht
            have := H.tip_lt hσ ht
            omega
      · obtain ⟨g, o, n', c', sz', h1, ⟨cs, e', h2, h3⟩, h4, h5, h6⟩ := H.tip τ hu
        have hg := H.tip_lt hu h1
        refine ⟨g, o, n', c', sz', by rw [hto τ (hum τ hu)]; exact h1, ⟨cs, e', by rw [heap_alloc_old _ hg]; exact h2, h3⟩, fun j h7 h8 => ?_, h5, fun σ g' o' n'' c'' sz'' hσ hne ht => ?_⟩
        · show (if g = w.heap.size then us[j]? else _) = none
          rw [if_neg (by omega)]; exact h4 j h7 h8
        · rcases hmi.1 hσ with rfl | hσ
          · rw [htm] at ht; cases ht; omega
          · rw [hto σ (hum σ hσ)] at ht
            exact h6 σ g' o' n'' c'' sz'' hσ hne ht
    · show (if τ = u.m then _ else κ.tip τ) = none
      have hτ' : u.m + 1 ≤ τ := hτ
      rw [if_neg (by omega)]; exact H.fresh τ (by omega)
  · show (if w.heap.size = w.heap.size then us[0 + j]? else _) = some v
    rw [if_pos rfl, Nat.zero_add]; exact hv

/-- A new row of which nothing changes any more. -/
theorem WR.row0 (H : WR P κ w h u) (us rest : List Value) (e : TypeId) :
    Ext κ u w (κ.row w.heap.size us u.m none) u (w.alloc (.cells (us ++ rest).toArray e (0, 0))) ∧
    WR P (κ.row w.heap.size us u.m none) (w.alloc (.cells (us ++ rest).toArray e (0, 0))) h u ∧
    HoldsAt (κ.row w.heap.size us u.m none) w.heap.size 0 us := by
  have hle := H.row_le us none
  have hto : ∀ τ x, (κ.row w.heap.size us u.m none).tip τ = some x → κ.tip τ = some x := fun τ x h => by
    have h' : (if τ = u.m then none else κ.tip τ) = some x := h
    split at h'
    · cases h'
    · exact h'
  have hum : ∀ τ, u τ → τ ≠ u.m := fun τ hu e => by
    subst e
    obtain ⟨_, _, _, _, _, h1, _⟩ := H.tip _ hu
    rw [H.fresh _ (Nat.le_refl _)] at h1; cases h1
  refine ⟨⟨hle, Nat.le_refl _, fun τ hτ => if_neg (by omega), rfl, rfl, rfl, by rw [size_alloc]; omega, fun g hg _ _ => heap_alloc_old _ hg, fun b h1 h2 => ?_, fun τ g o n' c' sz' hu ht => .inr ⟨τ, o, n', c', sz', hu, hto _ _ ht⟩, fun g o v hv => ?_⟩, ?_, fun j v hv => ?_⟩
  · have h2' : b < κ.n := h2
    omega
  · have hv' : (if g = w.heap.size then us[o]? else κ.I g o) = some v := hv
    by_cases hg : g = w.heap.size
    · exact .inr (.inl (by omega))
    · rw [if_neg hg] at hv'; exact .inl hv'
  · refine ⟨H.n, fun b o hb => ?_, H.inj, fun g o v hv => ?_, fun g o v b q hv hb hq => ?_, fun τ hu => ?_, fun τ hτ => ?_⟩
    · obtain ⟨h1, h2, vs', e', h3, h4⟩ := H.obj b o hb
      have hbn : b < κ.n := by have := (List.getElem?_eq_some_iff.1 hb).1; have := H.n; omega
      exact ⟨h1, h2, vs', e', by show (w.alloc _).heap[κ.ι b]? = _; rw [heap_alloc_old _ (H.ι_lt hbn)]; exact h3, h4.mono hle⟩
    · have hv' : (if g = w.heap.size then us[o]? else κ.I g o) = some v := hv
      by_cases hg : g = w.heap.size
      · subst hg
        rw [if_pos rfl] at hv'
        unfold World.cell?
        rw [heap_alloc_new]
        have ho := (List.getElem?_eq_some_iff.1 hv').1
        simp [List.getElem?_append_left ho, hv']
      · rw [if_neg hg] at hv'
        rw [cell_alloc_old _ (H.I_lt hv')]; exact H.imm g o v hv'
    · have hv' : (if g = w.heap.size then us[o]? else κ.I g o) = some v := hv
      by_cases hg : g = w.heap.size
      · subst hg
        have hb' : b < κ.n := by have := (List.getElem?_eq_some_iff.1 hb).1; have := H.n; omega
        have := H.ι_lt hb'
        show κ.ι b ≠ _
        omega
      · rw [if_neg hg] at hv'
        exact H.immo g o v b q hv' hb hq
    · obtain ⟨g, o, n', c', sz', h1, ⟨cs, e', h2, h3⟩, h4, h5, h6⟩ := H.tip τ hu
      have hg := H.tip_lt hu h1
      refine ⟨g, o, n', c', sz', by show (if τ = u.m then none else κ.tip τ) = _; rw [if_neg (hum τ hu)]; exact h1, ⟨cs, e', by rw [heap_alloc_old _ hg]; exact h2, h3⟩, fun j h7 h8 => ?_, h5, fun σ g' o' n'' c'' sz'' hσ hne ht => h6 σ g' o' n'' c'' sz'' hσ hne (hto _ _ ht)⟩
      show (if g = w.heap.size then us[j]? else _) = none
      rw [if_neg (by omega)]; exact h4 j h7 h8
    · show (if τ = u.m then none else κ.tip τ) = none
      split
      · rfl
      · exact H.fresh τ hτ
  · show (if w.heap.size = w.heap.size then us[0 + j]? else _) = some v
    rw [if_pos rfl, Nat.zero_add]; exact hv
end
end Go.Am

/- A layer over the walk's rules. This text: parts of a tree, read and written. -/
namespace Go.Am

/-- What the types' table has to fulfil. -/
structure WfP (P : Program) : Prop where
  field : ∀ ty fs, ty < P.types.size → P.underlying ty = some (.struct fs) → ∀ (i : Nat) (f : Field), fs[i]? = some f → f.type < P.types.size ∧ f.offset + szOf P f.type ≤ szOf P ty
  apart : ∀ ty fs, ty < P.types.size → P.underlying ty = some (.struct fs) → ∀ (i j : Nat) (f g : Field), i < j → fs[i]? = some f → fs[j]? = some g → f.offset + szOf P f.type ≤ g.offset
  arr : ∀ ty n e, ty < P.types.size → P.underlying ty = some (.array n e) → e < P.types.size ∧ szOf P ty = n * szOf P e
  sli : ∀ ty e, ty < P.types.size → P.underlying ty = some (.slice e) → e < P.types.size
  size : ∀ ty, ty < P.types.size → ∃ i, P.info? ty = some i ∧ i.size = szOf P ty

def T.kids : T → List T
  | .st fs => fs
  | .arr xs => xs
  | _ => []
def T.get : T → List Nat → Option T
  | t, [] => some t
  | t, i :: r => match t.kids[i]? with
    | some x => T.get x r
    | none => none
def T.put : T → List Nat → T → Option T
  | _, [], x => some x
  | .st fs, i :: r, x => match fs[i]? with
    | some y => match T.put y r x with
      | some z => some (.st (fs.set i z))
      | none => none
    | none => none
  | .arr xs, i :: r, x => match xs[i]? with
    | some y => match T.put y r x with
      | some z => some (.arr (xs.set i z))
      | none => none
    | none => none
  | _, _ :: _, _ => none

def splice (vs : List Value) (o : Nat) (us : List Value) : List Value := vs.take o ++ us ++ vs.drop (o + us.length)
theorem splice_length {vs us : List Value} {o : Nat} (h : o + us.length ≤ vs.length) : (splice vs o us).length = vs.length := by
  simp [splice]; omega
theorem splice_get {vs us : List Value} {o : Nat} (h : o + us.length ≤ vs.length) (j : Nat) :
    (splice vs o us)[j]? = if j < o then vs[j]? else if j < o + us.length then us[j - o]? else vs[j]? := by
  unfold splice
  by_cases h1 : j < o
  · rw [if_pos h1, List.append_assoc, List.getElem?_append_left (by simp; omega), List.getElem?_take_of_lt h1]
  · rw [if_neg h1]
    by_cases h2 : j < o + us.length
    · rw [if_pos h2, List.getElem?_append_left (by simp; omega), List.getElem?_append_right (by simp; omega)]
      congr 1
      simp; omega
    · rw [if_neg h2, List.getElem?_append_right (by simp; omega), List.getElem?_drop]
      congr 1
      simp; omega
theorem part_get (vs : List Value) (o n j : Nat) : ((vs.drop o).take n)[j]? = if j < n then vs[o + j]? else none := by
  by_cases h : j < n
  · rw [if_pos h, List.getElem?_take_of_lt h, List.getElem?_drop]
  · rw [if_neg h, List.getElem?_take_eq_none (by omega)]
/-- A part of what a splice lies beside. -/
theorem splice_beside {vs us : List Value} {o : Nat} (h : o + us.length ≤ vs.length) {a n : Nat} (hb : a + n ≤ o ∨ o + us.length ≤ a) :
    ((splice vs o us).drop a).take n = (vs.drop a).take n := by
  apply List.ext_getElem?
  intro j
  rw [part_get, part_get]
  by_cases hj : j < n
  · rw [if_pos hj, if_pos hj, splice_get h]
    by_cases h1 : a + j < o
    · rw [if_pos h1]
    · rw [if_neg h1, if_neg (by omega)]
  · rw [if_neg hj, if_neg hj]
/-- A part that holds the splice. -/
theorem splice_inside {vs us : List Value} {a n b : Nat} (h : a + n ≤ vs.length) (hb : b + us.length ≤ n) :
    ((splice vs (a + b) us).drop a).take n = splice ((vs.drop a).take n) b us := by
  apply List.ext_getElem?
  intro j
  rw [part_get, splice_get (by omega), splice_get (by simp; omega)]
  by_cases hj : j < n
  · rw [if_pos hj]
    by_cases h1 : j < b
    · rw [if_pos (by omega), if_pos h1, part_get, if_pos hj]
    · rw [if_neg (by omega), if_neg h1]
      by_cases h2 : j < b + us.length
      · rw [if_pos (by omega), if_pos h2]; congr 1; omega
      · rw [if_neg (by omega), if_neg h2, part_get, if_pos hj]
  · rw [if_neg hj]
    rw [if_neg (by omega), if_neg (by omega), part_get, if_neg hj]
theorem splice_one {vs us : List Value} {o : Nat} (h : ∀ v ∈ vs, one v = true) (k : ∀ v ∈ us, one v = true) : ∀ v ∈ splice vs o us, one v = true := by
  intro v hv
  simp only [splice, List.mem_append] at hv
  rcases hv with (hv | hv) | hv
  · exact h v (List.mem_of_mem_take hv)
  · exact k v hv
  · exact h v (List.mem_of_mem_drop hv)
theorem splice_whole {vs us : List Value} (h : us.length = vs.length) : splice vs 0 us = us := by
  simp [splice, h]
theorem part_part (vs : List Value) (a n b m : Nat) (h : b + m ≤ n) : (((vs.drop a).take n).drop b).take m = (vs.drop (a + b)).take m := by
  apply List.ext_getElem?
  intro j
  rw [part_get, part_get, part_get]
  by_cases hj : j < m
  · rw [if_pos hj, if_pos hj, if_pos (by omega)]; congr 1; omega
  · rw [if_neg hj, if_neg hj]

section
variable {P : Program} {κ : K}

theorem VF_get : ∀ {ts : List T} {fs : List Field} {vs : List Value} {i : Nat} {t : T}, VF P κ ts fs vs → ts[i]? = some t → ∃ f, fs[i]? = some f ∧ VT P κ t f.type ((vs.drop f.offset).take (szOf P f.type))
  | [], _, _, _, _ => fun _ h => by simp at h
  | _ :: _, [], _, _, _ => fun h => by simp only [VF] at h
  | a :: ts, f :: fs, vs, 0, t => fun h e => by
    simp only [VF] at h
    simp at e; subst e
    exact ⟨f, rfl, h.1⟩
  | a :: ts, f :: fs, vs, i + 1, t => fun h e => by
    simp only [VF] at h
    simp only [List.getElem?_cons_succ] at e ⊢
    exact VF_get h.2 e
theorem VF_len : ∀ {ts : List T} {fs : List Field} {vs : List Value}, VF P κ ts fs vs → ts.length = fs.length
  | [], [], _ => fun _ => rfl
  | [], _ :: _, _ => fun h => by simp only [VF] at h
  | _ :: _, [], _ => fun h => by simp only [VF] at h
  | _ :: ts, _ :: fs, vs => fun h => by simp only [VF] at h; simp [VF_len h.2]
theorem VF_of : ∀ {ts : List T} {fs : List Field} {vs : List Value}, ts.length = fs.length → (∀ (i : Nat) (t : T) (f : Field), ts[i]? = some t → fs[i]? = some f → VT P κ t f.type ((vs.drop f.offset).take (szOf P f.type))) → VF P κ ts fs vs
  | [], [], _ => fun _ _ => by simp only [VF]
  | [], _ :: _, _ => fun h => by simp at h
  | _ :: _, [], _ => fun h => by simp at h
  | a :: ts, f :: fs, vs => fun h hh => by
    simp only [VF]
    exact ⟨hh 0 a f rfl rfl, VF_of (by simpa using h) fun i t g h1 h2 => hh (i + 1) t g (by simpa using h1) (by simpa using h2)⟩
theorem VA_len : ∀ {xs : List T} {e : TypeId} {vs : List Value}, VA P κ xs e vs → vs.length = xs.length * szOf P e
  | [], e, vs => fun h => by simp only [VA] at h; subst h; simp
  | x :: xs, e, vs => fun h => by
    simp only [VA] at h
    have := VA_len h.2.2
    simp only [List.length_drop, List.length_cons, Nat.succ_mul] at this ⊢
    omega
theorem VA_get : ∀ {xs : List T} {e : TypeId} {vs : List Value} {i : Nat} {t : T}, VA P κ xs e vs → xs[i]? = some t → VT P κ t e ((vs.drop (i * szOf P e)).take (szOf P e)) ∧ i * szOf P e + szOf P e ≤ vs.length
  | [], _, _, _, _ => fun _ h => by simp at h
  | x :: xs, e, vs, 0, t => fun h hi => by
    simp only [VA] at h
    simp at hi; subst hi
    exact ⟨by simpa using h.2.1, by simpa using h.1⟩
  | x :: xs, e, vs, i + 1, t => fun h hi => by
    simp only [VA] at h
    simp only [List.getElem?_cons_succ] at hi
    obtain ⟨h1, h2⟩ := VA_get h.2.2 hi
    rw [List.drop_drop] at h1
    simp only [List.length_drop] at h2
    refine ⟨by rw [Nat.succ_mul, Nat.add_comm (i * _)]; exact h1, ?_⟩
    have := h.1
    rw [Nat.succ_mul]; omega
theorem VA_append : ∀ {xs ys : List T} {e : TypeId} {us vs : List Value}, VA P κ xs e us → VA P κ ys e vs → VA P κ (xs ++ ys) e (us ++ vs)
  | [], ys, e, us, vs => fun h k => by simp only [VA] at h; subst h; exact k
  | x :: xs, ys, e, us, vs => fun h k => by
    simp only [VA, List.cons_append] at h ⊢
    refine ⟨by simp; omega, ?_, ?_⟩
    · rw [List.take_append_of_le_length h.1]; exact h.2.1
    · rw [List.drop_append_of_le_length h.1]; exact VA_append h.2.2 k
theorem VA_take : ∀ {xs : List T} {e : TypeId} {us : List Value} (k : Nat), VA P κ xs e us → VA P κ (xs.take k) e (us.take (k * szOf P e))
  | [], e, us, k => fun h => by simp only [VA] at h; subst h; simp [VA]
  | x :: xs, e, us, 0 => fun h => by simp [VA]
  | x :: xs, e, us, k + 1 => fun h => by
    simp only [VA, List.take_succ_cons] at h ⊢
    refine ⟨by rw [List.length_take, Nat.succ_mul]; omega, ?_, ?_⟩
    · rw [List.take_take, Nat.min_eq_left (by rw [Nat.succ_mul]; omega)]; exact h.2.1
    · have := VA_take k h.2.2
      rw [List.drop_take, show (k + 1) * szOf P e - szOf P e = k * szOf P e by rw [Nat.succ_mul]; omega]
      exact this
theorem VA_drop : ∀ {xs : List T} {e : TypeId} {us : List Value} (k : Nat), VA P κ xs e us → VA P κ (xs.drop k) e (us.drop (k * szOf P e))
  | [], e, us, k => fun h => by simp only [VA] at h; subst h; simp [VA]
  | x :: xs, e, us, 0 => fun h => by simpa using h
  | x :: xs, e, us, k + 1 => fun h => by
    simp only [VA, List.drop_succ_cons] at h ⊢
    have := VA_drop k h.2.2
    rw [List.drop_drop] at this
    rw [Nat.succ_mul, Nat.add_comm (k * _)]; exact this
theorem VA_of_get : ∀ {xs : List T} {e : TypeId} {vs : List Value}, vs.length = xs.length * szOf P e → (∀ (i : Nat) (t : T), xs[i]? = some t → VT P κ t e ((vs.drop (i * szOf P e)).take (szOf P e))) → VA P κ xs e vs
  | [], e, vs => fun h _ => by simp only [VA]; simpa using h
  | x :: xs, e, vs => fun h hh => by
    simp only [VA]
    simp only [List.length_cons, Nat.succ_mul] at h
    refine ⟨by omega, by simpa using hh 0 x rfl, VA_of_get (by simp; omega) fun i t hi => ?_⟩
    have := hh (i + 1) t (by simpa using hi)
    rw [List.drop_drop, Nat.add_comm (szOf P e), ← Nat.succ_mul]
    exact this
theorem VA_set {xs : List T} {e : TypeId} {vs us : List Value} {i : Nat} {t : T} (h : VA P κ xs e vs) (hi : i < xs.length) (ht : VT P κ t e us) (hl : us.length = szOf P e) :
    VA P κ (xs.set i t) e (splice vs (i * szOf P e) us) := by
  have hlen := VA_len h
  have hle : i * szOf P e + szOf P e ≤ vs.length := (VA_get h (List.getElem?_eq_getElem hi)).2
  refine VA_of_get (by rw [splice_length (by omega)]; simpa using hlen) fun k x hk => ?_
  rw [List.getElem?_set] at hk
  by_cases e1 : i = k
  · subst e1
    rw [if_pos rfl, if_pos hi] at hk
    cases hk
    have := splice_inside (vs := vs) (us := us) (a := i * szOf P e) (n := szOf P e) (b := 0) hle (by omega)
    rw [Nat.add_zero] at this
    rw [this, splice_whole (by simp; omega)]
    exact ht
  · rw [if_neg e1] at hk
    have hkx := VA_get h hk
    rw [splice_beside (by omega)]
    · exact hkx.1
    · rw [hl]
      rcases Nat.lt_or_ge k i with h1 | h1
      · left
        have := Nat.mul_le_mul_right (szOf P e) (show k + 1 ≤ i from h1)
        rw [Nat.succ_mul] at this
        omega
      · right
        have := Nat.mul_le_mul_right (szOf P e) (show i + 1 ≤ k by omega)
        rw [Nat.succ_mul] at this
        omega
theorem VF_set {ts : List T} {fs : List Field} {vs us : List Value} {i : Nat} {t : T} {f : Field} {n : Nat} (h : VF P κ ts fs vs) (hi : fs[i]? = some f) (hn : vs.length = n)
    (hw : ∀ (i : Nat) (f : Field), fs[i]? = some f → f.offset + szOf P f.type ≤ n) (ha : ∀ (i j : Nat) (f g : Field), i < j → fs[i]? = some f → fs[j]? = some g → f.offset + szOf P f.type ≤ g.offset)
    (ht : VT P κ t f.type us) (hl : us.length = szOf P f.type) : VF P κ (ts.set i t) fs (splice vs f.offset us) := by
  have hle := hw i f hi
  refine VF_of (by simpa using VF_len h) fun k x g hk hg => ?_
  rw [List.getElem?_set] at hk
  by_cases e1 : i = k
  · subst e1
    have hgf : g = f := by rw [hg] at hi; exact Option.some.inj hi
    subst hgf
    split at hk
    · split at hk
      · cases hk
        have := splice_inside (vs := vs) (us := us) (a := g.offset) (n := szOf P g.type) (b := 0) (by omega) (by omega)
        rw [Nat.add_zero] at this
        rw [this, splice_whole (by simp; omega)]
        exact ht
      · cases hk
    · exact absurd rfl ‹_›
  · rw [if_neg e1] at hk
    obtain ⟨g', hg', hx⟩ := VF_get h hk
    rw [hg] at hg'
    cases hg'
    rw [splice_beside (by omega)]
    · exact hx
    · rw [hl]
      rcases Nat.lt_or_ge k i with h1 | h1
      · exact .inl (ha k i g f h1 hg hi)
      · exact .inr (ha i k f g (by omega) hi hg)

theorem VT_get (hP : WfP P) : ∀ {path : List Nat} {t x : T} {ty ty' : TypeId} {o : Nat} {vs : List Value}, ty < P.types.size → VT P κ t ty vs → vs.length = szOf P ty → walkPath P ty path = some (o, ty') → t.get path = some x →
    VT P κ x ty' ((vs.drop o).take (szOf P ty')) ∧ o + szOf P ty' ≤ vs.length ∧ ty' < P.types.size
  | [], t, x, ty, ty', o, vs => fun hty h hl hw hx => by
    simp only [walkPath, Option.some.injEq, Prod.mk.injEq] at hw
    obtain ⟨rfl, rfl⟩ := hw
    simp only [T.get, Option.some.injEq] at hx
    subst hx
    refine ⟨?_, by omega, hty⟩
    rw [List.drop_zero, List.take_of_length_le (by omega)]; exact h
  | i :: r, t, x, ty, ty', o, vs => fun hty h hl hw hx => by
    simp only [walkPath] at hw
    cases hs : stepPath P ty i with
    | none => rw [hs] at hw; cases hw
    | some q =>
      obtain ⟨o1, t1⟩ := q
      rw [hs] at hw
      simp only at hw
      cases hw2 : walkPath P t1 r with
      | none => rw [hw2] at hw; cases hw
      | some q2 =>
        obtain ⟨o2, t2⟩ := q2
        rw [hw2] at hw
        simp only [Option.some.injEq, Prod.mk.injEq] at hw
        obtain ⟨rfl, rfl⟩ := hw
        simp only [T.get] at hx
        cases hk : t.kids[i]? with
        | none => rw [hk] at hx; cases hx
        | some y =>
          rw [hk] at hx
          have key : VT P κ y t1 ((vs.drop o1).take (szOf P t1)) ∧ o1 + szOf P t1 ≤ vs.length ∧ t1 < P.types.size := by
            cases t with
            | st fs =>
              simp only [VT] at h
              obtain ⟨fields, h1, h2, h2', h3⟩ := h
              obtain ⟨f, hf, hv⟩ := VF_get h3 hk
              simp only [stepPath, h1] at hs
              have hf' : fields[i]? = some f := by simpa using hf
              rw [hf'] at hs
              simp only [Option.map_some, Option.some.injEq, Prod.mk.injEq] at hs
              obtain ⟨rfl, rfl⟩ := hs
              obtain ⟨w1, w2⟩ := hP.field ty fields hty h1 i f hf'
              exact ⟨hv, by omega, w1⟩
            | arr xs =>
              simp only [VT] at h
              obtain ⟨n, e, h1, h2, h3, h3', h4⟩ := h
              simp only [stepPath, h1] at hs
              have hi : i < n := by
                have := (List.getElem?_eq_some_iff.1 hk).1
                simp only [T.kids] at this
                omega
              rw [if_pos hi] at hs
              simp only [Option.some.injEq, Prod.mk.injEq] at hs
              obtain ⟨rfl, rfl⟩ := hs
              obtain ⟨hv, hle⟩ := VA_get h4 hk
              exact ⟨hv, hle, (hP.arr ty n e hty h1).1⟩
            | s v => simp [T.kids] at hk
            | lst xs tag => simp [T.kids] at hk
            | ptr b p => simp [T.kids] at hk
            | vw b o l c => simp [T.kids] at hk
            | ep a b => simp [T.kids] at hk
            | tup xs => simp [T.kids] at hk
            | fn f a b => simp [T.kids] at hk
            | ifc a b => simp [T.kids] at hk
            | any => simp [T.kids] at hk
          obtain ⟨k1, k2, k3⟩ := key
          obtain ⟨r1, r2, r3⟩ := VT_get hP k3 k1 (by simp; omega) hw2 hx
          have hlen : ((vs.drop o1).take (szOf P t1)).length = szOf P t1 := by simp; omega
          rw [hlen] at r2
          rw [part_part vs o1 _ o2 _ r2] at r1
          exact ⟨r1, by omega, r3⟩

theorem VT_put (hP : WfP P) : ∀ {path : List Nat} {t x z : T} {ty ty' : TypeId} {o : Nat} {vs us : List Value}, ty < P.types.size → VT P κ t ty vs → vs.length = szOf P ty → walkPath P ty path = some (o, ty') → t.put path x = some z →
    VT P κ x ty' us → us.length = szOf P ty' → (∀ v ∈ us, one v = true) → VT P κ z ty (splice vs o us) ∧ o + us.length ≤ vs.length
  | [], t, x, z, ty, ty', o, vs, us => fun hty h hl hw hz hx hlu ho => by
    simp only [walkPath, Option.some.injEq, Prod.mk.injEq] at hw
    obtain ⟨rfl, rfl⟩ := hw
    simp only [T.put, Option.some.injEq] at hz
    subst hz
    rw [splice_whole (by omega)]
    exact ⟨hx, by omega⟩
  | i :: r, t, x, z, ty, ty', o, vs, us => fun hty h hl hw hz hx hlu ho => by
    simp only [walkPath] at hw
    cases hs : stepPath P ty i with
    | none => rw [hs] at hw; cases hw
    | some q =>
      obtain ⟨o1, t1⟩ := q
      rw [hs] at hw
      simp only at hw
      cases hw2 : walkPath P t1 r with
      | none => rw [hw2] at hw; cases hw
      | some q2 =>
        obtain ⟨o2, t2⟩ := q2
        rw [hw2] at hw
        simp only [Option.some.injEq, Prod.mk.injEq] at hw
        obtain ⟨rfl, rfl⟩ := hw
        cases t with
        | st fs =>
          simp only [VT] at h
          obtain ⟨fields, h1, h2, h2', h3⟩ := h
          simp only [T.put] at hz
          cases hk : fs[i]? with
          | none => rw [hk] at hz; cases hz
          | some y =>
            rw [hk] at hz
            simp only at hz
            cases hp : y.put r x with
            | none => rw [hp] at hz; cases hz
            | some y' =>
              rw [hp] at hz
              simp only [Option.some.injEq] at hz
              subst hz
              obtain ⟨f, hf, hv⟩ := VF_get h3 hk
              simp only [stepPath, h1] at hs
              have hf' : fields[i]? = some f := by simpa using hf
              rw [hf'] at hs
              simp only [Option.map_some, Option.some.injEq, Prod.mk.injEq] at hs
              obtain ⟨rfl, rfl⟩ := hs
              obtain ⟨w1, w2⟩ := hP.field ty fields hty h1 i f hf'
              have hlen : ((vs.drop f.offset).take (szOf P f.type)).length = szOf P f.type := by simp; omega
              obtain ⟨r1, r2⟩ := VT_put hP w1 hv hlen hw2 hp hx hlu ho
              rw [hlen] at r2
              rw [← splice_inside (by omega) r2] at r1
              refine ⟨?_, by omega⟩
              simp only [VT]
              refine ⟨fields, h1, by rw [splice_length (by omega)]; exact h2, splice_one h2' ho, ?_⟩
              have := VF_set (us := ((splice vs (f.offset + o2) us).drop f.offset).take (szOf P f.type)) h3 hf hl (fun i f hi => (hP.field ty fields hty h1 i f (by simpa using hi)).2)
                (fun i j f g hij h6 h7 => hP.apart ty fields hty h1 i j f g hij (by simpa using h6) (by simpa using h7)) r1 (by simp [splice_length (show f.offset + o2 + us.length ≤ vs.length by omega)]; omega)
              have heq : splice vs f.offset (((splice vs (f.offset + o2) us).drop f.offset).take (szOf P f.type)) = splice vs (f.offset + o2) us := by
                have hl2 : (((splice vs (f.offset + o2) us).drop f.offset).take (szOf P f.type)).length = szOf P f.type := by simp [splice_length (show f.offset + o2 + us.length ≤ vs.length by omega)]; omega
                apply List.ext_getElem?
                intro j
                rw [splice_get (by omega), hl2]
                by_cases j1 : j < f.offset
                · rw [if_pos j1, splice_get (by omega), if_pos (by omega)]
                · rw [if_neg j1]
                  by_cases j2 : j < f.offset + szOf P f.type
                  · rw [if_pos j2, part_get, if_pos (by omega)]; congr 1; omega
                  · rw [if_neg j2, splice_get (by omega), if_neg (by omega), if_neg (by omega)]
              rw [heq] at this
              exact this
        | arr xs =>
          simp only [VT] at h
          obtain ⟨n, e, h1, h2, h3, h3', h4⟩ := h
          simp only [T.put] at hz
          cases hk : xs[i]? with
          | none => rw [hk] at hz; cases hz
          | some y =>
            rw [hk] at hz
            simp only at hz
            cases hp : y.put r x with
            | none => rw [hp] at hz; cases hz
            | some y' =>
              rw [hp] at hz
              simp only [Option.some.injEq] at hz
              subst hz
              have hi' : i < xs.length := (List.getElem?_eq_some_iff.1 hk).1
              have hi : i < n := by omega
              simp only [stepPath, h1] at hs
              rw [if_pos hi] at hs
              simp only [Option.some.injEq, Prod.mk.injEq] at hs
              obtain ⟨rfl, rfl⟩ := hs
              obtain ⟨hv, hle⟩ := VA_get h4 hk
              obtain ⟨w1, w2⟩ := hP.arr ty n e hty h1
              have hlen : ((vs.drop (i * szOf P e)).take (szOf P e)).length = szOf P e := by simp; omega
              obtain ⟨r1, r2⟩ := VT_put hP w1 hv hlen hw2 hp hx hlu ho
              rw [hlen] at r2
              rw [← splice_inside (by omega) r2] at r1
              refine ⟨?_, by omega⟩
              simp only [VT]
              refine ⟨n, e, h1, by simpa using h2, by rw [splice_length (by omega)]; exact h3, splice_one h3' ho, ?_⟩
              have hl2 : (((splice vs (i * szOf P e + o2) us).drop (i * szOf P e)).take (szOf P e)).length = szOf P e := by simp [splice_length (show i * szOf P e + o2 + us.length ≤ vs.length by omega)]; omega
              have := VA_set (us := ((splice vs (i * szOf P e + o2) us).drop (i * szOf P e)).take (szOf P e)) h4 hi' r1 hl2
              have heq : splice vs (i * szOf P e) (((splice vs (i * szOf P e + o2) us).drop (i * szOf P e)).take (szOf P e)) = splice vs (i * szOf P e + o2) us := by
                apply List.ext_getElem?
                intro j
                rw [splice_get (by omega), hl2]
                by_cases j1 : j < i * szOf P e
                · rw [if_pos j1, splice_get (by omega), if_pos (by omega)]
                · rw [if_neg j1]
                  by_cases j2 : j < i * szOf P e + szOf P e
                  · rw [if_pos j2, part_get, if_pos (by omega)]; congr 1; omega
                  · rw [if_neg j2, splice_get (by omega), if_neg (by omega), if_neg (by omega)]
              rw [heq] at this
              exact this
        | s v => simp [T.put] at hz
        | lst xs tag => simp [T.put] at hz
        | ptr b p => simp [T.put] at hz
        | vw b o l c => simp [T.put] at hz
        | ep a b => simp [T.put] at hz
        | tup xs => simp [T.put] at hz
        | fn f a b => simp [T.put] at hz
        | ifc a b => simp [T.put] at hz
        | any => simp [T.put] at hz

theorem VO_get (hP : WfP P) {path : List Nat} {t x : T} {ty : OTy} {ty' : TypeId} {o : Nat} {vs : List Value} (hty : ty.ok P) (h : VO P κ t ty vs) (hw : walkO P ty path = some (o, ty')) (hx : t.get path = some x) :
    VT P κ x ty' ((vs.drop o).take (szOf P ty')) ∧ o + szOf P ty' ≤ vs.length ∧ ty' < P.types.size := by
  cases ty with
  | one ty => exact VT_get hP hty h.1 h.2 hw hx
  | dead => cases path <;> cases hw
  | row e n =>
    obtain ⟨xs, rfl, h2, h3, h3', h4⟩ := h
    cases path with
    | nil => cases hw
    | cons i r =>
      simp only [walkO] at hw
      cases hi : Nat.blt i n with
      | false => rw [hi] at hw; cases hw
      | true =>
        rw [hi] at hw
        simp only at hw
        cases hw2 : walkPath P e r with
        | none => rw [hw2] at hw; cases hw
        | some q2 =>
          obtain ⟨o2, t2⟩ := q2
          rw [hw2] at hw
          simp only [Option.some.injEq, Prod.mk.injEq] at hw
          obtain ⟨rfl, rfl⟩ := hw
          simp only [T.get, T.kids] at hx
          cases hk : xs[i]? with
          | none => rw [hk] at hx; cases hx
          | some y =>
            rw [hk] at hx
            obtain ⟨hv, hle⟩ := VA_get h4 hk
            obtain ⟨r1, r2, r3⟩ := VT_get hP hty hv (by simp; omega) hw2 hx
            have hlen : ((vs.drop (i * szOf P e)).take (szOf P e)).length = szOf P e := by simp; omega
            rw [hlen] at r2
            rw [part_part vs _ _ o2 _ r2] at r1
            exact ⟨r1, by omega, r3⟩

theorem VO_put (hP : WfP P) {path : List Nat} {t x z : T} {ty : OTy} {ty' : TypeId} {o : Nat} {vs us : List Value} (hty : ty.ok P) (h : VO P κ t ty vs) (hw : walkO P ty path = some (o, ty')) (hz : t.put path x = some z)
    (hx : VT P κ x ty' us) (hlu : us.length = szOf P ty') (ho : ∀ v ∈ us, one v = true) : VO P κ z ty (splice vs o us) ∧ o + us.length ≤ vs.length := by
  cases ty with
  | one ty =>
    obtain ⟨r1, r2⟩ := VT_put hP hty h.1 h.2 hw hz hx hlu ho
    exact ⟨⟨r1, by rw [splice_length r2]; exact h.2⟩, r2⟩
  | dead => cases path <;> cases hw
  | row e n =>
    obtain ⟨xs, rfl, h2, h3, h3', h4⟩ := h
    cases path with
    | nil => cases hw
    | cons i r =>
      simp only [walkO] at hw
      cases hi : Nat.blt i n with
      | false => rw [hi] at hw; cases hw
      | true =>
        rw [hi] at hw
        simp only at hw
        cases hw2 : walkPath P e r with
        | none => rw [hw2] at hw; cases hw
        | some q2 =>
          obtain ⟨o2, t2⟩ := q2
          rw [hw2] at hw
          simp only [Option.some.injEq, Prod.mk.injEq] at hw
          obtain ⟨rfl, rfl⟩ := hw
          simp only [T.put] at hz
          cases hk : xs[i]? with
          | none => rw [hk] at hz; cases hz
          | some y =>
            rw [hk] at hz
            simp only at hz
            cases hp : y.put r x with
            | none => rw [hp] at hz; cases hz
            | some y' =>
              rw [hp] at hz
              simp only [Option.some.injEq] at hz
              subst hz
              have hi' : i < xs.length := (List.getElem?_eq_some_iff.1 hk).1
              obtain ⟨hv, hle⟩ := VA_get h4 hk
              have hlen : ((vs.drop (i * szOf P e)).take (szOf P e)).length = szOf P e := by simp; omega
              obtain ⟨r1, r2⟩ := VT_put hP hty hv hlen hw2 hp hx hlu ho
              rw [hlen] at r2
              rw [← splice_inside (by omega) r2] at r1
              refine ⟨?_, by omega⟩
              refine ⟨_, rfl, by simpa using h2, by rw [splice_length (by omega)]; exact h3, splice_one h3' ho, ?_⟩
              have hl2 : (((splice vs (i * szOf P e + o2) us).drop (i * szOf P e)).take (szOf P e)).length = szOf P e := by simp [splice_length (show i * szOf P e + o2 + us.length ≤ vs.length by omega)]; omega
              have := VA_set (us := ((splice vs (i * szOf P e + o2) us).drop (i * szOf P e)).take (szOf P e)) h4 hi' r1 hl2
              have heq : splice vs (i * szOf P e) (((splice vs (i * szOf P e + o2) us).drop (i * szOf P e)).take (szOf P e)) = splice vs (i * szOf P e + o2) us := by
                apply List.ext_getElem?
                intro j
                rw [splice_get (by omega), hl2]
                by_cases j1 : j < i * szOf P e
                · rw [if_pos j1, splice_get (by omega), if_pos (by omega)]
                · rw [if_neg j1]
                  by_cases j2 : j < i * szOf P e + szOf P e
                  · rw [if_pos j2, part_get, if_pos (by omega)]; congr 1; omega
                  · rw [if_neg j2, splice_get (by omega), if_neg (by omega), if_neg (by omega)]
              rw [heq] at this
              exact this
end
end Go.Am

/- A layer over the walk's rules. This text: memory is read and written. -/
namespace Go.Am
variable {P : Program} {κ : K} {w : World} {h : List AO} {u : Tips}

theorem one_eq (v : Value) : v.oneCell' = one v := by cases v <;> rfl

/- Each cell of a tree is one cell. -/
theorem list_part_mem {vs : List Value} {o n : Nat} {v : Value} (h : v ∈ (vs.drop o).take n) : v ∈ vs := List.mem_of_mem_drop (List.mem_of_mem_take h)

/-- What an object's cells are behind a store. -/
theorem WR.store (hP : WfP P) (H : WR P κ w h u) {b : Nat} {o : AO} {path : List Nat} {off : Nat} {ty' : TypeId} {x z : T} {us : List Value}
    (hb : h[b]? = some o) (hw : walkO P o.ty path = some (off, ty')) (hz : o.t.put path x = some z) (hx : VT P κ x ty' us) (hl : us.length = szOf P ty') (ho : ∀ v ∈ us, one v = true) :
    ∃ (cur : Array Value) (e : TypeId), w.heap[κ.ι b]? = some (.cells cur e (0, 0)) ∧ off + us.length ≤ cur.size ∧
      Ext κ u w κ u (w.setRow (κ.ι b) (splice cur.toList off us).toArray) ∧ WR P κ (w.setRow (κ.ι b) (splice cur.toList off us).toArray) (h.set b ⟨o.ty, z⟩) u := by
  obtain ⟨h1, h2, vs, e, h3, h4⟩ := H.obj b o hb
  have hal : o.ty ≠ .dead := fun hd => by rw [hd] at hw; cases path <;> cases hw
  have hbn : b < κ.n := by have := (List.getElem?_eq_some_iff.1 hb).1; have := H.n; omega
  obtain ⟨r1, r2⟩ := VO_put hP h1 h4 hw hz hx hl ho
  refine ⟨vs.toArray, e, h3, by simpa using r2, ⟨.refl κ, Nat.le_refl _, fun _ _ => rfl, rfl, rfl, rfl, by simp, fun g hg hf _ => setRow_other _ _ _ _ (fun e => hf b hbn e.symm), fun b h1 h2 => by omega, fun τ g o n c sz hu ht => .inr ⟨τ, o, n, c, sz, hu, ht⟩, fun g o v hv => .inl hv⟩, ?_⟩
  refine ⟨by simp [H.n], fun c q hc => ?_, H.inj, fun g i v hv => ?_, fun g i v c q hv hc hq => ?_, fun τ hu => ?_, H.fresh⟩
  · have hcn : c < κ.n := by have := (List.getElem?_eq_some_iff.1 hc).1; simp at this; have := H.n; omega
    rw [List.getElem?_set] at hc
    by_cases e1 : b = c
    · subst e1
      have : b < h.length := by have := H.n; omega
      rw [if_pos rfl, if_pos this] at hc
      cases hc
      refine ⟨h1, h2, splice vs off us, e, ?_, r1⟩
      exact setRow_heap w _ _ _ _ _ h3
    · rw [if_neg e1] at hc
      obtain ⟨q1, q2, vs', e', q3, q4⟩ := H.obj c q hc
      refine ⟨q1, q2, vs', e', ?_, q4⟩
      rw [setRow_other _ _ _ _ (fun e => e1 (H.inj b c hbn hcn e.symm))]; exact q3
  · rw [cell_setRow_other _ _ _ _ (fun e => H.immo g i v b o hv hb hal e.symm)]; exact H.imm g i v hv
  · rw [List.getElem?_set] at hc
    by_cases e1 : b = c
    · subst e1; exact H.immo g i v b o hv hb hal
    · rw [if_neg e1] at hc; exact H.immo g i v c q hv hc hq
  · obtain ⟨g, o', n, c, sz, t1, ⟨cs, e', t2, t3⟩, t4, t5, t6⟩ := H.tip τ hu
    exact ⟨g, o', n, c, sz, t1, ⟨cs, e', by rw [setRow_other _ _ _ _ (fun e => t5 b hbn e.symm)]; exact t2, t3⟩, t4, t5, t6⟩

/-- In place: what stands behind a tip. -/
def K.grow (κ : K) (g o n m c sz : Nat) (us : List Value) (t : Nat) : K :=
  { κ with I := fun g' j => if g' = g ∧ o + n * sz ≤ j ∧ j < o + n * sz + us.length then us[j - (o + n * sz)]? else κ.I g' j,
           tip := fun τ => if τ = t then some (g, o, n + m, c, sz) else κ.tip τ }
theorem WR.grow (H : WR P κ w h u) {τ g o n c sz m : Nat} {us : List Value} (hu : u τ) (ht : κ.tip τ = some (g, o, n, c, sz)) (hl : us.length = m * sz) (hc : n + m ≤ c) :
    ∃ (cur : Array Value) (e : TypeId), w.heap[g]? = some (.cells cur e (0, 0)) ∧ o + n * sz + us.length ≤ cur.size ∧
      Ext κ u w (κ.grow g o n m c sz us u.m) (u.used τ) (w.setRow g (splice cur.toList (o + n * sz) us).toArray) ∧
      WR P (κ.grow g o n m c sz us u.m) (w.setRow g (splice cur.toList (o + n * sz) us).toArray) h (u.used τ) ∧
      HoldsAt (κ.grow g o n m c sz us u.m) g (o + n * sz) us := by
  obtain ⟨g', o', n', c', sz', h1, ⟨cur, e, h2, h3⟩, h4, h5, h6⟩ := H.tip τ hu
  rw [ht] at h1
  cases h1
  have hnm : n * sz + m * sz ≤ c * sz := by rw [← Nat.add_mul]; exact Nat.mul_le_mul_right _ hc
  have hcs : o + n * sz + us.length ≤ cur.size := by omega
  have hlt : ∀ j, o + n * sz ≤ j → j < o + n * sz + us.length → κ.I g j = none := fun j a b => h4 j a (by omega)
  have hle : κ.Le (κ.grow g o n m c sz us u.m) := by
    refine ⟨Nat.le_refl _, fun _ _ => rfl, fun _ _ => rfl, fun g' j v hv => ?_, fun σ x hx => ?_⟩
    · show (if _ then _ else _) = _
      rw [if_neg]
      · exact hv
      · rintro ⟨rfl, a, b⟩
        rw [hlt j a b] at hv
        cases hv
    · show (if σ = u.m then _ else _) = _
      rw [if_neg]
      · exact hx
      · rintro rfl
        rw [H.fresh _ (Nat.le_refl _)] at hx
        cases hx
  have hum : ∀ σ, u σ → σ ≠ u.m := fun σ hu e => by
    subst e
    obtain ⟨_, _, _, _, _, h1, _⟩ := H.tip _ hu
    rw [H.fresh _ (Nat.le_refl _)] at h1; cases h1
  have hmi := @Tips.used_iff u τ
  have htm : (κ.grow g o n m c sz us u.m).tip u.m = some (g, o, n + m, c, sz) := if_pos rfl
  have hto : ∀ σ, σ ≠ u.m → (κ.grow g o n m c sz us u.m).tip σ = κ.tip σ := fun σ e => if_neg e
  refine ⟨cur, e, h2, hcs, ⟨hle, Nat.le_succ _, fun τ hτ => if_neg (by omega), rfl, rfl, rfl, by simp, fun g' hg' _ hf => setRow_other _ _ _ _ (fun e => hf τ g o n c sz hu ht e.symm), fun b a1 a2 => ?_, fun σ g' o' n' c' sz' hσ hσt => ?_, fun g' j v hv => ?_⟩, ?_, fun j v hv => ?_⟩
  · have : b < κ.n := a2
    omega
  · rcases hmi.1 hσ with rfl | ⟨hne, hσ⟩
    · rw [htm] at hσt; cases hσt; exact .inr ⟨τ, _, _, _, _, hu, ht⟩
    · rw [hto σ (hum σ hσ)] at hσt; exact .inr ⟨σ, _, _, _, _, hσ, hσt⟩
  · have hv' : (if g' = g ∧ o + n * sz ≤ j ∧ j < o + n * sz + us.length then us[j - (o + n * sz)]? else κ.I g' j) = some v := hv
    by_cases hg : g' = g ∧ o + n * sz ≤ j ∧ j < o + n * sz + us.length
    · obtain ⟨rfl, _⟩ := hg
      exact .inr (.inr (.inr ⟨τ, _, _, _, _, hu, ht⟩))
    · rw [if_neg hg] at hv'; exact .inl hv'
  · refine ⟨H.n, fun b q hb => ?_, H.inj, fun g' j v hv => ?_, fun g' j v b q hv hb hq => ?_, fun σ hσ => ?_, fun σ hσ => ?_⟩
    · obtain ⟨q1, q2, vs', e', q3, q4⟩ := H.obj b q hb
      have hbn : b < κ.n := by have := (List.getElem?_eq_some_iff.1 hb).1; have := H.n; omega
      refine ⟨q1, q2, vs', e', ?_, q4.mono hle⟩
      show (w.setRow g _).heap[κ.ι b]? = _
      rw [setRow_other _ _ _ _ (h5 b hbn)]; exact q3
    · have hv' : (if g' = g ∧ o + n * sz ≤ j ∧ j < o + n * sz + us.length then us[j - (o + n * sz)]? else κ.I g' j) = some v := hv
      by_cases hg : g' = g
      · subst hg
        rw [cell_setRow_same _ _ _ _ _ _ _ h2]
        have hsp := splice_get (vs := cur.toList) (us := us) (o := o + n * sz) (by simpa using hcs) j
        rw [List.getElem?_toArray, hsp]
        by_cases a1 : j < o + n * sz
        · rw [if_neg (by omega)] at hv'
          have := H.imm _ _ _ hv'
          simp only [World.cell?, h2] at this
          rw [if_pos a1]; simpa using this
        · rw [if_neg a1]
          by_cases a2 : j < o + n * sz + us.length
          · rw [if_pos ⟨rfl, by omega, a2⟩] at hv'
            rw [if_pos a2]; exact hv'
          · rw [if_neg (by omega)] at hv'
            have := H.imm _ _ _ hv'
            simp only [World.cell?, h2] at this
            rw [if_neg a2]; simpa using this
      · rw [if_neg (fun a => hg a.1)] at hv'
        rw [cell_setRow_other _ _ _ _ hg]; exact H.imm g' j v hv'
    · have hv' : (if g' = g ∧ o + n * sz ≤ j ∧ j < o + n * sz + us.length then us[j - (o + n * sz)]? else κ.I g' j) = some v := hv
      by_cases hg : g' = g
      · subst hg; exact h5 b (by have := (List.getElem?_eq_some_iff.1 hb).1; have := H.n; omega)
      · rw [if_neg (fun a => hg a.1)] at hv'
        exact H.immo g' j v b q hv' hb hq
    · rcases hmi.1 hσ with rfl | ⟨hne, hσ⟩
      · refine ⟨g, o, n + m, c, sz, htm, ⟨_, e, setRow_heap _ _ _ _ _ _ h2, by simp [splice_length (show o + n * sz + us.length ≤ cur.toList.length by simpa using hcs)]; exact h3⟩, fun j a1 a2 => ?_, h5, fun σ' g' o' n' c' sz' hσ' hne' hσt => ?_⟩
        · show (if _ then _ else _) = _
          rw [Nat.add_mul] at a1
          rw [if_neg (by omega)]; exact h4 j (by omega) a2
        · rcases hmi.1 hσ' with rfl | ⟨hne2, hσ'⟩
          · exact absurd rfl hne'
          · rw [hto σ' (hum σ' hσ')] at hσt
            exact h6 σ' g' o' n' c' sz' hσ' hne2 hσt
      · obtain ⟨g1, o1, n1, c1, sz1, q1, ⟨cs1, e1, q2, q3⟩, q4, q5, q6⟩ := H.tip σ hσ
        have hgg : g1 ≠ g := fun e => h6 σ g1 o1 n1 c1 sz1 hσ hne q1 e
        refine ⟨g1, o1, n1, c1, sz1, by rw [hto σ (hum σ hσ)]; exact q1, ⟨cs1, e1, by rw [setRow_other _ _ _ _ hgg]; exact q2, q3⟩, fun j a1 a2 => ?_, q5, fun σ' g' o' n' c' sz' hσ' hne' hσt => ?_⟩
        · show (if _ then _ else _) = _
          rw [if_neg (fun a => hgg a.1)]; exact q4 j a1 a2
        · rcases hmi.1 hσ' with rfl | ⟨hne2, hσ'⟩
          · rw [htm] at hσt; cases hσt; exact fun e => hgg e.symm
          · rw [hto σ' (hum σ' hσ')] at hσt
            exact q6 σ' g' o' n' c' sz' hσ' hne' hσt
    · show (if σ = u.m then _ else κ.tip σ) = none
      have : u.m + 1 ≤ σ := hσ
      rw [if_neg (by omega)]; exact H.fresh σ (by omega)
  · have hj := (List.getElem?_eq_some_iff.1 hv).1
    show (if _ then _ else _) = _
    rw [if_pos ⟨rfl, by omega, by omega⟩, show o + n * sz + j - (o + n * sz) = j by omega]; exact hv
end Go.Am

/- A layer over the walk's rules. This text: the state of a frame; code, step by step. -/
set_option linter.unusedVariables false
namespace Go.Am

structure St where
  n : Nat
  t : List (Nat × T × TypeId)
  h : List AO
  u : Tips

def lk : List (Nat × T × TypeId) → Nat → Option (T × TypeId)
  | [], _ => none
  | (k, x) :: r, j => match Nat.beq k j with
    | true => some x
    | false => lk r j

/-- A constant as a tree. -/
def ofV : Value → T
  | .slice none 0 0 => .lst [] .nil
  | v => .s v
def ev (σ : St) (x : Operand) (ty : TypeId) : Option (T × TypeId) :=
  match x with
  | .tmp k => lk σ.t k
  | .const v => some (ofV v, ty)
  | .func f => some (.fn (.func f) [] [], 0)
  | .global _ => none

structure SR (P : Program) (κ : K) (σ : St) (a : Act) (w : World) : Prop where
  defers : a.defers = []
  size : a.tmps.size = σ.n
  tmp : ∀ k t ty, lk σ.t k = some (t, ty) → ∃ v, a.tmps[k]? = some v ∧ VV P κ t ty v
  wr : WR P κ w σ.h σ.u

def lift (P : Program) (κ : K) (u : Tips) (w : World) (Q : Exit → St → Prop) : Exit → Act → World → Prop :=
  fun ex a' w' => ∃ κ' σ', Ext κ u w κ' σ'.u w' ∧ SR P κ' σ' a' w' ∧ Q ex σ'

def AW (P : Program) (c : Code) (σ : St) (Q : Exit → St → Prop) : Prop :=
  ∀ κ a w, SR P κ σ a w → c.wp P (lift P κ σ.u w Q) a w

/-- A region's operations, in the order of the text. -/
def OPS (P : Program) (ops : Array Oper) (rest : List Oper) (σ : St) (Q : St → Prop) : Prop :=
  ∀ κ a w (R : Exit → Act → World → Prop), SR P κ σ a w → (∀ κ' σ' a' w', Ext κ σ.u w κ' σ'.u w' → SR P κ' σ' a' w' → Q σ' → R .normal a' w') → wpList P ops R rest a w

def Then (f : St → Prop) (Q : Exit → St → Prop) : Exit → St → Prop
  | .normal, σ => f σ
  | e, σ => Q e σ
def InB (id : Nat) (Q : Exit → St → Prop) : Exit → St → Prop
  | .exit i, σ => match Nat.beq i id with
    | true => Q .normal σ
    | false => Q (.exit i) σ
  | e, σ => Q e σ

section
variable {P : Program} {σ : St} {Q : Exit → St → Prop}

theorem lift_trans {κ κ1 : K} {u u1 : Tips} {w w1 : World} (h : Ext κ u w κ1 u1 w1) {ex : Exit} {a' : Act} {w' : World} (k : lift P κ1 u1 w1 Q ex a' w') : lift P κ u w Q ex a' w' := by
  obtain ⟨κ', σ', h1, h2, h3⟩ := k
  exact ⟨κ', σ', h.trans h1, h2, h3⟩

theorem AW.mono {c : Code} {Q' : Exit → St → Prop} (h : AW P c σ Q) (hq : ∀ e σ, Q e σ → Q' e σ) : AW P c σ Q' := fun κ a w hs =>
  wp_mono (h κ a w hs) fun e a w ⟨κ', σ', h1, h2, h3⟩ => ⟨κ', σ', h1, h2, hq _ _ h3⟩
theorem AW.skip (h : Q .normal σ) : AW P .skip σ Q := fun κ a w hs => wp_skip ⟨κ, σ, .refl _ _ _, hs, h⟩
theorem AW.label {l : Nat} (h : Q .normal σ) : AW P (.label l) σ Q := fun κ a w hs => wp_label ⟨κ, σ, .refl _ _ _, hs, h⟩
theorem AW.exit {i : Nat} (h : Q (.exit i) σ) : AW P (.exit i) σ Q := fun κ a w hs => wp_exit ⟨κ, σ, .refl _ _ _, hs, h⟩
theorem AW.goto {i : Nat} (h : Q (.goto i) σ) : AW P (.goto i) σ Q := fun κ a w hs => wp_goto ⟨κ, σ, .refl _ _ _, hs, h⟩
theorem AW.ret (h : Q .ret σ) : AW P .ret σ Q := fun κ a w hs => wp_ret ⟨κ, σ, .refl _ _ _, hs, h⟩
theorem AW.seq {x y : Code} (h : AW P x σ (Then (fun σ' => AW P y σ' Q) Q)) : AW P (.seq x y) σ Q := fun κ a w hs =>
  wp_seq (wp_mono (h κ a w hs) fun e a1 w1 ⟨κ1, σ1, h1, h2, h3⟩ => by
    cases e with
    | normal => exact wp_mono (h3 κ1 a1 w1 h2) fun e2 a2 w2 k => lift_trans h1 k
    | _ => exact ⟨κ1, σ1, h1, h2, h3⟩)
theorem AW.block {i : Nat} {x : Code} (h : AW P x σ (InB i Q)) : AW P (.block i x) σ Q := fun κ a w hs =>
  wp_block (wp_mono (h κ a w hs) fun e a1 w1 ⟨κ1, σ1, h1, h2, h3⟩ => by
    cases e with
    | exit j =>
      show if j = i then _ else _
      simp only [InB] at h3
      cases hj : Nat.beq j i with
      | true =>
        rw [hj] at h3
        rw [if_pos (Nat.eq_of_beq_eq_true hj)]; exact ⟨κ1, σ1, h1, h2, h3⟩
      | false =>
        rw [hj] at h3
        rw [if_neg (Nat.ne_of_beq_eq_false hj)]; exact ⟨κ1, σ1, h1, h2, h3⟩
    | _ => exact ⟨κ1, σ1, h1, h2, h3⟩)

theorem SR.eval {κ : K} {a : Act} {w : World} (hs : SR P κ σ a w) {k : Nat} {t : T} {ty : TypeId} (h : lk σ.t k = some (t, ty)) : VV P κ t ty (a.eval (.tmp k)) := by
  obtain ⟨v, h1, h2⟩ := hs.tmp k t ty h
  show VV P κ t ty (a.tmps.getD k undef)
  simp [Array.getD_eq_getD_getElem?, h1, h2]

theorem VV_s {κ : K} {v v' : Value} {ty : TypeId} (h : VV P κ (.s v) ty v') : v' = v := by
  obtain ⟨h1, h2⟩ := h
  simp only [VT] at h1
  have h3 : aggB v' = false := h2
  cases v' <;> simp_all [Value.cells, aggB]
theorem VV_s_mk {κ : K} {v : Value} {ty : TypeId} (h : one v = true) : VV P κ (.s v) ty v := by
  cases v <;> simp_all [VV, VT, Value.cells, aggB, T.aggB, one]

theorem AW.cond {c : Nat} {b : Bool} {ty : TypeId} {x y : Code} (hc : lk σ.t c = some (.s (.bool b), ty)) (ht : b = true → AW P x σ Q) (hf : b = false → AW P y σ Q) : AW P (.cond (.tmp c) x y) σ Q := fun κ a w hs =>
  wp_cond_split (VV_s (hs.eval hc)) (fun h => ht h κ a w hs) (fun h => hf h κ a w hs)
theorem AW.condT {c : Nat} {ty : TypeId} {x y : Code} (hc : lk σ.t c = some (.s (.bool true), ty)) (ht : AW P x σ Q) : AW P (.cond (.tmp c) x y) σ Q := AW.cond hc (fun _ => ht) (fun h => by cases h)
theorem AW.condF {c : Nat} {ty : TypeId} {x y : Code} (hc : lk σ.t c = some (.s (.bool false), ty)) (hf : AW P y σ Q) : AW P (.cond (.tmp c) x y) σ Q := AW.cond hc (fun h => by cases h) (fun _ => hf)

/-- Less is known of it. -/
structure Weak (σ σ' : St) : Prop where
  n : σ'.n = σ.n
  t : ∀ k x, lk σ'.t k = some x → lk σ.t k = some x
  h : σ'.h = σ.h
  u : σ'.u = σ.u
theorem Weak.sr {σ σ' : St} (hw : Weak σ σ') {κ : K} {a : Act} {w : World} (h : SR P κ σ a w) : SR P κ σ' a w :=
  ⟨h.defers, by rw [hw.n]; exact h.size, fun k t ty hk => h.tmp k t ty (hw.t k _ hk), by rw [hw.h, hw.u]; exact h.wr⟩
theorem AW.weak {c : Code} {σ' : St} (hw : Weak σ σ') (h : AW P c σ' Q) : AW P c σ Q := fun κ a w hs => by
  have := h κ a w (hw.sr hs)
  rwa [hw.u] at this

theorem AW.loop {body : Code} (I : Nat → St → Prop) (m : Nat) (h0 : I m σ)
    (hr : ∀ m σ, I m σ → AW P body σ (Then (fun σ' => ∃ m', m' < m ∧ ∃ σ'', Weak σ' σ'' ∧ I m' σ'') Q)) : AW P (.loop body) σ Q := by
  intro κ a w hs b k cs
  have key : ∀ m σ κ1 a1 w1, I m σ → SR P κ1 σ a1 w1 →
      ∃ e a' w', lift P κ1 σ.u w1 Q e a' w' ∧ Arrives P (lone (b.at a1 (.code body :: .inLoop body :: k)) cs w1) b k cs e a' w' := by
    intro m
    induction m using Nat.strongRecOn with
    | _ m ih =>
      intro σ κ1 a1 w1 hI hs1
      obtain ⟨e, a2, w2, hq, harr⟩ := hr m σ hI κ1 a1 w1 hs1 b (.inLoop body :: k) cs
      obtain ⟨κ2, σ2, e1, s1, q1⟩ := hq
      cases e with
      | normal =>
        obtain ⟨m', hm, σ3, hw, hI'⟩ := q1
        obtain ⟨e3, a3, w3, hq3, harr3⟩ := ih m' hm σ3 κ2 a2 w2 hI' (hw.sr s1)
        refine ⟨e3, a3, w3, ?_, .of_steps (Steps.trans harr (.one step_inLoop)) harr3⟩
        rw [hw.u] at hq3; exact lift_trans e1 hq3
      | exit id => exact ⟨_, a2, w2, ⟨κ2, σ2, e1, s1, q1⟩, .pass (x := .inLoop body) rfl (fun _ _ => .inl (by simp)) harr⟩
      | goto l => exact ⟨_, a2, w2, ⟨κ2, σ2, e1, s1, q1⟩, .pass (x := .inLoop body) rfl (fun _ _ => .inl (by simp)) harr⟩
      | ret => exact ⟨_, a2, w2, ⟨κ2, σ2, e1, s1, q1⟩, .pass (x := .inLoop body) rfl (fun _ _ => .inl (by simp)) harr⟩
      | panic ch => exact ⟨_, a2, w2, ⟨κ2, σ2, e1, s1, q1⟩, .pass (x := .inLoop body) rfl (fun _ _ => .inl (by simp)) harr⟩
      | outgrown => exact ⟨_, a2, w2, ⟨κ2, σ2, e1, s1, q1⟩, .pass (x := .inLoop body) rfl (fun _ _ => .inl (by simp)) harr⟩
  obtain ⟨e, a', w', hq, harr⟩ := key m σ κ a w h0 hs
  exact ⟨e, a', w', hq, .of_steps (.one step_loop) harr⟩
end
end Go.Am
