/- A layer over the walk's rules: values as trees, memory as objects. This text: the trees and how they lie in memory. -/
import Derived.WalkKit
import Derived.WalkSpells
namespace Go.Am

inductive Tag where
  | no | full | nil | tip (τ : Nat)

inductive T where
  | s (v : Value)
  | st (fs : List T)
  | arr (xs : List T)
  | lst (xs : List T) (tag : Tag)
  | ptr (b : Nat) (path : List Nat)
  | vw (b off len cap : Nat)   -- a slice over a row that may be written
  | ep (ty : TypeId) (x : T)
  | tup (xs : List T)
  | fn (f : Fn) (first captured : List T)
  | ifc (t : TypeId) (x : T)
  | any   -- what an operation leaves that was not carried out

instance : Inhabited T := ⟨.s .nilIface⟩

def one : Value → Bool
  | .agg _ | .tuple _ => false
  | _ => true
def aggB : Value → Bool
  | .agg _ => true
  | _ => false
def T.aggB : T → Bool
  | .st _ | .arr _ => true
  | _ => false

def szOf (P : Program) (t : TypeId) : Nat := match P.info? t with | some i => i.size | none => 0

/-- The place that a path leads to: its offset, its type. -/
def stepPath (P : Program) (t : TypeId) (i : Nat) : Option (Nat × TypeId) :=
  match P.underlying t with
  | some (.struct fs) => (fs[i]?).map fun f => (f.offset, f.type)
  | some (.array n e) => if i < n then some (i * szOf P e, e) else none
  | _ => none
def walkPath (P : Program) : TypeId → List Nat → Option (Nat × TypeId)
  | t, [] => some (0, t)
  | t, i :: r => match stepPath P t i with
    | some (o, t') => match walkPath P t' r with
      | some (o', t'') => some (o + o', t'')
      | none => none
    | none => none

/-- What an object is: a variable; a row of elements; one of which no more is known than that it is there. -/
inductive OTy where
  | one (t : TypeId)
  | row (e : TypeId) (n : Nat)
  | dead
def OTy.ok (P : Program) : OTy → Prop
  | .one t => t < P.types.size
  | .row e _ => e < P.types.size
  | .dead => True
def walkO (P : Program) : OTy → List Nat → Option (Nat × TypeId)
  | .one t, p => walkPath P t p
  | .row e n, i :: p => match Nat.blt i n with
    | true => match walkPath P e p with
      | some (o, t) => some (i * szOf P e + o, t)
      | none => none
    | false => none
  | _, _ => none

/-- What is known of how the trees lie in memory. -/
structure K where
  n : Nat
  ι : Nat → Nat
  ty : Nat → OTy
  I : Nat → Nat → Option Value
  tip : Nat → Option (Nat × Nat × Nat × Nat × Nat)   -- block, offset, length, capacity, size of an element

/-- Which tips are live; from which number on there is none. -/
structure Tips where
  live : List Nat
  m : Nat
instance : CoeFun Tips fun _ => Nat → Prop := ⟨fun u τ => τ ∈ u.live⟩

def HoldsAt (κ : K) (g o : Nat) (us : List Value) : Prop := ∀ j v, us[j]? = some v → κ.I g (o + j) = some v
def Holds (κ : K) (A : Option Addr) (us : List Value) : Prop := us = [] ∨ ∃ g o, A = some ⟨g, o, none⟩ ∧ HoldsAt κ g o us
def TagOk (κ : K) (sz : Nat) : Tag → Option Addr → Nat → Nat → Prop
  | .no, _, n, c => n ≤ c
  | .full, _, n, c => c = n
  | .nil, A, _, c => A = none ∧ c = 0
  | .tip τ, A, n, c => n ≤ c ∧ ∃ g o, A = some ⟨g, o, none⟩ ∧ κ.tip τ = some (g, o, n, c, sz)

mutual
def VT (P : Program) (κ : K) : T → TypeId → List Value → Prop
  | .s v, _, vs => vs = [v] ∧ one v = true
  | .st fs, ty, vs => ∃ fields, P.underlying ty = some (.struct fields) ∧ vs.length = szOf P ty ∧ (∀ v ∈ vs, one v = true) ∧ VF P κ fs fields.toList vs
  | .arr xs, ty, vs => ∃ n e, P.underlying ty = some (.array n e) ∧ xs.length = n ∧ vs.length = szOf P ty ∧ (∀ v ∈ vs, one v = true) ∧ VA P κ xs e vs
  | .lst xs tag, ty, vs => ∃ e A c us, P.underlying ty = some (.slice e) ∧ vs = [.slice A xs.length c] ∧ TagOk κ (szOf P e) tag A xs.length c ∧ VA P κ xs e us ∧ Holds κ A us
  | .ptr b path, _, vs => ∃ o t', b < κ.n ∧ walkO P (κ.ty b) path = some (o, t') ∧ vs = [.pointer (some ⟨κ.ι b, o, none⟩)]
  | .vw b off len cap, ty, vs => ∃ e n, P.underlying ty = some (.slice e) ∧ b < κ.n ∧ κ.ty b = .row e n ∧ off + cap ≤ n ∧ len ≤ cap ∧ vs = [.slice (some ⟨κ.ι b, off * szOf P e, none⟩) len cap]
  | .ep ty' x, _, vs => ∃ g o us, VT P κ x ty' us ∧ HoldsAt κ g o us ∧ vs = [.pointer (some ⟨g, o, none⟩)]
  | .tup xs, ty, vs => ∃ es us, P.underlying ty = some (.tuple es) ∧ vs = [.tuple us.toArray] ∧ VL P κ xs es.toList us
  | .fn f first captured, _, vs => ∃ us ws, vs = [.func f us.toArray ws.toArray] ∧ VC P κ first us ∧ VC P κ captured ws
  | .ifc t x, _, vs => ∃ v, (VT P κ x t v.cells.toList ∧ aggB v = x.aggB) ∧ vs = [.iface t v]
  | .any, _, vs => vs = [undef]
/-- A struct's fields. -/
def VF (P : Program) (κ : K) : List T → List Field → List Value → Prop
  | [], [], _ => True
  | t :: ts, f :: fs, vs => VT P κ t f.type ((vs.drop f.offset).take (szOf P f.type)) ∧ VF P κ ts fs vs
  | _, _, _ => False
/-- Elements, one behind the other. -/
def VA (P : Program) (κ : K) : List T → TypeId → List Value → Prop
  | [], _, vs => vs = []
  | t :: ts, e, vs => szOf P e ≤ vs.length ∧ VT P κ t e (vs.take (szOf P e)) ∧ VA P κ ts e (vs.drop (szOf P e))
/-- Values of types. -/
def VL (P : Program) (κ : K) : List T → List TypeId → List Value → Prop
  | [], [], vs => vs = []
  | t :: ts, e :: es, v :: vs => (VT P κ t e v.cells.toList ∧ aggB v = t.aggB) ∧ VL P κ ts es vs
  | _, _, _ => False
/-- Values whose types do not matter. -/
def VC (P : Program) (κ : K) : List T → List Value → Prop
  | [], vs => vs = []
  | t :: ts, v :: vs => (VT P κ t 0 v.cells.toList ∧ aggB v = t.aggB) ∧ VC P κ ts vs
  | _, _ => False
end

/-- A value: its cells are a tree's. -/
def VV (P : Program) (κ : K) (t : T) (ty : TypeId) (v : Value) : Prop := VT P κ t ty v.cells.toList ∧ aggB v = t.aggB

structure K.Le (κ κ' : K) : Prop where
  n : κ.n ≤ κ'.n
  ι : ∀ b, b < κ.n → κ'.ι b = κ.ι b
  ty : ∀ b, b < κ.n → κ'.ty b = κ.ty b
  I : ∀ g o v, κ.I g o = some v → κ'.I g o = some v
  tip : ∀ τ x, κ.tip τ = some x → κ'.tip τ = some x

theorem K.Le.refl (κ : K) : κ.Le κ := ⟨Nat.le_refl _, fun _ _ => rfl, fun _ _ => rfl, fun _ _ _ h => h, fun _ _ h => h⟩
theorem K.Le.trans {a b c : K} (h : a.Le b) (k : b.Le c) : a.Le c :=
  ⟨Nat.le_trans h.n k.n, fun x hx => (k.ι x (Nat.lt_of_lt_of_le hx h.n)).trans (h.ι x hx), fun x hx => (k.ty x (Nat.lt_of_lt_of_le hx h.n)).trans (h.ty x hx),
    fun g o v hv => k.I g o v (h.I g o v hv), fun τ x hx => k.tip τ x (h.tip τ x hx)⟩

theorem HoldsAt.mono {κ κ' : K} (h : κ.Le κ') {g o : Nat} {us : List Value} (hh : HoldsAt κ g o us) : HoldsAt κ' g o us := fun j v hv => h.I _ _ _ (hh j v hv)
theorem Holds.mono {κ κ' : K} (h : κ.Le κ') {A : Option Addr} {us : List Value} (hh : Holds κ A us) : Holds κ' A us := by
  rcases hh with hh | ⟨g, o, hA, hh⟩
  · exact .inl hh
  · exact .inr ⟨g, o, hA, hh.mono h⟩
theorem TagOk.mono {κ κ' : K} (h : κ.Le κ') {sz : Nat} {tag : Tag} {A : Option Addr} {n c : Nat} (hh : TagOk κ sz tag A n c) : TagOk κ' sz tag A n c := by
  cases tag with
  | no => exact hh
  | full => exact hh
  | nil => exact hh
  | tip τ => obtain ⟨h1, g, o, h2, h3⟩ := hh; exact ⟨h1, g, o, h2, h.tip _ _ h3⟩

mutual
theorem VT_mono {P : Program} {κ κ' : K} (h : κ.Le κ') : ∀ (t : T) (ty : TypeId) (vs : List Value), VT P κ t ty vs → VT P κ' t ty vs
  | .s v, ty, vs => fun hh => by simp only [VT] at hh ⊢; exact hh
  | .st fs, ty, vs => fun hh => by
    simp only [VT] at hh ⊢
    obtain ⟨f, h1, h2, h2', h3⟩ := hh
    exact ⟨f, h1, h2, h2', VF_mono h fs _ _ h3⟩
  | .arr xs, ty, vs => fun hh => by
    simp only [VT] at hh ⊢
    obtain ⟨n, e, h1, h2, h3, h3', h4⟩ := hh
    exact ⟨n, e, h1, h2, h3, h3', VA_mono h xs _ _ h4⟩
  | .lst xs tag, ty, vs => fun hh => by
    simp only [VT] at hh ⊢
    obtain ⟨e, A, c, us, h1, h2, h3, h4, h5⟩ := hh
    exact ⟨e, A, c, us, h1, h2, h3.mono h, VA_mono h xs _ _ h4, h5.mono h⟩
  | .ptr b path, ty, vs => fun hh => by
    simp only [VT] at hh ⊢
    obtain ⟨o, t', h1, h2, h3⟩ := hh
    exact ⟨o, t', Nat.lt_of_lt_of_le h1 h.n, by rw [h.ty b h1]; exact h2, by rw [h.ι b h1]; exact h3⟩
  | .vw b off len cap, ty, vs => fun hh => by
    simp only [VT] at hh ⊢
    obtain ⟨e, n, h1, h2, h3, h4, h5, h6⟩ := hh
    exact ⟨e, n, h1, Nat.lt_of_lt_of_le h2 h.n, by rw [h.ty b h2]; exact h3, h4, h5, by rw [h.ι b h2]; exact h6⟩
  | .ep ty' x, ty, vs => fun hh => by
    simp only [VT] at hh ⊢
    obtain ⟨g, o, us, h1, h2, h3⟩ := hh
    exact ⟨g, o, us, VT_mono h x _ _ h1, h2.mono h, h3⟩
  | .tup xs, ty, vs => fun hh => by
    simp only [VT] at hh ⊢
    obtain ⟨es, us, h1, h2, h3⟩ := hh
    exact ⟨es, us, h1, h2, VL_mono h xs _ _ h3⟩
  | .fn f first captured, ty, vs => fun hh => by
    simp only [VT] at hh ⊢
    obtain ⟨us, ws, h1, h2, h3⟩ := hh
    exact ⟨us, ws, h1, VC_mono h first _ h2, VC_mono h captured _ h3⟩
  | .ifc t x, ty, vs => fun hh => by
    simp only [VT] at hh ⊢
    obtain ⟨v, ⟨h1, h2⟩, h3⟩ := hh
    exact ⟨v, ⟨VT_mono h x _ _ h1, h2⟩, h3⟩
  | .any, ty, vs => fun hh => by simp only [VT] at hh ⊢; exact hh
theorem VF_mono {P : Program} {κ κ' : K} (h : κ.Le κ') : ∀ (ts : List T) (fs : List Field) (vs : List Value), VF P κ ts fs vs → VF P κ' ts fs vs
  | [], [], vs => fun _ => by simp only [VF]
  | t :: ts, f :: fs, vs => fun hh => by
    simp only [VF] at hh ⊢
    exact ⟨VT_mono h t _ _ hh.1, VF_mono h ts _ _ hh.2⟩
  | [], _ :: _, _ => fun hh => by simp only [VF] at hh
  | _ :: _, [], _ => fun hh => by simp only [VF] at hh
theorem VA_mono {P : Program} {κ κ' : K} (h : κ.Le κ') : ∀ (ts : List T) (e : TypeId) (vs : List Value), VA P κ ts e vs → VA P κ' ts e vs
  | [], _, vs => fun hh => by simp only [VA] at hh ⊢; exact hh
  | t :: ts, e, vs => fun hh => by
    simp only [VA] at hh ⊢
    exact ⟨hh.1, VT_mono h t _ _ hh.2.1, VA_mono h ts _ _ hh.2.2⟩
theorem VL_mono {P : Program} {κ κ' : K} (h : κ.Le κ') : ∀ (ts : List T) (es : List TypeId) (vs : List Value), VL P κ ts es vs → VL P κ' ts es vs
  | [], [], vs => fun hh => by simp only [VL] at hh ⊢; exact hh
  | t :: ts, e :: es, v :: vs => fun hh => by
    simp only [VL] at hh ⊢
    exact ⟨⟨VT_mono h t _ _ hh.1.1, hh.1.2⟩, VL_mono h ts _ _ hh.2⟩
  | [], _ :: _, _ => fun hh => by simp only [VL] at hh
  | _ :: _, [], _ => fun hh => by simp only [VL] at hh
  | _ :: _, _ :: _, [] => fun hh => by simp only [VL] at hh
theorem VC_mono {P : Program} {κ κ' : K} (h : κ.Le κ') : ∀ (ts : List T) (vs : List Value), VC P κ ts vs → VC P κ' ts vs
  | [], vs => fun hh => by simp only [VC] at hh ⊢; exact hh
  | t :: ts, v :: vs => fun hh => by
    simp only [VC] at hh ⊢
    exact ⟨⟨VT_mono h t _ _ hh.1.1, hh.1.2⟩, VC_mono h ts _ hh.2⟩
  | _ :: _, [] => fun hh => by simp only [VC] at hh
end
theorem VV.mono {P : Program} {κ κ' : K} (h : κ.Le κ') {t : T} {ty : TypeId} {v : Value} (hh : VV P κ t ty v) : VV P κ' t ty v := ⟨VT_mono h _ _ _ hh.1, hh.2⟩

/-- An object's cells. -/
def VO (P : Program) (κ : K) (t : T) : OTy → List Value → Prop
  | .one ty, vs => VT P κ t ty vs ∧ vs.length = szOf P ty
  | .row e n, vs => ∃ xs, t = .arr xs ∧ xs.length = n ∧ vs.length = n * szOf P e ∧ (∀ v ∈ vs, one v = true) ∧ VA P κ xs e vs
  | .dead, _ => True
theorem VO.mono {P : Program} {κ κ' : K} (h : κ.Le κ') {t : T} {ty : OTy} {vs : List Value} (hh : VO P κ t ty vs) : VO P κ' t ty vs := by
  cases ty with
  | one ty => exact ⟨VT_mono h _ _ _ hh.1, hh.2⟩
  | row e n => obtain ⟨xs, h1, h2, h3, h4, h5⟩ := hh; exact ⟨xs, h1, h2, h3, h4, VA_mono h _ _ _ h5⟩
  | dead => trivial

end Go.Am
