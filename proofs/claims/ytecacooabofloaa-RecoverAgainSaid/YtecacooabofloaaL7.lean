/- A layer over the walk's rules. This text: small helps for a walk. -/
import Derived.Test.YtecacooabofloaaL6
import Derived.Scope
/- A layer over the walk's rules. This text: small helps for a walk. -/
set_option linter.unusedVariables false
namespace Go.Am
variable {P : Program}

theorem wrapI {n : Int} (h0 : -9223372036854775808 ≤ n) (h1 : n ≤ 9223372036854775807) : IntKind.i64.wrap n = n := by
  unfold IntKind.wrap
  simp [IntKind.signed, IntKind.bits]
  omega
def WeakL (s T' : List (Nat × T × TypeId)) : Prop := ∀ k x, lk s k = some x → lk T' k = some x
theorem WeakL.nil {T' : List (Nat × T × TypeId)} : WeakL [] T' := fun _ _ h => by cases h
theorem WeakL.cons {s T' : List (Nat × T × TypeId)} {k : Nat} {x : X} (h : lk T' k = some x) (r : WeakL s T') : WeakL ((k, x) :: s) T' := fun j y hj => by
  simp only [lk] at hj
  cases hb : Nat.beq k j with
  | true =>
    rw [hb] at hj
    have := Nat.eq_of_beq_eq_true hb
    subst this
    rw [h]; exact hj
  | false => rw [hb] at hj; exact r j y hj
/-- A loop: what holds at each round's head is said of a few slots. -/
theorem AW.loopT {body : Code} {n : Nat} {t : List (Nat × T × TypeId)} {h : List AO} {u : Tips} {Q : Exit → St → Prop} (I : Nat → List (Nat × T × TypeId) → List AO → (Tips) → Prop) (m : Nat) (t1 : List (Nat × T × TypeId)) (hw : WeakL t1 t) (h0 : I m t1 h u)
    (hr : ∀ m t h u, I m t h u → AW P body ⟨n, t, h, u⟩ (Then (fun σ' => σ'.n = n ∧ ∃ m' t', m' < m ∧ WeakL t' σ'.t ∧ I m' t' σ'.h σ'.u) Q)) : AW P (.loop body) ⟨n, t, h, u⟩ Q := by
  refine AW.weak (σ' := ⟨n, t1, h, u⟩) ⟨rfl, hw, rfl, rfl⟩ ?_
  refine AW.loop (fun m σ => σ.n = n ∧ I m σ.t σ.h σ.u) m ⟨rfl, h0⟩ fun m σ hI => ?_
  obtain ⟨n', t', h', u'⟩ := σ
  obtain ⟨e, hI⟩ := hI
  have e : n' = n := e
  subst e
  refine (hr m t' h' u' hI).mono fun ex σ' hq => ?_
  cases ex with
  | normal =>
    obtain ⟨a1, m', t2, a2, a3, a4⟩ := hq
    exact ⟨m', a2, ⟨σ'.n, t2, σ'.h, σ'.u⟩, ⟨rfl, a3, rfl, rfl⟩, a1, a4⟩
  | exit i => exact hq
  | goto i => exact hq
  | ret => exact hq
  | panic c => exact hq
  | outgrown => exact hq
end Go.Am

/- A scope through which the run goes without a jump; a loop of one round. -/
set_option linter.unusedVariables false
namespace Go.Am
variable {P : Program} {σ : St} {Q : Exit → St → Prop}
def NG (Q : Exit → St → Prop) : Exit → St → Prop
  | .goto _, _ => False
  | e, σ => Q e σ
theorem NG.n (h : Q .normal σ) : NG Q .normal σ := h
theorem NG.r (h : Q .ret σ) : NG Q .ret σ := h
theorem NG.e {i : Nat} (h : Q (.exit i) σ) : NG Q (.exit i) σ := h
theorem AW.scope {c : Code} (h : AW P c σ (NG Q)) : AW P (.scope c) σ Q := fun κ a w hs =>
  wp_scope_straight (wp_mono (h κ a w hs) fun e a1 w1 ⟨κ1, σ1, h1, h2, h3⟩ => by
    cases e with
    | goto l => exact h3.elim
    | _ => exact ⟨κ1, σ1, h1, h2, h3⟩)
theorem AW.loop1 {c : Code} (h : AW P c σ (Then (fun _ => False) Q)) : AW P (.loop c) σ Q :=
  AW.loop (fun _ σ' => σ' = σ) 0 rfl (fun m σ' e => by
    subst e
    refine h.mono fun e σ1 h1 => ?_
    cases e with
    | normal => exact h1.elim
    | _ => exact h1)
theorem Kn.f {σ : St} (h : False) : Then (fun _ => False) Q .normal σ := h
end Go.Am
namespace Go.Am
section
variable {m n : Int}
theorem eqT (h : m = n) : cmp .eql m n = some true := by simp [cmp, h]
theorem eqF (h : m ≠ n) : cmp .eql m n = some false := by simp [cmp, h]
theorem neT (h : m ≠ n) : cmp .neq m n = some true := by simp [cmp, h]
theorem neF (h : m = n) : cmp .neq m n = some false := by simp [cmp, h]
theorem ltT (h : m < n) : cmp .lss m n = some true := by simp [cmp, h]
theorem ltF (h : n ≤ m) : cmp .lss m n = some false := by simp [cmp]; omega
theorem leT (h : m ≤ n) : cmp .leq m n = some true := by simp [cmp, h]
theorem leF (h : n < m) : cmp .leq m n = some false := by simp [cmp]; omega
theorem gtT (h : n < m) : cmp .gtr m n = some true := by simp [cmp]; omega
theorem gtF (h : m ≤ n) : cmp .gtr m n = some false := by simp [cmp]; omega
theorem geT (h : n ≤ m) : cmp .geq m n = some true := by simp [cmp]; omega
theorem geF (h : m < n) : cmp .geq m n = some false := by simp [cmp]; omega
end
end Go.Am

/- A layer over the walk's rules. This text: objects that a round made are forgotten at its end. -/
set_option linter.unusedVariables false
set_option linter.unusedSimpArgs false
namespace Go.Am
variable {P : Program}

mutual
/-- No pointer to an object from k on in it. -/
def pb (k : Nat) : T → Bool
  | .s _ => true
  | .st fs => pbL k fs
  | .arr xs => pbL k xs
  | .lst xs _ => pbL k xs
  | .ptr b _ => Nat.blt b k
  | .vw b _ _ _ => Nat.blt b k
  | .ep _ x => pb k x
  | .tup xs => pbL k xs
  | .fn _ a b => pbL k a && pbL k b
  | .ifc _ x => pb k x
  | .any => true
def pbL (k : Nat) : List T → Bool
  | [] => true
  | x :: xs => pb k x && pbL k xs
end
theorem pbL_iff {k : Nat} : ∀ {xs : List T}, pbL k xs = true ↔ ∀ x ∈ xs, pb k x = true
  | [] => by simp [pbL]
  | x :: xs => by simp [pbL, pbL_iff]

def K.AlikeB (κ : K) (k : Nat) (κ' : K) : Prop := κ.Alike κ' ∧ (∀ b, b < k → κ'.ι b = κ.ι b) ∧ (∀ b, b < k → κ'.ty b = κ.ty b) ∧ k ≤ κ'.n
mutual
theorem VT_pb {κ κ' : K} {k : Nat} (h : κ.AlikeB k κ') : ∀ (t : T) (ty : TypeId) (vs : List Value), pb k t = true → VT P κ t ty vs → VT P κ' t ty vs
  | .s v, ty, vs => fun _ hh => by simp only [VT] at hh ⊢; exact hh
  | .st fs, ty, vs => fun hn hh => by
    simp only [VT, pb] at hn hh ⊢
    obtain ⟨f, h1, h2, h2', h3⟩ := hh
    exact ⟨f, h1, h2, h2', VF_pb h fs _ _ hn h3⟩
  | .arr xs, ty, vs => fun hn hh => by
    simp only [VT, pb] at hn hh ⊢
    obtain ⟨n, e, h1, h2, h3, h3', h4⟩ := hh
    exact ⟨n, e, h1, h2, h3, h3', VA_pb h xs _ _ hn h4⟩
  | .lst xs tag, ty, vs => fun hn hh => by
    simp only [VT, pb] at hn hh ⊢
    obtain ⟨e, A, c, us, h1, h2, h3, h4, h5⟩ := hh
    exact ⟨e, A, c, us, h1, h2, h3.alike h.1, VA_pb h xs _ _ hn h4, h5.alike h.1⟩
  | .vw b o l c, ty, vs => fun hn hh => by
    simp only [VT, pb] at hn hh ⊢
    obtain ⟨e, n, h1, h2, h3, h4, h5, h6⟩ := hh
    have hb : b < k := Nat.le_of_ble_eq_true hn
    exact ⟨e, n, h1, Nat.lt_of_lt_of_le hb h.2.2.2, by rw [h.2.2.1 b hb]; exact h3, h4, h5, by rw [h.2.1 b hb]; exact h6⟩
  | .ptr b path, ty, vs => fun hn hh => by
    simp only [VT, pb] at hn hh ⊢
    obtain ⟨o, t', h1, h2, h3⟩ := hh
    have hb : b < k := Nat.le_of_ble_eq_true hn
    exact ⟨o, t', Nat.lt_of_lt_of_le hb h.2.2.2, by rw [h.2.2.1 b hb]; exact h2, by rw [h.2.1 b hb]; exact h3⟩
  | .ep ty' x, ty, vs => fun hn hh => by
    simp only [VT, pb] at hn hh ⊢
    obtain ⟨g, o, us, h1, h2, h3⟩ := hh
    exact ⟨g, o, us, VT_pb h x _ _ hn h1, h2.alike h.1, h3⟩
  | .tup xs, ty, vs => fun hn hh => by
    simp only [VT, pb] at hn hh ⊢
    obtain ⟨es, us, h1, h2, h3⟩ := hh
    exact ⟨es, us, h1, h2, VL_pb h xs _ _ hn h3⟩
  | .fn f first captured, ty, vs => fun hn hh => by
    simp only [VT, pb, Bool.and_eq_true] at hn hh ⊢
    obtain ⟨us, ws, h1, h2, h3⟩ := hh
    exact ⟨us, ws, h1, VC_pb h first _ hn.1 h2, VC_pb h captured _ hn.2 h3⟩
  | .ifc t x, ty, vs => fun hn hh => by
    simp only [VT, pb] at hn hh ⊢
    obtain ⟨v, ⟨h1, h2⟩, h3⟩ := hh
    exact ⟨v, ⟨VT_pb h x _ _ hn h1, h2⟩, h3⟩
  | .any, ty, vs => fun _ hh => by simp only [VT] at hh ⊢; exact hh
theorem VF_pb {κ κ' : K} {k : Nat} (h : κ.AlikeB k κ') : ∀ (ts : List T) (fs : List Field) (vs : List Value), pbL k ts = true → VF P κ ts fs vs → VF P κ' ts fs vs
  | [], [], vs => fun _ _ => by simp only [VF]
  | t :: ts, f :: fs, vs => fun hn hh => by
    simp only [VF, pbL, Bool.and_eq_true] at hn hh ⊢
    exact ⟨VT_pb h t _ _ hn.1 hh.1, VF_pb h ts _ _ hn.2 hh.2⟩
  | [], _ :: _, _ => fun _ hh => by simp only [VF] at hh
  | _ :: _, [], _ => fun _ hh => by simp only [VF] at hh
theorem VA_pb {κ κ' : K} {k : Nat} (h : κ.AlikeB k κ') : ∀ (ts : List T) (e : TypeId) (vs : List Value), pbL k ts = true → VA P κ ts e vs → VA P κ' ts e vs
  | [], _, vs => fun _ hh => by simp only [VA] at hh ⊢; exact hh
  | t :: ts, e, vs => fun hn hh => by
    simp only [VA, pbL, Bool.and_eq_true] at hn hh ⊢
    exact ⟨hh.1, VT_pb h t _ _ hn.1 hh.2.1, VA_pb h ts _ _ hn.2 hh.2.2⟩
theorem VL_pb {κ κ' : K} {k : Nat} (h : κ.AlikeB k κ') : ∀ (ts : List T) (es : List TypeId) (vs : List Value), pbL k ts = true → VL P κ ts es vs → VL P κ' ts es vs
  | [], [], vs => fun _ hh => by simp only [VL] at hh ⊢; exact hh
  | t :: ts, e :: es, v :: vs => fun hn hh => by
    simp only [VL, pbL, Bool.and_eq_true] at hn hh ⊢
    exact ⟨⟨VT_pb h t _ _ hn.1 hh.1.1, hh.1.2⟩, VL_pb h ts _ _ hn.2 hh.2⟩
  | [], _ :: _, _ => fun _ hh => by simp only [VL] at hh
  | _ :: _, [], _ => fun _ hh => by simp only [VL] at hh
  | _ :: _, _ :: _, [] => fun _ hh => by simp only [VL] at hh
theorem VC_pb {κ κ' : K} {k : Nat} (h : κ.AlikeB k κ') : ∀ (ts : List T) (vs : List Value), pbL k ts = true → VC P κ ts vs → VC P κ' ts vs
  | [], vs => fun _ hh => by simp only [VC] at hh ⊢; exact hh
  | t :: ts, v :: vs => fun hn hh => by
    simp only [VC, pbL, Bool.and_eq_true] at hn hh ⊢
    exact ⟨⟨VT_pb h t _ _ hn.1 hh.1.1, hh.1.2⟩, VC_pb h ts _ hn.2 hh.2⟩
  | _ :: _, [] => fun _ hh => by simp only [VC] at hh
end


theorem VO_pb {κ κ' : K} {k : Nat} (h : κ.AlikeB k κ') {t : T} {ty : OTy} {vs : List Value} (hn : pb k t = true) (hh : VO P κ t ty vs) : VO P κ' t ty vs := by
  cases ty with
  | one ty => exact ⟨VT_pb h _ _ _ hn hh.1, hh.2⟩
  | row e n => obtain ⟨xs, rfl, h2, h3, h4, h5⟩ := hh; exact ⟨xs, rfl, h2, h3, h4, VA_pb h _ _ _ hn h5⟩
  | dead => trivial
theorem WR.drop {κ : K} {w : World} {h g : List AO} {u : Tips} (H : WR P κ w (h ++ g) u) (hn : ∀ o ∈ h, pb h.length o.t = true) : WR P { κ with n := h.length } w h u := by
  have hlen : κ.n = h.length + g.length := by simpa using H.n
  have hal : κ.AlikeB h.length { κ with n := h.length } := ⟨⟨rfl, rfl⟩, fun _ _ => rfl, fun _ _ => rfl, Nat.le_refl _⟩
  refine ⟨rfl, fun b o hb => ?_, fun b c hb hc e => H.inj b c ?_ ?_ e, H.imm, fun g' o v b q hv hb hq => H.immo g' o v b q hv ?_ hq, fun τ hu => ?_, H.fresh⟩
  · have hbl := (List.getElem?_eq_some_iff.1 hb).1
    obtain ⟨q1, q2, vs, e, q3, q4⟩ := H.obj b o (by rw [List.getElem?_append_left hbl]; exact hb)
    exact ⟨q1, q2, vs, e, q3, VO_pb hal (hn o (List.mem_of_getElem? hb)) q4⟩
  · have : b < h.length := hb
    omega
  · have : c < h.length := hc
    omega
  · rw [List.getElem?_append_left (List.getElem?_eq_some_iff.1 hb).1]; exact hb
  · obtain ⟨g', o, n, c, sz, q1, q2, q3, q4, q5⟩ := H.tip τ hu
    refine ⟨g', o, n, c, sz, q1, q2, q3, fun b hb => q4 b ?_, q5⟩
    have : b < h.length := hb
    omega

def tb (k : Nat) : List (Nat × T × TypeId) → Bool
  | [] => true
  | (_, x, _) :: r => pb k x && tb k r
def hbB (k : Nat) : List AO → Bool
  | [] => true
  | o :: r => pb k o.t && hbB k r
theorem lk_tb {k : Nat} : ∀ {t : List (Nat × T × TypeId)}, tb k t = true → ∀ {j : Nat} {x : T} {ty : TypeId}, lk t j = some (x, ty) → pb k x = true
  | [], _, _, _, _, h => by cases h
  | (i, x, ty) :: r, hb, j, y, ty', h => by
    simp only [tb, Bool.and_eq_true] at hb
    unfold lk at h
    split at h
    · injection h with h; injection h with h1 h2; subst h1; exact hb.1
    · exact lk_tb hb.2 h
theorem hbB_mem {k : Nat} : ∀ {h : List AO}, hbB k h = true → ∀ o ∈ h, pb k o.t = true
  | [], _, _, h => by cases h
  | o :: r, hb, x, h => by
    simp only [hbB, Bool.and_eq_true] at hb
    rcases List.mem_cons.1 h with rfl | h
    · exact hb.1
    · exact hbB_mem hb.2 x h

theorem lift_drop {κ : K} {u : Tips} {w : World} {σ : St} {a' : Act} {w' : World} {κ' : K} {σ' : St} {t1 : List (Nat × T × TypeId)} {h1 g : List AO} (hx : Ext κ u w κ' σ'.u w') (hs : SR P κ' σ' a' w') (hn : κ.n ≤ h1.length)
    (hh : σ'.h = h1 ++ g) (ht : WeakL t1 σ'.t) (hb : tb h1.length t1 = true) (hb2 : hbB h1.length h1 = true) : ∃ κ2, Ext κ u w κ2 σ'.u w' ∧ SR P κ2 ⟨σ'.n, t1, h1, σ'.u⟩ a' w' := by
  have hwr := hs.wr
  rw [hh] at hwr
  have hlen : κ'.n = h1.length + g.length := by simpa using hwr.n
  have hal : κ'.AlikeB h1.length { κ' with n := h1.length } := ⟨⟨rfl, rfl⟩, fun _ _ => rfl, fun _ _ => rfl, Nat.le_refl _⟩
  refine ⟨{ κ' with n := h1.length }, ⟨⟨hn, hx.le.ι, hx.le.ty, hx.le.I, hx.le.tip⟩, hx.m, hx.old, hx.os, hx.tape, hx.output, hx.size, hx.frame, fun b h2 h3 => hx.new b h2 ?_, hx.tips, hx.imms⟩, hs.defers, hs.size, fun k x ty hk => ?_, hwr.drop (hbB_mem hb2)⟩
  · have : b < h1.length := h3
    omega
  · obtain ⟨v, hv, hv2⟩ := hs.tmp k x ty (ht k _ hk)
    exact ⟨v, hv, VT_pb hal _ _ _ (lk_tb hb hk) hv2.1, hv2.2⟩

theorem AW.loopF {body : Code} {n : Nat} {t : List (Nat × T × TypeId)} {h : List AO} {u : Tips} {Q : Exit → St → Prop} (I : Nat → List (Nat × T × TypeId) → List AO → (Tips) → Prop) (m : Nat) (t1 : List (Nat × T × TypeId)) (hw : WeakL t1 t) (h0 : I m t1 h u)
    (hr : ∀ m t h u, I m t h u → AW P body ⟨n, t, h, u⟩ (Then (fun σ' => σ'.n = n ∧ ∃ m' t' h' g, m' < m ∧ WeakL t' σ'.t ∧ σ'.h = h' ++ g ∧ h.length = h'.length ∧ tb h'.length t' = true ∧ hbB h'.length h' = true ∧ I m' t' h' σ'.u) Q)) : AW P (.loop body) ⟨n, t, h, u⟩ Q := by
  refine AW.loopT I m t1 hw h0 fun m t h u hI => ?_
  intro κ a w hs
  refine wp_mono (hr m t h u hI κ a w hs) fun e a1 w1 ⟨κ1, σ1, h1, h2, h3⟩ => ?_
  cases e with
  | normal =>
    obtain ⟨e1, m', t', h', g, q1, q2, q3, q4, q5, q6, q7⟩ := h3
    obtain ⟨κ2, r1, r2⟩ := lift_drop (σ := ⟨n, t, h, u⟩) h1 h2 (by rw [hs.wr.n]; exact Nat.le_of_eq q4) q3 q2 q5 q6
    exact ⟨κ2, ⟨σ1.n, t', h', σ1.u⟩, r1, r2, e1, m', t', q1, fun _ _ hk => hk, q7⟩
  | _ => exact ⟨κ1, σ1, h1, h2, h3⟩
end Go.Am

/- A layer over the walk's rules. This text: what was shown of a call in a small memory holds in a greater one, under other numbers. -/
set_option linter.unusedVariables false
set_option linter.unusedSimpArgs false
namespace Go.Am
variable {P : Program}

def Tag.ren (θ : Nat → Nat) : Tag → Tag
  | .tip τ => .tip (θ τ)
  | t => t
def Tag.below (m : Nat) : Tag → Bool
  | .tip τ => Nat.blt τ m
  | _ => true
mutual
/-- A tree under other numbers. -/
def T.ren (ρ θ : Nat → Nat) : T → T
  | .s v => .s v
  | .st fs => .st (renL ρ θ fs)
  | .arr xs => .arr (renL ρ θ xs)
  | .lst xs tag => .lst (renL ρ θ xs) (tag.ren θ)
  | .ptr b p => .ptr (ρ b) p
  | .vw b o l c => .vw (ρ b) o l c
  | .ep ty x => .ep ty (T.ren ρ θ x)
  | .tup xs => .tup (renL ρ θ xs)
  | .fn f a b => .fn f (renL ρ θ a) (renL ρ θ b)
  | .ifc t x => .ifc t (T.ren ρ θ x)
  | .any => .any
def renL (ρ θ : Nat → Nat) : List T → List T
  | [] => []
  | x :: xs => T.ren ρ θ x :: renL ρ θ xs
end
mutual
/-- Its pointers are below k, its tips below m. -/
def inB (k m : Nat) : T → Bool
  | .s _ => true
  | .st fs => inL k m fs
  | .arr xs => inL k m xs
  | .lst xs tag => inL k m xs && tag.below m
  | .ptr b _ => Nat.blt b k
  | .vw b _ _ _ => Nat.blt b k
  | .ep _ x => inB k m x
  | .tup xs => inL k m xs
  | .fn _ a b => inL k m a && inL k m b
  | .ifc _ x => inB k m x
  | .any => true
def inL (k m : Nat) : List T → Bool
  | [] => true
  | x :: xs => inB k m x && inL k m xs
end
theorem inL_iff {k m : Nat} : ∀ {xs : List T}, inL k m xs = true ↔ ∀ x ∈ xs, inB k m x = true
  | [] => by simp [inL]
  | x :: xs => by simp [inL, inL_iff]
theorem renL_len (ρ θ : Nat → Nat) : ∀ xs : List T, (renL ρ θ xs).length = xs.length
  | [] => rfl
  | x :: xs => by simp [renL, renL_len ρ θ xs]
theorem renL_map (ρ θ : Nat → Nat) : ∀ xs : List T, renL ρ θ xs = xs.map (T.ren ρ θ)
  | [] => rfl
  | x :: xs => by simp [renL, renL_map ρ θ xs]
theorem ren_agg (ρ θ : Nat → Nat) (t : T) : (t.ren ρ θ).aggB = t.aggB := by cases t <;> simp [T.ren, T.aggB]
mutual
theorem ren_np {ρ θ : Nat → Nat} : ∀ t : T, np t = true → t.ren ρ θ = t
  | .s v => fun _ => by simp only [T.ren]
  | .st fs => fun h => by simp only [np] at h; simp only [T.ren, renL_np fs h]
  | .arr fs => fun h => by simp only [np] at h; simp only [T.ren, renL_np fs h]
  | .lst xs tag => fun h => by
    simp only [np, Bool.and_eq_true] at h
    simp only [T.ren, renL_np xs h.1]
    cases tag <;> first | rfl | cases h.2
  | .ptr b p => fun h => by simp [np] at h
  | .vw b o l c => fun h => by simp [np] at h
  | .ep ty x => fun h => by simp only [np] at h; simp only [T.ren, ren_np x h]
  | .tup xs => fun h => by simp only [np] at h; simp only [T.ren, renL_np xs h]
  | .fn f a b => fun h => by simp only [np, Bool.and_eq_true] at h; simp only [T.ren, renL_np a h.1, renL_np b h.2]
  | .ifc t x => fun h => by simp only [np] at h; simp only [T.ren, ren_np x h]
  | .any => fun _ => by simp only [T.ren]
theorem renL_np {ρ θ : Nat → Nat} : ∀ xs : List T, npL xs = true → renL ρ θ xs = xs
  | [] => fun _ => rfl
  | x :: xs => fun h => by
    simp only [npL, Bool.and_eq_true] at h
    simp only [renL, ren_np x h.1, renL_np xs h.2]
end
mutual
theorem in_np {k m : Nat} : ∀ t : T, np t = true → inB k m t = true
  | .s v => fun _ => by simp only [inB]
  | .st fs => fun h => by simp only [np] at h; simp only [inB, inL_np fs h]
  | .arr fs => fun h => by simp only [np] at h; simp only [inB, inL_np fs h]
  | .lst xs tag => fun h => by
    simp only [np, Bool.and_eq_true] at h
    simp only [inB, inL_np xs h.1, Bool.true_and]
    cases tag <;> first | rfl | cases h.2
  | .ptr b p => fun h => by simp [np] at h
  | .vw b o l c => fun h => by simp [np] at h
  | .ep ty x => fun h => by simp only [np] at h; simp only [inB, in_np x h]
  | .tup xs => fun h => by simp only [np] at h; simp only [inB, inL_np xs h]
  | .fn f a b => fun h => by simp only [np, Bool.and_eq_true] at h; simp only [inB, inL_np a h.1, inL_np b h.2, Bool.and_self]
  | .ifc t x => fun h => by simp only [np] at h; simp only [inB, in_np x h]
  | .any => fun _ => by simp only [inB]
theorem inL_np {k m : Nat} : ∀ xs : List T, npL xs = true → inL k m xs = true
  | [] => fun _ => rfl
  | x :: xs => fun h => by
    simp only [npL, Bool.and_eq_true] at h
    simp only [inL, in_np x h.1, inL_np xs h.2, Bool.and_self]
end

/-- From a to b: what stood under a number stands under another one. -/
structure K.Map (a b : K) (ρ θ : Nat → Nat) : Prop where
  I : b.I = a.I
  ptr : ∀ i, i < a.n → ρ i < b.n ∧ b.ι (ρ i) = a.ι i ∧ b.ty (ρ i) = a.ty i
  tip : ∀ τ x, a.tip τ = some x → b.tip (θ τ) = some x
theorem Holds.ofI {a b : K} (h : b.I = a.I) {A : Option Addr} {us : List Value} (hh : Holds a A us) : Holds b A us := hh.alikeI ⟨h⟩
theorem TagOk.map {a b : K} {ρ θ : Nat → Nat} (h : a.Map b ρ θ) {sz : Nat} {tag : Tag} {A : Option Addr} {n c : Nat} (hh : TagOk a sz tag A n c) : TagOk b sz (tag.ren θ) A n c := by
  cases tag with
  | no => exact hh
  | full => exact hh
  | nil => exact hh
  | tip τ => obtain ⟨h1, g, o, h2, h3⟩ := hh; exact ⟨h1, g, o, h2, h.tip _ _ h3⟩
mutual
theorem VT_map {a b : K} {ρ θ : Nat → Nat} (h : a.Map b ρ θ) : ∀ (t : T) (ty : TypeId) (vs : List Value), VT P a t ty vs → VT P b (t.ren ρ θ) ty vs
  | .s v, ty, vs => fun hh => by simp only [VT, T.ren] at hh ⊢; exact hh
  | .st fs, ty, vs => fun hh => by
    simp only [VT, T.ren] at hh ⊢
    obtain ⟨f, h1, h2, h2', h3⟩ := hh
    exact ⟨f, h1, h2, h2', VF_map h fs _ _ h3⟩
  | .arr xs, ty, vs => fun hh => by
    simp only [VT, T.ren] at hh ⊢
    obtain ⟨n, e, h1, h2, h3, h3', h4⟩ := hh
    exact ⟨n, e, h1, by rw [renL_len]; exact h2, h3, h3', VA_map h xs _ _ h4⟩
  | .lst xs tag, ty, vs => fun hh => by
    simp only [VT, T.ren] at hh ⊢
    obtain ⟨e, A, c, us, h1, h2, h3, h4, h5⟩ := hh
    exact ⟨e, A, c, us, h1, by rw [renL_len]; exact h2, by rw [renL_len]; exact h3.map h, VA_map h xs _ _ h4, h5.ofI h.I⟩
  | .ptr i p, ty, vs => fun hh => by
    simp only [VT, T.ren] at hh ⊢
    obtain ⟨o, t', h1, h2, h3⟩ := hh
    obtain ⟨r1, r2, r3⟩ := h.ptr i h1
    exact ⟨o, t', r1, by rw [r3]; exact h2, by rw [r2]; exact h3⟩
  | .vw i o l c, ty, vs => fun hh => by
    simp only [VT, T.ren] at hh ⊢
    obtain ⟨e, n, h1, h2, h3, h4, h5, h6⟩ := hh
    obtain ⟨r1, r2, r3⟩ := h.ptr i h2
    exact ⟨e, n, h1, r1, by rw [r3]; exact h3, h4, h5, by rw [r2]; exact h6⟩
  | .ep ty' x, ty, vs => fun hh => by
    simp only [VT, T.ren] at hh ⊢
    obtain ⟨g, o, us, h1, h2, h3⟩ := hh
    exact ⟨g, o, us, VT_map h x _ _ h1, h2.alikeI ⟨h.I⟩, h3⟩
  | .tup xs, ty, vs => fun hh => by
    simp only [VT, T.ren] at hh ⊢
    obtain ⟨es, us, h1, h2, h3⟩ := hh
    exact ⟨es, us, h1, h2, VL_map h xs _ _ h3⟩
  | .fn f x y, ty, vs => fun hh => by
    simp only [VT, T.ren] at hh ⊢
    obtain ⟨us, ws, h1, h2, h3⟩ := hh
    exact ⟨us, ws, h1, VC_map h x _ h2, VC_map h y _ h3⟩
  | .ifc t x, ty, vs => fun hh => by
    simp only [VT, T.ren] at hh ⊢
    obtain ⟨v, ⟨h1, h2⟩, h3⟩ := hh
    exact ⟨v, ⟨VT_map h x _ _ h1, by rw [ren_agg]; exact h2⟩, h3⟩
  | .any, ty, vs => fun hh => by simp only [VT, T.ren] at hh ⊢; exact hh
theorem VF_map {a b : K} {ρ θ : Nat → Nat} (h : a.Map b ρ θ) : ∀ (ts : List T) (fs : List Field) (vs : List Value), VF P a ts fs vs → VF P b (renL ρ θ ts) fs vs
  | [], [], vs => fun _ => by simp only [VF, renL]
  | t :: ts, f :: fs, vs => fun hh => by
    simp only [VF, renL] at hh ⊢
    exact ⟨VT_map h t _ _ hh.1, VF_map h ts _ _ hh.2⟩
  | [], _ :: _, _ => fun hh => by simp only [VF] at hh
  | _ :: _, [], _ => fun hh => by simp only [VF] at hh
theorem VA_map {a b : K} {ρ θ : Nat → Nat} (h : a.Map b ρ θ) : ∀ (ts : List T) (e : TypeId) (vs : List Value), VA P a ts e vs → VA P b (renL ρ θ ts) e vs
  | [], _, vs => fun hh => by simp only [VA, renL] at hh ⊢; exact hh
  | t :: ts, e, vs => fun hh => by
    simp only [VA, renL] at hh ⊢
    exact ⟨hh.1, VT_map h t _ _ hh.2.1, VA_map h ts _ _ hh.2.2⟩
theorem VL_map {a b : K} {ρ θ : Nat → Nat} (h : a.Map b ρ θ) : ∀ (ts : List T) (es : List TypeId) (vs : List Value), VL P a ts es vs → VL P b (renL ρ θ ts) es vs
  | [], [], vs => fun hh => by simp only [VL, renL] at hh ⊢; exact hh
  | t :: ts, e :: es, v :: vs => fun hh => by
    simp only [VL, renL] at hh ⊢
    exact ⟨⟨VT_map h t _ _ hh.1.1, by rw [ren_agg]; exact hh.1.2⟩, VL_map h ts _ _ hh.2⟩
  | [], _ :: _, _ => fun hh => by simp only [VL] at hh
  | _ :: _, [], _ => fun hh => by simp only [VL] at hh
  | _ :: _, _ :: _, [] => fun hh => by simp only [VL] at hh
theorem VC_map {a b : K} {ρ θ : Nat → Nat} (h : a.Map b ρ θ) : ∀ (ts : List T) (vs : List Value), VC P a ts vs → VC P b (renL ρ θ ts) vs
  | [], vs => fun hh => by simp only [VC, renL] at hh ⊢; exact hh
  | t :: ts, v :: vs => fun hh => by
    simp only [VC, renL] at hh ⊢
    exact ⟨⟨VT_map h t _ _ hh.1.1, by rw [ren_agg]; exact hh.1.2⟩, VC_map h ts _ hh.2⟩
  | _ :: _, [] => fun hh => by simp only [VC] at hh
end
theorem VO_map {a b : K} {ρ θ : Nat → Nat} (h : a.Map b ρ θ) {t : T} {ty : OTy} {vs : List Value} (hh : VO P a t ty vs) : VO P b (t.ren ρ θ) ty vs := by
  cases ty with
  | one ty => exact ⟨VT_map h _ _ _ hh.1, hh.2⟩
  | row e n =>
    obtain ⟨xs, rfl, h2, h3, h4, h5⟩ := hh
    exact ⟨renL ρ θ xs, by simp only [T.ren], by rw [renL_len]; exact h2, h3, h4, VA_map h _ _ _ h5⟩
  | dead => trivial

/-! Back again. -/
structure K.Unmap (a b : K) (ρ θ : Nat → Nat) (k m : Nat) : Prop where
  I : b.I = a.I
  n : b.n = k
  ptr : ∀ i, i < k → b.ι i = a.ι (ρ i) ∧ b.ty i = a.ty (ρ i)
  tip : ∀ τ, τ < m → b.tip τ = a.tip (θ τ)
theorem TagOk.unmap {a b : K} {ρ θ : Nat → Nat} {k m : Nat} (h : a.Unmap b ρ θ k m) {sz : Nat} {tag : Tag} {A : Option Addr} {n c : Nat} (hb : tag.below m = true) (hh : TagOk a sz (tag.ren θ) A n c) : TagOk b sz tag A n c := by
  cases tag with
  | no => exact hh
  | full => exact hh
  | nil => exact hh
  | tip τ => obtain ⟨h1, g, o, h2, h3⟩ := hh; exact ⟨h1, g, o, h2, by rw [h.tip τ (Nat.le_of_ble_eq_true hb)]; exact h3⟩
mutual
theorem VT_unmap {a b : K} {ρ θ : Nat → Nat} {k m : Nat} (h : a.Unmap b ρ θ k m) : ∀ (t : T) (ty : TypeId) (vs : List Value), inB k m t = true → VT P a (t.ren ρ θ) ty vs → VT P b t ty vs
  | .s v, ty, vs => fun _ hh => by simp only [VT, T.ren] at hh ⊢; exact hh
  | .st fs, ty, vs => fun hn hh => by
    simp only [VT, inB, T.ren] at hn hh ⊢
    obtain ⟨f, h1, h2, h2', h3⟩ := hh
    exact ⟨f, h1, h2, h2', VF_unmap h fs _ _ hn h3⟩
  | .arr xs, ty, vs => fun hn hh => by
    simp only [VT, inB, T.ren] at hn hh ⊢
    obtain ⟨n, e, h1, h2, h3, h3', h4⟩ := hh
    rw [renL_len] at h2
    exact ⟨n, e, h1, h2, h3, h3', VA_unmap h xs _ _ hn h4⟩
  | .lst xs tag, ty, vs => fun hn hh => by
    simp only [VT, inB, T.ren, Bool.and_eq_true] at hn hh ⊢
    obtain ⟨e, A, c, us, h1, h2, h3, h4, h5⟩ := hh
    rw [renL_len] at h2 h3
    exact ⟨e, A, c, us, h1, h2, h3.unmap h hn.2, VA_unmap h xs _ _ hn.1 h4, h5.ofI h.I⟩
  | .ptr i p, ty, vs => fun hn hh => by
    simp only [VT, T.ren] at hh ⊢
    obtain ⟨o, t', h1, h2, h3⟩ := hh
    have hi : i < k := Nat.le_of_ble_eq_true hn
    obtain ⟨r1, r2⟩ := h.ptr i hi
    exact ⟨o, t', by rw [h.n]; exact hi, by rw [r2]; exact h2, by rw [r1]; exact h3⟩
  | .vw i o l c, ty, vs => fun hn hh => by
    simp only [VT, T.ren] at hh ⊢
    obtain ⟨e, n, h1, h2, h3, h4, h5, h6⟩ := hh
    have hi : i < k := Nat.le_of_ble_eq_true hn
    obtain ⟨r1, r2⟩ := h.ptr i hi
    exact ⟨e, n, h1, by rw [h.n]; exact hi, by rw [r2]; exact h3, h4, h5, by rw [r1]; exact h6⟩
  | .ep ty' x, ty, vs => fun hn hh => by
    simp only [VT, inB, T.ren] at hn hh ⊢
    obtain ⟨g, o, us, h1, h2, h3⟩ := hh
    exact ⟨g, o, us, VT_unmap h x _ _ hn h1, h2.alikeI ⟨h.I⟩, h3⟩
  | .tup xs, ty, vs => fun hn hh => by
    simp only [VT, inB, T.ren] at hn hh ⊢
    obtain ⟨es, us, h1, h2, h3⟩ := hh
    exact ⟨es, us, h1, h2, VL_unmap h xs _ _ hn h3⟩
  | .fn f x y, ty, vs => fun hn hh => by
    simp only [VT, inB, T.ren, Bool.and_eq_true] at hn hh ⊢
    obtain ⟨us, ws, h1, h2, h3⟩ := hh
    exact ⟨us, ws, h1, VC_unmap h x _ hn.1 h2, VC_unmap h y _ hn.2 h3⟩
  | .ifc t x, ty, vs => fun hn hh => by
    simp only [VT, inB, T.ren] at hn hh ⊢
    obtain ⟨v, ⟨h1, h2⟩, h3⟩ := hh
    exact ⟨v, ⟨VT_unmap h x _ _ hn h1, by rw [ren_agg] at h2; exact h2⟩, h3⟩
  | .any, ty, vs => fun _ hh => by simp only [VT, T.ren] at hh ⊢; exact hh
theorem VF_unmap {a b : K} {ρ θ : Nat → Nat} {k m : Nat} (h : a.Unmap b ρ θ k m) : ∀ (ts : List T) (fs : List Field) (vs : List Value), inL k m ts = true → VF P a (renL ρ θ ts) fs vs → VF P b ts fs vs
  | [], [], vs => fun _ _ => by simp only [VF]
  | t :: ts, f :: fs, vs => fun hn hh => by
    simp only [VF, inL, renL, Bool.and_eq_true] at hn hh ⊢
    exact ⟨VT_unmap h t _ _ hn.1 hh.1, VF_unmap h ts _ _ hn.2 hh.2⟩
  | [], _ :: _, _ => fun _ hh => by simp only [VF, renL] at hh
  | _ :: _, [], _ => fun _ hh => by simp only [VF, renL] at hh
theorem VA_unmap {a b : K} {ρ θ : Nat → Nat} {k m : Nat} (h : a.Unmap b ρ θ k m) : ∀ (ts : List T) (e : TypeId) (vs : List Value), inL k m ts = true → VA P a (renL ρ θ ts) e vs → VA P b ts e vs
  | [], _, vs => fun _ hh => by simp only [VA, renL] at hh ⊢; exact hh
  | t :: ts, e, vs => fun hn hh => by
    simp only [VA, inL, renL, Bool.and_eq_true] at hn hh ⊢
    exact ⟨hh.1, VT_unmap h t _ _ hn.1 hh.2.1, VA_unmap h ts _ _ hn.2 hh.2.2⟩
theorem VL_unmap {a b : K} {ρ θ : Nat → Nat} {k m : Nat} (h : a.Unmap b ρ θ k m) : ∀ (ts : List T) (es : List TypeId) (vs : List Value), inL k m ts = true → VL P a (renL ρ θ ts) es vs → VL P b ts es vs
  | [], [], vs => fun _ hh => by simp only [VL, renL] at hh ⊢; exact hh
  | t :: ts, e :: es, v :: vs => fun hn hh => by
    simp only [VL, inL, renL, Bool.and_eq_true] at hn hh ⊢
    exact ⟨⟨VT_unmap h t _ _ hn.1 hh.1.1, by rw [ren_agg] at hh; exact hh.1.2⟩, VL_unmap h ts _ _ hn.2 hh.2⟩
  | [], _ :: _, _ => fun _ hh => by simp only [VL, renL] at hh
  | _ :: _, [], _ => fun _ hh => by simp only [VL, renL] at hh
  | _ :: _, _ :: _, [] => fun _ hh => by simp only [VL, renL] at hh
theorem VC_unmap {a b : K} {ρ θ : Nat → Nat} {k m : Nat} (h : a.Unmap b ρ θ k m) : ∀ (ts : List T) (vs : List Value), inL k m ts = true → VC P a (renL ρ θ ts) vs → VC P b ts vs
  | [], vs => fun _ hh => by simp only [VC, renL] at hh ⊢; exact hh
  | t :: ts, v :: vs => fun hn hh => by
    simp only [VC, inL, renL, Bool.and_eq_true] at hn hh ⊢
    exact ⟨⟨VT_unmap h t _ _ hn.1 hh.1.1, by rw [ren_agg] at hh; exact hh.1.2⟩, VC_unmap h ts _ hn.2 hh.2⟩
  | _ :: _, [] => fun _ hh => by simp only [VC, renL] at hh
end
theorem VO_unmap {a b : K} {ρ θ : Nat → Nat} {k m : Nat} (h : a.Unmap b ρ θ k m) {t : T} {ty : OTy} {vs : List Value} (hn : inB k m t = true) (hh : VO P a (t.ren ρ θ) ty vs) : VO P b t ty vs := by
  cases ty with
  | one ty => exact ⟨VT_unmap h _ _ _ hn hh.1, hh.2⟩
  | row e n =>
    obtain ⟨xs, h1, h2, h3, h4, h5⟩ := hh
    cases t with
    | arr ys =>
      simp only [T.ren, T.arr.injEq] at h1
      subst h1
      simp only [inB] at hn
      rw [renL_len] at h2
      exact ⟨ys, rfl, h2, h3, h4, VA_unmap h _ _ _ hn h5⟩
    | _ => simp [T.ren] at h1
  | dead => trivial
end Go.Am
namespace Go.Am
variable {P : Program}
/-- The first numbers are listed, the others follow behind. -/
def mapTo (l : List Nat) (L : Nat) (i : Nat) : Nat := match l[i]? with
  | some r => r
  | none => L + (i - l.length)
theorem mapTo_lt {l : List Nat} {L i r : Nat} (h : l[i]? = some r) : mapTo l L i = r := by simp [mapTo, h]
theorem mapTo_ge {l : List Nat} {L i : Nat} (h : l.length ≤ i) : mapTo l L i = L + (i - l.length) := by simp [mapTo, List.getElem?_eq_none h]
def upd : List AO → List Nat → List AO → List AO
  | H, [], os => H ++ os
  | H, r :: rs, o :: os => upd (H.set r o) rs os
  | H, _ :: _, [] => H
theorem upd_len : ∀ {H : List AO} {rs : List Nat} {os : List AO}, rs.length ≤ os.length → (upd H rs os).length = H.length + (os.length - rs.length)
  | H, [], os, _ => by simp [upd]
  | H, r :: rs, o :: os, h => by
    have := upd_len (H := H.set r o) (rs := rs) (os := os) (by simpa using h)
    simp only [upd, this, List.length_set, List.length_cons]
    omega
  | H, _ :: _, [], h => by simp at h
theorem upd_new : ∀ {H : List AO} {rs : List Nat} {os : List AO} {c : Nat}, rs.length ≤ os.length → H.length ≤ c → (upd H rs os)[c]? = os[rs.length + (c - H.length)]?
  | H, [], os, c, _, h => by simp only [upd, List.length_nil, Nat.zero_add]; rw [List.getElem?_append_right h]
  | H, r :: rs, o :: os, c, hl, h => by
    have := upd_new (H := H.set r o) (rs := rs) (os := os) (c := c) (by simpa using hl) (by simpa using h)
    simp only [upd, this, List.length_set, List.length_cons]
    rw [show rs.length + 1 + (c - H.length) = (rs.length + (c - H.length)) + 1 by omega, List.getElem?_cons_succ]
  | H, _ :: _, [], _, hl, _ => by simp at hl
theorem upd_other : ∀ {H : List AO} {rs : List Nat} {os : List AO} {c : Nat}, c ∉ rs → c < H.length → (upd H rs os)[c]? = H[c]?
  | H, [], os, c, _, h => by simp only [upd]; rw [List.getElem?_append_left h]
  | H, r :: rs, o :: os, c, hn, h => by
    simp only [List.mem_cons, not_or] at hn
    have := upd_other (H := H.set r o) (rs := rs) (os := os) (c := c) hn.2 (by simpa using h)
    simp only [upd, this]
    rw [List.getElem?_set_ne (fun e => hn.1 e.symm)]
  | H, _ :: _, [], _, _, _ => rfl
theorem upd_at : ∀ {H : List AO} {rs : List Nat} {os : List AO} {b r : Nat}, rs.Nodup → rs.length ≤ os.length → rs[b]? = some r → r < H.length → (upd H rs os)[r]? = os[b]?
  | H, [], os, b, r, _, _, h, _ => by simp at h
  | H, a :: rs, o :: os, b, r, hn, hl, h, hr => by
    simp only [List.nodup_cons] at hn
    simp only [upd]
    cases b with
    | zero =>
      simp at h
      subst h
      rw [upd_other hn.1 (by simpa using hr), List.getElem?_set_self hr]; rfl
    | succ b =>
      simp only [List.getElem?_cons_succ] at h ⊢
      exact upd_at hn.2 (by simpa using hl) h (by simpa using hr)
  | H, _ :: _, [], _, _, _, hl, _, _ => by simp at hl
def remL : List Nat → List Nat → List Nat
  | [], l => l
  | a :: r, l => remL r (remN a l)
theorem mem_remL {σ : Nat} : ∀ {r l : List Nat}, σ ∈ remL r l ↔ σ ∉ r ∧ σ ∈ l
  | [], l => by simp [remL]
  | a :: r, l => by simp only [remL, mem_remL, mem_remN, List.mem_cons, not_or]; constructor <;> (rintro ⟨h1, h2⟩; simp_all)
/-- The tips behind a call. -/
def subT (U u0 u' : Tips) (θl : List Nat) : Tips := ⟨u'.live.map (mapTo θl U.m) ++ remL (u0.live.map (mapTo θl U.m)) U.live, U.m + (u'.m - θl.length)⟩
def AO.ren (ρ θ : Nat → Nat) (o : AO) : AO := ⟨o.ty, o.t.ren ρ θ⟩

theorem VArgs_unmap {a b : K} {ρ θ : Nat → Nat} {k m : Nat} (h : a.Unmap b ρ θ k m) : ∀ {xs : List X} {vs : List Value}, (∀ x ∈ xs, inB k m x.1 = true) → VArgs P a (xs.map fun x => (x.1.ren ρ θ, x.2)) vs → VArgs P b xs vs
  | [], _, _, .nil => .nil
  | x :: xs, _, hn, .cons h1 k => .cons ⟨VT_unmap h _ _ _ (hn _ (.head _)) h1.1, by have := h1.2; rw [ren_agg] at this; exact this⟩ (VArgs_unmap h (fun x hx => hn x (.tail _ hx)) k)

/-- A call in a memory of which a part is known under other numbers. -/
theorem ACalls.sub {f : FuncId} {args0 : List X} {h0 : List AO} {u0 : Tips} {K0 Kp : X → List AO → Tips → Prop} {H : List AO} {U : Tips} (ρl θl : List Nat) (hc : ACalls P f args0 h0 u0 K0)
    (hρ : ρl.length = h0.length) (hnd : ρl.Nodup) (hlt : ∀ r ∈ ρl, r < H.length)
    (hH : ∀ (b : Nat) o r, h0[b]? = some o → ρl[b]? = some r → H[r]? = some (o.ren (mapTo ρl H.length) (mapTo θl U.m)))
    (hin : ∀ o ∈ h0, inB h0.length θl.length o.t = true) (hina : ∀ x ∈ args0, inB h0.length θl.length x.1 = true)
    (hθ : ∀ t ∈ θl, t < U.m) (hu0 : u0.m = θl.length) (hlive : ∀ τ, u0 τ → ∃ t, θl[τ]? = some t ∧ U t) (hinj : ∀ τ σ, u0 τ → u0 σ → θl[τ]? = θl[σ]? → τ = σ)
    (hK : ∀ x h u, K0 x h u → Kp (x.1.ren (mapTo ρl H.length) (mapTo θl U.m), x.2) (upd H ρl (h.map (AO.ren (mapTo ρl H.length) (mapTo θl U.m)))) (subT U u0 u θl)) :
    ACalls P f (args0.map fun x => (x.1.ren (mapTo ρl H.length) (mapTo θl U.m), x.2)) H U Kp := by
  intro κ w vs hw ha
  have hρget : ∀ b, b < h0.length → ∃ r, ρl[b]? = some r := fun b hb => ⟨_, List.getElem?_eq_getElem (by omega)⟩
  have hρlt : ∀ b r, ρl[b]? = some r → r < H.length := fun b r h => hlt r (List.mem_of_getElem? h)
  have hnH := hw.n
  let κ0 : K := { n := h0.length, ι := fun b => κ.ι (mapTo ρl H.length b), ty := fun b => κ.ty (mapTo ρl H.length b), I := κ.I, tip := fun τ => if τ < θl.length then κ.tip (mapTo θl U.m τ) else none }
  have hun : κ.Unmap κ0 (mapTo ρl H.length) (mapTo θl U.m) h0.length θl.length := ⟨rfl, rfl, fun i _ => ⟨rfl, rfl⟩, fun τ hτ => if_pos hτ⟩
  have hbound : ∀ b, b < h0.length → mapTo ρl H.length b < κ.n := fun b hb => by
    obtain ⟨r, hr⟩ := hρget b hb
    rw [mapTo_lt hr, hnH]; exact hρlt b r hr
  have hρinj : ∀ b c, b < h0.length → c < h0.length → mapTo ρl H.length b = mapTo ρl H.length c → b = c := fun b c hb hc he => by
    obtain ⟨r, hr⟩ := hρget b hb
    obtain ⟨s, hs⟩ := hρget c hc
    rw [mapTo_lt hr, mapTo_lt hs] at he
    subst he
    exact (List.getElem?_inj (show b < ρl.length by omega) hnd).1 (hr.trans hs.symm)
  have hobj0 : ∀ b o, h0[b]? = some o → H[mapTo ρl H.length b]? = some (o.ren (mapTo ρl H.length) (mapTo θl U.m)) := fun b o hb => by
    obtain ⟨r, hr⟩ := hρget b (List.getElem?_eq_some_iff.1 hb).1
    rw [mapTo_lt hr]; exact hH b o r hb hr
  have htl : ∀ τ, u0 τ → τ < θl.length ∧ U (mapTo θl U.m τ) := fun τ hτ => by
    obtain ⟨t, h1, h2⟩ := hlive τ hτ
    exact ⟨(List.getElem?_eq_some_iff.1 h1).1, by rw [mapTo_lt h1]; exact h2⟩
  have hwr0 : WR P κ0 w h0 u0 := by
    refine ⟨rfl, fun b o hb => ?_, fun b c hb hc he => ?_, hw.imm, fun g o v b q hv hb hq => ?_, fun τ hτ => ?_, fun τ hτ => if_neg (by omega)⟩
    · obtain ⟨q1, q2, ws, e, q3, q4⟩ := hw.obj _ _ (hobj0 b o hb)
      exact ⟨q1, q2, ws, e, q3, VO_unmap hun (hin o (List.mem_of_getElem? hb)) q4⟩
    · exact hρinj b c hb hc (hw.inj _ _ (hbound b hb) (hbound c hc) he)
    · exact hw.immo g o v _ _ hv (hobj0 b q hb) hq
    · obtain ⟨hτl, hU⟩ := htl τ hτ
      obtain ⟨g, o, n, c, sz, q1, q2, q3, q4, q5⟩ := hw.tip _ hU
      refine ⟨g, o, n, c, sz, (if_pos hτl).trans q1, q2, q3, fun b hb => q4 _ (hbound b hb), fun σ g' o' n' c' sz' hσ hne ht => ?_⟩
      obtain ⟨hσl, hUσ⟩ := htl σ hσ
      have ht' : κ.tip (mapTo θl U.m σ) = some (g', o', n', c', sz') := (if_pos hσl).symm.trans ht
      refine q5 _ g' o' n' c' sz' hUσ (fun e => hne ?_) ht'
      obtain ⟨a, ha, _⟩ := hlive σ hσ
      obtain ⟨b, hb, _⟩ := hlive τ hτ
      rw [mapTo_lt ha, mapTo_lt hb] at e
      subst e
      exact hinj σ τ hσ hτ (ha.trans hb.symm)
  refine (hc κ0 w vs hwr0 (VArgs_unmap hun hina ha)).mono ?_
  rintro e w' ⟨κ1, v, x, h', u', rfl, h1, h2, h3, hk⟩
  have hn1 := h2.n
  have hle0 : h0.length ≤ h'.length := by have := h1.le.n; rw [hn1] at this; exact this
  have hm0 : θl.length ≤ u'.m := by have := h1.m; omega
  have hιo : ∀ b, b < h0.length → κ1.ι b = κ.ι (mapTo ρl H.length b) := fun b hb => h1.le.ι b hb
  have htyo : ∀ b, b < h0.length → κ1.ty b = κ.ty (mapTo ρl H.length b) := fun b hb => h1.le.ty b hb
  have htipo : ∀ τ, τ < θl.length → κ1.tip τ = κ.tip (mapTo θl U.m τ) := fun τ hτ => (h1.old τ (by omega)).trans (if_pos hτ)
  let κ2 : K := { n := H.length + (h'.length - h0.length), ι := fun c => if c < H.length then κ.ι c else κ1.ι (h0.length + (c - H.length)), ty := fun c => if c < H.length then κ.ty c else κ1.ty (h0.length + (c - H.length)),
                  I := κ1.I, tip := fun τ => if τ < U.m then κ.tip τ else κ1.tip (θl.length + (τ - U.m)) }
  have hUlt : ∀ τ x, κ.tip τ = some x → τ < U.m := fun τ x hx => by
    by_cases h : τ < U.m
    · exact h
    · rw [hw.fresh τ (by omega)] at hx; cases hx
  have hmap : κ1.Map κ2 (mapTo ρl H.length) (mapTo θl U.m) := by
    refine ⟨rfl, fun i hi => ?_, fun τ y hy => ?_⟩
    · rw [hn1] at hi
      by_cases hb : i < h0.length
      · obtain ⟨r, hr⟩ := hρget i hb
        have hrl := hρlt i r hr
        have e1 := mapTo_lt (L := H.length) hr
        refine ⟨by rw [e1]; show r < H.length + _; omega, ?_, ?_⟩
        · rw [e1]; show (if r < H.length then _ else _) = _; rw [if_pos hrl, hιo i hb, e1]
        · rw [e1]; show (if r < H.length then _ else _) = _; rw [if_pos hrl, htyo i hb, e1]
      · have e1 := mapTo_ge (L := H.length) (show ρl.length ≤ i by omega)
        rw [hρ] at e1
        have e2 : h0.length + (H.length + (i - h0.length) - H.length) = i := by omega
        refine ⟨by rw [e1]; show _ < H.length + _; omega, ?_, ?_⟩
        · rw [e1]; show (if _ < H.length then _ else _) = _; rw [if_neg (by omega), e2]
        · rw [e1]; show (if _ < H.length then _ else _) = _; rw [if_neg (by omega), e2]
    · by_cases hτ : τ < θl.length
      · rw [htipo τ hτ] at hy
        have := hUlt _ _ hy
        show (if _ < U.m then _ else _) = _
        rw [if_pos this]; exact hy
      · rw [mapTo_ge (by omega)]
        show (if _ < U.m then _ else _) = _
        rw [if_neg (by omega), show θl.length + (U.m + (τ - θl.length) - U.m) = τ by omega]; exact hy
  have hle : κ.Le κ2 := by
    refine ⟨by rw [hnH]; exact Nat.le_add_right _ _, fun b hb => if_pos (by omega), fun b hb => if_pos (by omega), fun g o v hv => h1.le.I g o v hv, fun τ y hy => (if_pos (hUlt τ y hy)).trans hy⟩
  -- blocks that the call may have touched
  have hsame : ∀ g, g < w.heap.size → (∀ b, b < h0.length → κ.ι (mapTo ρl H.length b) ≠ g) → (∀ τ g' o n c sz, u0 τ → κ.tip (mapTo θl U.m τ) = some (g', o, n, c, sz) → g' ≠ g) → w'.heap[g]? = w.heap[g]? := fun g hg a1 a2 =>
    h1.frame g hg a1 (fun τ g' o n c sz hτ ht => a2 τ g' o n c sz hτ ((if_pos (htl τ hτ).1).symm.trans ht))
  have htips : ∀ τ g o n c sz, u' τ → κ1.tip τ = some (g, o, n, c, sz) → w.heap.size ≤ g ∨ ∃ σ o' n' c' sz', u0 σ ∧ κ.tip (mapTo θl U.m σ) = some (g, o', n', c', sz') := fun τ g o n c sz hτ ht => by
    rcases h1.tips τ g o n c sz hτ ht with q | ⟨σ, o', n', c', sz', q1, q2⟩
    · exact .inl q
    · exact .inr ⟨σ, o', n', c', sz', q1, (if_pos (htl σ q1).1).symm.trans q2⟩
  have himms : ∀ g o v, κ1.I g o = some v → κ.I g o = some v ∨ w.heap.size ≤ g ∨ (∃ b, b < h0.length ∧ κ.ι (mapTo ρl H.length b) = g) ∨ ∃ σ o' n' c' sz', u0 σ ∧ κ.tip (mapTo θl U.m σ) = some (g, o', n', c', sz') := fun g o v hv => by
    rcases h1.imms g o v hv with q | q | q | ⟨σ, o', n', c', sz', q1, q2⟩
    · exact .inl q
    · exact .inr (.inl q)
    · exact .inr (.inr (.inl q))
    · exact .inr (.inr (.inr ⟨σ, o', n', c', sz', q1, (if_pos (htl σ q1).1).symm.trans q2⟩))
  have hUm : ∀ {τ}, subT U u0 u' θl τ → (∃ t, u' t ∧ mapTo θl U.m t = τ) ∨ (U τ ∧ ∀ t, u0 t → mapTo θl U.m t ≠ τ) := fun {τ} hτ => by
    rcases List.mem_append.1 hτ with q | q
    · obtain ⟨t, q1, q2⟩ := List.mem_map.1 q; exact .inl ⟨t, q1, q2⟩
    · obtain ⟨q1, q2⟩ := mem_remL.1 q
      exact .inr ⟨q2, fun t ht e => q1 (List.mem_map.2 ⟨t, ht, e⟩)⟩
  have hkt : ∀ t y, κ1.tip t = some y → κ2.tip (mapTo θl U.m t) = some y := fun t y hy => hmap.tip t y hy
  have hk2 : ∀ t y, u' t → κ2.tip (mapTo θl U.m t) = some y → κ1.tip t = some y := fun t y ht hy => by
    obtain ⟨g, o, n, c, sz, q1, _⟩ := h2.tip t ht
    rw [hkt t _ q1] at hy
    rw [q1]; exact hy
  have hold : ∀ c, c < H.length → c ∉ ρl → ∀ b, b < h0.length → κ.ι (mapTo ρl H.length b) ≠ κ.ι c := fun c hc hnr b hb he => by
    have := hw.inj _ _ (hbound b hb) (by rw [hnH]; exact hc) he
    obtain ⟨r, hr⟩ := hρget b hb
    rw [mapTo_lt hr] at this
    subst this
    exact hnr (List.mem_of_getElem? hr)
  have htipobj : ∀ σ g o n c sz, u0 σ → κ.tip (mapTo θl U.m σ) = some (g, o, n, c, sz) → ∀ b, b < κ.n → κ.ι b ≠ g := fun σ g o n c sz hσ ht b hb => by
    obtain ⟨g1, o1, n1, c1, sz1, q1, q2, q3, q4, q5⟩ := hw.tip _ (htl σ hσ).2
    rw [ht] at q1; cases q1
    exact q4 b hb
  have hosl : ρl.length ≤ (h'.map (AO.ren (mapTo ρl H.length) (mapTo θl U.m))).length := by rw [List.length_map]; omega
  refine ⟨κ2, v, _, _, _, rfl, ?_, ?_, ⟨VT_map hmap _ _ _ h3.1, by rw [ren_agg]; exact h3.2⟩, hK x h' u' hk⟩
  · refine ⟨hle, Nat.le_add_right _ _, fun τ hτ => if_pos hτ, h1.os, h1.tape, h1.output, h1.size, fun g hg a1 a2 => ?_, fun b q1 q2 => ?_, fun τ g o n c sz hτ ht => ?_, fun g o v hv => ?_⟩
    · exact hsame g hg (fun b hb => a1 _ (hbound b hb)) (fun τ g' o n c sz hτ ht => a2 _ g' o n c sz (htl τ hτ).2 ht)
    · have q2' : b < H.length + (h'.length - h0.length) := q2
      have hb : ¬ b < H.length := by omega
      show w.heap.size ≤ (if b < H.length then _ else _)
      rw [if_neg hb]
      exact h1.new _ (Nat.le_add_right _ _) (by rw [hn1]; omega)
    · rcases hUm hτ with ⟨t, q1, rfl⟩ | ⟨q1, q2⟩
      · rcases htips t g o n c sz q1 (hk2 t _ q1 ht) with q | ⟨σ, o', n', c', sz', r1, r2⟩
        · exact .inl q
        · exact .inr ⟨_, o', n', c', sz', (htl σ r1).2, r2⟩
      · have hlt : τ < U.m := by
          obtain ⟨_, _, _, _, _, r1, _⟩ := hw.tip τ q1
          exact hUlt _ _ r1
        have ht' : (if τ < U.m then κ.tip τ else _) = some (g, o, n, c, sz) := ht
        rw [if_pos hlt] at ht'
        exact .inr ⟨τ, o, n, c, sz, q1, ht'⟩
    · rcases himms g o v hv with q | q | ⟨b, q1, q2⟩ | ⟨σ, o', n', c', sz', q1, q2⟩
      · exact .inl q
      · exact .inr (.inl q)
      · exact .inr (.inr (.inl ⟨_, hbound b q1, q2⟩))
      · exact .inr (.inr (.inr ⟨_, o', n', c', sz', (htl σ q1).2, q2⟩))
  · -- what an object is
    have hcase : ∀ c q, (upd H ρl (h'.map (AO.ren (mapTo ρl H.length) (mapTo θl U.m))))[c]? = some q →
        (∃ b o, h'[b]? = some o ∧ q = o.ren (mapTo ρl H.length) (mapTo θl U.m) ∧ κ2.ι c = κ1.ι b ∧ κ2.ty c = κ1.ty b) ∨ (c < H.length ∧ c ∉ ρl ∧ H[c]? = some q) := fun c q hq => by
      by_cases hc : c < H.length
      · by_cases hm : c ∈ ρl
        · obtain ⟨b, hb⟩ := List.mem_iff_getElem?.1 hm
          rw [upd_at hnd hosl hb hc, List.getElem?_map] at hq
          have hbl : b < h0.length := by have := (List.getElem?_eq_some_iff.1 hb).1; omega
          cases ho : h'[b]? with
          | none => rw [ho] at hq; cases hq
          | some o =>
            rw [ho] at hq
            simp only [Option.map_some, Option.some.injEq] at hq
            refine .inl ⟨b, o, ho, hq.symm, ?_, ?_⟩
            · show (if c < H.length then _ else _) = _
              rw [if_pos hc, hιo b hbl, mapTo_lt hb]
            · show (if c < H.length then _ else _) = _
              rw [if_pos hc, htyo b hbl, mapTo_lt hb]
        · rw [upd_other hm hc] at hq
          exact .inr ⟨hc, hm, hq⟩
      · rw [upd_new hosl (by omega), List.getElem?_map, hρ] at hq
        cases ho : h'[h0.length + (c - H.length)]? with
        | none => rw [ho] at hq; cases hq
        | some o =>
          rw [ho] at hq
          simp only [Option.map_some, Option.some.injEq] at hq
          exact .inl ⟨_, o, ho, hq.symm, if_neg hc, if_neg hc⟩
    have hι2 : ∀ c, c < κ2.n → (∃ b, b < h'.length ∧ κ2.ι c = κ1.ι b ∧ (b < h0.length → ρl[b]? = some c) ∧ (h0.length ≤ b → c = H.length + (b - h0.length))) ∨ (c < H.length ∧ c ∉ ρl ∧ κ2.ι c = κ.ι c) := fun c hc => by
      have hc' : c < H.length + (h'.length - h0.length) := hc
      by_cases hcl : c < H.length
      · by_cases hm : c ∈ ρl
        · obtain ⟨b, hb⟩ := List.mem_iff_getElem?.1 hm
          have hbl : b < h0.length := by have := (List.getElem?_eq_some_iff.1 hb).1; omega
          refine .inl ⟨b, by omega, ?_, fun _ => hb, fun h => by omega⟩
          show (if c < H.length then _ else _) = _
          rw [if_pos hcl, hιo b hbl, mapTo_lt hb]
        · exact .inr ⟨hcl, hm, if_pos hcl⟩
      · exact .inl ⟨h0.length + (c - H.length), by omega, if_neg hcl, fun h => by omega, fun _ => by omega⟩
    have hnewsz : ∀ b, b < h'.length → ¬ b < h0.length → w.heap.size ≤ κ1.ι b := fun b hb hn => h1.new b (by show h0.length ≤ b; omega) (by rw [hn1]; exact hb)
    have hκlt : ∀ c, c < H.length → κ.ι c < w.heap.size := fun c hc => hw.ι_lt (by rw [hnH]; exact hc)
    have hapart : ∀ c, c < H.length → c ∉ ρl → ∀ b, b < h'.length → κ1.ι b ≠ κ.ι c := fun c hc hm b hb he => by
      by_cases hbl : b < h0.length
      · rw [hιo b hbl] at he
        exact hold c hc hm b hbl he
      · have := hnewsz b hb hbl
        have := hκlt c hc
        omega
    refine ⟨?_, fun c q hq => ?_, fun c d hc hd he => ?_, h2.imm, fun g o v c q hv hq hal => ?_, fun τ hτ => ?_, fun τ hτ => ?_⟩
    · show H.length + _ = _
      rw [upd_len hosl, List.length_map, hρ]
    · rcases hcase c q hq with ⟨b, o, q1, rfl, q3, q4⟩ | ⟨q1, q2, q3⟩
      · obtain ⟨r1, r2, ws, e, r3, r4⟩ := h2.obj b o q1
        exact ⟨r1, r2.imp id fun r => q4.trans r, ws, e, by rw [q3]; exact r3, VO_map hmap r4⟩
      · obtain ⟨r1, r2, ws, e, r3, r4⟩ := hw.obj c q q3
        refine ⟨r1, r2.imp id fun r => (if_pos q1).trans r, ws, e, ?_, r4.mono hle⟩
        show w'.heap[if c < H.length then _ else _]? = _
        rw [if_pos q1, hsame _ (hκlt c q1) (hold c q1 q2) (fun τ g' o n c' sz hτ ht e => htipobj τ g' o n c' sz hτ ht c (by rw [hnH]; exact q1) e.symm)]
        exact r3
    · rcases hι2 c hc with ⟨b, b1, b2, b3, b4⟩ | ⟨b1, b2, b3⟩ <;> rcases hι2 d hd with ⟨e, e1, e2, e3, e4⟩ | ⟨e1, e2, e3⟩
      · have : b = e := h2.inj b e (by rw [hn1]; exact b1) (by rw [hn1]; exact e1) (by rw [← b2, ← e2]; exact he)
        subst this
        by_cases hbl : b < h0.length
        · have := (b3 hbl).symm.trans (e3 hbl); cases this; rfl
        · rw [b4 (by omega), e4 (by omega)]
      · rw [b2, e3] at he
        exact absurd he (hapart d e1 e2 b b1)
      · rw [b3, e2] at he
        exact absurd he.symm (hapart c b1 b2 e e1)
      · rw [b3, e3] at he
        exact hw.inj c d (by rw [hnH]; exact b1) (by rw [hnH]; exact e1) he
    · rcases hcase c q hq with ⟨b, o', q1, rfl, q3, q4⟩ | ⟨q1, q2, q3⟩
      · rw [q3]; exact h2.immo g o v b o' hv q1 hal
      · show (if c < H.length then _ else _) ≠ g
        rw [if_pos q1]
        rcases himms g o v hv with r | r | ⟨b, r1, r2⟩ | ⟨σ, o', n', c', sz', r1, r2⟩
        · exact hw.immo g o v c q r q3 hal
        · have := hκlt c q1; omega
        · rw [← r2]; exact (hold c q1 q2 b r1).symm
        · exact htipobj σ g o' n' c' sz' r1 r2 c (by rw [hnH]; exact q1)
    · rcases hUm hτ with ⟨t, q1, rfl⟩ | ⟨q1, q2⟩
      · obtain ⟨g, o, n, c, sz, r1, r2, r3, r4, r5⟩ := h2.tip t q1
        refine ⟨g, o, n, c, sz, hkt t _ r1, r2, r3, fun b hb => ?_, fun σ g' o' n' c' sz' hσ hne ht => ?_⟩
        · rcases hι2 b hb with ⟨e, e1, e2, _, _⟩ | ⟨e1, e2, e3⟩
          · rw [e2]; exact r4 e (by rw [hn1]; exact e1)
          · rw [e3]
            rcases htips t g o n c sz q1 r1 with s | ⟨s, o', n', c', sz', s1, s2⟩
            · have := hκlt b e1; omega
            · exact htipobj s g o' n' c' sz' s1 s2 b (by rw [hnH]; exact e1)
        · rcases hUm hσ with ⟨s, s1, rfl⟩ | ⟨s1, s2⟩
          · exact r5 s g' o' n' c' sz' s1 (fun e => hne (by rw [e])) (hk2 s _ s1 ht)
          · obtain ⟨g1, o1, n1, c1, sz1, y1, y2, y3, y4, y5⟩ := hw.tip σ s1
            have hσm := hUlt _ _ y1
            have ht' : (if σ < U.m then κ.tip σ else _) = some (g', o', n', c', sz') := ht
            rw [if_pos hσm] at ht'
            rcases htips t g o n c sz q1 r1 with z | ⟨z, o2, n2, c2, sz2, z1, z2⟩
            · have := hw.tip_lt s1 ht'; omega
            · intro e
              subst e
              have := hw.tip _ (htl z z1).2
              obtain ⟨g3, o3, n3, c3, sz3, x1, x2, x3, x4, x5⟩ := this
              rw [z2] at x1; cases x1
              exact x5 σ g' o' n' c' sz' s1 (fun e => s2 z z1 e.symm) ht' rfl
      · obtain ⟨g, o, n, c, sz, r1, ⟨cs, e, r2, r2'⟩, r3, r4, r5⟩ := hw.tip τ q1
        have hτm := hUlt _ _ r1
        have hg := hw.tip_lt q1 r1
        have hne0 : ∀ σ g' o' n' c' sz', u0 σ → κ.tip (mapTo θl U.m σ) = some (g', o', n', c', sz') → g' ≠ g := fun σ g' o' n' c' sz' hσ ht => r5 _ g' o' n' c' sz' (htl σ hσ).2 (q2 σ hσ) ht
        refine ⟨g, o, n, c, sz, (if_pos hτm).trans r1, ⟨cs, e, ?_, r2'⟩, fun j a1 a2 => ?_, fun b hb => ?_, fun σ g' o' n' c' sz' hσ hne ht => ?_⟩
        · rw [hsame g hg (fun b hb => r4 _ (hbound b hb)) hne0]; exact r2
        · cases hv : κ1.I g j with
          | none => rfl
          | some v =>
            exfalso
            rcases himms g j v hv with s | s | ⟨b, s1, s2⟩ | ⟨σ, o', n', c', sz', s1, s2⟩
            · rw [r3 j a1 a2] at s; cases s
            · omega
            · exact r4 _ (hbound b s1) s2
            · exact hne0 σ g o' n' c' sz' s1 s2 rfl
        · rcases hι2 b hb with ⟨e, e1, e2, _, _⟩ | ⟨e1, e2, e3⟩
          · rw [e2]
            by_cases hel : e < h0.length
            · rw [hιo e hel]; exact r4 _ (hbound e hel)
            · have := hnewsz e e1 hel; omega
          · rw [e3]; exact r4 b (by rw [hnH]; exact e1)
        · rcases hUm hσ with ⟨s, s1, rfl⟩ | ⟨s1, s2⟩
          · have hs := hk2 s _ s1 ht
            rcases htips s g' o' n' c' sz' s1 hs with z | ⟨z, o2, n2, c2, sz2, z1, z2⟩
            · omega
            · exact hne0 z g' o2 n2 c2 sz2 z1 z2
          · obtain ⟨_, _, _, _, _, y1, _⟩ := hw.tip σ s1
            have ht' : (if σ < U.m then κ.tip σ else _) = some (g', o', n', c', sz') := ht
            rw [if_pos (hUlt _ _ y1)] at ht'
            exact r5 σ g' o' n' c' sz' s1 hne ht'
    · have hτ' : U.m + (u'.m - θl.length) ≤ τ := hτ
      show (if τ < U.m then _ else _) = none
      rw [if_neg (by omega)]
      exact h2.fresh _ (by omega)
end Go.Am

/- A layer over the walk's rules. This text: contracts of functions that change a small memory; how they hold in a larger one. -/
set_option linter.unusedVariables false
set_option linter.unusedSimpArgs false
namespace Go.Am
variable {P : Program}

/-- Behind a call: objects at the end are forgotten, tips get new numbers. -/
theorem ACalls.norm {f : FuncId} {args : List X} {H : List AO} {U : Tips} {K0 Kp : X → List AO → Tips → Prop} (hc : ACalls P f args H U K0)
    (hK : ∀ x h u, K0 x h u → ∃ (θ : Nat → Nat) (x1 : X) (h1 g : List AO) (u1 : Tips), x = (x1.1.ren id θ, x1.2) ∧ h = h1.map (AO.ren id θ) ++ g ∧ H.length ≤ h1.length ∧ inB h1.length u1.m x1.1 = true ∧ (∀ o ∈ h1, inB h1.length u1.m o.t = true) ∧
      (∀ σ, σ < U.m → θ σ = σ) ∧ U.m ≤ u1.m ∧ (∀ σ, u1 σ → σ < u1.m ∧ u (θ σ)) ∧ (∀ σ σ', u1 σ → u1 σ' → θ σ = θ σ' → σ = σ') ∧ Kp x1 h1 u1) : ACalls P f args H U Kp := by
  intro κ w vs hw ha
  refine (hc κ w vs hw ha).mono ?_
  rintro e w' ⟨κ', v, x, h, u, rfl, h1, h2, h3, hk⟩
  obtain ⟨θ, x1, hh, g, u1, rfl, rfl, c1, c2, c3, c4, c5, c6, c7, hp⟩ := hK _ _ _ hk
  let κ2 : K := { κ' with n := hh.length, tip := fun σ => if σ < u1.m then κ'.tip (θ σ) else none }
  have hlen : κ'.n = hh.length + g.length := by have := h2.n; simpa using this
  have hun : κ'.Unmap κ2 id θ hh.length u1.m := ⟨rfl, rfl, fun i _ => ⟨rfl, rfl⟩, fun τ hτ => if_pos hτ⟩
  have hfr : ∀ τ x, κ.tip τ = some x → τ < U.m := fun τ x hx => by
    rcases Nat.lt_or_ge τ U.m with q | q
    · exact q
    · rw [hw.fresh τ q] at hx; cases hx
  have hold : ∀ τ, τ < U.m → κ2.tip τ = κ.tip τ := fun τ hτ => by
    show (if τ < u1.m then _ else _) = _
    rw [if_pos (Nat.lt_of_lt_of_le hτ c5), c4 τ hτ]; exact h1.old τ hτ
  have hκn := hw.n
  have htip : ∀ σ x, u1 σ → κ2.tip σ = some x → κ'.tip (θ σ) = some x := fun σ x hσ hx => by
    have hx' : (if σ < u1.m then κ'.tip (θ σ) else none) = some x := hx
    rw [if_pos (c6 σ hσ).1] at hx'; exact hx'
  refine ⟨κ2, v, x1, hh, u1, rfl, ⟨⟨by show κ.n ≤ hh.length; omega, h1.le.ι, h1.le.ty, h1.le.I, fun τ x hx => (hold τ (hfr τ x hx)).trans hx⟩, c5, hold, h1.os, h1.tape, h1.output, h1.size, h1.frame, fun b q1 q2 => h1.new b q1 ?_, fun τ g o n c sz a b => h1.tips (θ τ) g o n c sz (c6 τ a).2 (htip τ _ a b), h1.imms⟩, ?_, ⟨VT_unmap hun _ _ _ c2 h3.1, by have := h3.2; rw [ren_agg] at this; exact this⟩, hp⟩
  · have : b < hh.length := q2
    omega
  · refine ⟨rfl, fun b o hb => ?_, fun b c hb hc e => h2.inj b c ?_ ?_ e, h2.imm, fun g' o v b q hv hb hq => ?_, fun τ hu => ?_, fun τ hτ => if_neg (by omega)⟩
    · have hbl := (List.getElem?_eq_some_iff.1 hb).1
      obtain ⟨q1, q2, vs, e, q3, q4⟩ := h2.obj b (o.ren id θ) (by rw [List.getElem?_append_left (by simpa using hbl), List.getElem?_map, hb]; rfl)
      exact ⟨q1, q2, vs, e, q3, VO_unmap hun (c3 o (List.mem_of_getElem? hb)) q4⟩
    · have : b < hh.length := hb
      omega
    · have : c < hh.length := hc
      omega
    · have hbl := (List.getElem?_eq_some_iff.1 hb).1
      exact h2.immo g' o v b (q.ren id θ) hv (by rw [List.getElem?_append_left (by simpa using hbl), List.getElem?_map, hb]; rfl) hq
    · obtain ⟨g', o, n, c, sz, q1, q2, q3, q4, q5⟩ := h2.tip (θ τ) (c6 τ hu).2
      refine ⟨g', o, n, c, sz, (if_pos (c6 τ hu).1).trans q1, q2, q3, fun b hb => q4 b ?_, fun σ g2 o2 n2 c2 sz2 hσ hne ht => q5 (θ σ) g2 o2 n2 c2 sz2 (c6 σ hσ).2 (fun e => hne (c7 _ _ hσ hu e)) (htip σ _ hσ ht)⟩
      have : b < hh.length := hb
      omega

/-- What a function answers and leaves, exactly. -/
def AnsM (P : Program) (f : FuncId) (args : List X) (H : List AO) (U : Tips) (r : X) (H' : List AO) (U' : Tips) : Prop := ACalls P f args H U fun x h u => x = r ∧ h = H' ∧ u = U'

/-- Of one object and no tips: in any memory. -/
theorem AnsM.at {f : FuncId} {pt : TypeId} {xs : List X} {o o' : AO} {r : X} (hc : AnsM P f ((.ptr 0 [], pt) :: xs) [o] ⟨[], 0⟩ r [o'] ⟨[], 0⟩) (ho : np o.t = true) (ho' : np o'.t = true) (hx : npL (xs.map (·.1)) = true) (hr : np r.1 = true)
    {H : List AO} {U : Tips} {b : Nat} (hb : H[b]? = some o) : AnsM P f ((.ptr b [], pt) :: xs) H U r (H.set b o') U := by
  have hx' : ∀ x ∈ xs, np x.1 = true := fun x hx2 => npL_iff.1 hx _ (List.mem_map_of_mem hx2)
  have := ACalls.sub (H := H) (U := U) (Kp := fun x h u => x = r ∧ h = H.set b o' ∧ u = U) [b] [] hc rfl (by simp) (fun r hr => by simp at hr; subst hr; exact (List.getElem?_eq_some_iff.1 hb).1)
    (fun c q s hc hs => by
      cases c with
      | zero => simp at hc hs; subst hc; subst hs; rw [hb]; simp [AO.ren, ren_np _ ho]
      | succ c => simp at hs)
    (fun q hq => by simp at hq; subst hq; exact in_np _ ho) (fun x hx2 => by
      rcases List.mem_cons.1 hx2 with rfl | hx2
      · rfl
      · exact in_np _ (hx' x hx2)) (fun t ht => by simp at ht) rfl (fun τ hτ => by cases hτ) (fun τ σ hτ => by cases hτ)
    (fun x h u ⟨h1, h2, h3⟩ => by
      subst h1; subst h2; subst h3
      refine ⟨by rw [ren_np _ hr], ?_, rfl⟩
      simp [upd, AO.ren, ren_np _ ho'])
  have he : ((T.ptr 0 [], pt) :: xs).map (fun x => (x.1.ren (mapTo [b] H.length) (mapTo [] U.m), x.2)) = (.ptr b [], pt) :: xs := by
    rw [List.map_cons]
    congr 1
    conv => rhs; rw [← List.map_id xs]
    exact List.map_congr_left fun x hx2 => by rw [ren_np _ (hx' x hx2)]; rfl
  rw [he] at this
  exact this

/-- A list that goes on in place, in an object of its own. -/
abbrev WO (tw : TypeId) (bs : List T) (g : Tag) : AO := ⟨.one tw, .st [.lst bs g]⟩
theorem ren_wo {ρ θ : Nat → Nat} {tw : TypeId} {bs : List T} {g : Tag} (hb : npL bs = true) : (WO tw bs g).ren ρ θ = WO tw bs (g.ren θ) := by
  simp [WO, AO.ren, T.ren, renL, renL_np _ hb]
theorem args_np {ρ θ : Nat → Nat} {xs : List X} (hx : npL (xs.map (·.1)) = true) : xs.map (fun x => (x.1.ren ρ θ, x.2)) = xs := by
  have hx' : ∀ x ∈ xs, np x.1 = true := fun x hx2 => npL_iff.1 hx _ (List.mem_map_of_mem hx2)
  conv => rhs; rw [← List.map_id xs]
  exact List.map_congr_left fun x hx2 => by rw [ren_np _ (hx' x hx2)]; rfl
theorem AnsM.atW {f : FuncId} {pt tw : TypeId} {xs : List X} {bs bs' : List T} {r : X} (hc : AnsM P f ((.ptr 0 [], pt) :: xs) [WO tw bs (.tip 0)] ⟨[0], 1⟩ r [WO tw bs' (.tip 1)] ⟨[1], 2⟩) (ho : npL bs = true) (ho' : npL bs' = true) (hx : npL (xs.map (·.1)) = true) (hr : np r.1 = true)
    {H : List AO} {b t m : Nat} (hb : H[b]? = some (WO tw bs (.tip t))) (ht : t < m) : AnsM P f ((.ptr b [], pt) :: xs) H ⟨[t], m⟩ r (H.set b (WO tw bs' (.tip m))) ⟨[m], m + 1⟩ := by
  have hx' : ∀ x ∈ xs, np x.1 = true := fun x hx2 => npL_iff.1 hx _ (List.mem_map_of_mem hx2)
  have := ACalls.sub (H := H) (U := ⟨[t], m⟩) (Kp := fun x h u => x = r ∧ h = H.set b (WO tw bs' (.tip m)) ∧ u = ⟨[m], m + 1⟩) [b] [t] hc rfl (by simp) (fun r hr => by simp at hr; subst hr; exact (List.getElem?_eq_some_iff.1 hb).1)
    (fun c q s hc hs => by
      cases c with
      | zero => simp at hc hs; subst hc; subst hs; rw [hb]; rw [ren_wo ho]; rfl
      | succ c => simp at hs)
    (fun q hq => by simp at hq; subst hq; simp [inB, inL, inL_np _ ho, Tag.below]) (fun x hx2 => by
      rcases List.mem_cons.1 hx2 with rfl | hx2
      · rfl
      · exact in_np _ (hx' x hx2)) (fun t' ht' => by simp at ht'; subst ht'; exact ht) rfl (fun τ hτ => by simp at hτ; subst hτ; exact ⟨t, rfl, by simp⟩) (fun τ σ hτ hσ _ => by simp at hτ hσ; omega)
    (fun x h u ⟨h1, h2, h3⟩ => by
      subst h1; subst h2; subst h3
      refine ⟨by rw [ren_np _ hr], ?_, ?_⟩
      · simp only [List.map_cons, List.map_nil, ren_wo ho', upd, List.append_nil]
        rfl
      · simp [subT, mapTo, remL, remN])
  have he : ((T.ptr 0 [], pt) :: xs).map (fun x => (x.1.ren (mapTo [b] H.length) (mapTo [t] m), x.2)) = (.ptr b [], pt) :: xs := by
    rw [List.map_cons, args_np hx]; rfl
  exact he ▸ this
theorem AnsM.atN {f : FuncId} {pt tw : TypeId} {xs : List X} {bs' : List T} {r : X} (hc : AnsM P f ((.ptr 0 [], pt) :: xs) [WO tw [] .nil] ⟨[], 0⟩ r [WO tw bs' (.tip 0)] ⟨[0], 1⟩) (ho' : npL bs' = true) (hx : npL (xs.map (·.1)) = true) (hr : np r.1 = true)
    {H : List AO} {b m : Nat} (hb : H[b]? = some (WO tw [] .nil)) : AnsM P f ((.ptr b [], pt) :: xs) H ⟨[], m⟩ r (H.set b (WO tw bs' (.tip m))) ⟨[m], m + 1⟩ := by
  have hx' : ∀ x ∈ xs, np x.1 = true := fun x hx2 => npL_iff.1 hx _ (List.mem_map_of_mem hx2)
  have := ACalls.sub (H := H) (U := ⟨[], m⟩) (Kp := fun x h u => x = r ∧ h = H.set b (WO tw bs' (.tip m)) ∧ u = ⟨[m], m + 1⟩) [b] [] hc rfl (by simp) (fun r hr => by simp at hr; subst hr; exact (List.getElem?_eq_some_iff.1 hb).1)
    (fun c q s hc hs => by
      cases c with
      | zero => simp at hc hs; subst hc; subst hs; rw [hb]; rfl
      | succ c => simp at hs)
    (fun q hq => by simp at hq; subst hq; rfl) (fun x hx2 => by
      rcases List.mem_cons.1 hx2 with rfl | hx2
      · rfl
      · exact in_np _ (hx' x hx2)) (fun t' ht' => by simp at ht') rfl (fun τ hτ => by cases hτ) (fun τ σ hτ => by cases hτ)
    (fun x h u ⟨h1, h2, h3⟩ => by
      subst h1; subst h2; subst h3
      refine ⟨by rw [ren_np _ hr], ?_, ?_⟩
      · simp only [List.map_cons, List.map_nil, ren_wo ho', upd, List.append_nil]
        rfl
      · simp [subT, mapTo, remL, remN])
  have he : ((T.ptr 0 [], pt) :: xs).map (fun x => (x.1.ren (mapTo [b] H.length) (mapTo [] m), x.2)) = (.ptr b [], pt) :: xs := by
    rw [List.map_cons, args_np hx]; rfl
  exact he ▸ this

/-- At the end of a function's walk: what it leaves. -/
theorem AnsM.body1 (hP : WfP P) {f : FuncId} {fn : Func} {c : Code} {rv : ResultVar} {args : List X} {H : List AO} {U : Tips} {r : X} {H' : List AO} {U' : Tips} (hf : P.funcs[f]? = some fn) (hb : fn.body = some c) (hr : fn.results = #[rv]) (hn : Nat.ble args.length fn.ntmps = true)
    (hw : AW P c ⟨fn.ntmps, argT args 0, H, U⟩ fun e σ' => (e = .normal ∨ e = .ret) ∧ Res1 P σ' rv r ∧ (∀ k t, rv = .cell k t → r.1.aggB = aggT P r.2 ∧ (P.underlying r.2).isSome = true) ∧ σ'.h = H' ∧ σ'.u = U') : AnsM P f args H U r H' U' :=
  ACalls.body1 hP hf hb hr (Nat.le_of_ble_eq_true hn) (hw.mono fun e σ ⟨h1, h2, h3, h4⟩ => ⟨h1, r, h2, h3, rfl, h4⟩)
theorem AnsM.bodyN (hP : WfP P) {f : FuncId} {fn : Func} {c : Code} {rvs : List ResultVar} {args rs : List X} {H : List AO} {U : Tips} {H' : List AO} {U' : Tips} (tt : TypeId) (hf : P.funcs[f]? = some fn) (hb : fn.body = some c) (hr : fn.results = rvs.toArray) (hr1 : rvs.length ≠ 1) (hn : Nat.ble args.length fn.ntmps = true)
    (htt : P.underlying tt = some (.tuple (rs.map (·.2)).toArray))
    (hw : AW P c ⟨fn.ntmps, argT args 0, H, U⟩ fun e σ' => (e = .normal ∨ e = .ret) ∧ ResL P σ' rvs rs ∧ resOk P rvs rs ∧ σ'.h = H' ∧ σ'.u = U') : AnsM P f args H U (.tup (rs.map (·.1)), tt) H' U' :=
  ACalls.bodyN hP tt hf hb hr hr1 (Nat.le_of_ble_eq_true hn) (hw.mono fun e σ ⟨h1, h2, h3, h4⟩ => ⟨h1, rs, h2, h3, htt, rfl, h4⟩)
/-- Of one object, no tips: the objects that the function made are forgotten. -/
theorem AnsM.rd {f : FuncId} {args : List X} {o o' : AO} {r : X} {g : List AO} {u : Tips} (hc : AnsM P f args [o] ⟨[], 0⟩ r (o' :: g) u) (ho' : np o'.t = true) (hr : np r.1 = true) : AnsM P f args [o] ⟨[], 0⟩ r [o'] ⟨[], 0⟩ :=
  ACalls.norm hc fun x h u ⟨h1, h2, h3⟩ => by
    subst h1; subst h2
    exact ⟨id, x, [o'], g, ⟨[], 0⟩, by rw [ren_np _ hr], by simp [AO.ren, ren_np _ ho'], Nat.le_refl _, in_np _ hr, fun q hq => by simp at hq; subst hq; exact in_np _ ho', fun _ h => absurd h (Nat.not_lt_zero _), Nat.le_refl _, fun σ h => (by cases h), fun σ σ' h => (by cases h), rfl, rfl, rfl⟩
theorem AnsM.wr {f : FuncId} {args : List X} {H : List AO} {U : Tips} {tw : TypeId} {bs' : List T} {r : X} {g : List AO} {t m : Nat} (hc : AnsM P f args H U r (WO tw bs' (.tip t) :: g) ⟨[t], m⟩) (ho' : npL bs' = true) (hr : np r.1 = true) (hH : H.length = 1) : AnsM P f args H U r [WO tw bs' (.tip U.m)] ⟨[U.m], U.m + 1⟩ :=
  ACalls.norm hc fun x h u ⟨h1, h2, h3⟩ => by
    subst h1; subst h2; subst h3
    refine ⟨fun σ => if σ < U.m then σ else t, x, [WO tw bs' (.tip U.m)], g, ⟨[U.m], U.m + 1⟩, by rw [ren_np _ hr], ?_, by simp [hH], in_np _ hr, fun q hq => ?_, fun σ h => if_pos h, Nat.le_succ _, fun σ h => ?_, fun σ σ' h h' _ => ?_, rfl, rfl, rfl⟩
    · simp only [List.map_cons, List.map_nil, ren_wo ho', List.cons_append, List.nil_append]
      simp [Tag.ren]
    · simp at hq; subst hq; simp [inB, inL, inL_np _ ho', Tag.below]
    · simp at h; subst h; simp
    · simp at h h'; omega
end Go.Am
