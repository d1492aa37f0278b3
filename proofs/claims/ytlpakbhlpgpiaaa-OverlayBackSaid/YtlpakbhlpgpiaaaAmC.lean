/- A layer over the walk's rules. This text: what a call leaves behind is forgotten. -/
import Derived.Test.YtlpakbhlpgpiaaaAmB
set_option linter.unusedVariables false
set_option linter.unusedSimpArgs false
namespace Go.Am
variable {P : Program}

def Tag.nt : Tag → Bool
  | .tip _ => false
  | _ => true
mutual
/-- No pointer to an object in it, no tip. -/
def np : T → Bool
  | .s _ => true
  | .st fs => npL fs
  | .arr xs => npL xs
  | .lst xs tag => npL xs && tag.nt
  | .ptr _ _ => false
  | .vw _ _ _ _ => false
  | .ep _ x => np x
  | .tup xs => npL xs
  | .fn _ a b => npL a && npL b
  | .ifc _ x => np x
  | .any => true
def npL : List T → Bool
  | [] => true
  | x :: xs => np x && npL xs
end
theorem npL_iff : ∀ {xs : List T}, npL xs = true ↔ ∀ x ∈ xs, np x = true
  | [] => by simp [npL]
  | x :: xs => by simp [npL, npL_iff]

structure K.Alike (κ κ' : K) : Prop where
  I : κ'.I = κ.I
  tip : κ'.tip = κ.tip
structure K.AlikeI (κ κ' : K) : Prop where
  I : κ'.I = κ.I
theorem K.Alike.i {κ κ' : K} (h : κ.Alike κ') : κ.AlikeI κ' := ⟨h.I⟩
theorem HoldsAt.alikeI {κ κ' : K} (h : κ.AlikeI κ') {g o : Nat} {us : List Value} (hh : HoldsAt κ g o us) : HoldsAt κ' g o us := fun j v hv => by rw [h.I]; exact hh j v hv
theorem Holds.alikeI {κ κ' : K} (h : κ.AlikeI κ') {A : Option Addr} {us : List Value} (hh : Holds κ A us) : Holds κ' A us := by
  rcases hh with hh | ⟨g, o, hA, hh⟩
  · exact .inl hh
  · exact .inr ⟨g, o, hA, hh.alikeI h⟩
theorem HoldsAt.alike {κ κ' : K} (h : κ.Alike κ') {g o : Nat} {us : List Value} (hh : HoldsAt κ g o us) : HoldsAt κ' g o us := hh.alikeI h.i
theorem Holds.alike {κ κ' : K} (h : κ.Alike κ') {A : Option Addr} {us : List Value} (hh : Holds κ A us) : Holds κ' A us := hh.alikeI h.i
theorem TagOk.alike {κ κ' : K} (h : κ.Alike κ') {sz : Nat} {tag : Tag} {A : Option Addr} {n c : Nat} (hh : TagOk κ sz tag A n c) : TagOk κ' sz tag A n c := by
  cases tag with
  | no => exact hh
  | full => exact hh
  | nil => exact hh
  | tip τ => obtain ⟨h1, g, o, h2, h3⟩ := hh; exact ⟨h1, g, o, h2, by rw [h.tip]; exact h3⟩
theorem TagOk.nt {κ κ' : K} {sz : Nat} {tag : Tag} {A : Option Addr} {n c : Nat} (ht : tag.nt = true) (hh : TagOk κ sz tag A n c) : TagOk κ' sz tag A n c := by
  cases tag with
  | no => exact hh
  | full => exact hh
  | nil => exact hh
  | tip τ => cases ht

mutual
theorem VT_np {κ κ' : K} (h : κ.AlikeI κ') : ∀ (t : T) (ty : TypeId) (vs : List Value), np t = true → VT P κ t ty vs → VT P κ' t ty vs
  | .s v, ty, vs => fun _ hh => by simp only [VT] at hh ⊢; exact hh
  | .st fs, ty, vs => fun hn hh => by
    simp only [VT, np] at hn hh ⊢
    obtain ⟨f, h1, h2, h2', h3⟩ := hh
    exact ⟨f, h1, h2, h2', VF_np h fs _ _ hn h3⟩
  | .arr xs, ty, vs => fun hn hh => by
    simp only [VT, np] at hn hh ⊢
    obtain ⟨n, e, h1, h2, h3, h3', h4⟩ := hh
    exact ⟨n, e, h1, h2, h3, h3', VA_np h xs _ _ hn h4⟩
  | .lst xs tag, ty, vs => fun hn hh => by
    simp only [VT, np, Bool.and_eq_true] at hn hh ⊢
    obtain ⟨e, A, c, us, h1, h2, h3, h4, h5⟩ := hh
    exact ⟨e, A, c, us, h1, h2, h3.nt hn.2, VA_np h xs _ _ hn.1 h4, h5.alikeI h⟩
  | .ptr b path, ty, vs => fun hn _ => by simp [np] at hn
  | .vw b o l c, ty, vs => fun hn _ => by simp [np] at hn
  | .ep ty' x, ty, vs => fun hn hh => by
    simp only [VT, np] at hn hh ⊢
    obtain ⟨g, o, us, h1, h2, h3⟩ := hh
    exact ⟨g, o, us, VT_np h x _ _ hn h1, h2.alikeI h, h3⟩
  | .tup xs, ty, vs => fun hn hh => by
    simp only [VT, np] at hn hh ⊢
    obtain ⟨es, us, h1, h2, h3⟩ := hh
    exact ⟨es, us, h1, h2, VL_np h xs _ _ hn h3⟩
  | .fn f first captured, ty, vs => fun hn hh => by
    simp only [VT, np, Bool.and_eq_true] at hn hh ⊢
    obtain ⟨us, ws, h1, h2, h3⟩ := hh
    exact ⟨us, ws, h1, VC_np h first _ hn.1 h2, VC_np h captured _ hn.2 h3⟩
  | .ifc t x, ty, vs => fun hn hh => by
    simp only [VT, np] at hn hh ⊢
    obtain ⟨v, ⟨h1, h2⟩, h3⟩ := hh
    exact ⟨v, ⟨VT_np h x _ _ hn h1, h2⟩, h3⟩
  | .any, ty, vs => fun _ hh => by simp only [VT] at hh ⊢; exact hh
theorem VF_np {κ κ' : K} (h : κ.AlikeI κ') : ∀ (ts : List T) (fs : List Field) (vs : List Value), npL ts = true → VF P κ ts fs vs → VF P κ' ts fs vs
  | [], [], vs => fun _ _ => by simp only [VF]
  | t :: ts, f :: fs, vs => fun hn hh => by
    simp only [VF, npL, Bool.and_eq_true] at hn hh ⊢
    exact ⟨VT_np h t _ _ hn.1 hh.1, VF_np h ts _ _ hn.2 hh.2⟩
  | [], _ :: _, _ => fun _ hh => by simp only [VF] at hh
  | _ :: _, [], _ => fun _ hh => by simp only [VF] at hh
theorem VA_np {κ κ' : K} (h : κ.AlikeI κ') : ∀ (ts : List T) (e : TypeId) (vs : List Value), npL ts = true → VA P κ ts e vs → VA P κ' ts e vs
  | [], _, vs => fun _ hh => by simp only [VA] at hh ⊢; exact hh
  | t :: ts, e, vs => fun hn hh => by
    simp only [VA, npL, Bool.and_eq_true] at hn hh ⊢
    exact ⟨hh.1, VT_np h t _ _ hn.1 hh.2.1, VA_np h ts _ _ hn.2 hh.2.2⟩
theorem VL_np {κ κ' : K} (h : κ.AlikeI κ') : ∀ (ts : List T) (es : List TypeId) (vs : List Value), npL ts = true → VL P κ ts es vs → VL P κ' ts es vs
  | [], [], vs => fun _ hh => by simp only [VL] at hh ⊢; exact hh
  | t :: ts, e :: es, v :: vs => fun hn hh => by
    simp only [VL, npL, Bool.and_eq_true] at hn hh ⊢
    exact ⟨⟨VT_np h t _ _ hn.1 hh.1.1, hh.1.2⟩, VL_np h ts _ _ hn.2 hh.2⟩
  | [], _ :: _, _ => fun _ hh => by simp only [VL] at hh
  | _ :: _, [], _ => fun _ hh => by simp only [VL] at hh
  | _ :: _, _ :: _, [] => fun _ hh => by simp only [VL] at hh
theorem VC_np {κ κ' : K} (h : κ.AlikeI κ') : ∀ (ts : List T) (vs : List Value), npL ts = true → VC P κ ts vs → VC P κ' ts vs
  | [], vs => fun _ hh => by simp only [VC] at hh ⊢; exact hh
  | t :: ts, v :: vs => fun hn hh => by
    simp only [VC, npL, Bool.and_eq_true] at hn hh ⊢
    exact ⟨⟨VT_np h t _ _ hn.1 hh.1.1, hh.1.2⟩, VC_np h ts _ hn.2 hh.2⟩
  | _ :: _, [] => fun _ hh => by simp only [VC] at hh
end

theorem VO_np {κ κ' : K} (h : κ.AlikeI κ') {t : T} {ty : OTy} {vs : List Value} (hn : np t = true) (hh : VO P κ t ty vs) : VO P κ' t ty vs := by
  cases ty with
  | one ty => exact ⟨VT_np h _ _ _ hn hh.1, hh.2⟩
  | row e n => obtain ⟨xs, rfl, h2, h3, h4, h5⟩ := hh; exact ⟨xs, rfl, h2, h3, h4, VA_np h _ _ _ hn h5⟩
  | dead => trivial

/-- Fewer tips are live. -/
structure Tips.Le (u' u : Tips) : Prop where
  live : ∀ τ, u' τ → u τ
  m : u.m ≤ u'.m
theorem Tips.Le.refl (u : Tips) : u.Le u := ⟨fun _ h => h, Nat.le_refl _⟩
theorem WR.less {κ : K} {w : World} {h : List AO} {u u' : Tips} (H : WR P κ w h u) (hu : u'.Le u) : WR P κ w h u' := by
  refine ⟨H.n, H.obj, H.inj, H.imm, H.immo, fun τ hτ => ?_, fun τ hτ => H.fresh τ (Nat.le_trans hu.m hτ)⟩
  obtain ⟨g, o, n, c, sz, q1, q2, q3, q4, q5⟩ := H.tip τ (hu.live τ hτ)
  exact ⟨g, o, n, c, sz, q1, q2, q3, q4, fun σ g' o' n' c' sz' hσ => q5 σ g' o' n' c' sz' (hu.live σ hσ)⟩
theorem Ext.less {κ κ' : K} {u u' u'' : Tips} {w w' : World} (h : Ext κ u w κ' u' w') (hu : u''.Le u') : Ext κ u w κ' u'' w' :=
  ⟨h.le, h.os, h.tape, h.output, h.size, h.frame, h.new, fun τ g o n c sz a => h.tips τ g o n c sz (hu.live τ a), h.imms⟩

/-- The last objects are forgotten. -/
theorem WR.forget {κ : K} {w : World} {h g : List AO} {u : Tips} (H : WR P κ w (h ++ g) u) (hn : ∀ o ∈ h, np o.t = true) : WR P { κ with n := h.length } w h u := by
  have hlen : κ.n = h.length + g.length := by simpa using H.n
  have hal : κ.AlikeI { κ with n := h.length } := ⟨rfl⟩
  refine ⟨rfl, fun b o hb => ?_, fun b c hb hc e => H.inj b c ?_ ?_ e, H.imm, fun g' o v b q hv hb hq => H.immo g' o v b q hv ?_ hq, fun τ hu => ?_, H.fresh⟩
  · have hbl := (List.getElem?_eq_some_iff.1 hb).1
    obtain ⟨q1, q2, vs, e, q3, q4⟩ := H.obj b o (by rw [List.getElem?_append_left hbl]; exact hb)
    exact ⟨q1, q2, vs, e, q3, VO_np hal (hn o (List.mem_of_getElem? hb)) q4⟩
  · have : b < h.length := hb
    omega
  · have : c < h.length := hc
    omega
  · rw [List.getElem?_append_left (List.getElem?_eq_some_iff.1 hb).1]; exact hb
  · obtain ⟨g', o, n, c, sz, q1, q2, q3, q4, q5⟩ := H.tip τ hu
    refine ⟨g', o, n, c, sz, q1, q2, q3, fun b hb => q4 b ?_, q5⟩
    have : b < h.length := hb
    omega

/-- A call whose new objects nobody holds. -/
theorem ACalls.forget {f : FuncId} {args : List X} {h : List AO} {u : Tips} {Kp : X → List AO → (Tips) → Prop}
    (hc : ACalls P f args h u fun x h' u' => np x.1 = true ∧ ∃ h2 g u2, h' = h2 ++ g ∧ h2.length = h.length ∧ (∀ o ∈ h2, np o.t = true) ∧ u2.Le u' ∧ Kp x h2 u2) : ACalls P f args h u Kp := by
  intro κ w vs hw ha
  refine (hc κ w vs hw ha).mono ?_
  rintro e w' ⟨κ', v, x, h', u', rfl, h1, h2, h3, hnp, h4, g, u2, rfl, hl, hn4, hu, hk⟩
  have hκn := hw.n
  refine ⟨{ κ' with n := h4.length }, v, x, h4, u2, rfl, ?_, (h2.forget hn4).less hu, ⟨VT_np (κ := κ') (κ' := { κ' with n := h4.length }) ⟨rfl⟩ _ _ _ hnp h3.1, h3.2⟩, hk⟩
  refine ⟨⟨by show κ.n ≤ h4.length; omega, h1.le.ι, h1.le.ty, h1.le.I, h1.le.tip⟩, h1.os, h1.tape, h1.output, h1.size, h1.frame, fun b q1 q2 => ?_, fun τ g o n c sz a => h1.tips τ g o n c sz (hu.live τ a), h1.imms⟩
  have : b < h4.length := q2
  omega
theorem VArgs.np {κ κ' : K} (h : κ.AlikeI κ') : ∀ {xs : List X} {vs : List Value}, (∀ x ∈ xs, Am.np x.1 = true) → VArgs P κ xs vs → VArgs P κ' xs vs
  | _, _, _, .nil => .nil
  | _, _, hn, .cons h1 k => .cons ⟨VT_np h _ _ _ (hn _ (by simp)) h1.1, h1.2⟩ (k.np h fun x hx => hn x (by simp [hx]))
/-- What was shown in an empty memory holds in any. -/
theorem ACalls.frame {f : FuncId} {args : List X} {h : List AO} {u : Tips} {Kp : X → List AO → Tips → Prop} (hnp : ∀ x ∈ args, Am.np x.1 = true)
    (hc : ACalls P f args [] ⟨[], 0⟩ fun x _ _ => Am.np x.1 = true ∧ Kp x h u) : ACalls P f args h u Kp := by
  intro κ w vs hw ha
  have h0 : WR P { κ with n := 0, tip := fun _ => none } w [] ⟨[], 0⟩ :=
    ⟨rfl, fun b o hb => by simp at hb, fun b c hb => absurd hb (Nat.not_lt_zero _), hw.imm, fun g o v b q _ hb => by simp at hb, fun τ hu => (by cases hu), fun _ _ => rfl⟩
  refine (hc { κ with n := 0, tip := fun _ => none } w vs h0 (VArgs.np (κ := κ) (κ' := { κ with n := 0, tip := fun _ => none }) ⟨rfl⟩ hnp ha)).mono ?_
  rintro e w' ⟨κ', v, x, h', u', rfl, h1, h2, h3, hx, hk⟩
  have hle : κ.Le { κ' with n := κ.n, ι := κ.ι, ty := κ.ty, tip := κ.tip } := ⟨Nat.le_refl _, fun _ _ => rfl, fun _ _ => rfl, h1.le.I, fun _ _ h => h⟩
  have hsame : ∀ g, g < w.heap.size → w'.heap[g]? = w.heap[g]? := fun g hg => h1.frame g hg (fun c hc => absurd hc (Nat.not_lt_zero _)) (fun τ g' o n c sz hτ => (by cases hτ))
  have himm : ∀ g o v, κ'.I g o = some v → κ.I g o = some v ∨ w.heap.size ≤ g := fun g o v hv => by
    rcases h1.imms g o v hv with q | q | ⟨c, hc, _⟩ | ⟨σ, _, _, _, _, hσ, _⟩
    · exact .inl q
    · exact .inr q
    · exact absurd hc (Nat.not_lt_zero _)
    · cases hσ
  refine ⟨{ κ' with n := κ.n, ι := κ.ι, ty := κ.ty, tip := κ.tip }, v, x, h, u, rfl, ?_, ?_, ⟨VT_np (κ := κ') (κ' := { κ' with n := κ.n, ι := κ.ι, ty := κ.ty, tip := κ.tip }) ⟨rfl⟩ _ _ _ hx h3.1, h3.2⟩, hk⟩
  · refine ⟨hle, h1.os, h1.tape, h1.output, h1.size, fun g hg _ _ => hsame g hg, fun b q1 q2 => ?_, fun τ g o n c sz a ht => .inr ⟨τ, o, n, c, sz, a, ht⟩, fun g o v hv => (himm g o v hv).imp id .inl⟩
    have : b < κ.n := q2
    omega
  · refine ⟨hw.n, fun b o hb => ?_, hw.inj, h2.imm, fun g o v b q hv hb hq => ?_, fun τ hτ => ?_, hw.fresh⟩
    · have hbn : b < κ.n := by have := (List.getElem?_eq_some_iff.1 hb).1; have := hw.n; omega
      obtain ⟨q1, q2, vs, e, q3, q4⟩ := hw.obj b o hb
      exact ⟨q1, q2, vs, e, by show w'.heap[κ.ι b]? = _; rw [hsame _ (hw.ι_lt hbn)]; exact q3, q4.mono hle⟩
    · have hbn : b < κ.n := by have := (List.getElem?_eq_some_iff.1 hb).1; have := hw.n; omega
      rcases himm g o v hv with q' | q'
      · exact hw.immo g o v b q q' hb hq
      · have := hw.ι_lt hbn
        show κ.ι b ≠ g
        omega
    · obtain ⟨g, o, n, c, sz, q1, ⟨cs, e, q2, q3⟩, q4, q5, q6⟩ := hw.tip τ hτ
      have hg := hw.tip_lt hτ q1
      refine ⟨g, o, n, c, sz, q1, ⟨cs, e, by rw [hsame g hg]; exact q2, q3⟩, fun j a1 a2 => ?_, q5, q6⟩
      cases hv : κ'.I g j with
      | none => rfl
      | some v =>
        rcases himm g j v hv with q | q
        · rw [q4 j a1 a2] at q; cases q
        · omega
end Go.Am
