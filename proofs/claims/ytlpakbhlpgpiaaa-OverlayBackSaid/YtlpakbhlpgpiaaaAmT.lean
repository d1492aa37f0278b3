/- A layer over the walk's rules. This text: objects that a round made are forgotten at its end. -/
import Derived.Test.YtlpakbhlpgpiaaaAmS
set_option linter.unusedVariables false
set_option linter.unusedSimpArgs false
namespace Go.Am
variable {P : Program}

mutual
/-- No pointer to an object from k on in it. -/
def pb (k : Nat) : T → Bool
  | .s _ => true
  | .st fs => pbL k fs
  | .arr xs => pbL k xs
  | .lst xs _ => pbL k xs
  | .ptr b _ => Nat.blt b k
  | .vw b _ _ _ => Nat.blt b k
  | .ep _ x => pb k x
  | .tup xs => pbL k xs
  | .fn _ a b => pbL k a && pbL k b
  | .ifc _ x => pb k x
  | .any => true
def pbL (k : Nat) : List T → Bool
  | [] => true
  | x :: xs => pb k x && pbL k xs
end
theorem pbL_iff {k : Nat} : ∀ {xs : List T}, pbL k xs = true ↔ ∀ x ∈ xs, pb k x = true
  | [] => by simp [pbL]
  | x :: xs => by simp [pbL, pbL_iff]

def K.AlikeB (κ : K) (k : Nat) (κ' : K) : Prop := κ.Alike κ' ∧ (∀ b, b < k → κ'.ι b = κ.ι b) ∧ (∀ b, b < k → κ'.ty b = κ.ty b) ∧ k ≤ κ'.n
mutual
theorem VT_pb {κ κ' : K} {k : Nat} (h : κ.AlikeB k κ') : ∀ (t : T) (ty : TypeId) (vs : List Value), pb k t = true → VT P κ t ty vs → VT P κ' t ty vs
  | .s v, ty, vs => fun _ hh => by simp only [VT] at hh ⊢; exact hh
  | .st fs, ty, vs => fun hn hh => by
    simp only [VT, pb] at hn hh ⊢
    obtain ⟨f, h1, h2, h2', h3⟩ := hh
    exact ⟨f, h1, h2, h2', VF_pb h fs _ _ hn h3⟩
  | .arr xs, ty, vs => fun hn hh => by
    simp only [VT, pb] at hn hh ⊢
    obtain ⟨n, e, h1, h2, h3, h3', h4⟩ := hh
    exact ⟨n, e, h1, h2, h3, h3', VA_pb h xs _ _ hn h4⟩
  | .lst xs tag, ty, vs => fun hn hh => by
    simp only [VT, pb] at hn hh ⊢
    obtain ⟨e, A, c, us, h1, h2, h3, h4, h5⟩ := hh
    exact ⟨e, A, c, us, h1, h2, h3.alike h.1, VA_pb h xs _ _ hn h4, h5.alike h.1⟩
  | .vw b o l c, ty, vs => fun hn hh => by
    simp only [VT, pb] at hn hh ⊢
    obtain ⟨e, n, h1, h2, h3, h4, h5, h6⟩ := hh
    have hb : b < k := Nat.le_of_ble_eq_true hn
    exact ⟨e, n, h1, Nat.lt_of_lt_of_le hb h.2.2.2, by rw [h.2.2.1 b hb]; exact h3, h4, h5, by rw [h.2.1 b hb]; exact h6⟩
  | .ptr b path, ty, vs => fun hn hh => by
    simp only [VT, pb] at hn hh ⊢
    obtain ⟨o, t', h1, h2, h3⟩ := hh
    have hb : b < k := Nat.le_of_ble_eq_true hn
    exact ⟨o, t', Nat.lt_of_lt_of_le hb h.2.2.2, by rw [h.2.2.1 b hb]; exact h2, by rw [h.2.1 b hb]; exact h3⟩
  | .ep ty' x, ty, vs => fun hn hh => by
    simp only [VT, pb] at hn hh ⊢
    obtain ⟨g, o, us, h1, h2, h3⟩ := hh
    exact ⟨g, o, us, VT_pb h x _ _ hn h1, h2.alike h.1, h3⟩
  | .tup xs, ty, vs => fun hn hh => by
    simp only [VT, pb] at hn hh ⊢
    obtain ⟨es, us, h1, h2, h3⟩ := hh
    exact ⟨es, us, h1, h2, VL_pb h xs _ _ hn h3⟩
  | .fn f first captured, ty, vs => fun hn hh => by
    simp only [VT, pb, Bool.and_eq_true] at hn hh ⊢
    obtain ⟨us, ws, h1, h2, h3⟩ := hh
    exact ⟨us, ws, h1, VC_pb h first _ hn.1 h2, VC_pb h captured _ hn.2 h3⟩
  | .ifc t x, ty, vs => fun hn hh => by
    simp only [VT, pb] at hn hh ⊢
    obtain ⟨v, ⟨h1, h2⟩, h3⟩ := hh
    exact ⟨v, ⟨VT_pb h x _ _ hn h1, h2⟩, h3⟩
  | .any, ty, vs => fun _ hh => by simp only [VT] at hh ⊢; exact hh
theorem VF_pb {κ κ' : K} {k : Nat} (h : κ.AlikeB k κ') : ∀ (ts : List T) (fs : List Field) (vs : List Value), pbL k ts = true → VF P κ ts fs vs → VF P κ' ts fs vs
  | [], [], vs => fun _ _ => by simp only [VF]
  | t :: ts, f :: fs, vs => fun hn hh => by
    simp only [VF, pbL, Bool.and_eq_true] at hn hh ⊢
    exact ⟨VT_pb h t _ _ hn.1 hh.1, VF_pb h ts _ _ hn.2 hh.2⟩
  | [], _ :: _, _ => fun _ hh => by simp only [VF] at hh
  | _ :: _, [], _ => fun _ hh => by simp only [VF] at hh
theorem VA_pb {κ κ' : K} {k : Nat} (h : κ.AlikeB k κ') : ∀ (ts : List T) (e : TypeId) (vs : List Value), pbL k ts = true → VA P κ ts e vs → VA P κ' ts e vs
  | [], _, vs => fun _ hh => by simp only [VA] at hh ⊢; exact hh
  | t :: ts, e, vs => fun hn hh => by
    simp only [VA, pbL, Bool.and_eq_true] at hn hh ⊢
    exact ⟨hh.1, VT_pb h t _ _ hn.1 hh.2.1, VA_pb h ts _ _ hn.2 hh.2.2⟩
theorem VL_pb {κ κ' : K} {k : Nat} (h : κ.AlikeB k κ') : ∀ (ts : List T) (es : List TypeId) (vs : List Value), pbL k ts = true → VL P κ ts es vs → VL P κ' ts es vs
  | [], [], vs => fun _ hh => by simp only [VL] at hh ⊢; exact hh
  | t :: ts, e :: es, v :: vs => fun hn hh => by
    simp only [VL, pbL, Bool.and_eq_true] at hn hh ⊢
    exact ⟨⟨VT_pb h t _ _ hn.1 hh.1.1, hh.1.2⟩, VL_pb h ts _ _ hn.2 hh.2⟩
  | [], _ :: _, _ => fun _ hh => by simp only [VL] at hh
  | _ :: _, [], _ => fun _ hh => by simp only [VL] at hh
  | _ :: _, _ :: _, [] => fun _ hh => by simp only [VL] at hh
theorem VC_pb {κ κ' : K} {k : Nat} (h : κ.AlikeB k κ') : ∀ (ts : List T) (vs : List Value), pbL k ts = true → VC P κ ts vs → VC P κ' ts vs
  | [], vs => fun _ hh => by simp only [VC] at hh ⊢; exact hh
  | t :: ts, v :: vs => fun hn hh => by
    simp only [VC, pbL, Bool.and_eq_true] at hn hh ⊢
    exact ⟨⟨VT_pb h t _ _ hn.1 hh.1.1, hh.1.2⟩, VC_pb h ts _ hn.2 hh.2⟩
  | _ :: _, [] => fun _ hh => by simp only [VC] at hh
end


theorem VO_pb {κ κ' : K} {k : Nat} (h : κ.AlikeB k κ') {t : T} {ty : OTy} {vs : List Value} (hn : pb k t = true) (hh : VO P κ t ty vs) : VO P κ' t ty vs := by
  cases ty with
  | one ty => exact ⟨VT_pb h _ _ _ hn hh.1, hh.2⟩
  | row e n => obtain ⟨xs, rfl, h2, h3, h4, h5⟩ := hh; exact ⟨xs, rfl, h2, h3, h4, VA_pb h _ _ _ hn h5⟩
  | dead => trivial
theorem WR.drop {κ : K} {w : World} {h g : List AO} {u : Tips} (H : WR P κ w (h ++ g) u) (hn : ∀ o ∈ h, pb h.length o.t = true) : WR P { κ with n := h.length } w h u := by
  have hlen : κ.n = h.length + g.length := by simpa using H.n
  have hal : κ.AlikeB h.length { κ with n := h.length } := ⟨⟨rfl, rfl⟩, fun _ _ => rfl, fun _ _ => rfl, Nat.le_refl _⟩
  refine ⟨rfl, fun b o hb => ?_, fun b c hb hc e => H.inj b c ?_ ?_ e, H.imm, fun g' o v b q hv hb hq => H.immo g' o v b q hv ?_ hq, fun τ hu => ?_, H.fresh⟩
  · have hbl := (List.getElem?_eq_some_iff.1 hb).1
    obtain ⟨q1, q2, vs, e, q3, q4⟩ := H.obj b o (by rw [List.getElem?_append_left hbl]; exact hb)
    exact ⟨q1, q2, vs, e, q3, VO_pb hal (hn o (List.mem_of_getElem? hb)) q4⟩
  · have : b < h.length := hb
    omega
  · have : c < h.length := hc
    omega
  · rw [List.getElem?_append_left (List.getElem?_eq_some_iff.1 hb).1]; exact hb
  · obtain ⟨g', o, n, c, sz, q1, q2, q3, q4, q5⟩ := H.tip τ hu
    refine ⟨g', o, n, c, sz, q1, q2, q3, fun b hb => q4 b ?_, q5⟩
    have : b < h.length := hb
    omega

def tb (k : Nat) : List (Nat × T × TypeId) → Bool
  | [] => true
  | (_, x, _) :: r => pb k x && tb k r
def hbB (k : Nat) : List AO → Bool
  | [] => true
  | o :: r => pb k o.t && hbB k r
theorem lk_tb {k : Nat} : ∀ {t : List (Nat × T × TypeId)}, tb k t = true → ∀ {j : Nat} {x : T} {ty : TypeId}, lk t j = some (x, ty) → pb k x = true
  | [], _, _, _, _, h => by cases h
  | (i, x, ty) :: r, hb, j, y, ty', h => by
    simp only [tb, Bool.and_eq_true] at hb
    unfold lk at h
    split at h
    · injection h with h; injection h with h1 h2; subst h1; exact hb.1
    · exact lk_tb hb.2 h
theorem hbB_mem {k : Nat} : ∀ {h : List AO}, hbB k h = true → ∀ o ∈ h, pb k o.t = true
  | [], _, _, h => by cases h
  | o :: r, hb, x, h => by
    simp only [hbB, Bool.and_eq_true] at hb
    rcases List.mem_cons.1 h with rfl | h
    · exact hb.1
    · exact hbB_mem hb.2 x h

theorem lift_drop {κ : K} {u : Tips} {w : World} {σ : St} {a' : Act} {w' : World} {κ' : K} {σ' : St} {t1 : List (Nat × T × TypeId)} {h1 g : List AO} (hx : Ext κ u w κ' σ'.u w') (hs : SR P κ' σ' a' w') (hn : κ.n ≤ h1.length)
    (hh : σ'.h = h1 ++ g) (ht : WeakL t1 σ'.t) (hb : tb h1.length t1 = true) (hb2 : hbB h1.length h1 = true) : ∃ κ2, Ext κ u w κ2 σ'.u w' ∧ SR P κ2 ⟨σ'.n, t1, h1, σ'.u⟩ a' w' := by
  have hwr := hs.wr
  rw [hh] at hwr
  have hlen : κ'.n = h1.length + g.length := by simpa using hwr.n
  have hal : κ'.AlikeB h1.length { κ' with n := h1.length } := ⟨⟨rfl, rfl⟩, fun _ _ => rfl, fun _ _ => rfl, Nat.le_refl _⟩
  refine ⟨{ κ' with n := h1.length }, ⟨⟨hn, hx.le.ι, hx.le.ty, hx.le.I, hx.le.tip⟩, hx.os, hx.tape, hx.output, hx.size, hx.frame, fun b h2 h3 => hx.new b h2 ?_, hx.tips, hx.imms⟩, hs.defers, hs.size, fun k x ty hk => ?_, hwr.drop (hbB_mem hb2)⟩
  · have : b < h1.length := h3
    omega
  · obtain ⟨v, hv, hv2⟩ := hs.tmp k x ty (ht k _ hk)
    exact ⟨v, hv, VT_pb hal _ _ _ (lk_tb hb hk) hv2.1, hv2.2⟩

theorem AW.loopF {body : Code} {n : Nat} {t : List (Nat × T × TypeId)} {h : List AO} {u : Tips} {Q : Exit → St → Prop} (I : Nat → List (Nat × T × TypeId) → List AO → (Tips) → Prop) (m : Nat) (t1 : List (Nat × T × TypeId)) (hw : WeakL t1 t) (h0 : I m t1 h u)
    (hr : ∀ m t h u, I m t h u → AW P body ⟨n, t, h, u⟩ (Then (fun σ' => σ'.n = n ∧ ∃ m' t' h' g, m' < m ∧ WeakL t' σ'.t ∧ σ'.h = h' ++ g ∧ h.length = h'.length ∧ tb h'.length t' = true ∧ hbB h'.length h' = true ∧ I m' t' h' σ'.u) Q)) : AW P (.loop body) ⟨n, t, h, u⟩ Q := by
  refine AW.loopT I m t1 hw h0 fun m t h u hI => ?_
  intro κ a w hs
  refine wp_mono (hr m t h u hI κ a w hs) fun e a1 w1 ⟨κ1, σ1, h1, h2, h3⟩ => ?_
  cases e with
  | normal =>
    obtain ⟨e1, m', t', h', g, q1, q2, q3, q4, q5, q6, q7⟩ := h3
    obtain ⟨κ2, r1, r2⟩ := lift_drop (σ := ⟨n, t, h, u⟩) h1 h2 (by rw [hs.wr.n]; exact Nat.le_of_eq q4) q3 q2 q5 q6
    exact ⟨κ2, ⟨σ1.n, t', h', σ1.u⟩, r1, r2, e1, m', t', q1, fun _ _ hk => hk, q7⟩
  | _ => exact ⟨κ1, σ1, h1, h2, h3⟩
end Go.Am
