/- A layer over the walk's rules. This text: a row that was written is written no more: it becomes a list. -/
import Derived.Test.YtlpakbhlpgpiaaaAmX
set_option linter.unusedVariables false
set_option linter.unusedSimpArgs false
namespace Go.Am
variable {P : Program}

def K.frozen (κ : K) (g : Nat) (vs : List Value) : K := { κ with I := fun g' j => if g' = g then vs[j]? else κ.I g' j }

/-- A slot behind the freezing of row b, which held xs. -/
def Froze (b : Nat) (xs : List T) (x y : X) : Prop := x = y ∨ ∃ off len cap, x.1 = .vw b off len cap ∧ y = (.lst ((xs.drop off).take len) .no, x.2)

theorem freeze {κ : K} {a : Act} {w : World} {n N b : Nat} {t t' : List (Nat × T × TypeId)} {h : List AO} {u : Tips} {e : TypeId} {xs : List T} (hs : SR P κ ⟨N, t, h, u⟩ a w) (hb : h[b]? = some ⟨.row e n, .arr xs⟩) (hz : szOf P e ≠ 0)
    (ht : ∀ k y, lk t' k = some y → ∃ x, lk t k = some x ∧ Froze b xs x y) : ∃ κ', Ext κ u w κ' u w ∧ SR P κ' ⟨N, t', h.set b ⟨.dead, .any⟩, u⟩ a w := by
  obtain ⟨hd, hsz, htm, H⟩ := hs
  have H : WR P κ w h u := H
  obtain ⟨h1, h2, vs, ce, h3, xs', hx', h4, h5, h6, h7⟩ := H.obj b _ hb
  cases hx'
  have hbl : b < h.length := (List.getElem?_eq_some_iff.1 hb).1
  have hbn : b < κ.n := by have := H.n; omega
  have hty : κ.ty b = .row e n := by
    rcases h2 with h2 | h2
    · cases h2
    · exact h2
  have hnone : ∀ j, κ.I (κ.ι b) j = none := fun j => by
    cases hI : κ.I (κ.ι b) j with
    | none => rfl
    | some v => exact absurd rfl (H.immo _ j v b _ hI hb (by simp))
  have hle : κ.Le (κ.frozen (κ.ι b) vs) := ⟨Nat.le_refl _, fun _ _ => rfl, fun _ _ => rfl, fun g j v hv => by
    show (if g = κ.ι b then _ else _) = _
    rw [if_neg (fun hg => by subst hg; rw [hnone] at hv; cases hv)]; exact hv, fun _ _ hv => hv⟩
  refine ⟨κ.frozen (κ.ι b) vs, ⟨hle, rfl, rfl, rfl, Nat.le_refl _, fun _ _ _ _ => rfl, fun c q1 q2 => ?_, fun τ g o n c sz hu htp => .inr ⟨τ, o, n, c, sz, hu, htp⟩, fun g j v hv => ?_⟩, hd, hsz, fun k y ty hk => ?_, ?_⟩
  · have : c < κ.n := q2
    omega
  · have hv' : (if g = κ.ι b then vs[j]? else κ.I g j) = some v := hv
    by_cases hg : g = κ.ι b
    · exact .inr (.inr (.inl ⟨b, hbn, hg.symm⟩))
    · rw [if_neg hg] at hv'; exact .inl hv'
  · obtain ⟨x, hx, hf⟩ := ht k _ hk
    obtain ⟨v, hv1, hv2⟩ := htm k x.1 x.2 hx
    rcases hf with rfl | ⟨off, len, cap, hvw, hy⟩
    · exact ⟨v, hv1, hv2.mono hle⟩
    · cases hy
      rw [hvw] at hv2
      obtain ⟨e', n', r1, r2, r3, r4, r5, rfl⟩ := VV_vw hv2
      rw [hty] at r3
      cases r3
      refine ⟨_, hv1, ?_⟩
      have hva := VA_take len (VA_drop off h7)
      exact VV_lst_mk r1 (show len = _ by simp; omega) (show len ≤ cap from r5) (VA_mono hle _ _ _ hva) (.inr ⟨_, _, rfl, fun j v hj => by
        rw [part_get] at hj
        by_cases hjn : j < len * szOf P e
        · rw [if_pos hjn] at hj
          show (if κ.ι b = κ.ι b then _ else _) = _
          rw [if_pos rfl]; exact hj
        · rw [if_neg hjn] at hj; cases hj⟩)
  · refine ⟨by rw [List.length_set]; exact H.n, fun c q hc => ?_, H.inj, fun g j v hv => ?_, fun g j v c q hv hc hq => ?_, fun τ hτ => ?_, H.fresh⟩
    · rw [List.getElem?_set] at hc
      by_cases hbc : b = c
      · subst hbc
        rw [if_pos rfl, if_pos hbl] at hc
        cases hc
        exact ⟨trivial, .inl rfl, vs, ce, h3, trivial⟩
      · rw [if_neg hbc] at hc
        obtain ⟨q1, q2, ws, ce', q3, q4⟩ := H.obj c q hc
        exact ⟨q1, q2, ws, ce', q3, q4.mono hle⟩
    · have hv' : (if g = κ.ι b then vs[j]? else κ.I g j) = some v := hv
      by_cases hg : g = κ.ι b
      · subst hg
        rw [if_pos rfl] at hv'
        simp only [World.cell?, h3]
        simpa using hv'
      · rw [if_neg hg] at hv'; exact H.imm g j v hv'
    · rw [List.getElem?_set] at hc
      by_cases hbc : b = c
      · subst hbc
        rw [if_pos rfl, if_pos hbl] at hc
        cases hc
        exact absurd rfl hq
      · rw [if_neg hbc] at hc
        have hv' : (if g = κ.ι b then vs[j]? else κ.I g j) = some v := hv
        by_cases hg : g = κ.ι b
        · subst hg
          have hcn : c < κ.n := by have := (List.getElem?_eq_some_iff.1 hc).1; have := H.n; omega
          exact fun hi => hbc (H.inj c b hcn hbn hi).symm
        · rw [if_neg hg] at hv'; exact H.immo g j v c q hv' hc hq
    · obtain ⟨g, o, n', c, sz, t1, t2, t3, t4, t5⟩ := H.tip τ hτ
      exact ⟨g, o, n', c, sz, t1, t2, fun j q1 q2 => by
        show (if g = κ.ι b then _ else _) = _
        rw [if_neg (fun hg => t4 b hbn hg.symm)]; exact t3 j q1 q2, t4, t5⟩

theorem AW.freeze {c : Code} {N n b : Nat} {t t' : List (Nat × T × TypeId)} {h : List AO} {u : Tips} {e : TypeId} {xs : List T} {Q : Exit → St → Prop} (hb : h[b]? = some ⟨.row e n, .arr xs⟩) (hz : szOf P e ≠ 0)
    (ht : ∀ k y, lk t' k = some y → ∃ x, lk t k = some x ∧ Froze b xs x y) (hk : AW P c ⟨N, t', h.set b ⟨.dead, .any⟩, u⟩ Q) : AW P c ⟨N, t, h, u⟩ Q := fun κ a w hs => by
  obtain ⟨κ', h1, h2⟩ := Am.freeze hs hb hz ht
  exact wp_mono (hk κ' a w h2) fun e' a' w' k => lift_trans h1 k
end Go.Am
