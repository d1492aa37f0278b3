/- A layer over the walk's rules. This text: the rule for a region that draws its order. -/
import Derived.Test.YtlpakbhlpgpiaaaAmG
set_option linter.unusedVariables false
set_option linter.unusedSimpArgs false
namespace Go.Am
variable {P : Program} {B : List (List Nat)} {S E : List Nat} {N : Nat} {l : List Oper} {t0 : List (Nat × T × TypeId)} {H : List AO} {U : Tips} {Q : Exit → St → Prop}

theorem chkMem_of (h : chkMem B S E = true) {e s : Nat} (he : E.contains e = true) (hs : S.contains s = true) : S.contains e = true ∧ (e = s ∨ s ∈ befs B e ∨ e ∈ befs B s) := by
  have h1 := List.all_eq_true.1 h e (by simpa using he)
  simp only [Bool.and_eq_true] at h1
  exact ⟨h1.1, cmpB_iff (List.all_eq_true.1 h1.2 s (by simpa using hs))⟩

theorem AW.draw {id : Nat} (hm : P.follows .mixedOrders = true) (hchk : chkAll B S E l = true) (h : DOPS P B S E N l t0 (fun σ' => Q .normal σ') l 0 [] H U) :
    AW P (.region id l.toArray true) ⟨N, t0, H, U⟩ Q := by
  intro κ a w hs
  simp only [chkAll, Bool.and_eq_true] at hchk
  obtain ⟨⟨hB, hC⟩, hM⟩ := hchk
  obtain ⟨outs, M, q1, q2, q3, q4, q5⟩ := DOPS.outs l 0 [] H U h rfl (by simp)
  simp only [Nat.zero_add] at q1 q5
  have hMc : ∀ j, j < l.length → E.contains j = false → M (j + 1) = M j := fun j hj hE => by
    obtain ⟨_, x, _, r⟩ := q4 j l[j] (Nat.zero_le _) (List.getElem?_eq_getElem hj)
    rcases r with ⟨_, _, r⟩ | ⟨_, _, r⟩
    · exact r
    · exact r hE
  refine wp_region_any hm ?_
  have key : ∀ (fuel : Nat) (L : Array Bool) (a' : Act) (w' : World), Inv P E N l t0 outs M κ U w L a' w' → (∃ T : List Nat, T.length ≤ fuel ∧ ∀ j, j < l.length → L.getD j true = false → j ∈ T) →
      wpAny P .any l.toArray (lift P κ U w Q) fuel L a' w' := by
    have fin : ∀ (L : Array Bool) (a' : Act) (w' : World), Inv P E N l t0 outs M κ U w L a' w' → Region.ready .any l.toArray L = [] → lift P κ U w Q .normal a' w' := by
      intro L a' w' hI hr
      have hall : ∀ j, j < l.length → L.getD j false = true := by
        intro j
        induction j using Nat.strongRecOn with
        | _ j ih =>
          intro hj
          cases hc : L.getD j true with
          | true => simp [Array.getD_eq_getD_getElem?, hI.size, hj] at hc ⊢; exact hc
          | false =>
            have : j ∈ Region.ready .any l.toArray L := mem_ready.2 ⟨hc, l[j], by simp [hj], fun e he hb => by
              have h1 := (row_edge hB (List.getElem?_eq_getElem hj) he hb).1
              exact ih e.on h1 (by omega)⟩
            rw [hr] at this; cases this
      obtain ⟨κ', m, hl, he, hs'⟩ := hI.st
      have hln : Lim E l.length L l.length := ⟨Nat.le_refl _, fun e _ hn => ⟨fun _ => hn, fun _ => hall e hn⟩⟩
      rw [lim_same hMc hl hln] at he hs'
      rw [bindL_congr (L := fun j => L.getD j false) (L' := fun _ => true) fun j hj => by simpa using hall j hj] at hs'
      exact ⟨κ', _, he, hs', q5⟩
    intro fuel
    induction fuel with
    | zero =>
      rintro L a' w' hI ⟨T, hT, hTa⟩
      have hT0 : T = [] := by cases T <;> simp_all
      subst hT0
      have hr : Region.ready .any l.toArray L = [] := by
        cases hr : Region.ready .any l.toArray L with
        | nil => rfl
        | cons i rs =>
          have hi : i ∈ Region.ready .any l.toArray L := by rw [hr]; exact .head _
          obtain ⟨h1, o, h2, _⟩ := mem_ready.1 hi
          have := hTa i (by have := (Array.getElem?_eq_some_iff.1 h2).1; simpa using this) h1
          cases this
      exact ⟨hr, fin L a' w' hI hr⟩
    | succ fuel ih =>
      rintro L a' w' hI ⟨T, hT, hTa⟩
      refine ⟨fun hr => fin L a' w' hI hr, fun i hi => ?_⟩
      obtain ⟨hun, o, ho, hpre⟩ := mem_ready.1 hi
      have ho' : l[i]? = some o := by simpa using ho
      have hil := (List.getElem?_eq_some_iff.1 ho').1
      obtain ⟨hdst, x, hx, hev⟩ := q4 i o (Nat.zero_le _) ho'
      obtain ⟨κ1, m, hl, he, hs'⟩ := hI.st
      have hiT : i ∈ T := hTa i hil hun
      have hT' : ∃ T' : List Nat, T'.length ≤ fuel ∧ ∀ j, j < l.length → (L.setIfInBounds i true).getD j true = false → j ∈ T' := by
        refine ⟨T.erase i, by rw [List.length_erase_of_mem hiT]; omega, fun j hj hjl => ?_⟩
        by_cases e : i = j
        · subst e; simp [Array.getD_eq_getD_getElem?, hI.size, hil] at hjl
        · rw [getD_set_ne true e] at hjl
          exact (List.mem_erase_of_ne (Ne.symm e)).2 (hTa j hj hjl)
      -- which effects are listed
      have hset : ∀ j, (L.setIfInBounds i true).getD j false = if i = j then true else L.getD j false := fun j => by
        by_cases e : i = j
        · subst e; simp [Array.getD_eq_getD_getElem?, hI.size, hil]
        · rw [if_neg e]; simp [Array.getD_eq_getD_getElem?, Array.getElem?_setIfInBounds_ne e]
      -- the step itself, of memory m1 before and m2 behind
      have step : ∀ m1 m2, M m1 = M m → Lim E l.length (L.setIfInBounds i true) m2 → Ev P N l o (env B l t0 o i (outs.take i)) (M m1).1 (M m1).2 x (M m2).1 (M m2).2 →
          wpOp P l.toArray (lift P κ U w Q) i (wpAny P .any l.toArray (lift P κ U w Q) fuel (L.setIfInBounds i true)) a' w' := by
        intro m1 m2 hm1 hlim hE
        rw [hm1] at hE
        have hweak := weak_env (outs := outs) (t0 := t0) (N := N) hB hC hI.size hI.cl ho' hun hpre (M m).1 (M m).2
        have fire : ∀ o2 : Oper, o2.dst = o.dst → EvS P N o2 (env B l t0 o i (outs.take i)) (M m).1 (M m).2 x (M m2).1 (M m2).2 → o2.wp P a' w' (wpAny P .any l.toArray (lift P κ U w Q) fuel (L.setIfInBounds i true)) (lift P κ U w Q) := by
          intro o2 hd2 h2
          refine (OPE.weaken hweak h2) κ1 a' w' _ _ hs' fun κ' v x' h' u' w2 r1 r2 r3 ⟨r4, r5, r6⟩ => ?_
          subst r4
          rw [hd2]
          exact ih _ _ _ (Inv.next hB hC hI.size hI.cl ho' hun hpre hx hdst he hs' r1 r2 r3 r5 r6 hlim) hT'
        unfold wpOp
        rw [ho]
        unfold Ev at hE
        cases hg : o.guard with
        | none =>
          rw [hg] at hE
          simp only []
          rw [if_pos (by simp [Region.wanted, hg])]
          exact .inl (fire o rfl hE)
        | some gw =>
          obtain ⟨j, want⟩ := gw
          rw [hg] at hE
          obtain ⟨k, y, tb, e1, e2, e3⟩ := hE
          simp only []
          rcases e3 with ⟨rfl, e3⟩ | ⟨hy, rfl, e4, e5⟩
          · have hw := wanted_of (ops := l.toArray) (hweak.sr hs') hg (by simpa using e1) e2
            rw [hw, if_pos (by simp)]
            exact .inl (fire { o with guard := none } rfl e3)
          · have hw : Region.wanted o (yielded l.toArray a'.tmps) = false := by
              rcases hy with rfl | rfl
              · rw [wanted_of (ops := l.toArray) (hweak.sr hs') hg (by simpa using e1) e2]
                cases want <;> rfl
              · exact unwanted_of (ops := l.toArray) (hweak.sr hs') hg (by simpa using e1) e2
            rw [hw, if_neg (by simp)]
            exact ih _ _ _ (Inv.next (x := (.any, 0)) (v := undef) hB hC hI.size hI.cl ho' hun hpre hx hdst he hs' (.refl _ _ _) hs'.wr ⟨by simp only [VT]; rfl, rfl⟩ e4.symm e5.symm hlim) hT'
      rcases hev with ⟨hS, hf, hMi⟩ | ⟨hS, hf, hMi⟩
      · have hnE : E.contains i = false := by
          cases hc : E.contains i with
          | false => rfl
          | true => have := List.all_eq_true.1 hM i (by simpa using hc); simp only [Bool.and_eq_true] at this; rw [hS] at this; simp at this
        refine step m m rfl ⟨hl.le, fun e hec hen => ?_⟩ (hf _ _)
        rw [hset]
        by_cases e1 : i = e
        · subst e1; rw [hnE] at hec; cases hec
        · rw [if_neg e1]; exact hl.iff e hec hen
      · have hlist : ∀ e, E.contains e = true → e < l.length → e ≠ i → (L.getD e false = true ↔ e < i) := fun e hec hen hne => by
          obtain ⟨_, hcmp⟩ := chkMem_of hM hec hS
          rcases hcmp with rfl | hcmp | hcmp
          · exact absurd rfl hne
          · have hie := befs_lt hB e l[e] (List.getElem?_eq_getElem hen) i hcmp
            refine ⟨fun hle => ?_, fun h => by omega⟩
            have := cl_befs hB hI.cl e l[e] (List.getElem?_eq_getElem hen) (fun e' he' hb' => hI.cl e l[e] (List.getElem?_eq_getElem hen) hle e' he' hb') i hcmp
            rw [getD_false_of hI.size hil hun] at this; cases this
          · exact ⟨fun _ => befs_lt hB i o ho' e hcmp, fun _ => cl_befs hB hI.cl i o ho' hpre e hcmp⟩
        have hli : Lim E l.length L i := ⟨by omega, fun e hec hen => by
          by_cases hne : e = i
          · subst hne
            rw [getD_false_of hI.size hil hun]
            exact ⟨fun h => (by cases h), fun h => (by omega)⟩
          · exact hlist e hec hen hne⟩
        have hMm := lim_same hMc hli hl
        refine step i (i + 1) hMm ⟨by omega, fun e hec hen => ?_⟩ hf
        rw [hset]
        by_cases hne : e = i
        · subst hne
          rw [if_pos rfl]
          exact ⟨fun _ => by omega, fun _ => rfl⟩
        · rw [if_neg (Ne.symm hne), hlist e hec hen hne]
          omega
  refine key l.toArray.size _ _ _ ⟨by simp, fun i o hi hl => ?_, κ, 0, ⟨Nat.zero_le _, fun e _ hen => ?_⟩, ?_, ?_⟩ ⟨List.range l.length, by simp, fun j hj _ => List.mem_range.2 hj⟩
  · have := (List.getElem?_eq_some_iff.1 hi).1
    simp [Array.getD_eq_getD_getElem?, this] at hl
  · simp [Array.getD_eq_getD_getElem?, hen]
  · rw [q3]; exact Ext.drew κ U w
  · rw [q3]
    have e0 : bindL (fun j => (Array.replicate l.toArray.size false).getD j false) l outs 0 = bindL (fun _ => false) l outs 0 := bindL_congr fun j hj => by
      simp [Array.getD_eq_getD_getElem?, hj]
    rw [e0, bindL_off (fun _ _ => rfl), List.nil_append]
    exact ⟨hs.defers, hs.size, hs.tmp, hs.wr.drew⟩
end Go.Am
