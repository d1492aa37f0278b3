/- A layer over the walk's rules. This text: what is walked in the order of the text holds in every order. -/
import Derived.Test.YtlpakbhlpgpiaaaAmF
set_option linter.unusedVariables false
set_option linter.unusedSimpArgs false
namespace Go.Am
variable {P : Program}

theorem bindL_congr {L L' : Nat → Bool} : ∀ {os : List Oper} {xs : List X} {i : Nat}, (∀ j, j < os.length → L (i + j) = L' (i + j)) → bindL L os xs i = bindL L' os xs i
  | [], xs, i => fun _ => by simp [bindL]
  | o :: os, [], i => fun _ => by simp [bindL]
  | o :: os, x :: xs, i => fun h => by
    have h0 := h 0 (by simp)
    rw [Nat.add_zero] at h0
    have e := bindL_congr (L := L) (L' := L') (os := os) (xs := xs) (i := i + 1) fun j hj => by
      have := h (j + 1) (by simp; omega)
      rwa [show i + (j + 1) = i + 1 + j by omega] at this
    simp only [bindL, e, h0]
theorem bindL_off {L : Nat → Bool} : ∀ {os : List Oper} {xs : List X} {i : Nat}, (∀ j, i ≤ j → L j = false) → bindL L os xs i = []
  | [], xs, i => fun _ => by simp [bindL]
  | o :: os, [], i => fun _ => by simp [bindL]
  | o :: os, x :: xs, i => fun h => by simp only [bindL, h i (Nat.le_refl _), bindL_off (os := os) (xs := xs) (i := i + 1) fun j hj => h j (by omega), List.nil_append]
theorem bindL_take {L : Nat → Bool} {m : Nat} : ∀ {os : List Oper} {xs : List X} {i : Nat}, (∀ j, m ≤ j → L j = false) → i ≤ m → bindL L os (xs.take (m - i)) i = bindL L os xs i
  | [], xs, i => fun _ _ => by simp [bindL]
  | o :: os, [], i => fun _ _ => by simp [bindL]
  | o :: os, x :: xs, i => fun h hi => by
    by_cases e : i = m
    · subst e
      rw [bindL_off h, bindL_off h]
    · rw [show m - i = (m - (i + 1)) + 1 by omega, List.take_succ_cons]
      simp only [bindL]
      rw [bindL_take h (by omega)]
theorem lk_bindL_at {L : Nat → Bool} {d : Nat} {x : X} : ∀ {os : List Oper} {xs : List X} {i m : Nat} {o : Oper}, os[m]? = some o → o.dst = some d → xs[m]? = some x → L (i + m) = true → (∀ j o', m < j → os[j]? = some o' → o'.dst = some d → L (i + j) = false) → lk (bindL L os xs i) d = some x
  | [], _, _, _, _ => fun h => by simp at h
  | o :: os, [], i, m, _ => fun _ _ h => by simp at h
  | o :: os, y :: xs, i, 0, o1 => fun h1 h2 h3 h4 h5 => by
    simp at h1 h3
    subst h1; subst h3
    rw [Nat.add_zero] at h4
    simp only [bindL, lk_append]
    have hn : lk (bindL L os xs (i + 1)) d = lk (bindL (fun _ => false) os xs (i + 1)) d := bindL_same fun j o' hj hd => by
      have := h5 (j + 1) o' (by omega) (by simpa using hj) hd
      rwa [show i + (j + 1) = i + 1 + j by omega] at this
    rw [hn, bindL_off (fun _ _ => rfl)]
    simp [lk, h4, h2]
  | o :: os, y :: xs, i, m + 1, o1 => fun h1 h2 h3 h4 h5 => by
    simp only [List.getElem?_cons_succ] at h1 h3
    simp only [bindL, lk_append]
    rw [lk_bindL_at h1 h2 h3 (by rwa [show i + (m + 1) = i + 1 + m by omega] at h4) fun j o' hj hj2 hd => by
      have := h5 (j + 1) o' (by omega) (by simpa using hj2) hd
      rwa [show i + (j + 1) = i + 1 + j by omega] at this]

theorem befs_lt {B : List (List Nat)} {l : List Oper} (hB : chkRows B 0 l = true) : ∀ (i : Nat) (o : Oper), l[i]? = some o → ∀ j ∈ befs B i, j < i := by
  intro i
  induction i using Nat.strongRecOn with
  | _ i ih =>
    intro o hi j hj
    obtain ⟨e, he, hb, h⟩ := row_from hB hi hj
    obtain ⟨h1, _, _⟩ := row_edge hB hi he hb
    rcases h with rfl | h
    · exact h1
    · cases ho : l[e.on]? with
      | none =>
        have := (List.getElem?_eq_some_iff.1 hi).1
        rw [List.getElem?_eq_none_iff] at ho
        omega
      | some o' => have := ih e.on h1 o' ho j h; omega

structure Lim (E : List Nat) (n : Nat) (L : Array Bool) (m : Nat) : Prop where
  le : m ≤ n
  iff : ∀ e, E.contains e = true → e < n → (L.getD e false = true ↔ e < m)

theorem lim_same {E : List Nat} {n : Nat} {L : Array Bool} {M : Nat → List AO × (Tips)} (hM : ∀ j, j < n → E.contains j = false → M (j + 1) = M j) {m m' : Nat} (h : Lim E n L m) (h' : Lim E n L m') : M m = M m' := by
  have key : ∀ (a b : Nat), Lim E n L a → Lim E n L b → a ≤ b → M a = M b := by
    intro a b ha hb hab
    have : ∀ k, a + k ≤ b → M (a + k) = M a := by
      intro k
      induction k with
      | zero => intro _; rfl
      | succ k ih =>
        intro hk
        have hE : E.contains (a + k) = false := by
          cases hc : E.contains (a + k) with
          | false => rfl
          | true =>
            have hn : a + k < n := by have := hb.le; omega
            have h2 := (hb.iff _ hc hn).2 (by omega)
            have h1 := (ha.iff _ hc hn).1 h2
            omega
        rw [← ih (by omega)]
        exact hM (a + k) (by have := hb.le; omega) hE
    have := this (b - a) (by omega)
    rw [show a + (b - a) = b by omega] at this
    exact this.symm
  rcases Nat.le_total m m' with hm | hm
  · exact key m m' h h' hm
  · exact (key m' m h' h hm).symm

theorem SR.same {κ : K} {σ : St} {a : Act} {w : World} (hs : SR P κ σ a w) {t : List (Nat × T × TypeId)} (ht : ∀ k, lk t k = lk σ.t k) : SR P κ ⟨σ.n, t, σ.h, σ.u⟩ a w :=
  ⟨hs.defers, hs.size, fun k x ty hk => hs.tmp k x ty (by rw [← ht]; exact hk), hs.wr⟩

theorem getD_false_of {L : Array Bool} {i n : Nat} (hn : L.size = n) (hi : i < n) (h : L.getD i true = false) : L.getD i false = false := by
  simp [Array.getD_eq_getD_getElem?, hn, hi] at h ⊢
  exact h

structure Inv (P : Program) (E : List Nat) (N : Nat) (l : List Oper) (t0 : List (Nat × T × TypeId)) (outs : List X) (M : Nat → List AO × (Tips)) (κ : K) (U : Tips) (w : World) (L : Array Bool) (a' : Act) (w' : World) : Prop where
  size : L.size = l.length
  cl : Cl l L
  st : ∃ κ' m, Lim E l.length L m ∧ Ext κ U w κ' (M m).2 w' ∧ SR P κ' ⟨N, bindL (fun j => L.getD j false) l outs 0 ++ t0, (M m).1, (M m).2⟩ a' w'

section
variable {B : List (List Nat)} {S E : List Nat} {N : Nat} {l : List Oper} {t0 : List (Nat × T × TypeId)} {outs : List X} {M : Nat → List AO × (Tips)} {κ : K} {U : Tips} {w : World} {L : Array Bool}

/-- What an operation that may come up next finds is what the text's order finds. -/
theorem weak_env (hB : chkRows B 0 l = true) (hC : chkCmp B l = true) (hsz : L.size = l.length) (hcl : Cl l L) {i : Nat} {o : Oper} (hi : l[i]? = some o) (hun : L.getD i true = false) (hpre : ∀ e ∈ o.after, Region.binds .any e = true → L.getD e.on false = true) (h : List AO) (u : Tips) :
    Weak ⟨N, bindL (fun j => L.getD j false) l outs 0 ++ t0, h, u⟩ ⟨N, env B l t0 o i (outs.take i), h, u⟩ := by
  refine ⟨rfl, fun k x hk => ?_, rfl, rfl⟩
  have hil := (List.getElem?_eq_some_iff.1 hi).1
  obtain ⟨h1, h2⟩ := lk_pickOut hk
  have hbf : ∀ j, i ≤ j → (befs B i).contains j = false := fun j hj => by
    cases hc : (befs B i).contains j with
    | false => rfl
    | true => have := befs_lt hB i o hi j (by simpa using hc); omega
  have e1 : bindL (fun j => (befs B i).contains j) l (outs.take i) 0 = bindL (fun j => (befs B i).contains j) l outs 0 := by
    have := bindL_take (L := fun j => (befs B i).contains j) (m := i) (os := l) (xs := outs) (i := 0) hbf (Nat.zero_le _)
    simpa using this
  rw [e1, lk_append] at h2
  have e2 : lk (bindL (fun j => L.getD j false) l outs 0) k = lk (bindL (fun j => (befs B i).contains j) l outs 0) k := bindL_same fun j o' hj hd => by
    simp only [Nat.zero_add]
    have hjl := (List.getElem?_eq_some_iff.1 hj).1
    rcases cmp_of hC hi (List.mem_append_left _ h1) hj hd with rfl | hlt | hgt
    · rw [hbf i (Nat.le_refl _)]; exact getD_false_of hsz hil hun
    · have := cl_befs hB hcl i o hi hpre j hlt
      rw [this]; exact (by simpa using hlt : (befs B i).contains j = true).symm
    · have hji : i < j := befs_lt hB j o' hj i hgt
      rw [hbf j (by omega)]
      cases hc : L.getD j false with
      | false => rfl
      | true =>
        have := cl_befs hB hcl j o' hj (fun e he hb => hcl j o' hj hc e he hb) i hgt
        rw [getD_false_of hsz hil hun] at this; cases this
  show lk (bindL (fun j => L.getD j false) l outs 0 ++ t0) k = some x
  rw [lk_append, e2]; exact h2

/-- One operation more is listed. -/
theorem Inv.next (hB : chkRows B 0 l = true) (hC : chkCmp B l = true) {a' : Act} {w' w2 : World} {κ1 κ2 : K} {i m m2 : Nat} {o : Oper} {x : X} {v : Value} {h2 : List AO} {u2 : Tips}
    (hsz : L.size = l.length) (hcl : Cl l L) (hi : l[i]? = some o) (hun : L.getD i true = false) (hpre : ∀ e ∈ o.after, Region.binds .any e = true → L.getD e.on false = true) (hx : outs[i]? = some x)
    (hdst : dstOk ⟨N, [], [], U⟩ o.dst = true) (hext : Ext κ U w κ1 (M m).2 w') (hs : SR P κ1 ⟨N, bindL (fun j => L.getD j false) l outs 0 ++ t0, (M m).1, (M m).2⟩ a' w')
    (he : Ext κ1 (M m).2 w' κ2 u2 w2) (hwr : WR P κ2 w2 h2 u2) (hv : VV P κ2 x.1 x.2 v) (hh : h2 = (M m2).1) (hu : u2 = (M m2).2) (hlim : Lim E l.length (L.setIfInBounds i true) m2) :
    Inv P E N l t0 outs M κ U w (L.setIfInBounds i true) (a'.put o.dst v) w2 := by
  have hil := (List.getElem?_eq_some_iff.1 hi).1
  have hset : ∀ j, (L.setIfInBounds i true).getD j false = if i = j then true else L.getD j false := fun j => by
    by_cases e : i = j
    · subst e; simp [Array.getD_eq_getD_getElem?, hsz, hil]
    · rw [if_neg e]; simp [Array.getD_eq_getD_getElem?, Array.getElem?_setIfInBounds_ne e]
  refine ⟨by simpa using hsz, fun j o' hj hl e hedge hb => ?_, κ2, m2, hlim, hext.trans (by rw [hu] at he; exact he), ?_⟩
  · rw [hset] at hl ⊢
    by_cases e1 : i = j
    · subst e1
      rw [hi] at hj
      cases hj
      have := hpre e hedge hb
      by_cases e2 : i = e.on
      · rw [if_pos e2]
      · rw [if_neg e2]; exact this
    · rw [if_neg e1] at hl
      have := hcl j o' hj hl e hedge hb
      by_cases e2 : i = e.on
      · rw [if_pos e2]
      · rw [if_neg e2]; exact this
  · subst hh
    have hs2 := hs.put (d := o.dst) (by exact hdst) (by rw [hu] at he; exact he) (by rw [hu] at hwr; exact hwr) hv
    have := hs2.same (t := bindL (fun j => (L.setIfInBounds i true).getD j false) l outs 0 ++ t0) fun k => ?_
    · have e3 : (putS ⟨N, bindL (fun j => L.getD j false) l outs 0 ++ t0, (M m).1, (M m).2⟩ o.dst x (M m2).1 (M m2).2).n = N := by unfold putS; split <;> rfl
      have e4 : (putS ⟨N, bindL (fun j => L.getD j false) l outs 0 ++ t0, (M m).1, (M m).2⟩ o.dst x (M m2).1 (M m2).2).h = (M m2).1 := by unfold putS; split <;> rfl
      have e5 : (putS ⟨N, bindL (fun j => L.getD j false) l outs 0 ++ t0, (M m).1, (M m).2⟩ o.dst x (M m2).1 (M m2).2).u = (M m2).2 := by unfold putS; split <;> rfl
      rw [e3, e4, e5] at this
      exact this
    · cases hd : o.dst with
      | none =>
        simp only [putS, lk_append]
        rw [bindL_same (L := fun j => (L.setIfInBounds i true).getD j false) (L' := fun j => L.getD j false) fun j o' hj hd' => by
          simp only [Nat.zero_add, hset]
          rw [if_neg]
          rintro rfl
          rw [hi] at hj
          cases hj
          rw [hd] at hd'; cases hd']
      | some d =>
        simp only [putS, lk]
        cases hb : Nat.beq d k with
        | true =>
          have := Nat.eq_of_beq_eq_true hb
          subst this
          rw [lk_append, lk_bindL_at (L := fun j => (L.setIfInBounds i true).getD j false) hi hd hx (by simp only [Nat.zero_add, hset]; simp) fun j o' hj hj2 hd' => ?_]
          simp only [Nat.zero_add, hset]
          rw [if_neg (by omega)]
          rcases cmp_of hC hi (List.mem_append_right _ (by rw [hd]; simp)) hj2 hd' with e | e | e
          · omega
          · have := befs_lt hB i o hi j e; omega
          · cases hc : L.getD j false with
            | false => rfl
            | true =>
              have := cl_befs hB hcl j o' hj2 (fun e he hb => hcl j o' hj2 hc e he hb) i e
              rw [getD_false_of hsz hil hun] at this; cases this
        | false =>
          have hne : d ≠ k := Nat.ne_of_beq_eq_false hb
          simp only [lk_append]
          rw [bindL_same (L := fun j => (L.setIfInBounds i true).getD j false) (L' := fun j => L.getD j false) fun j o' hj hd' => by
            simp only [Nat.zero_add, hset]
            rw [if_neg]
            rintro rfl
            rw [hi] at hj
            cases hj
            rw [hd] at hd'
            exact hne (Option.some.inj hd')]
end
end Go.Am
