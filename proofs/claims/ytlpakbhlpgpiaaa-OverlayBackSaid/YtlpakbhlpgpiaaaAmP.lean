/- A layer over the walk's rules. This text: a region that draws its order, with a table that says for each operation what stands before it and what it looks at. -/
import Derived.Test.YtlpakbhlpgpiaaaAmH
set_option linter.unusedVariables false
set_option linter.unusedSimpArgs false
namespace Go.Am
variable {P : Program}

abbrev Db := List (Nat × Nat × X)
def memB : List Nat → Nat → Bool
  | [], _ => false
  | a :: r, k => match Nat.beq a k with
    | true => true
    | false => memB r k
theorem memB_iff {l : List Nat} {k : Nat} : memB l k = l.contains k := by
  induction l with
  | nil => rfl
  | cons a r ih =>
    simp only [memB, List.contains_cons, ih]
    cases h : Nat.beq a k with
    | true => have := Nat.eq_of_beq_eq_true h; subst this; simp
    | false => have := Nat.ne_of_beq_eq_false h; simp [Ne.symm this]
def selD : Db → List Nat → List (Nat × T × TypeId)
  | [], _ => []
  | (j, s, x) :: r, bef => match memB bef j with
    | true => (s, x) :: selD r bef
    | false => selD r bef
def addD (i : Nat) (d : Option Nat) (x : X) (db : Db) : Db := match d with
  | some d => (i, d, x) :: db
  | none => db
def addT (d : Option Nat) (x : X) (t : List (Nat × T × TypeId)) : List (Nat × T × TypeId) := match d with
  | some d => (d, x) :: t
  | none => t
def dbOf : List Oper → List X → Nat → Db → Db
  | o :: os, x :: xs, i, acc => dbOf os xs (i + 1) (addD i o.dst x acc)
  | _, _, _, acc => acc
theorem selD_dbOf (bef : List Nat) : ∀ (os : List Oper) (xs : List X) (i : Nat) (acc : Db), selD (dbOf os xs i acc) bef = bindL (fun j => bef.contains j) os xs i ++ selD acc bef
  | [], xs, i, acc => by simp [dbOf, bindL]
  | o :: os, [], i, acc => by simp [dbOf, bindL]
  | o :: os, x :: xs, i, acc => by
    simp only [dbOf, bindL]
    rw [selD_dbOf bef os xs (i + 1)]
    cases hd : o.dst with
    | none => simp only [addD]; cases bef.contains i <;> simp
    | some d =>
      simp only [addD, selD, memB_iff]
      cases bef.contains i <;> simp
theorem dbOf_snoc : ∀ (os : List Oper) (xs : List X) (i : Nat) (acc : Db) (o : Oper) (x : X), os[xs.length]? = some o → dbOf os (xs ++ [x]) i acc = addD (i + xs.length) o.dst x (dbOf os xs i acc)
  | [], xs, i, acc, o, x => fun h => by simp at h
  | a :: os, [], i, acc, o, x => fun h => by
    simp at h; subst h
    cases os <;> simp [dbOf]
  | a :: os, y :: xs, i, acc, o, x => fun h => by
    simp only [List.cons_append, dbOf]
    rw [dbOf_snoc os xs (i + 1) _ o x (by simpa using h)]
    congr 1
    simp; omega
theorem bindL_snoc : ∀ (os : List Oper) (xs : List X) (i : Nat) (o : Oper) (x : X), os[xs.length]? = some o → bindL (fun _ => true) os (xs ++ [x]) i = addT o.dst x [] ++ bindL (fun _ => true) os xs i
  | [], xs, i, o, x => fun h => by simp at h
  | a :: os, [], i, o, x => fun h => by
    simp at h; subst h
    cases os <;> cases hd : a.dst <;> simp [bindL, addT, hd]
  | a :: os, y :: xs, i, o, x => fun h => by
    simp only [List.cons_append, bindL]
    rw [bindL_snoc os xs (i + 1) o x (by simpa using h), List.append_assoc]
theorem addT_append (d : Option Nat) (x : X) (s t : List (Nat × T × TypeId)) : addT d x (s ++ t) = addT d x [] ++ s ++ t := by cases d <;> rfl

/-- The operations, one by one. tab: for each, what stands before it, the slots that it looks at. -/
def DP (P : Program) (S E : List Nat) (N : Nat) (l : List Oper) (t0 : List (Nat × T × TypeId)) (Q : St → Prop) : List Oper → List (List Nat × List Nat) → Nat → Db → List (Nat × T × TypeId) → List AO → (Tips) → Prop
  | [], _, _, _, t, h, u => Q ⟨N, t, h, u⟩
  | _ :: _, [], _, _, _, _, _ => False
  | o :: rest, (bef, ks) :: tab, i, db, t, h, u =>
    dstOk ⟨N, [], [], u⟩ o.dst = true ∧ ((∃ x, (∀ h u, Ev P N l o (pickOut ks (selD db bef ++ t0)) h u x h u) ∧ DP P S E N l t0 Q rest tab (i + 1) (addD i o.dst x db) (addT o.dst x t) h u) ∨
    (memB S i = true ∧ ∃ x h' u', Ev P N l o (pickOut ks (selD db bef ++ t0)) h u x h' u' ∧ (memB E i = true ∨ (h' = h ∧ u' = u)) ∧ DP P S E N l t0 Q rest tab (i + 1) (addD i o.dst x db) (addT o.dst x t) h' u'))

def chkKs (l : List Oper) : List Oper → List (List Nat × List Nat) → Bool
  | [], [] => true
  | o :: os, (_, ks) :: tab => ks.all (slotsG l o).contains && chkKs l os tab
  | _, _ => false
theorem Ev.weaken {N : Nat} {l : List Oper} {o : Oper} {t t' : List (Nat × T × TypeId)} {h h' : List AO} {u u' : Tips} {x : X} (hw : ∀ k y, lk t' k = some y → lk t k = some y) (he : Ev P N l o t' h u x h' u') : Ev P N l o t h u x h' u' := by
  unfold Ev at he ⊢
  cases hg : o.guard with
  | none =>
    rw [hg] at he
    exact OPE.weaken (σ := ⟨N, t, h, u⟩) (σ' := ⟨N, t', h, u⟩) ⟨rfl, hw, rfl, rfl⟩ he
  | some gw =>
    obtain ⟨j, want⟩ := gw
    rw [hg] at he
    obtain ⟨k, b, ty, h1, h2, h3⟩ := he
    refine ⟨k, b, ty, h1, hw _ _ h2, ?_⟩
    rcases h3 with ⟨h4, h5⟩ | h4
    · exact .inl ⟨h4, OPE.weaken (σ := ⟨N, t, h, u⟩) (σ' := ⟨N, t', h, u⟩) ⟨rfl, hw, rfl, rfl⟩ h5⟩
    · exact .inr h4
theorem lk_pick_sub {ks ks' : List Nat} {t : List (Nat × T × TypeId)} (hs : ∀ k ∈ ks, k ∈ ks') {k : Nat} {x : X} (h : lk (pickOut ks t) k = some x) : lk (pickOut ks' t) k = some x := by
  obtain ⟨h1, h2⟩ := lk_pickOut h
  have key : ∀ {l : List Nat}, k ∈ l → lk (pickOut l t) k = some x := by
    intro l hl
    induction l with
    | nil => cases hl
    | cons a r ih =>
      simp only [pickOut]
      by_cases e : a = k
      · subst e
        rw [h2]
        simp [lk, Nat.beq_refl]
      · have hr : k ∈ r := by cases hl with | head => exact absurd rfl e | tail _ h => exact h
        have hb : Nat.beq a k = false := by
          cases hb : Nat.beq a k with
          | false => rfl
          | true => exact absurd (Nat.eq_of_beq_eq_true hb) e
        cases lk t a with
        | none => exact ih hr
        | some y => simp only [lk, hb]; exact ih hr
  exact key (hs k h1)

theorem DP.dops {S E : List Nat} {N : Nat} {l : List Oper} {t0 : List (Nat × T × TypeId)} {Q : St → Prop} (B : List (List Nat)) : ∀ (rest : List Oper) (tab : List (List Nat × List Nat)) (i : Nat) (done : List X) (h : List AO) (u : Tips),
    DP P S E N l t0 Q rest tab i (dbOf l done 0 []) (bindL (fun _ => true) l done 0 ++ t0) h u → done.length = i → (∀ j, rest[j]? = l[i + j]?) → (∀ j q, tab[j]? = some q → befs B (i + j) = q.1) → chkKs l rest tab = true → DOPS P B S E N l t0 Q rest i done h u
  | [], tab, i, done, h, u => fun hd _ _ _ _ => hd
  | o :: rest, [], i, done, h, u => fun hd _ _ _ _ => by simp only [DP] at hd
  | o :: rest, (bef, ks) :: tab, i, done, h, u => fun hd hl hr ht hk => by
    simp only [DP] at hd
    simp only [chkKs, Bool.and_eq_true, List.all_eq_true, List.contains_iff_mem] at hk
    obtain ⟨hdst, hd⟩ := hd
    have ho : l[done.length]? = some o := by have := hr 0; rw [hl]; simpa using this.symm
    have hr' : ∀ j, rest[j]? = l[i + 1 + j]? := fun j => by
      have := hr (j + 1)
      simp only [List.getElem?_cons_succ] at this
      rw [this]; congr 1; omega
    have ht' : ∀ j q, tab[j]? = some q → befs B (i + 1 + j) = q.1 := fun j q hj => by
      have := ht (j + 1) q (by simpa using hj)
      rwa [show i + (j + 1) = i + 1 + j by omega] at this
    have hb : befs B i = bef := by have := ht 0 (bef, ks) rfl; simpa using this
    have henv : ∀ k y, lk (pickOut ks (selD (dbOf l done 0 []) bef ++ t0)) k = some y → lk (env B l t0 o i done) k = some y := fun k y h => by
      rw [selD_dbOf, selD, List.append_nil] at h
      unfold env
      rw [hb]
      exact lk_pick_sub hk.1 h
    have e1 : ∀ x, addD i o.dst x (dbOf l done 0 []) = dbOf l (done ++ [x]) 0 [] := fun x => by
      rw [dbOf_snoc l done 0 [] o x ho, hl]; simp
    have e2 : ∀ x, addT o.dst x (bindL (fun _ => true) l done 0 ++ t0) = bindL (fun _ => true) l (done ++ [x]) 0 ++ t0 := fun x => by
      rw [bindL_snoc l done 0 o x ho, addT_append]
    simp only [DOPS]
    refine ⟨hdst, ?_⟩
    rcases hd with ⟨x, hx, hd⟩ | ⟨hS, x, h', u', hx, hE, hd⟩
    · rw [e1, e2] at hd
      have := DP.dops B rest tab (i + 1) (done ++ [x]) h u hd (by simp [hl]) hr' ht' hk.2
      cases hc : S.contains i with
      | false => exact .inl ⟨rfl, x, fun h u => (hx h u).weaken henv, this⟩
      | true => exact .inr ⟨rfl, x, h, u, (hx h u).weaken henv, fun _ => ⟨rfl, rfl⟩, this⟩
    · rw [e1, e2] at hd
      have := DP.dops B rest tab (i + 1) (done ++ [x]) h' u' hd (by simp [hl]) hr' ht' hk.2
      refine .inr ⟨by rw [← memB_iff]; exact hS, x, h', u', hx.weaken henv, fun hc => ?_, this⟩
      rcases hE with hE | hE
      · rw [memB_iff, hc] at hE; cases hE
      · exact hE

theorem AW.drawP {id N : Nat} {l : List Oper} {t0 : List (Nat × T × TypeId)} {H : List AO} {U : Tips} {Q : Exit → St → Prop} (tab : List (List Nat × List Nat)) (S E : List Nat) (hm : P.follows .mixedOrders = true)
    (hchk : (chkAll (tab.map (·.1)) S E l && chkKs l l tab) = true) (h : DP P S E N l t0 (fun σ' => Q .normal σ') l tab 0 [] t0 H U) : AW P (.region id l.toArray true) ⟨N, t0, H, U⟩ Q := by
  rw [Bool.and_eq_true] at hchk
  refine AW.draw hm hchk.1 (DP.dops (tab.map (·.1)) l tab 0 [] H U ?_ rfl (by simp) (fun j q hj => ?_) hchk.2)
  · have e1 : dbOf l [] 0 [] = [] := by cases l <;> rfl
    have e2 : bindL (fun _ => true) l [] 0 = [] := by cases l <;> rfl
    rw [e1, e2, List.nil_append]; exact h
  · rw [Nat.zero_add]
    simp [befs, List.getD_eq_getElem?_getD, hj]
end Go.Am
