/- A layer over the walk's rules. This text: a region that draws its order. -/
import Derived.Test.YtlpakbhlpgpiaaaAmD
import Derived.Orders
set_option linter.unusedVariables false
set_option linter.unusedSimpArgs false
namespace Go.Am
variable {P : Program}

/-- Less of a state is known: what an operation looks at is enough. -/
theorem OPE.weaken {o : Oper} {σ σ' : St} {Kp : X → List AO → (Tips) → Prop} (hw : Weak σ σ') (h : OPE P o σ' Kp) : OPE P o σ Kp := fun κ a w next R hs hn =>
  h κ a w next R (hw.sr hs) fun κ' v x h' u' w' h1 h2 h3 h4 => hn κ' v x h' u' w' (by rw [hw.u] at h1; exact h1) h2 h3 h4

/-- The slots that an operation looks at. -/
def slots (o : Oper) : List Nat := o.op.operands.toList.filterMap fun | .tmp t => some t | _ => none

/-- What stands before an operation, over the edges. B: for each number the numbers before it. -/
def befs (B : List (List Nat)) (i : Nat) : List Nat := B.getD i []
def chkRow (B : List (List Nat)) (i : Nat) (o : Oper) : Bool :=
  (o.after.toList.all fun e => !Region.binds .any e || (Nat.blt e.on i && (befs B i).contains e.on && (befs B e.on).all (befs B i).contains)) &&
  ((befs B i).all fun j => o.after.toList.any fun e => Region.binds .any e && (Nat.beq e.on j || (befs B e.on).contains j))
def chkRows (B : List (List Nat)) : Nat → List Oper → Bool
  | _, [] => true
  | i, o :: os => chkRow B i o && chkRows B (i + 1) os
theorem chkRows_at {B : List (List Nat)} : ∀ {l : List Oper} {k : Nat}, chkRows B k l = true → ∀ i o, l[i]? = some o → chkRow B (k + i) o = true
  | [], _, _, i, o, h => by simp at h
  | a :: l, k, h, i, o, hi => by
    simp only [chkRows, Bool.and_eq_true] at h
    cases i with
    | zero => simp at hi; subst hi; exact h.1
    | succ i =>
      simp only [List.getElem?_cons_succ] at hi
      have := chkRows_at h.2 i o hi
      rwa [show k + 1 + i = k + (i + 1) by omega] at this

section
variable {B : List (List Nat)} {l : List Oper}
theorem row_edge (hB : chkRows B 0 l = true) {i : Nat} {o : Oper} (hi : l[i]? = some o) {e : Edge} (he : e ∈ o.after) (hb : Region.binds .any e = true) : e.on < i ∧ e.on ∈ befs B i ∧ ∀ j ∈ befs B e.on, j ∈ befs B i := by
  have h := chkRows_at hB i o hi
  rw [Nat.zero_add] at h
  simp only [chkRow, Bool.and_eq_true] at h
  have h1 := List.all_eq_true.1 h.1 e (by simpa using he)
  simp only [hb, Bool.not_true, Bool.false_or, Bool.and_eq_true, Nat.blt_eq, List.contains_iff_mem, List.all_eq_true] at h1
  exact ⟨h1.1.1, h1.1.2, h1.2⟩
theorem row_from (hB : chkRows B 0 l = true) {i : Nat} {o : Oper} (hi : l[i]? = some o) {j : Nat} (hj : j ∈ befs B i) : ∃ e ∈ o.after, Region.binds .any e = true ∧ (e.on = j ∨ j ∈ befs B e.on) := by
  have h := chkRows_at hB i o hi
  rw [Nat.zero_add] at h
  simp only [chkRow, Bool.and_eq_true] at h
  have h1 := List.all_eq_true.1 h.2 j hj
  obtain ⟨e, he, h2⟩ := List.any_eq_true.1 h1
  simp only [Bool.and_eq_true, Bool.or_eq_true, List.contains_iff_mem] at h2
  refine ⟨e, by simpa using he, h2.1, ?_⟩
  rcases h2.2 with h3 | h3
  · exact .inl (Nat.eq_of_beq_eq_true h3)
  · exact .inr h3

/-- What is listed is closed. -/
def Cl (l : List Oper) (L : Array Bool) : Prop := ∀ i o, l[i]? = some o → L.getD i false = true → ∀ e ∈ o.after, Region.binds .any e = true → L.getD e.on false = true
theorem cl_befs (hB : chkRows B 0 l = true) {L : Array Bool} (hC : Cl l L) : ∀ (i : Nat) (o : Oper), l[i]? = some o → (∀ e ∈ o.after, Region.binds .any e = true → L.getD e.on false = true) → ∀ j ∈ befs B i, L.getD j false = true := by
  intro i
  induction i using Nat.strongRecOn with
  | _ i ih =>
    intro o hi hall j hj
    obtain ⟨e, he, hb, h⟩ := row_from hB hi hj
    have hl := hall e he hb
    rcases h with rfl | h
    · exact hl
    · obtain ⟨h1, _, _⟩ := row_edge hB hi he hb
      cases ho : l[e.on]? with
      | none =>
        have : e.on < i := h1
        have := (List.getElem?_eq_some_iff.1 hi).1
        rw [List.getElem?_eq_none_iff] at ho
        omega
      | some o' => exact ih e.on h1 o' ho (fun e' he' hb' => hC e.on o' ho hl e' he' hb') j h

/-- The bindings that the listed operations have made, the last of the text first. -/
def bindL (L : Nat → Bool) : List Oper → List X → Nat → List (Nat × T × TypeId)
  | o :: os, x :: xs, i => bindL L os xs (i + 1) ++ (match L i, o.dst with | true, some d => [(d, x)] | _, _ => [])
  | _, _, _ => []
theorem lk_append (s t : List (Nat × T × TypeId)) (k : Nat) : lk (s ++ t) k = match lk s k with | some x => some x | none => lk t k := by
  induction s with
  | nil => rfl
  | cons b s ih =>
    obtain ⟨j, x⟩ := b
    simp only [List.cons_append, lk]
    cases Nat.beq j k with
    | true => rfl
    | false => exact ih
/-- Of what a slot holds two lists tell the same, if they have the same writers of it. -/
theorem bindL_same {L L' : Nat → Bool} {k : Nat} : ∀ {os : List Oper} {xs : List X} {i : Nat}, (∀ j o, os[j]? = some o → o.dst = some k → L (i + j) = L' (i + j)) → lk (bindL L os xs i) k = lk (bindL L' os xs i) k
  | [], xs, i => fun _ => by simp [bindL]
  | o :: os, [], i => fun _ => by simp [bindL]
  | o :: os, x :: xs, i => fun h => by
    simp only [bindL, lk_append]
    have e := bindL_same (L := L) (L' := L') (k := k) (os := os) (xs := xs) (i := i + 1) fun j o' hj hd => by
      have := h (j + 1) o' (by simpa using hj) hd
      rwa [show i + (j + 1) = i + 1 + j by omega] at this
    rw [e]
    cases lk (bindL L' os xs (i + 1)) k with
    | some y => rfl
    | none =>
      simp only []
      by_cases hd : o.dst = some k
      · have h0 := h 0 o rfl hd
        rw [Nat.add_zero] at h0
        rw [h0]
      · cases ho : o.dst with
        | none => cases L i <;> cases L' i <;> rfl
        | some d =>
          have hne : Nat.beq d k = false := by
            cases hb : Nat.beq d k with
            | false => rfl
            | true => exact absurd (by rw [ho, Nat.eq_of_beq_eq_true hb]) hd
          cases L i <;> cases L' i <;> simp [lk, hne]

/-- What an operation finds of what it looks at. -/
def pickOut (ks : List Nat) (t : List (Nat × T × TypeId)) : List (Nat × T × TypeId) :=
  match ks with
  | [] => []
  | k :: ks => match lk t k with
    | some x => (k, x) :: pickOut ks t
    | none => pickOut ks t
theorem lk_pickOut {t : List (Nat × T × TypeId)} {k : Nat} {x : X} : ∀ {ks : List Nat}, lk (pickOut ks t) k = some x → k ∈ ks ∧ lk t k = some x
  | [] => fun h => by simp [pickOut, lk] at h
  | j :: ks => fun h => by
    simp only [pickOut] at h
    cases hj : lk t j with
    | none =>
      rw [hj] at h
      obtain ⟨h1, h2⟩ := lk_pickOut h
      exact ⟨.tail _ h1, h2⟩
    | some y =>
      rw [hj] at h
      simp only [lk] at h
      cases hb : Nat.beq j k with
      | true =>
        rw [hb] at h
        have := Nat.eq_of_beq_eq_true hb
        subst this
        exact ⟨.head _, by rw [hj]; exact h⟩
      | false =>
        rw [hb] at h
        obtain ⟨h1, h2⟩ := lk_pickOut h
        exact ⟨.tail _ h1, h2⟩
end
end Go.Am
