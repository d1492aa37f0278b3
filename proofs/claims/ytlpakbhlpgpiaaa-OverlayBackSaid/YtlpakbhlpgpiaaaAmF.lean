/- A layer over the walk's rules. This text: a region that draws its order is walked in the order of the text. -/
import Derived.Test.YtlpakbhlpgpiaaaAmE
set_option linter.unusedVariables false
set_option linter.unusedSimpArgs false
namespace Go.Am
variable {P : Program}

def guardSlot (l : List Oper) (o : Oper) : List Nat := match o.guard with
  | some (j, _) => match (l[j]?).bind (·.dst) with
    | some t => [t]
    | none => []
  | none => []
def slotsG (l : List Oper) (o : Oper) : List Nat := slots o ++ guardSlot l o
def env (B : List (List Nat)) (l : List Oper) (t0 : List (Nat × T × TypeId)) (o : Oper) (i : Nat) (done : List X) : List (Nat × T × TypeId) :=
  pickOut (slotsG l o) (bindL (fun j => (befs B i).contains j) l done 0 ++ t0)

/-- An operation that leaves h and u as they are, in memory of which they are known. -/
def EvS (P : Program) (N : Nat) (o : Oper) (t : List (Nat × T × TypeId)) (h : List AO) (u : Tips) (x : X) (h' : List AO) (u' : Tips) : Prop :=
  OPE P o ⟨N, t, h, u⟩ fun x' h2 u2 => x' = x ∧ h2 = h' ∧ u2 = u'
def Ev (P : Program) (N : Nat) (l : List Oper) (o : Oper) (t : List (Nat × T × TypeId)) (h : List AO) (u : Tips) (x : X) (h' : List AO) (u' : Tips) : Prop :=
  match o.guard with
  | none => EvS P N o t h u x h' u'
  | some (j, want) => ∃ k y ty, (l[j]?).bind (·.dst) = some k ∧ lk t k = some (y, ty) ∧ ((y = .s (.bool want) ∧ EvS P N { o with guard := none } t h u x h' u') ∨ ((y = .s (.bool !want) ∨ y = .any) ∧ x = (.any, 0) ∧ h' = h ∧ u' = u))

/-- The operations of a region that draws, one by one, in the order of the text. S: those that look at memory or change it; E: those that change it. -/
def DOPS (P : Program) (B : List (List Nat)) (S E : List Nat) (N : Nat) (l : List Oper) (t0 : List (Nat × T × TypeId)) (Q : St → Prop) : List Oper → Nat → List X → List AO → (Tips) → Prop
  | [], _, done, h, u => Q ⟨N, bindL (fun _ => true) l done 0 ++ t0, h, u⟩
  | o :: rest, i, done, h, u =>
    dstOk ⟨N, [], [], u⟩ o.dst = true ∧ ((S.contains i = false ∧ ∃ x, (∀ h u, Ev P N l o (env B l t0 o i done) h u x h u) ∧ DOPS P B S E N l t0 Q rest (i + 1) (done ++ [x]) h u) ∨
    (S.contains i = true ∧ ∃ x h' u', Ev P N l o (env B l t0 o i done) h u x h' u' ∧ (E.contains i = false → h' = h ∧ u' = u) ∧ DOPS P B S E N l t0 Q rest (i + 1) (done ++ [x]) h' u'))

/-- All that the test asks of a region. -/
def slotsC (l : List Oper) (o : Oper) : List Nat := slotsG l o ++ o.dst.toList
def cmpB (B : List (List Nat)) (i j : Nat) : Bool := Nat.beq i j || (befs B i).contains j || (befs B j).contains i
def chkCmp (B : List (List Nat)) (l : List Oper) : Bool :=
  (List.range l.length).all fun i => match l[i]? with
    | some o => (slotsC l o).all fun k => (List.range l.length).all fun j => match l[j]? with
      | some o' => match o'.dst with
        | some d => !Nat.beq d k || cmpB B i j
        | none => true
      | none => true
    | none => true
def chkMem (B : List (List Nat)) (S E : List Nat) : Bool := E.all fun e => S.contains e && S.all fun s => cmpB B e s
def chkAll (B : List (List Nat)) (S E : List Nat) (l : List Oper) : Bool := chkRows B 0 l && chkCmp B l && chkMem B S E

theorem cmpB_iff {B : List (List Nat)} {i j : Nat} (h : cmpB B i j = true) : i = j ∨ j ∈ befs B i ∨ i ∈ befs B j := by
  simp only [cmpB, Bool.or_eq_true, List.contains_iff_mem] at h
  rcases h with (h | h) | h
  · exact .inl (Nat.eq_of_beq_eq_true h)
  · exact .inr (.inl h)
  · exact .inr (.inr h)
theorem cmp_of {B : List (List Nat)} {l : List Oper} (h : chkCmp B l = true) {i j k : Nat} {o o' : Oper} (hi : l[i]? = some o) (hk : k ∈ slotsC l o) (hj : l[j]? = some o') (hd : o'.dst = some k) : i = j ∨ j ∈ befs B i ∨ i ∈ befs B j := by
  have hil := (List.getElem?_eq_some_iff.1 hi).1
  have hjl := (List.getElem?_eq_some_iff.1 hj).1
  have h1 := List.all_eq_true.1 h i (List.mem_range.2 hil)
  rw [hi] at h1
  have h2 := List.all_eq_true.1 (List.all_eq_true.1 h1 k hk) j (List.mem_range.2 hjl)
  rw [hj] at h2
  simp only [hd] at h2
  simp only [Nat.beq_refl, Bool.not_true, Bool.false_or] at h2
  exact cmpB_iff h2

/-- What the steps are: each operation's outcome, memory before each. -/
theorem DOPS.outs {B : List (List Nat)} {S E : List Nat} {N : Nat} {l : List Oper} {t0 : List (Nat × T × TypeId)} {Q : St → Prop} : ∀ (rest : List Oper) (i : Nat) (done : List X) (h : List AO) (u : Tips), DOPS P B S E N l t0 Q rest i done h u → done.length = i → (∀ j, rest[j]? = l[i + j]?) →
    ∃ (outs : List X) (M : Nat → List AO × (Tips)), outs.length = i + rest.length ∧ outs.take i = done ∧ M i = (h, u) ∧
      (∀ j o, i ≤ j → l[j]? = some o → dstOk ⟨N, [], [], u⟩ o.dst = true ∧ ∃ x, outs[j]? = some x ∧
        ((S.contains j = false ∧ (∀ h u, Ev P N l o (env B l t0 o j (outs.take j)) h u x h u) ∧ M (j + 1) = M j) ∨
         (S.contains j = true ∧ Ev P N l o (env B l t0 o j (outs.take j)) (M j).1 (M j).2 x (M (j + 1)).1 (M (j + 1)).2 ∧ (E.contains j = false → M (j + 1) = M j)))) ∧
      Q ⟨N, bindL (fun _ => true) l outs 0 ++ t0, (M (i + rest.length)).1, (M (i + rest.length)).2⟩
  | [], i, done, h, u => fun hd hl hr => by
    refine ⟨done, fun _ => (h, u), by simpa using hl, by rw [← hl]; simp, rfl, fun j o hij hj => ?_, hd⟩
    have h1 := hr (j - i)
    rw [show i + (j - i) = j by omega, hj] at h1
    simp at h1
  | o :: rest, i, done, h, u => fun hd hl hr => by
    simp only [DOPS] at hd
    have hr' : ∀ j, rest[j]? = l[i + 1 + j]? := fun j => by
      have := hr (j + 1)
      simp only [List.getElem?_cons_succ] at this
      rw [this]; congr 1; omega
    have ho : l[i]? = some o := by have := hr 0; simpa using this.symm
    obtain ⟨hdst, hd⟩ := hd
    rcases hd with ⟨hS, x, hx, hd⟩ | ⟨hS, x, h', u', hx, hE, hd⟩
    · obtain ⟨outs, M, q1, q2, q3, q4, q5⟩ := DOPS.outs rest (i + 1) (done ++ [x]) h u hd (by simp [hl]) hr'
      have hlen : i < outs.length := by omega
      have htake : outs.take i = done := by
        have := congrArg (List.take i) q2
        rw [List.take_take, Nat.min_eq_left (by omega)] at this
        rw [this, ← hl]; simp
      have hxi : outs[i]? = some x := by
        have : (outs.take (i + 1))[i]? = some x := by rw [q2, ← hl]; simp
        rw [List.getElem?_take_of_lt (by omega)] at this; exact this
      obtain ⟨M', hM0, hM1⟩ : ∃ M' : Nat → List AO × (Tips), M' i = (h, u) ∧ ∀ j, j ≠ i → M' j = M j := ⟨fun j => if j = i then (h, u) else M j, if_pos rfl, fun j hj => if_neg hj⟩
      refine ⟨outs, M', by simp at q1 ⊢; omega, htake, hM0, fun j o' hij hj => ?_, ?_⟩
      · by_cases e : j = i
        · subst e
          rw [ho] at hj
          cases hj
          refine ⟨hdst, x, hxi, ?_⟩
          rw [hM0, hM1 (j + 1) (by omega), q3, htake]
          exact .inl ⟨hS, hx, rfl⟩
        · obtain ⟨r0, x', r1, r2⟩ := q4 j o' (by omega) hj
          refine ⟨r0, x', r1, ?_⟩
          rw [hM1 j e, hM1 (j + 1) (by omega)]
          exact r2
      · simp only [List.length_cons]
        rw [hM1 _ (by omega), show i + (rest.length + 1) = i + 1 + rest.length by omega]; exact q5
    · obtain ⟨outs, M, q1, q2, q3, q4, q5⟩ := DOPS.outs rest (i + 1) (done ++ [x]) h' u' hd (by simp [hl]) hr'
      have hlen : i < outs.length := by omega
      have htake : outs.take i = done := by
        have := congrArg (List.take i) q2
        rw [List.take_take, Nat.min_eq_left (by omega)] at this
        rw [this, ← hl]; simp
      have hxi : outs[i]? = some x := by
        have : (outs.take (i + 1))[i]? = some x := by rw [q2, ← hl]; simp
        rw [List.getElem?_take_of_lt (by omega)] at this; exact this
      obtain ⟨M', hM0, hM1⟩ : ∃ M' : Nat → List AO × (Tips), M' i = (h, u) ∧ ∀ j, j ≠ i → M' j = M j := ⟨fun j => if j = i then (h, u) else M j, if_pos rfl, fun j hj => if_neg hj⟩
      refine ⟨outs, M', by simp at q1 ⊢; omega, htake, hM0, fun j o' hij hj => ?_, ?_⟩
      · by_cases e : j = i
        · subst e
          rw [ho] at hj
          cases hj
          refine ⟨hdst, x, hxi, ?_⟩
          rw [hM0, hM1 (j + 1) (by omega), q3, htake]
          exact .inr ⟨hS, hx, fun hE' => by obtain ⟨a1, a2⟩ := hE hE'; rw [a1, a2]⟩
        · obtain ⟨r0, x', r1, r2⟩ := q4 j o' (by omega) hj
          refine ⟨r0, x', r1, ?_⟩
          rw [hM1 j e, hM1 (j + 1) (by omega)]
          exact r2
      · simp only [List.length_cons]
        rw [hM1 _ (by omega), show i + (rest.length + 1) = i + 1 + rest.length by omega]; exact q5
end Go.Am
