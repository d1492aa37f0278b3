/- A layer over the walk's rules. This text: parts of a tree, read and written. -/
import Derived.Test.YtlpakbhlpgpiaaaAm2
namespace Go.Am

/-- What the types' table has to fulfil. -/
structure WfP (P : Program) : Prop where
  field : ∀ ty fs, ty < P.types.size → P.underlying ty = some (.struct fs) → ∀ (i : Nat) (f : Field), fs[i]? = some f → f.type < P.types.size ∧ f.offset + szOf P f.type ≤ szOf P ty
  apart : ∀ ty fs, ty < P.types.size → P.underlying ty = some (.struct fs) → ∀ (i j : Nat) (f g : Field), i < j → fs[i]? = some f → fs[j]? = some g → f.offset + szOf P f.type ≤ g.offset
  arr : ∀ ty n e, ty < P.types.size → P.underlying ty = some (.array n e) → e < P.types.size ∧ szOf P ty = n * szOf P e
  sli : ∀ ty e, ty < P.types.size → P.underlying ty = some (.slice e) → e < P.types.size
  size : ∀ ty, ty < P.types.size → ∃ i, P.info? ty = some i ∧ i.size = szOf P ty

def T.kids : T → List T
  | .st fs => fs
  | .arr xs => xs
  | _ => []
def T.get : T → List Nat → Option T
  | t, [] => some t
  | t, i :: r => match t.kids[i]? with
    | some x => T.get x r
    | none => none
def T.put : T → List Nat → T → Option T
  | _, [], x => some x
  | .st fs, i :: r, x => match fs[i]? with
    | some y => match T.put y r x with
      | some z => some (.st (fs.set i z))
      | none => none
    | none => none
  | .arr xs, i :: r, x => match xs[i]? with
    | some y => match T.put y r x with
      | some z => some (.arr (xs.set i z))
      | none => none
    | none => none
  | _, _ :: _, _ => none

def splice (vs : List Value) (o : Nat) (us : List Value) : List Value := vs.take o ++ us ++ vs.drop (o + us.length)
theorem splice_length {vs us : List Value} {o : Nat} (h : o + us.length ≤ vs.length) : (splice vs o us).length = vs.length := by
  simp [splice]; omega
theorem splice_get {vs us : List Value} {o : Nat} (h : o + us.length ≤ vs.length) (j : Nat) :
    (splice vs o us)[j]? = if j < o then vs[j]? else if j < o + us.length then us[j - o]? else vs[j]? := by
  unfold splice
  by_cases h1 : j < o
  · rw [if_pos h1, List.append_assoc, List.getElem?_append_left (by simp; omega), List.getElem?_take_of_lt h1]
  · rw [if_neg h1]
    by_cases h2 : j < o + us.length
    · rw [if_pos h2, List.getElem?_append_left (by simp; omega), List.getElem?_append_right (by simp; omega)]
      congr 1
      simp; omega
    · rw [if_neg h2, List.getElem?_append_right (by simp; omega), List.getElem?_drop]
      congr 1
      simp; omega
theorem part_get (vs : List Value) (o n j : Nat) : ((vs.drop o).take n)[j]? = if j < n then vs[o + j]? else none := by
  by_cases h : j < n
  · rw [if_pos h, List.getElem?_take_of_lt h, List.getElem?_drop]
  · rw [if_neg h, List.getElem?_take_eq_none (by omega)]
/-- A part of what a splice lies beside. -/
theorem splice_beside {vs us : List Value} {o : Nat} (h : o + us.length ≤ vs.length) {a n : Nat} (hb : a + n ≤ o ∨ o + us.length ≤ a) :
    ((splice vs o us).drop a).take n = (vs.drop a).take n := by
  apply List.ext_getElem?
  intro j
  rw [part_get, part_get]
  by_cases hj : j < n
  · rw [if_pos hj, if_pos hj, splice_get h]
    by_cases h1 : a + j < o
    · rw [if_pos h1]
    · rw [if_neg h1, if_neg (by omega)]
  · rw [if_neg hj, if_neg hj]
/-- A part that holds the splice. -/
theorem splice_inside {vs us : List Value} {a n b : Nat} (h : a + n ≤ vs.length) (hb : b + us.length ≤ n) :
    ((splice vs (a + b) us).drop a).take n = splice ((vs.drop a).take n) b us := by
  apply List.ext_getElem?
  intro j
  rw [part_get, splice_get (by omega), splice_get (by simp; omega)]
  by_cases hj : j < n
  · rw [if_pos hj]
    by_cases h1 : j < b
    · rw [if_pos (by omega), if_pos h1, part_get, if_pos hj]
    · rw [if_neg (by omega), if_neg h1]
      by_cases h2 : j < b + us.length
      · rw [if_pos (by omega), if_pos h2]; congr 1; omega
      · rw [if_neg (by omega), if_neg h2, part_get, if_pos hj]
  · rw [if_neg hj]
    rw [if_neg (by omega), if_neg (by omega), part_get, if_neg hj]
theorem splice_one {vs us : List Value} {o : Nat} (h : ∀ v ∈ vs, one v = true) (k : ∀ v ∈ us, one v = true) : ∀ v ∈ splice vs o us, one v = true := by
  intro v hv
  simp only [splice, List.mem_append] at hv
  rcases hv with (hv | hv) | hv
  · exact h v (List.mem_of_mem_take hv)
  · exact k v hv
  · exact h v (List.mem_of_mem_drop hv)
theorem splice_whole {vs us : List Value} (h : us.length = vs.length) : splice vs 0 us = us := by
  simp [splice, h]
theorem part_part (vs : List Value) (a n b m : Nat) (h : b + m ≤ n) : (((vs.drop a).take n).drop b).take m = (vs.drop (a + b)).take m := by
  apply List.ext_getElem?
  intro j
  rw [part_get, part_get, part_get]
  by_cases hj : j < m
  · rw [if_pos hj, if_pos hj, if_pos (by omega)]; congr 1; omega
  · rw [if_neg hj, if_neg hj]

section
variable {P : Program} {κ : K}

theorem VF_get : ∀ {ts : List T} {fs : List Field} {vs : List Value} {i : Nat} {t : T}, VF P κ ts fs vs → ts[i]? = some t → ∃ f, fs[i]? = some f ∧ VT P κ t f.type ((vs.drop f.offset).take (szOf P f.type))
  | [], _, _, _, _ => fun _ h => by simp at h
  | _ :: _, [], _, _, _ => fun h => by simp only [VF] at h
  | a :: ts, f :: fs, vs, 0, t => fun h e => by
    simp only [VF] at h
    simp at e; subst e
    exact ⟨f, rfl, h.1⟩
  | a :: ts, f :: fs, vs, i + 1, t => fun h e => by
    simp only [VF] at h
    simp only [List.getElem?_cons_succ] at e ⊢
    exact VF_get h.2 e
theorem VF_len : ∀ {ts : List T} {fs : List Field} {vs : List Value}, VF P κ ts fs vs → ts.length = fs.length
  | [], [], _ => fun _ => rfl
  | [], _ :: _, _ => fun h => by simp only [VF] at h
  | _ :: _, [], _ => fun h => by simp only [VF] at h
  | _ :: ts, _ :: fs, vs => fun h => by simp only [VF] at h; simp [VF_len h.2]
theorem VF_of : ∀ {ts : List T} {fs : List Field} {vs : List Value}, ts.length = fs.length → (∀ (i : Nat) (t : T) (f : Field), ts[i]? = some t → fs[i]? = some f → VT P κ t f.type ((vs.drop f.offset).take (szOf P f.type))) → VF P κ ts fs vs
  | [], [], _ => fun _ _ => by simp only [VF]
  | [], _ :: _, _ => fun h => by simp at h
  | _ :: _, [], _ => fun h => by simp at h
  | a :: ts, f :: fs, vs => fun h hh => by
    simp only [VF]
    exact ⟨hh 0 a f rfl rfl, VF_of (by simpa using h) fun i t g h1 h2 => hh (i + 1) t g (by simpa using h1) (by simpa using h2)⟩
theorem VA_len : ∀ {xs : List T} {e : TypeId} {vs : List Value}, VA P κ xs e vs → vs.length = xs.length * szOf P e
  | [], e, vs => fun h => by simp only [VA] at h; subst h; simp
  | x :: xs, e, vs => fun h => by
    simp only [VA] at h
    have := VA_len h.2.2
    simp only [List.length_drop, List.length_cons, Nat.succ_mul] at this ⊢
    omega
theorem VA_get : ∀ {xs : List T} {e : TypeId} {vs : List Value} {i : Nat} {t : T}, VA P κ xs e vs → xs[i]? = some t → VT P κ t e ((vs.drop (i * szOf P e)).take (szOf P e)) ∧ i * szOf P e + szOf P e ≤ vs.length
  | [], _, _, _, _ => fun _ h => by simp at h
  | x :: xs, e, vs, 0, t => fun h hi => by
    simp only [VA] at h
    simp at hi; subst hi
    exact ⟨by simpa using h.2.1, by simpa using h.1⟩
  | x :: xs, e, vs, i + 1, t => fun h hi => by
    simp only [VA] at h
    simp only [List.getElem?_cons_succ] at hi
    obtain ⟨h1, h2⟩ := VA_get h.2.2 hi
    rw [List.drop_drop] at h1
    simp only [List.length_drop] at h2
    refine ⟨by rw [Nat.succ_mul, Nat.add_comm (i * _)]; exact h1, ?_⟩
    have := h.1
    rw [Nat.succ_mul]; omega
theorem VA_append : ∀ {xs ys : List T} {e : TypeId} {us vs : List Value}, VA P κ xs e us → VA P κ ys e vs → VA P κ (xs ++ ys) e (us ++ vs)
  | [], ys, e, us, vs => fun h k => by simp only [VA] at h; subst h; exact k
  | x :: xs, ys, e, us, vs => fun h k => by
    simp only [VA, List.cons_append] at h ⊢
    refine ⟨by simp; omega, ?_, ?_⟩
    · rw [List.take_append_of_le_length h.1]; exact h.2.1
    · rw [List.drop_append_of_le_length h.1]; exact VA_append h.2.2 k
theorem VA_take : ∀ {xs : List T} {e : TypeId} {us : List Value} (k : Nat), VA P κ xs e us → VA P κ (xs.take k) e (us.take (k * szOf P e))
  | [], e, us, k => fun h => by simp only [VA] at h; subst h; simp [VA]
  | x :: xs, e, us, 0 => fun h => by simp [VA]
  | x :: xs, e, us, k + 1 => fun h => by
    simp only [VA, List.take_succ_cons] at h ⊢
    refine ⟨by rw [List.length_take, Nat.succ_mul]; omega, ?_, ?_⟩
    · rw [List.take_take, Nat.min_eq_left (by rw [Nat.succ_mul]; omega)]; exact h.2.1
    · have := VA_take k h.2.2
      rw [List.drop_take, show (k + 1) * szOf P e - szOf P e = k * szOf P e by rw [Nat.succ_mul]; omega]
      exact this
theorem VA_drop : ∀ {xs : List T} {e : TypeId} {us : List Value} (k : Nat), VA P κ xs e us → VA P κ (xs.drop k) e (us.drop (k * szOf P e))
  | [], e, us, k => fun h => by simp only [VA] at h; subst h; simp [VA]
  | x :: xs, e, us, 0 => fun h => by simpa using h
  | x :: xs, e, us, k + 1 => fun h => by
    simp only [VA, List.drop_succ_cons] at h ⊢
    have := VA_drop k h.2.2
    rw [List.drop_drop] at this
    rw [Nat.succ_mul, Nat.add_comm (k * _)]; exact this
theorem VA_of_get : ∀ {xs : List T} {e : TypeId} {vs : List Value}, vs.length = xs.length * szOf P e → (∀ (i : Nat) (t : T), xs[i]? = some t → VT P κ t e ((vs.drop (i * szOf P e)).take (szOf P e))) → VA P κ xs e vs
  | [], e, vs => fun h _ => by simp only [VA]; simpa using h
  | x :: xs, e, vs => fun h hh => by
    simp only [VA]
    simp only [List.length_cons, Nat.succ_mul] at h
    refine ⟨by omega, by simpa using hh 0 x rfl, VA_of_get (by simp; omega) fun i t hi => ?_⟩
    have := hh (i + 1) t (by simpa using hi)
    rw [List.drop_drop, Nat.add_comm (szOf P e), ← Nat.succ_mul]
    exact this
theorem VA_set {xs : List T} {e : TypeId} {vs us : List Value} {i : Nat} {t : T} (h : VA P κ xs e vs) (hi : i < xs.length) (ht : VT P κ t e us) (hl : us.length = szOf P e) :
    VA P κ (xs.set i t) e (splice vs (i * szOf P e) us) := by
  have hlen := VA_len h
  have hle : i * szOf P e + szOf P e ≤ vs.length := (VA_get h (List.getElem?_eq_getElem hi)).2
  refine VA_of_get (by rw [splice_length (by omega)]; simpa using hlen) fun k x hk => ?_
  rw [List.getElem?_set] at hk
  by_cases e1 : i = k
  · subst e1
    rw [if_pos rfl, if_pos hi] at hk
    cases hk
    have := splice_inside (vs := vs) (us := us) (a := i * szOf P e) (n := szOf P e) (b := 0) hle (by omega)
    rw [Nat.add_zero] at this
    rw [this, splice_whole (by simp; omega)]
    exact ht
  · rw [if_neg e1] at hk
    have hkx := VA_get h hk
    rw [splice_beside (by omega)]
    · exact hkx.1
    · rw [hl]
      rcases Nat.lt_or_ge k i with h1 | h1
      · left
        have := Nat.mul_le_mul_right (szOf P e) (show k + 1 ≤ i from h1)
        rw [Nat.succ_mul] at this
        omega
      · right
        have := Nat.mul_le_mul_right (szOf P e) (show i + 1 ≤ k by omega)
        rw [Nat.succ_mul] at this
        omega
theorem VF_set {ts : List T} {fs : List Field} {vs us : List Value} {i : Nat} {t : T} {f : Field} {n : Nat} (h : VF P κ ts fs vs) (hi : fs[i]? = some f) (hn : vs.length = n)
    (hw : ∀ (i : Nat) (f : Field), fs[i]? = some f → f.offset + szOf P f.type ≤ n) (ha : ∀ (i j : Nat) (f g : Field), i < j → fs[i]? = some f → fs[j]? = some g → f.offset + szOf P f.type ≤ g.offset)
    (ht : VT P κ t f.type us) (hl : us.length = szOf P f.type) : VF P κ (ts.set i t) fs (splice vs f.offset us) := by
  have hle := hw i f hi
  refine VF_of (by simpa using VF_len h) fun k x g hk hg => ?_
  rw [List.getElem?_set] at hk
  by_cases e1 : i = k
  · subst e1
    have hgf : g = f := by rw [hg] at hi; exact Option.some.inj hi
    subst hgf
    split at hk
    · split at hk
      · cases hk
        have := splice_inside (vs := vs) (us := us) (a := g.offset) (n := szOf P g.type) (b := 0) (by omega) (by omega)
        rw [Nat.add_zero] at this
        rw [this, splice_whole (by simp; omega)]
        exact ht
      · cases hk
    · exact absurd rfl ‹_›
  · rw [if_neg e1] at hk
    obtain ⟨g', hg', hx⟩ := VF_get h hk
    rw [hg] at hg'
    cases hg'
    rw [splice_beside (by omega)]
    · exact hx
    · rw [hl]
      rcases Nat.lt_or_ge k i with h1 | h1
      · exact .inl (ha k i g f h1 hg hi)
      · exact .inr (ha i k f g (by omega) hi hg)

theorem VT_get (hP : WfP P) : ∀ {path : List Nat} {t x : T} {ty ty' : TypeId} {o : Nat} {vs : List Value}, ty < P.types.size → VT P κ t ty vs → vs.length = szOf P ty → walkPath P ty path = some (o, ty') → t.get path = some x →
    VT P κ x ty' ((vs.drop o).take (szOf P ty')) ∧ o + szOf P ty' ≤ vs.length ∧ ty' < P.types.size
  | [], t, x, ty, ty', o, vs => fun hty h hl hw hx => by
    simp only [walkPath, Option.some.injEq, Prod.mk.injEq] at hw
    obtain ⟨rfl, rfl⟩ := hw
    simp only [T.get, Option.some.injEq] at hx
    subst hx
    refine ⟨?_, by omega, hty⟩
    rw [List.drop_zero, List.take_of_length_le (by omega)]; exact h
  | i :: r, t, x, ty, ty', o, vs => fun hty h hl hw hx => by
    simp only [walkPath] at hw
    cases hs : stepPath P ty i with
    | none => rw [hs] at hw; cases hw
    | some q =>
      obtain ⟨o1, t1⟩ := q
      rw [hs] at hw
      simp only at hw
      cases hw2 : walkPath P t1 r with
      | none => rw [hw2] at hw; cases hw
      | some q2 =>
        obtain ⟨o2, t2⟩ := q2
        rw [hw2] at hw
        simp only [Option.some.injEq, Prod.mk.injEq] at hw
        obtain ⟨rfl, rfl⟩ := hw
        simp only [T.get] at hx
        cases hk : t.kids[i]? with
        | none => rw [hk] at hx; cases hx
        | some y =>
          rw [hk] at hx
          have key : VT P κ y t1 ((vs.drop o1).take (szOf P t1)) ∧ o1 + szOf P t1 ≤ vs.length ∧ t1 < P.types.size := by
            cases t with
            | st fs =>
              simp only [VT] at h
              obtain ⟨fields, h1, h2, h2', h3⟩ := h
              obtain ⟨f, hf, hv⟩ := VF_get h3 hk
              simp only [stepPath, h1] at hs
              have hf' : fields[i]? = some f := by simpa using hf
              rw [hf'] at hs
              simp only [Option.map_some, Option.some.injEq, Prod.mk.injEq] at hs
              obtain ⟨rfl, rfl⟩ := hs
              obtain ⟨w1, w2⟩ := hP.field ty fields hty h1 i f hf'
              exact ⟨hv, by omega, w1⟩
            | arr xs =>
              simp only [VT] at h
              obtain ⟨n, e, h1, h2, h3, h3', h4⟩ := h
              simp only [stepPath, h1] at hs
              have hi : i < n := by
                have := (List.getElem?_eq_some_iff.1 hk).1
                simp only [T.kids] at this
                omega
              rw [if_pos hi] at hs
              simp only [Option.some.injEq, Prod.mk.injEq] at hs
              obtain ⟨rfl, rfl⟩ := hs
              obtain ⟨hv, hle⟩ := VA_get h4 hk
              exact ⟨hv, hle, (hP.arr ty n e hty h1).1⟩
            | s v => simp [T.kids] at hk
            | lst xs tag => simp [T.kids] at hk
            | ptr b p => simp [T.kids] at hk
            | vw b o l c => simp [T.kids] at hk
            | ep a b => simp [T.kids] at hk
            | tup xs => simp [T.kids] at hk
            | fn f a b => simp [T.kids] at hk
            | ifc a b => simp [T.kids] at hk
            | any => simp [T.kids] at hk
          obtain ⟨k1, k2, k3⟩ := key
          obtain ⟨r1, r2, r3⟩ := VT_get hP k3 k1 (by simp; omega) hw2 hx
          have hlen : ((vs.drop o1).take (szOf P t1)).length = szOf P t1 := by simp; omega
          rw [hlen] at r2
          rw [part_part vs o1 _ o2 _ r2] at r1
          exact ⟨r1, by omega, r3⟩

theorem VT_put (hP : WfP P) : ∀ {path : List Nat} {t x z : T} {ty ty' : TypeId} {o : Nat} {vs us : List Value}, ty < P.types.size → VT P κ t ty vs → vs.length = szOf P ty → walkPath P ty path = some (o, ty') → t.put path x = some z →
    VT P κ x ty' us → us.length = szOf P ty' → (∀ v ∈ us, one v = true) → VT P κ z ty (splice vs o us) ∧ o + us.length ≤ vs.length
  | [], t, x, z, ty, ty', o, vs, us => fun hty h hl hw hz hx hlu ho => by
    simp only [walkPath, Option.some.injEq, Prod.mk.injEq] at hw
    obtain ⟨rfl, rfl⟩ := hw
    simp only [T.put, Option.some.injEq] at hz
    subst hz
    rw [splice_whole (by omega)]
    exact ⟨hx, by omega⟩
  | i :: r, t, x, z, ty, ty', o, vs, us => fun hty h hl hw hz hx hlu ho => by
    simp only [walkPath] at hw
    cases hs : stepPath P ty i with
    | none => rw [hs] at hw; cases hw
    | some q =>
      obtain ⟨o1, t1⟩ := q
      rw [hs] at hw
      simp only at hw
      cases hw2 : walkPath P t1 r with
      | none => rw [hw2] at hw; cases hw
      | some q2 =>
        obtain ⟨o2, t2⟩ := q2
        rw [hw2] at hw
        simp only [Option.some.injEq, Prod.mk.injEq] at hw
        obtain ⟨rfl, rfl⟩ := hw
        cases t with
        | st fs =>
          simp only [VT] at h
          obtain ⟨fields, h1, h2, h2', h3⟩ := h
          simp only [T.put] at hz
          cases hk : fs[i]? with
          | none => rw [hk] at hz; cases hz
          | some y =>
            rw [hk] at hz
            simp only at hz
            cases hp : y.put r x with
            | none => rw [hp] at hz; cases hz
            | some y' =>
              rw [hp] at hz
              simp only [Option.some.injEq] at hz
              subst hz
              obtain ⟨f, hf, hv⟩ := VF_get h3 hk
              simp only [stepPath, h1] at hs
              have hf' : fields[i]? = some f := by simpa using hf
              rw [hf'] at hs
              simp only [Option.map_some, Option.some.injEq, Prod.mk.injEq] at hs
              obtain ⟨rfl, rfl⟩ := hs
              obtain ⟨w1, w2⟩ := hP.field ty fields hty h1 i f hf'
              have hlen : ((vs.drop f.offset).take (szOf P f.type)).length = szOf P f.type := by simp; omega
              obtain ⟨r1, r2⟩ := VT_put hP w1 hv hlen hw2 hp hx hlu ho
              rw [hlen] at r2
              rw [← splice_inside (by omega) r2] at r1
              refine ⟨?_, by omega⟩
              simp only [VT]
              refine ⟨fields, h1, by rw [splice_length (by omega)]; exact h2, splice_one h2' ho, ?_⟩
              have := VF_set (us := ((splice vs (f.offset + o2) us).drop f.offset).take (szOf P f.type)) h3 hf hl (fun i f hi => (hP.field ty fields hty h1 i f (by simpa using hi)).2)
                (fun i j f g hij h6 h7 => hP.apart ty fields hty h1 i j f g hij (by simpa using h6) (by simpa using h7)) r1 (by simp [splice_length (show f.offset + o2 + us.length ≤ vs.length by omega)]; omega)
              have heq : splice vs f.offset (((splice vs (f.offset + o2) us).drop f.offset).take (szOf P f.type)) = splice vs (f.offset + o2) us := by
                have hl2 : (((splice vs (f.offset + o2) us).drop f.offset).take (szOf P f.type)).length = szOf P f.type := by simp [splice_length (show f.offset + o2 + us.length ≤ vs.length by omega)]; omega
                apply List.ext_getElem?
                intro j
                rw [splice_get (by omega), hl2]
                by_cases j1 : j < f.offset
                · rw [if_pos j1, splice_get (by omega), if_pos (by omega)]
                · rw [if_neg j1]
                  by_cases j2 : j < f.offset + szOf P f.type
                  · rw [if_pos j2, part_get, if_pos (by omega)]; congr 1; omega
                  · rw [if_neg j2, splice_get (by omega), if_neg (by omega), if_neg (by omega)]
              rw [heq] at this
              exact this
        | arr xs =>
          simp only [VT] at h
          obtain ⟨n, e, h1, h2, h3, h3', h4⟩ := h
          simp only [T.put] at hz
          cases hk : xs[i]? with
          | none => rw [hk] at hz; cases hz
          | some y =>
            rw [hk] at hz
            simp only at hz
            cases hp : y.put r x with
            | none => rw [hp] at hz; cases hz
            | some y' =>
              rw [hp] at hz
              simp only [Option.some.injEq] at hz
              subst hz
              have hi' : i < xs.length := (List.getElem?_eq_some_iff.1 hk).1
              have hi : i < n := by omega
              simp only [stepPath, h1] at hs
              rw [if_pos hi] at hs
              simp only [Option.some.injEq, Prod.mk.injEq] at hs
              obtain ⟨rfl, rfl⟩ := hs
              obtain ⟨hv, hle⟩ := VA_get h4 hk
              obtain ⟨w1, w2⟩ := hP.arr ty n e hty h1
              have hlen : ((vs.drop (i * szOf P e)).take (szOf P e)).length = szOf P e := by simp; omega
              obtain ⟨r1, r2⟩ := VT_put hP w1 hv hlen hw2 hp hx hlu ho
              rw [hlen] at r2
              rw [← splice_inside (by omega) r2] at r1
              refine ⟨?_, by omega⟩
              simp only [VT]
              refine ⟨n, e, h1, by simpa using h2, by rw [splice_length (by omega)]; exact h3, splice_one h3' ho, ?_⟩
              have hl2 : (((splice vs (i * szOf P e + o2) us).drop (i * szOf P e)).take (szOf P e)).length = szOf P e := by simp [splice_length (show i * szOf P e + o2 + us.length ≤ vs.length by omega)]; omega
              have := VA_set (us := ((splice vs (i * szOf P e + o2) us).drop (i * szOf P e)).take (szOf P e)) h4 hi' r1 hl2
              have heq : splice vs (i * szOf P e) (((splice vs (i * szOf P e + o2) us).drop (i * szOf P e)).take (szOf P e)) = splice vs (i * szOf P e + o2) us := by
                apply List.ext_getElem?
                intro j
                rw [splice_get (by omega), hl2]
                by_cases j1 : j < i * szOf P e
                · rw [if_pos j1, splice_get (by omega), if_pos (by omega)]
                · rw [if_neg j1]
                  by_cases j2 : j < i * szOf P e + szOf P e
                  · rw [if_pos j2, part_get, if_pos (by omega)]; congr 1; omega
                  · rw [if_neg j2, splice_get (by omega), if_neg (by omega), if_neg (by omega)]
              rw [heq] at this
              exact this
        | s v => simp [T.put] at hz
        | lst xs tag => simp [T.put] at hz
        | ptr b p => simp [T.put] at hz
        | vw b o l c => simp [T.put] at hz
        | ep a b => simp [T.put] at hz
        | tup xs => simp [T.put] at hz
        | fn f a b => simp [T.put] at hz
        | ifc a b => simp [T.put] at hz
        | any => simp [T.put] at hz

theorem VO_get (hP : WfP P) {path : List Nat} {t x : T} {ty : OTy} {ty' : TypeId} {o : Nat} {vs : List Value} (hty : ty.ok P) (h : VO P κ t ty vs) (hw : walkO P ty path = some (o, ty')) (hx : t.get path = some x) :
    VT P κ x ty' ((vs.drop o).take (szOf P ty')) ∧ o + szOf P ty' ≤ vs.length ∧ ty' < P.types.size := by
  cases ty with
  | one ty => exact VT_get hP hty h.1 h.2 hw hx
  | dead => cases path <;> cases hw
  | row e n =>
    obtain ⟨xs, rfl, h2, h3, h3', h4⟩ := h
    cases path with
    | nil => cases hw
    | cons i r =>
      simp only [walkO] at hw
      cases hi : Nat.blt i n with
      | false => rw [hi] at hw; cases hw
      | true =>
        rw [hi] at hw
        simp only at hw
        cases hw2 : walkPath P e r with
        | none => rw [hw2] at hw; cases hw
        | some q2 =>
          obtain ⟨o2, t2⟩ := q2
          rw [hw2] at hw
          simp only [Option.some.injEq, Prod.mk.injEq] at hw
          obtain ⟨rfl, rfl⟩ := hw
          simp only [T.get, T.kids] at hx
          cases hk : xs[i]? with
          | none => rw [hk] at hx; cases hx
          | some y =>
            rw [hk] at hx
            obtain ⟨hv, hle⟩ := VA_get h4 hk
            obtain ⟨r1, r2, r3⟩ := VT_get hP hty hv (by simp; omega) hw2 hx
            have hlen : ((vs.drop (i * szOf P e)).take (szOf P e)).length = szOf P e := by simp; omega
            rw [hlen] at r2
            rw [part_part vs _ _ o2 _ r2] at r1
            exact ⟨r1, by omega, r3⟩

theorem VO_put (hP : WfP P) {path : List Nat} {t x z : T} {ty : OTy} {ty' : TypeId} {o : Nat} {vs us : List Value} (hty : ty.ok P) (h : VO P κ t ty vs) (hw : walkO P ty path = some (o, ty')) (hz : t.put path x = some z)
    (hx : VT P κ x ty' us) (hlu : us.length = szOf P ty') (ho : ∀ v ∈ us, one v = true) : VO P κ z ty (splice vs o us) ∧ o + us.length ≤ vs.length := by
  cases ty with
  | one ty =>
    obtain ⟨r1, r2⟩ := VT_put hP hty h.1 h.2 hw hz hx hlu ho
    exact ⟨⟨r1, by rw [splice_length r2]; exact h.2⟩, r2⟩
  | dead => cases path <;> cases hw
  | row e n =>
    obtain ⟨xs, rfl, h2, h3, h3', h4⟩ := h
    cases path with
    | nil => cases hw
    | cons i r =>
      simp only [walkO] at hw
      cases hi : Nat.blt i n with
      | false => rw [hi] at hw; cases hw
      | true =>
        rw [hi] at hw
        simp only at hw
        cases hw2 : walkPath P e r with
        | none => rw [hw2] at hw; cases hw
        | some q2 =>
          obtain ⟨o2, t2⟩ := q2
          rw [hw2] at hw
          simp only [Option.some.injEq, Prod.mk.injEq] at hw
          obtain ⟨rfl, rfl⟩ := hw
          simp only [T.put] at hz
          cases hk : xs[i]? with
          | none => rw [hk] at hz; cases hz
          | some y =>
            rw [hk] at hz
            simp only at hz
            cases hp : y.put r x with
            | none => rw [hp] at hz; cases hz
            | some y' =>
              rw [hp] at hz
              simp only [Option.some.injEq] at hz
              subst hz
              have hi' : i < xs.length := (List.getElem?_eq_some_iff.1 hk).1
              obtain ⟨hv, hle⟩ := VA_get h4 hk
              have hlen : ((vs.drop (i * szOf P e)).take (szOf P e)).length = szOf P e := by simp; omega
              obtain ⟨r1, r2⟩ := VT_put hP hty hv hlen hw2 hp hx hlu ho
              rw [hlen] at r2
              rw [← splice_inside (by omega) r2] at r1
              refine ⟨?_, by omega⟩
              refine ⟨_, rfl, by simpa using h2, by rw [splice_length (by omega)]; exact h3, splice_one h3' ho, ?_⟩
              have hl2 : (((splice vs (i * szOf P e + o2) us).drop (i * szOf P e)).take (szOf P e)).length = szOf P e := by simp [splice_length (show i * szOf P e + o2 + us.length ≤ vs.length by omega)]; omega
              have := VA_set (us := ((splice vs (i * szOf P e + o2) us).drop (i * szOf P e)).take (szOf P e)) h4 hi' r1 hl2
              have heq : splice vs (i * szOf P e) (((splice vs (i * szOf P e + o2) us).drop (i * szOf P e)).take (szOf P e)) = splice vs (i * szOf P e + o2) us := by
                apply List.ext_getElem?
                intro j
                rw [splice_get (by omega), hl2]
                by_cases j1 : j < i * szOf P e
                · rw [if_pos j1, splice_get (by omega), if_pos (by omega)]
                · rw [if_neg j1]
                  by_cases j2 : j < i * szOf P e + szOf P e
                  · rw [if_pos j2, part_get, if_pos (by omega)]; congr 1; omega
                  · rw [if_neg j2, splice_get (by omega), if_neg (by omega), if_neg (by omega)]
              rw [heq] at this
              exact this
end
end Go.Am
