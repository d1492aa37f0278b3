/- A layer over the walk's rules. This text: a law, from its contract. -/
import Derived.Test.YtlpakbhlpgpiaaaAmR
set_option linter.unusedVariables false
set_option linter.unusedSimpArgs false
namespace Go.Am
open Go.ChangeShapes Go.WideShapes Go.RowKit
variable {P : Program}

def paramsB (P : Program) (d : Nat) (ts : List TypeId) : Bool := ts.all fun t => plain P d t && P.readableRec t && Nat.blt t P.types.size
/-- The trees of arguments that came in. -/
def WX (P : Program) (d : Nat) : List TypeId → List X → Prop
  | [], [] => True
  | t :: ts, x :: xs => x.2 = t ∧ WT P d t x.1 ∧ WX P d ts xs
  | _, _ => False

theorem agg_ok {w : World} {base d : Nat} {t : TypeId} {v : Value} {x : T} (hw : WT P d t x) (hv : Value.okWide P w .any base t v) : aggB v = x.aggB := by
  cases d with
  | zero => simp [WT] at hw
  | succ d =>
    unfold WT at hw
    unfold Value.okWide at hv
    split at hw
    all_goals try (rename_i hu; rw [hu] at hv; simp only [Cell.okWide, Cell.ok, hu] at hv)
    · obtain ⟨b, rfl⟩ := hw; split at hv <;> simp_all [aggB, T.aggB]
    · obtain ⟨b, rfl, _⟩ := hw; split at hv <;> simp_all [aggB, T.aggB]
    · obtain ⟨b, rfl⟩ := hw; split at hv <;> simp_all [aggB, T.aggB]
    · obtain ⟨b, rfl, _⟩ := hw; split at hv <;> simp_all [aggB, T.aggB]
    · obtain ⟨xs, rfl, _⟩ := hw; split at hv <;> simp_all [aggB, T.aggB]
    · obtain ⟨xs, rfl, _⟩ := hw; obtain ⟨cs, rfl, _⟩ := hv; rfl
    · obtain ⟨xs, rfl, _⟩ := hw; obtain ⟨cs, rfl, _⟩ := hv; rfl
    · cases hw

theorem read_all {H : Type} {enc : TypeId × Value → H} {w : World} {base d : Nat} : ∀ {ts : List TypeId} {vs : List Value} {ds : List (DataW H)} {ps : List MemPlace}, paramsB P d ts = true →
    (∀ (j : Nat) t v, ts[j]? = some t → vs[j]? = some v → Value.okWide P w .any base t v) → DataW.TrodAll enc P w 0 (fun _ => true) true ts vs ds ps → ∃ xs, WX P d ts xs ∧ VArgs P (κ0 w) xs vs
  | [], [], [], _, _, _, _ => ⟨[], trivial, .nil⟩
  | t :: ts, v :: vs, dd :: ds, ps, hb, hv, h => by
    obtain ⟨p, q, ⟨fuel, h1⟩, h2, _⟩ := h
    simp only [paramsB, List.all_cons, Bool.and_eq_true] at hb
    obtain ⟨x, r1, r2, _⟩ := read d fuel t _ _ _ hb.1.1.1 h1
    obtain ⟨xs, q1, q2⟩ := read_all (ts := ts) (by simp only [paramsB]; exact hb.2) (fun j t v a b => hv (j + 1) t v (by simpa using a) (by simpa using b)) h2
    exact ⟨(x, t) :: xs, ⟨rfl, r1, q1⟩, .cons ⟨r2, agg_ok r1 (hv 0 t v rfl rfl)⟩ q2⟩
  | [], [], _ :: _, _, _, _, h => h.elim
  | [], _ :: _, _, _, _, _, h => h.elim
  | _ :: _, [], _, _, _, _, h => h.elim
  | _ :: _, _ :: _, [], _, _, _, h => h.elim

theorem carry_all {H : Type} {enc : TypeId × Value → H} {W W' : World} {d : Nat} (hl : laidOutB P = true) (hb : Below W.heap.size W W') : ∀ {ts : List TypeId} {vs : List Value} {ds : List (DataW H)} {ps : List MemPlace}, paramsB P d ts = true →
    DataW.TrodAll enc P W 0 (fun _ => true) true ts vs ds ps → (∀ x ∈ ps, x.block < W.heap.size) → DataW.TrodAll enc P W' 0 (fun b => decide (b < W.heap.size)) true ts vs ds ps
  | [], [], [], _, _, h, _ => h
  | t :: ts, v :: vs, dd :: ds, ps, hp, h, hlt => by
    obtain ⟨p, q, h1, h2, rfl⟩ := h
    simp only [paramsB, List.all_cons, Bool.and_eq_true] at hp
    exact ⟨p, q, Below.trod hl hp.1.1.2 (Nat.le_of_ble_eq_true hp.1.2) h1 hb (fun x hx => hlt x (List.mem_append_left _ hx)),
      carry_all hl hb (ts := ts) (by simp only [paramsB]; exact hp.2) h2 (fun x hx => hlt x (List.mem_append_right _ hx)), rfl⟩
  | [], [], _ :: _, _, _, h, _ => h.elim
  | [], _ :: _, _, _, _, h, _ => h.elim
  | _ :: _, [], _, _, _, h, _ => h.elim
  | _ :: _, _ :: _, [], _, _, h, _ => h.elim

theorem Ext.below {W W' : World} {κ' : K} {u' : Tips} (hx : Ext (κ0 W) ⟨[], 0⟩ W κ' u' W') : Below W.heap.size W W' :=
  ⟨hx.os, hx.tape, hx.output, hx.size, fun k hk => hx.frame k hk (fun b hb => absurd hb (Nat.not_lt_zero _)) (fun τ _ _ _ _ _ h => (by cases h))⟩

theorem law_lifted {a : Assume} {C : Checked} {os : Os} {H : Type} {enc : TypeId × Value → H} {f : FuncId} {fn : Func} {s : ChangeSpec} {conds : List PathCond} {apart fresh handsOn : Bool} (d : Nat) (tb : TypeId)
    (own : ownKnob C.prog.godebug = none) (started : os.Started) (noInit : C.prog.inits.idxOf? f = none) (hfn : C.prog.funcs[f]? = some fn)
    (witness : ∃ (w : World) (tape : Tape) (i : Input), w.os = os ∧ (w.forCall tape i).Shaped C.prog ∧ i.vars = [] ∧ Input.okWide C.prog (w.forCall tape i) .any w.heap.size f i ∧
      s.pre6 enc C.prog fn conds apart (w.forCall tape i).memory i.args ∧ a.holds C.prog (lone (Frame.enter C.prog f i.args .normal) [] (w.forCall tape i)))
    (hl : laidOutB C.prog = true) (hps : paramsB C.prog d fn.params.toList = true) (hvars : s.vars = []) (hres : fn.resultTypes = #[tb]) (htb : C.prog.underlying tb = some .bool)
    (hspec : ∀ ds : List (DataW H), ds.length = fn.params.toList.length → s.fn H ds = { results := [.lit (.bool true)], args := ds })
    (hc : ∀ xs, WX C.prog d fn.params.toList xs → ACalls C.prog f xs [] ⟨[], 0⟩ fun x _ _ => x.1 = .s (.bool true)) :
    ReturnsInHanded a C os f .any (s.pre6 enc C.prog fn conds apart) (s.post enc C.prog fn apart fresh handsOn false) := by
  refine returnsInHanded_of_change own started noInit hfn witness ?_
  intro W base args ds gs before hval hW hcnd _
  have hW' := hW
  obtain ⟨p, q, hA, hV, rfl, hfz, hnd⟩ := hW
  rw [hvars] at hV
  obtain ⟨rfl, rfl⟩ := trodVars_none hV
  obtain ⟨xs, h1, h2⟩ := read_all hps (fun j t v a b => hval j t v (by simpa using a) (by simpa using b)) hA
  have hcall := hc xs h1 (κ0 W) W args.toList (WR0 W) h2
  rw [show args.toList.toArray = args by simp] at hcall
  refine hcall.mono fun e W' ⟨κ', v, x, h', u', e1, hx, _, hv, hk⟩ => ?_
  have hb := hx.below
  rw [hk] at hv
  have hv := VV_s hv
  subst hv
  have hlen : ds.length = fn.params.toList.length := by
    have : ∀ {ts : List TypeId} {vs : List Value} {ds : List (DataW H)} {ps : List MemPlace}, DataW.TrodAll enc C.prog W 0 (fun _ => true) true ts vs ds ps → ds.length = ts.length := by
      intro ts
      induction ts with
      | nil => intro vs ds ps h; cases vs <;> cases ds <;> simp_all [DataW.TrodAll]
      | cons t ts ih =>
        intro vs ds ps h
        cases vs with
        | nil => exact h.elim
        | cons v vs =>
          cases ds with
          | nil => exact h.elim
          | cons d ds => obtain ⟨p, q, _, h2, _⟩ := h; simp [ih h2]
    exact this hA
  have hs := hspec ds hlen
  have hds : ds ++ [] = ds := List.append_nil ds
  refine ⟨_, e1, ds, [], p ++ [], [], p, [], hW', ?_, ?_, ?_, hb.frame _, fun h => by cases h⟩
  · rw [hds, hs, hres]
    exact trodAll_mk1 (shut_bool htb true)
  · rw [hds, hs]
    exact carry_all hl hb hps hA (fun x hx => hW'.lt x (List.mem_append_left _ hx))
  · rw [hds, hs, hvars]
    rfl
end Go.Am
namespace Go.Am
variable {P : Program} {R : TypeId → T → Prop}
theorem WF.cons {xs : List T} {f : Field} {fs : List Field} (h : WF R xs (f :: fs)) : ∃ x r, xs = x :: r ∧ R f.type x ∧ WF R r fs := by
  cases xs with
  | nil => exact h.elim
  | cons x r => exact ⟨x, r, rfl, h.1, h.2⟩
theorem WF.nil {xs : List T} (h : WF R xs []) : xs = [] := by
  cases xs with
  | nil => rfl
  | cons x r => exact h.elim
theorem WX.cons {d : Nat} {t : TypeId} {ts : List TypeId} {xs : List X} (h : WX P d (t :: ts) xs) : ∃ x r, xs = (x, t) :: r ∧ WT P d t x ∧ WX P d ts r := by
  cases xs with
  | nil => exact h.elim
  | cons x r => obtain ⟨x, t'⟩ := x; obtain ⟨rfl, h1, h2⟩ := h; exact ⟨x, r, rfl, h1, h2⟩
theorem WX.nil {d : Nat} {xs : List X} (h : WX P d [] xs) : xs = [] := by
  cases xs with
  | nil => rfl
  | cons x r => exact h.elim
theorem WT.bool {d : Nat} {t : TypeId} {x : T} (hu : P.underlying t = some .bool) (h : WT P (d + 1) t x) : ∃ b, x = .s (.bool b) := by
  unfold WT at h; rw [hu] at h; exact h
theorem WT.int {d : Nat} {t : TypeId} {x : T} {k : IntKind} (hu : P.underlying t = some (.int k)) (h : WT P (d + 1) t x) : ∃ n, x = .s (.int k n) ∧ (Lit.int k n).wf = true := by
  unfold WT at h; rw [hu] at h; exact h
theorem WT.struct {d : Nat} {t : TypeId} {x : T} {fs : Array Field} (hu : P.underlying t = some (.struct fs)) (h : WT P (d + 1) t x) : ∃ xs, x = .st xs ∧ WF (WT P d) xs fs.toList := by
  unfold WT at h; rw [hu] at h; exact h
theorem WT.slice {d : Nat} {t e : TypeId} {x : T} (hu : P.underlying t = some (.slice e)) (h : WT P (d + 1) t x) : ∃ xs, x = .lst xs .no ∧ xs.length ≤ maxLen ∧ ∀ y ∈ xs, WT P d e y := by
  unfold WT at h; rw [hu] at h; exact h
theorem WT.arr {d : Nat} {t e : TypeId} {n : Nat} {x : T} (hu : P.underlying t = some (.array n e)) (h : WT P (d + 1) t x) : ∃ xs, x = .arr xs ∧ xs.length = n ∧ ∀ y ∈ xs, WT P d e y := by
  unfold WT at h; rw [hu] at h; exact h
end Go.Am
