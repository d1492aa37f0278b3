/- Package overlay: what its functions answer, and record's and the reference's Written. -/
import Derived.Test.YtlpakbhlpgpiaaaAmM
import Derived.Test.YtlpakbhlpgpiaaaAmT
import Derived.Test.YtlpakbhlpgpiaaaProg
set_option linter.unusedVariables false
set_option linter.unusedSimpArgs false
namespace Go.Proofs.Ytlpakbhlpgpiaaa
open Go.Am
instance : WFC Try.prog := ⟨wf_of (n := 64) (by kernel_rfl) (by kernel_rfl)⟩
abbrev I (n : Int) : T := .s (.int .i64 n)
abbrev B (b : Bool) : T := .s (.bool b)
abbrev U8 (n : Int) : T := .s (.int .u8 n)
abbrev V (v : List Int) : T := .arr (v.map U8)
structure Wr where
  b : Int
  v : List Int
deriving DecidableEq
abbrev tW (w : Wr) : T := .st [I w.b, V w.v]
abbrev Ls (ws : List Wr) : T := .lst (ws.map tW) .no
instance : ZC Try.prog 24 (.arr (List.replicate 8 (.s (.int .u8 0)))) := ⟨zero_of (by kernel_rfl)⟩
instance : ZC Try.prog 26 (.st [(.s (.int .i64 0)), (.arr (List.replicate 8 (.s (.int .u8 0))))]) := ⟨zero_of (by kernel_rfl)⟩
instance : ZC Try.prog 36 (.arr (List.replicate 32 (.arr (List.replicate 8 (.s (.int .u8 0)))))) := ⟨zero_of (by kernel_rfl)⟩
theorem npV (v : List Int) : npL (v.map U8) = true := npL_iff.2 (fun x hx => by obtain ⟨n, _, rfl⟩ := List.mem_map.1 hx; rfl)
theorem npW (ws : List Wr) : npL (ws.map tW) = true := npL_iff.2 (fun x hx => by obtain ⟨n, _, rfl⟩ := List.mem_map.1 hx; simp [np, npL, npV])
theorem pbV (k : Nat) (v : List Int) : pbL k (v.map U8) = true := pbL_iff.2 (fun x hx => by obtain ⟨n, _, rfl⟩ := List.mem_map.1 hx; rfl)
theorem pbW (k : Nat) (ws : List Wr) : pbL k (ws.map tW) = true := pbL_iff.2 (fun x hx => by obtain ⟨n, _, rfl⟩ := List.mem_map.1 hx; simp [pb, pbL, pbV])
theorem Ls_get {ws : List Wr} {i : Nat} {w : Wr} (h : ws[i]? = some w) : (ws.map tW)[((i : Int)).toNat]? = some (tW w) := by
  rw [Int.toNat_natCast, List.getElem?_map, h]; rfl
theorem Ls_len (ws : List Wr) : (ws.map tW).length = ws.length := List.length_map _
def lastB (ws : List Wr) : Nat → Int
  | 0 => -1
  | i + 1 => match ws[i]? with
    | some w => w.b
    | none => lastB ws i
def okAt (ws : List Wr) (i : Nat) : Prop := ∀ w, ws[i]? = some w → lastB ws i < w.b ∧ w.b < 32
/-- Writes that rise. -/
structure Wn (ws : List Wr) : Prop where
  ok : ∀ i, okAt ws i
  len : ws.length ≤ 8

set_option maxHeartbeats 4000000 in
theorem great_t (ws : List Wr) (h : 100 < ws.length) : Ans Try.prog 5 [(Ls ws, 22)] (B true, 4) := by
  refine Ans.body1 WFC.wf Try.func5 rfl rfl rfl (by simp [npL, np, npV, npW, Tag.nt]) (by simp [npL, np, npV, npW, Tag.nt]) ?_
  have hl := Ls_len ws
  refine walkD ?_
  exact ⟨.inr rfl, .tmp rfl, (fun _ _ e => (by cases e))⟩

set_option maxHeartbeats 4000000 in
theorem great_f (ws : List Wr) (h : ws.length ≤ 100) : Ans Try.prog 5 [(Ls ws, 22)] (B false, 4) := by
  refine Ans.body1 WFC.wf Try.func5 rfl rfl rfl (by simp [npL, np, npV, npW, Tag.nt]) (by simp [npL, np, npV, npW, Tag.nt]) ?_
  have hl := Ls_len ws
  refine walkD ?_
  exact ⟨.inr rfl, .tmp rfl, (fun _ _ e => (by cases e))⟩

set_option maxHeartbeats 4000000 in
theorem block_c (w : Wr) : Ans Try.prog 15 [(tW w, 26)] (I w.b, 3) := by
  refine Ans.body1 WFC.wf Try.func15 rfl rfl rfl (by simp [npL, np, npV, npW, Tag.nt]) (by simp [npL, np, npV, npW, Tag.nt]) ?_
  refine walk ?_
  exact ⟨.inr rfl, .tmp rfl, (fun _ _ e => (by cases e))⟩

set_option maxHeartbeats 4000000 in
theorem written_c (ws : List Wr) (hm : ws.length < 4611686018427387904) (r : Bool) (hr : r = true ↔ Wn ws) : Ans Try.prog 13 [(Ls ws, 22)] (B r, 4) := by
  refine Ans.body1 WFC.wf Try.func13 rfl rfl rfl (by simp [npL, np, npV, npW, Tag.nt]) (by simp [npL, np, npV, npW, Tag.nt]) ?_
  have hl := Ls_len ws
  refine walkD ?_
  refine AW.loopF (fun m t h u' => u' = ⟨[], 0⟩ ∧ ∃ i : Nat, m = ws.length - i ∧ i ≤ ws.length ∧ h = [] ∧ t = [(0, (Ls ws, 22)), (3, (I (lastB ws i), 3)), (6, (Ls ws, 22)), (7, (I ((ws.map tW).length : Nat), 3)), (8, (I (i : Nat), 3))] ∧ (∀ j, j < i → okAt ws j)) (ws.length) [(0, (Ls ws, 22)), (3, (I (lastB ws 0), 3)), (6, (Ls ws, 22)), (7, (I ((ws.map tW).length : Nat), 3)), (8, (I (0 : Nat), 3))] (.cons rfl (.cons rfl (.cons rfl (.cons rfl (.cons rfl .nil))))) ⟨rfl, 0, rfl, Nat.zero_le _, rfl, rfl, (fun j h => by omega)⟩ ?_
  rintro m t h u' ⟨rfl, i, rfl, hi, rfl, rfl, hinv⟩
  by_cases he : i = ws.length
  · subst he
    by_cases h8 : ws.length ≤ 8
    · have ht : r = true := hr.2 ⟨fun j w hj => hinv j (List.getElem?_eq_some_iff.1 hj).1 w hj, h8⟩
      subst ht
      refine walkD ?_
      exact ⟨.inr rfl, .tmp rfl, (fun _ _ e => (by cases e))⟩
    · have hf : r = false := by rw [Bool.eq_false_iff]; intro h; exact h8 (hr.1 h).len
      subst hf
      refine walkD ?_
      exact ⟨.inr rfl, .tmp rfl, (fun _ _ e => (by cases e))⟩
  obtain ⟨w, hw⟩ : ∃ w, ws[i]? = some w := ⟨_, List.getElem?_eq_getElem (by omega)⟩
  have hx0 := Ls_get hw
  have hlast : lastB ws (i + 1) = w.b := by simp only [lastB, hw]
  by_cases h1 : w.b ≤ lastB ws i
  · have hf : r = false := by rw [Bool.eq_false_iff]; intro h; have := (hr.1 h).ok i w hw; omega
    subst hf
    refine walkD ?_
    exact ⟨.inr rfl, .tmp rfl, (fun _ _ e => (by cases e))⟩
  by_cases h2 : 32 ≤ w.b
  · have hf : r = false := by rw [Bool.eq_false_iff]; intro h; have := (hr.1 h).ok i w hw; omega
    subst hf
    refine walkD ?_
    exact ⟨.inr rfl, .tmp rfl, (fun _ _ e => (by cases e))⟩
  refine walkD ?_
  exact ⟨rfl, ws.length - (i + 1), [(0, (Ls ws, 22)), (3, (I (lastB ws (i + 1)), 3)), (6, (Ls ws, 22)), (7, (I ((ws.map tW).length : Nat), 3)), (8, (I ((i + 1) : Nat), 3))], [], _, by omega, (.cons rfl (.cons (by rw [hlast]; rfl) (.cons rfl (.cons rfl (.cons rfl .nil))))), rfl, rfl, (by simp [tb, hbB, pb, pbL, pbV, pbW]), (by simp [tb, hbB, pb, pbL, pbV, pbW]), rfl, i + 1, rfl, by omega, rfl, rfl, fun j hj w2 hw2 => by
    by_cases hji : j = i
    · subst hji; rw [hw] at hw2; cases hw2; omega
    · exact hinv j (by omega) w2 hw2⟩


set_option maxHeartbeats 4000000 in
theorem place_c (ws : List Wr) (hm : ws.length < 4611686018427387904) (key : Int) (k : Nat) (th : Bool) (hk : k ≤ ws.length) (hlo : ∀ (j : Nat) w, j < k → ws[j]? = some w → w.b < key) (hhi : ∀ w, ws[k]? = some w → key ≤ w.b) (hth : th = true ↔ ∃ w, ws[k]? = some w ∧ w.b = key) : Ans Try.prog 14 [(Ls ws, 22), (I key, 3), (.fn (.func 15) [] [], 42)] (.tup [I (k : Nat), B th], 40) := by
  refine Ans.bodyN (rs := [(I (k : Nat), 3), (B th, 4)]) WFC.wf 40 Try.func14 rfl rfl (by decide) rfl rfl (by simp [npL, np, npV, npW, Tag.nt]) (by simp [npL, np, npV, npW, Tag.nt]) ?_
  have hl := Ls_len ws
  refine walkD ?_
  refine AW.loopF (fun m t h u' => u' = ⟨[], 0⟩ ∧ ∃ i : Nat, m = k - i ∧ i ≤ k ∧ h = [] ∧ t = [(0, (Ls ws, 22)), (1, (I key, 3)), (2, (.fn (.func 15) [] [], 42)), (8, (I (i : Nat), 3))]) (k) [(0, (Ls ws, 22)), (1, (I key, 3)), (2, (.fn (.func 15) [] [], 42)), (8, (I (0 : Nat), 3))] (.cons rfl (.cons rfl (.cons rfl (.cons rfl .nil)))) ⟨rfl, 0, rfl, Nat.zero_le _, rfl, rfl⟩ ?_
  rintro m t h u' ⟨rfl, i, rfl, hi, rfl, rfl⟩
  by_cases he : i = k
  · subst he
    cases hw : ws[i]? with
    | none =>
      have hge := List.getElem?_eq_none_iff.1 hw
      have hf : th = false := by rw [Bool.eq_false_iff]; intro h; obtain ⟨w, h1, _⟩ := hth.1 h; rw [hw] at h1; cases h1
      subst hf
      refine walkD ?_
      exact ⟨.inr rfl, (.cons (.tmp rfl) (.cons (.tmp rfl) .nil)), ⟨(fun _ _ e => (by cases e)), ⟨(fun _ _ e => (by cases e)), trivial⟩⟩⟩
    | some w =>
      have hx0 := Ls_get hw
      have hbc := block_c w
      have hge := hhi w hw
      have hil := (List.getElem?_eq_some_iff.1 hw).1
      by_cases hb : w.b = key
      · have hf : th = true := hth.2 ⟨w, hw, hb⟩
        subst hf
        refine walkD ?_
        exact ⟨.inr rfl, (.cons (.tmp rfl) (.cons (.tmp rfl) .nil)), ⟨(fun _ _ e => (by cases e)), ⟨(fun _ _ e => (by cases e)), trivial⟩⟩⟩
      · have hf : th = false := by rw [Bool.eq_false_iff]; intro h; obtain ⟨w, h1, h2⟩ := hth.1 h; rw [hw] at h1; cases h1; exact hb h2
        subst hf
        refine walkD ?_
        exact ⟨.inr rfl, (.cons (.tmp rfl) (.cons (.tmp rfl) .nil)), ⟨(fun _ _ e => (by cases e)), ⟨(fun _ _ e => (by cases e)), trivial⟩⟩⟩
  obtain ⟨w, hw⟩ : ∃ w, ws[i]? = some w := ⟨_, List.getElem?_eq_getElem (by omega)⟩
  have hx0 := Ls_get hw
  have hbc := block_c w
  have hlt := hlo i w (by omega) hw
  have hil := (List.getElem?_eq_some_iff.1 hw).1
  refine walkD ?_
  exact ⟨rfl, k - (i + 1), [(0, (Ls ws, 22)), (1, (I key, 3)), (2, (.fn (.func 15) [] [], 42)), (8, (I ((i + 1) : Nat), 3))], [], _, by omega, (.cons rfl (.cons rfl (.cons rfl (.cons rfl .nil)))), rfl, rfl, (by simp [tb, hbB, pb, pbL, pbV, pbW]), (by simp [tb, hbB, pb, pbL, pbV, pbW]), rfl, i + 1, rfl, by omega, rfl, rfl⟩


end Go.Proofs.Ytlpakbhlpgpiaaa
