/- Package record: its readers. -/
import Derived.Test.YtecacooabofloaaLA
import Derived.Test.YtecacooabofloaaProg
/- Package record: its readers. -/
set_option linter.unusedVariables false
set_option linter.unusedSimpArgs false
namespace Go.Proofs.Ytecacooabofloaa
open Go.Am
instance : WFC Try.prog := ⟨wf_of (n := 124) (by kernel_rfl) (by kernel_rfl)⟩
abbrev I (n : Int) : T := .s (.int .i64 n)
abbrev B (b : Bool) : T := .s (.bool b)
abbrev U8 (n : Int) : T := .s (.int .u8 n)
abbrev Us (v : List Int) : List T := v.map U8
abbrev V (v : List Int) : T := .arr (v.map U8)
structure Wr where
  b : Int
  v : List Int
deriving DecidableEq
abbrev tW (w : Wr) : T := .st [I w.b, V w.v]
abbrev Ls (ws : List Wr) : T := .lst (ws.map tW) .no
instance : ZC Try.prog 23 (.arr (List.replicate 8 (.s (.int .u8 0)))) := ⟨zero_of (by kernel_rfl)⟩
instance : ZC Try.prog 24 (.arr (List.replicate 32 (.arr (List.replicate 8 (.s (.int .u8 0)))))) := ⟨zero_of (by kernel_rfl)⟩
instance : ZC Try.prog 29 (.st [(.s (.int .i64 0)), (.s (.int .i64 0)), (.s (.int .i64 0)), (.s (.int .i64 0)), (.s (.int .i64 0)), (.arr (List.replicate 8 (.s (.int .i64 0))))]) := ⟨zero_of (by kernel_rfl)⟩
instance : ZC Try.prog 34 (.st [(.st [(.s (.int .i64 0)), (.s (.int .i64 0)), (.s (.int .i64 0)), (.s (.int .i64 0)), (.s (.int .i64 0)), (.arr (List.replicate 8 (.s (.int .i64 0))))]), (.st [(.s (.int .i64 0)), (.s (.int .i64 0))]), (.arr (List.replicate 32 (.arr (List.replicate 8 (.s (.int .u8 0)))))), (.lst [] .nil), (.s (.int .i64 0))]) := ⟨zero_of (by kernel_rfl)⟩
instance : ZC Try.prog 38 (.st [(.s (.int .i64 0)), (.s (.int .i64 0)), (.s (.int .i64 0))]) := ⟨zero_of (by kernel_rfl)⟩
instance : ZC Try.prog 41 (.st [(.s (.int .i64 0)), (.s (.int .i64 0))]) := ⟨zero_of (by kernel_rfl)⟩
instance : ZC Try.prog 43 (.st [(.s (.int .i8 0)), (.st [(.s (.int .i64 0)), (.s (.int .i64 0)), (.s (.int .i64 0))]), (.s (.bool false)), (.lst [] .nil), (.s (.int .i64 0)), (.s (.int .i64 0)), (.s (.int .i64 0)), (.st [(.s (.int .i64 0)), (.s (.int .i64 0))]), (.s (.int .i64 0))]) := ⟨zero_of (by kernel_rfl)⟩
instance : ZC Try.prog 49 (.st [(.s (.int .i64 0)), (.arr (List.replicate 8 (.s (.int .u8 0))))]) := ⟨zero_of (by kernel_rfl)⟩
instance : ZC Try.prog 52 (.st [(.st [(.s (.int .i64 0)), (.s (.int .i64 0)), (.s (.int .i64 0))]), (.lst [] .nil), (.s (.int .i64 0)), (.s (.int .i64 0))]) := ⟨zero_of (by kernel_rfl)⟩
instance : ZC Try.prog 58 (.st [(.st [(.st [(.s (.int .i64 0)), (.s (.int .i64 0)), (.s (.int .i64 0)), (.s (.int .i64 0)), (.s (.int .i64 0)), (.arr (List.replicate 8 (.s (.int .i64 0))))]), (.st [(.s (.int .i64 0)), (.s (.int .i64 0))]), (.arr (List.replicate 32 (.arr (List.replicate 8 (.s (.int .u8 0)))))), (.lst [] .nil), (.s (.int .i64 0))])]) := ⟨zero_of (by kernel_rfl)⟩
instance : ZC Try.prog 71 (.st [(.s (.nilFunc)), (.s (.nilFunc)), (.s (.nilFunc))]) := ⟨zero_of (by kernel_rfl)⟩
instance : ZC Try.prog 77 (.st [(.lst [] .nil), (.s (.bool false))]) := ⟨zero_of (by kernel_rfl)⟩
instance : ZC Try.prog 81 (.arr (List.replicate 8 (.st [(.s (.nilFunc)), (.s (.nilFunc)), (.s (.nilFunc))]))) := ⟨zero_of (by kernel_rfl)⟩
instance : ZC Try.prog 84 (.st [(.lst [] .nil)]) := ⟨zero_of (by kernel_rfl)⟩
instance : ZC Try.prog 56 (.arr (List.replicate 4 (.s (.nilFunc)))) := ⟨zero_of (by kernel_rfl)⟩
instance : ZC Try.prog 101 (.arr (List.replicate 3 (.s (.int .i64 0)))) := ⟨zero_of (by kernel_rfl)⟩
instance : ZC Try.prog 103 (.arr (List.replicate 3 (.s (.pointer none)))) := ⟨zero_of (by kernel_rfl)⟩
theorem npU (v : List Int) : npL (Us v) = true := npL_iff.2 (fun x hx => by obtain ⟨n, _, rfl⟩ := List.mem_map.1 hx; rfl)
theorem npV (v : List Int) : npL (v.map U8) = true := npU v
theorem npW (ws : List Wr) : npL (ws.map tW) = true := npL_iff.2 (fun x hx => by obtain ⟨n, _, rfl⟩ := List.mem_map.1 hx; simp [np, npL, npV])
theorem pbU (k : Nat) (v : List Int) : pbL k (Us v) = true := pbL_iff.2 (fun x hx => by obtain ⟨n, _, rfl⟩ := List.mem_map.1 hx; rfl)
theorem pbV (k : Nat) (v : List Int) : pbL k (v.map U8) = true := pbU k v
theorem pbW (k : Nat) (ws : List Wr) : pbL k (ws.map tW) = true := pbL_iff.2 (fun x hx => by obtain ⟨n, _, rfl⟩ := List.mem_map.1 hx; simp [pb, pbL, pbV])
/-- A reader. -/
abbrev RO (bs : List Int) (bad : Bool) : AO := ⟨.one 77, .st [.lst (Us bs) .no, B bad]⟩
theorem npR (bs : List Int) (bad : Bool) : np (RO bs bad).t = true := by simp [np, npL, npU, Tag.nt]
abbrev w64 (n : Int) : Int := IntKind.i64.wrap n
abbrev w8 (n : Int) : Int := IntKind.u8.wrap n

set_option maxRecDepth 100000 in
set_option maxHeartbeats 4000000 in
theorem byte_nil (pt : TypeId) (bad : Bool) : AnsR Try.prog 49 pt [] (RO [] bad) (I 0, 3) (RO [] true) := by
  refine AnsR.body1 WFC.wf Try.func49 rfl rfl rfl (npR _ _) (npR _ _) rfl rfl ?_
  refine walk ?_
  exact ⟨.inr rfl, .tmp rfl, (fun _ _ e => (by cases e)), _, rfl⟩

set_option maxRecDepth 100000 in
set_option maxHeartbeats 4000000 in
theorem byte_cons (pt : TypeId) (b : Int) (bs : List Int) (bad : Bool) : AnsR Try.prog 49 pt [] (RO (b :: bs) bad) (I (w64 b), 3) (RO bs bad) := by
  refine AnsR.body1 WFC.wf Try.func49 rfl rfl rfl (npR _ _) (npR _ _) rfl rfl ?_
  have hl : ((Us (b :: bs)).length : Int) ≠ 0 := by simp only [List.map_cons, List.length_cons]; omega
  refine walkD ?_
  refine O.sliceLn (ys := Us bs) rfl WFC.wf rfl ⟨rfl, rfl⟩ (by decide) rfl (by decide) (.yes .const) .no (by simp only [List.map_cons, List.length_cons]; omega) (by simp [List.take_of_length_le]) ?_
  refine walkD ?_
  exact ⟨.inr rfl, .tmp rfl, (fun _ _ e => (by cases e)), _, rfl⟩

/-- Taking a byte. -/
def rdv : List Int → Int
  | [] => 0
  | b :: _ => w64 b
def rdb : List Int → Bool → Bool
  | [], _ => true
  | _ :: _, b => b
theorem byte_c (pt : TypeId) (bs : List Int) (bad : Bool) : AnsR Try.prog 49 pt [] (RO bs bad) (I (rdv bs), 3) (RO bs.tail (rdb bs bad)) := by
  cases bs with
  | nil => exact byte_nil pt bad
  | cons b bs => exact byte_cons pt b bs bad

/-- Bits put together; shifted. -/
def orI (a b : Int) : Int := IntKind.i64.wrap (BitVec.toNat (BitVec.ofInt 64 a ||| BitVec.ofInt 64 b))
def shlI (a : Int) (k : Nat) : Int := w64 (a * 2 ^ k)
/-- Three bytes, read. -/
def rd3 (bs : List Int) : Int := orI (orI (orI 0 (shlI (rdv bs) 0)) (shlI (rdv bs.tail) 8)) (shlI (rdv bs.tail.tail) 16)
def bd3 (bs : List Int) (bad : Bool) : Bool := rdb bs.tail.tail (rdb bs.tail (rdb bs bad))

set_option maxRecDepth 100000 in
set_option maxHeartbeats 4000000 in
theorem three_c (bs : List Int) (bad : Bool) : ∀ pt, AnsR Try.prog 30 pt [] (RO bs bad) (I (rd3 bs), 3) (RO bs.tail.tail.tail (bd3 bs bad)) := by
  intro pt
  refine AnsR.body1 WFC.wf Try.func30 rfl rfl rfl (npR _ _) (npR _ _) rfl rfl ?_
  have h1 := byte_c pt bs bad
  have h2 := byte_c pt bs.tail (rdb bs bad)
  have h3 := byte_c pt bs.tail.tail (rdb bs.tail (rdb bs bad))
  refine walkD ?_
  refine AW.roundsW 4 ([(0, (.ptr 0 [], pt)), (3, (I 0, 3)), (5, (I 0, 3))]) (.cons rfl (.cons rfl (.cons rfl .nil))) (AWR.next (h := [RO bs bad]) (u := ⟨[], 0⟩) ?_)
  refine walkD ?_
  refine ⟨rfl, [(0, (.ptr 0 [], pt)), (3, (I _, 3)), (5, (I 1, 3))], (.cons rfl (.cons rfl (.cons rfl .nil))), AWR.next (h := [RO bs.tail (rdb bs bad)]) (u := ⟨[], 0⟩) ?_⟩
  refine walkD ?_
  refine ⟨rfl, [(0, (.ptr 0 [], pt)), (3, (I _, 3)), (5, (I 2, 3))], (.cons rfl (.cons rfl (.cons rfl .nil))), AWR.next (h := [RO bs.tail.tail (rdb bs.tail (rdb bs bad))]) (u := ⟨[], 0⟩) ?_⟩
  refine walkD ?_
  refine ⟨rfl, [(0, (.ptr 0 [], pt)), (3, (I _, 3)), (5, (I 3, 3))], (.cons rfl (.cons rfl (.cons rfl .nil))), AWR.next (h := [RO bs.tail.tail.tail (rdb bs.tail.tail (rdb bs.tail (rdb bs bad)))]) (u := ⟨[], 0⟩) ?_⟩
  refine walkD ?_
  exact ⟨.inr rfl, .tmp rfl, (fun _ _ e => (by cases e)), _, rfl⟩

theorem byte_e (bs : List Int) (bad : Bool) : ∃ z bs' bad', (∀ pt, AnsR Try.prog 49 pt [] (RO bs bad) (I z, 3) (RO bs' bad')) ∧ bs' = bs.tail ∧ bad' = rdb bs bad := ⟨_, _, _, fun pt => byte_c pt bs bad, rfl, rfl⟩
theorem three_e (bs : List Int) (bad : Bool) : ∃ z bs' bad', (∀ pt, AnsR Try.prog 30 pt [] (RO bs bad) (I z, 3) (RO bs' bad')) ∧ bs'.length ≤ bs.length := by
  exact ⟨_, _, _, three_c bs bad, by simp only [List.length_tail]; omega⟩

def dr3 (bs : List Int) : List Int := bs.tail.tail.tail
def rdN (bs : List Int) : Int × Int × Int := (rd3 bs, rd3 (dr3 bs), rd3 (dr3 (dr3 bs)))
def bdN (bs : List Int) (bad : Bool) : Bool := bd3 (dr3 (dr3 bs)) (bd3 (dr3 bs) (bd3 bs bad))
def dr9 (bs : List Int) : List Int := dr3 (dr3 (dr3 bs))

set_option maxRecDepth 100000 in
set_option maxHeartbeats 4000000 in
theorem name_c (bs : List Int) (bad : Bool) : ∀ pt, AnsR Try.prog 37 pt [] (RO bs bad) (.st [I (rdN bs).1, I (rdN bs).2.1, I (rdN bs).2.2], 38) (RO (dr9 bs) (bdN bs bad)) := by
  intro pt
  have k1 := three_c bs bad pt
  have k2 := three_c (dr3 bs) (bd3 bs bad) pt
  have k3 := three_c (dr3 (dr3 bs)) (bd3 (dr3 bs) (bd3 bs bad)) pt
  refine AnsR.body1 WFC.wf Try.func37 rfl rfl rfl (npR _ _) (npR _ _) rfl rfl ?_
  refine walkD ?_
  refine AW.roundsW 4 ([(0, (.ptr 0 [], pt)), (2, (.ptr 1 [], 0)), (3, (.ptr 2 [], 0)), (9, (.arr [.ptr 2 [0], .ptr 2 [1], .ptr 2 [2]], 103)), (10, (I 0, 3))]) (.cons rfl (.cons rfl (.cons rfl (.cons rfl (.cons rfl .nil))))) (AWR.next (h := [RO bs bad, ⟨.one 38, .st [I 0, I 0, I 0]⟩, ⟨.one 38, .st [I 0, I 0, I 0]⟩]) (u := ⟨[], 0⟩) ?_)
  refine walkD ?_
  refine ⟨rfl, [(0, (.ptr 0 [], pt)), (2, (.ptr 1 [], 0)), (3, (.ptr 2 [], 0)), (9, (.arr [.ptr 2 [0], .ptr 2 [1], .ptr 2 [2]], 103)), (10, (I 1, 3))], (.cons rfl (.cons rfl (.cons rfl (.cons rfl (.cons rfl .nil))))), AWR.next (h := [RO (dr3 bs) (bd3 bs bad), ⟨.one 38, .st [I 0, I 0, I 0]⟩, ⟨.one 38, .st [I (rd3 bs), I 0, I 0]⟩]) (u := ⟨[], 0⟩) ?_⟩
  refine walkD ?_
  refine ⟨rfl, [(0, (.ptr 0 [], pt)), (2, (.ptr 1 [], 0)), (3, (.ptr 2 [], 0)), (9, (.arr [.ptr 2 [0], .ptr 2 [1], .ptr 2 [2]], 103)), (10, (I 2, 3))], (.cons rfl (.cons rfl (.cons rfl (.cons rfl (.cons rfl .nil))))), AWR.next (h := [RO (dr3 (dr3 bs)) (bd3 (dr3 bs) (bd3 bs bad)), ⟨.one 38, .st [I 0, I 0, I 0]⟩, ⟨.one 38, .st [I (rd3 bs), I (rd3 (dr3 bs)), I 0]⟩]) (u := ⟨[], 0⟩) ?_⟩
  refine walkD ?_
  refine ⟨rfl, [(0, (.ptr 0 [], pt)), (2, (.ptr 1 [], 0)), (3, (.ptr 2 [], 0)), (9, (.arr [.ptr 2 [0], .ptr 2 [1], .ptr 2 [2]], 103)), (10, (I 3, 3))], (.cons rfl (.cons rfl (.cons rfl (.cons rfl (.cons rfl .nil))))), AWR.next (h := [RO (dr9 bs) (bdN bs bad), ⟨.one 38, .st [I 0, I 0, I 0]⟩, ⟨.one 38, .st [I (rd3 bs), I (rd3 (dr3 bs)), I (rd3 (dr3 (dr3 bs)))]⟩]) (u := ⟨[], 0⟩) ?_⟩
  refine walkD ?_
  exact ⟨.inr rfl, .cell rfl rfl, (fun _ _ e => (by cases e; exact ⟨rfl, rfl⟩)), _, rfl⟩

theorem dr9_len (bs : List Int) : (dr9 bs).length ≤ bs.length := by simp only [dr9, dr3, List.length_tail]; omega
theorem name_e (bs : List Int) (bad : Bool) : ∃ z1 z2 z3 bs' bad', (∀ pt, AnsR Try.prog 37 pt [] (RO bs bad) (.st [I z1, I z2, I z3], 38) (RO bs' bad')) ∧ bs'.length ≤ bs.length := ⟨_, _, _, _, _, name_c bs bad, dr9_len bs⟩

def bdF (bs : List Int) (bad : Bool) : Bool := rdb bs bad || decide (rdv bs > 1)

set_option maxRecDepth 100000 in
set_option maxHeartbeats 4000000 in
theorem flag_c (bs : List Int) (bad : Bool) : ∀ pt, AnsR Try.prog 54 pt [] (RO bs bad) (B (decide (rdv bs = 1)), 4) (RO bs.tail (bdF bs bad)) := by
  intro pt
  have k1 := byte_c pt bs bad
  unfold bdF
  generalize rdv bs = z1, rdb bs bad = d1, bs.tail = b1 at k1
  revert k1
  intro k1
  refine AnsR.body1 WFC.wf Try.func54 rfl rfl rfl (npR _ _) (npR _ _) rfl rfl ?_
  by_cases h1 : z1 = 1
  · have h2 : ¬ z1 > 1 := by omega
    rw [decide_eq_true h1, decide_eq_false h2]
    cases d1
    · refine walkD ?_
      exact ⟨.inr rfl, .tmp rfl, (fun _ _ e => (by cases e)), _, rfl⟩
    · refine walkD ?_
      exact ⟨.inr rfl, .tmp rfl, (fun _ _ e => (by cases e)), _, rfl⟩
  · rw [decide_eq_false h1]
    by_cases h2 : z1 > 1
    · rw [decide_eq_true h2]
      cases d1
      · refine walkD ?_
        exact ⟨.inr rfl, .tmp rfl, (fun _ _ e => (by cases e)), _, rfl⟩
      · refine walkD ?_
        exact ⟨.inr rfl, .tmp rfl, (fun _ _ e => (by cases e)), _, rfl⟩
    · rw [decide_eq_false h2]
      cases d1
      · refine walkD ?_
        exact ⟨.inr rfl, .tmp rfl, (fun _ _ e => (by cases e)), _, rfl⟩
      · refine walkD ?_
        exact ⟨.inr rfl, .tmp rfl, (fun _ _ e => (by cases e)), _, rfl⟩

theorem flag_e (bs : List Int) (bad : Bool) : ∃ r bs' bad', (∀ pt, AnsR Try.prog 54 pt [] (RO bs bad) (B r, 4) (RO bs' bad')) ∧ bs'.length ≤ bs.length := ⟨_, _, _, flag_c bs bad, by rw [List.length_tail]; omega⟩
/-- So many bytes, read one by one. -/
def dr : Nat → List Int → List Int
  | 0, bs => bs
  | n + 1, bs => (dr n bs).tail
def bd : Nat → List Int → Bool → Bool
  | 0, _, bad => bad
  | n + 1, bs, bad => rdb (dr n bs) (bd n bs bad)
def wv (bs : List Int) (bad : Bool) : Wr := ⟨rdv bs, [w8 (rdv (dr 1 bs)), w8 (rdv (dr 2 bs)), w8 (rdv (dr 3 bs)), w8 (rdv (dr 4 bs)), w8 (rdv (dr 5 bs)), w8 (rdv (dr 6 bs)), w8 (rdv (dr 7 bs)), w8 (rdv (dr 8 bs))]⟩
def wb (bs : List Int) (bad : Bool) : List Int := dr 9 bs
def wd (bs : List Int) (bad : Bool) : Bool := bd 9 bs bad
theorem dr_len (bs : List Int) : ∀ n, (dr n bs).length = bs.length - n
  | 0 => rfl
  | n + 1 => by simp only [dr, List.length_tail, dr_len bs n]; omega

set_option maxRecDepth 100000 in
set_option maxHeartbeats 4000000 in
theorem write_x (bs : List Int) (bad : Bool) : ∀ pt, AnsR Try.prog 61 pt [] (RO bs bad) (tW (wv bs bad), 49) (RO (wb bs bad) (wd bs bad)) := by
  intro pt
  have k0 := byte_c pt (dr 0 bs) (bd 0 bs bad)
  have k1 := byte_c pt (dr 1 bs) (bd 1 bs bad)
  have k2 := byte_c pt (dr 2 bs) (bd 2 bs bad)
  have k3 := byte_c pt (dr 3 bs) (bd 3 bs bad)
  have k4 := byte_c pt (dr 4 bs) (bd 4 bs bad)
  have k5 := byte_c pt (dr 5 bs) (bd 5 bs bad)
  have k6 := byte_c pt (dr 6 bs) (bd 6 bs bad)
  have k7 := byte_c pt (dr 7 bs) (bd 7 bs bad)
  have k8 := byte_c pt (dr 8 bs) (bd 8 bs bad)
  refine AnsR.body1 WFC.wf Try.func61 rfl rfl rfl (npR _ _) (npR _ _) rfl rfl ?_
  refine walkD ?_
  refine AW.roundsW 9 ([(0, (.ptr 0 [], pt)), (2, (.ptr 1 [], 0)), (3, (.ptr 2 [], 0)), (8, (I 0, 3))]) (.cons rfl (.cons rfl (.cons rfl (.cons rfl .nil)))) (AWR.next (h := [RO (dr 1 bs) (bd 1 bs bad), ⟨.one 49, .st [I 0, .arr (List.replicate 8 (U8 0))]⟩, ⟨.one 49, .st [I (rdv bs), .arr [U8 0, U8 0, U8 0, U8 0, U8 0, U8 0, U8 0, U8 0]]⟩]) (u := ⟨[], 0⟩) ?_)
  refine walkD ?_
  refine ⟨rfl, [(0, (.ptr 0 [], pt)), (2, (.ptr 1 [], 0)), (3, (.ptr 2 [], 0)), (8, (I 1, 3))], (.cons rfl (.cons rfl (.cons rfl (.cons rfl .nil)))), AWR.next (h := [RO (dr 2 bs) (bd 2 bs bad), ⟨.one 49, .st [I 0, .arr (List.replicate 8 (U8 0))]⟩, ⟨.one 49, .st [I (rdv bs), .arr [U8 (w8 (rdv (dr 1 bs))), U8 0, U8 0, U8 0, U8 0, U8 0, U8 0, U8 0]]⟩]) (u := ⟨[], 0⟩) ?_⟩
  refine walkD ?_
  refine ⟨rfl, [(0, (.ptr 0 [], pt)), (2, (.ptr 1 [], 0)), (3, (.ptr 2 [], 0)), (8, (I 2, 3))], (.cons rfl (.cons rfl (.cons rfl (.cons rfl .nil)))), AWR.next (h := [RO (dr 3 bs) (bd 3 bs bad), ⟨.one 49, .st [I 0, .arr (List.replicate 8 (U8 0))]⟩, ⟨.one 49, .st [I (rdv bs), .arr [U8 (w8 (rdv (dr 1 bs))), U8 (w8 (rdv (dr 2 bs))), U8 0, U8 0, U8 0, U8 0, U8 0, U8 0]]⟩]) (u := ⟨[], 0⟩) ?_⟩
  refine walkD ?_
  refine ⟨rfl, [(0, (.ptr 0 [], pt)), (2, (.ptr 1 [], 0)), (3, (.ptr 2 [], 0)), (8, (I 3, 3))], (.cons rfl (.cons rfl (.cons rfl (.cons rfl .nil)))), AWR.next (h := [RO (dr 4 bs) (bd 4 bs bad), ⟨.one 49, .st [I 0, .arr (List.replicate 8 (U8 0))]⟩, ⟨.one 49, .st [I (rdv bs), .arr [U8 (w8 (rdv (dr 1 bs))), U8 (w8 (rdv (dr 2 bs))), U8 (w8 (rdv (dr 3 bs))), U8 0, U8 0, U8 0, U8 0, U8 0]]⟩]) (u := ⟨[], 0⟩) ?_⟩
  refine walkD ?_
  refine ⟨rfl, [(0, (.ptr 0 [], pt)), (2, (.ptr 1 [], 0)), (3, (.ptr 2 [], 0)), (8, (I 4, 3))], (.cons rfl (.cons rfl (.cons rfl (.cons rfl .nil)))), AWR.next (h := [RO (dr 5 bs) (bd 5 bs bad), ⟨.one 49, .st [I 0, .arr (List.replicate 8 (U8 0))]⟩, ⟨.one 49, .st [I (rdv bs), .arr [U8 (w8 (rdv (dr 1 bs))), U8 (w8 (rdv (dr 2 bs))), U8 (w8 (rdv (dr 3 bs))), U8 (w8 (rdv (dr 4 bs))), U8 0, U8 0, U8 0, U8 0]]⟩]) (u := ⟨[], 0⟩) ?_⟩
  refine walkD ?_
  refine ⟨rfl, [(0, (.ptr 0 [], pt)), (2, (.ptr 1 [], 0)), (3, (.ptr 2 [], 0)), (8, (I 5, 3))], (.cons rfl (.cons rfl (.cons rfl (.cons rfl .nil)))), AWR.next (h := [RO (dr 6 bs) (bd 6 bs bad), ⟨.one 49, .st [I 0, .arr (List.replicate 8 (U8 0))]⟩, ⟨.one 49, .st [I (rdv bs), .arr [U8 (w8 (rdv (dr 1 bs))), U8 (w8 (rdv (dr 2 bs))), U8 (w8 (rdv (dr 3 bs))), U8 (w8 (rdv (dr 4 bs))), U8 (w8 (rdv (dr 5 bs))), U8 0, U8 0, U8 0]]⟩]) (u := ⟨[], 0⟩) ?_⟩
  refine walkD ?_
  refine ⟨rfl, [(0, (.ptr 0 [], pt)), (2, (.ptr 1 [], 0)), (3, (.ptr 2 [], 0)), (8, (I 6, 3))], (.cons rfl (.cons rfl (.cons rfl (.cons rfl .nil)))), AWR.next (h := [RO (dr 7 bs) (bd 7 bs bad), ⟨.one 49, .st [I 0, .arr (List.replicate 8 (U8 0))]⟩, ⟨.one 49, .st [I (rdv bs), .arr [U8 (w8 (rdv (dr 1 bs))), U8 (w8 (rdv (dr 2 bs))), U8 (w8 (rdv (dr 3 bs))), U8 (w8 (rdv (dr 4 bs))), U8 (w8 (rdv (dr 5 bs))), U8 (w8 (rdv (dr 6 bs))), U8 0, U8 0]]⟩]) (u := ⟨[], 0⟩) ?_⟩
  refine walkD ?_
  refine ⟨rfl, [(0, (.ptr 0 [], pt)), (2, (.ptr 1 [], 0)), (3, (.ptr 2 [], 0)), (8, (I 7, 3))], (.cons rfl (.cons rfl (.cons rfl (.cons rfl .nil)))), AWR.next (h := [RO (dr 8 bs) (bd 8 bs bad), ⟨.one 49, .st [I 0, .arr (List.replicate 8 (U8 0))]⟩, ⟨.one 49, .st [I (rdv bs), .arr [U8 (w8 (rdv (dr 1 bs))), U8 (w8 (rdv (dr 2 bs))), U8 (w8 (rdv (dr 3 bs))), U8 (w8 (rdv (dr 4 bs))), U8 (w8 (rdv (dr 5 bs))), U8 (w8 (rdv (dr 6 bs))), U8 (w8 (rdv (dr 7 bs))), U8 0]]⟩]) (u := ⟨[], 0⟩) ?_⟩
  refine walkD ?_
  refine ⟨rfl, [(0, (.ptr 0 [], pt)), (2, (.ptr 1 [], 0)), (3, (.ptr 2 [], 0)), (8, (I 8, 3))], (.cons rfl (.cons rfl (.cons rfl (.cons rfl .nil)))), AWR.next (h := [RO (dr 9 bs) (bd 9 bs bad), ⟨.one 49, .st [I 0, .arr (List.replicate 8 (U8 0))]⟩, ⟨.one 49, .st [I (rdv bs), .arr [U8 (w8 (rdv (dr 1 bs))), U8 (w8 (rdv (dr 2 bs))), U8 (w8 (rdv (dr 3 bs))), U8 (w8 (rdv (dr 4 bs))), U8 (w8 (rdv (dr 5 bs))), U8 (w8 (rdv (dr 6 bs))), U8 (w8 (rdv (dr 7 bs))), U8 (w8 (rdv (dr 8 bs)))]]⟩]) (u := ⟨[], 0⟩) ?_⟩
  refine walkD ?_
  exact ⟨.inr rfl, .cell rfl rfl, (fun _ _ e => (by cases e; exact ⟨rfl, rfl⟩)), _, rfl⟩

theorem write_c (bs : List Int) (bad : Bool) : (∀ pt, AnsR Try.prog 61 pt [] (RO bs bad) (tW (wv bs bad), 49) (RO (wb bs bad) (wd bs bad))) ∧ (wv bs bad).v.length = 8 ∧ (wb bs bad).length ≤ bs.length ∧ ((wb bs bad).length < bs.length ∨ wd bs bad = true) := by
  refine ⟨write_x bs bad, rfl, by unfold wb; rw [dr_len]; omega, ?_⟩
  cases bs with
  | nil => right; rfl
  | cons b bs => left; unfold wb; rw [dr_len]; simp only [List.length_cons]; omega

end Go.Proofs.Ytecacooabofloaa

/- Package record: reading writes; what its tests answer. -/
set_option linter.unusedVariables false
set_option linter.unusedSimpArgs false
namespace Go.Proofs.Ytecacooabofloaa
open Go.Am
def runW (n : Int) : Nat → List Wr → List Int → Bool → List Wr × List Int × Bool
  | 0, ws, bs, bad => (ws, bs, bad)
  | f + 1, ws, bs, bad => match decide ((ws.length : Int) < n), bad with
    | true, false => runW n f (ws ++ [wv bs bad]) (wb bs bad) (wd bs bad)
    | _, _ => (ws, bs, bad)
theorem runW_props (n : Int) : ∀ (f : Nat) (ws : List Wr) (bs : List Int) (bad : Bool), (∀ w ∈ ws, w.v.length = 8) → (∀ w ∈ (runW n f ws bs bad).1, w.v.length = 8) ∧ (runW n f ws bs bad).2.1.length ≤ bs.length ∧ (runW n f ws bs bad).1.length ≤ ws.length + f
  | 0, ws, bs, bad, h => ⟨h, Nat.le_refl _, Nat.le_refl _⟩
  | f + 1, ws, bs, bad, h => by
    unfold runW
    split
    · obtain ⟨h1, h2, h3⟩ := runW_props n f (ws ++ [wv bs false]) (wb bs false) (wd bs false) (fun w hw => by
        rcases List.mem_append.1 hw with hw | hw
        · exact h w hw
        · simp at hw; subst hw; exact (write_c bs false).2.1)
      refine ⟨h1, Nat.le_trans h2 (write_c bs false).2.2.1, ?_⟩
      simp only [List.length_append, List.length_cons, List.length_nil] at h3
      omega
    · exact ⟨h, Nat.le_refl _, by simp⟩
theorem Ls_len (ws : List Wr) : (ws.map tW).length = ws.length := List.length_map _
theorem Ls_get {ws : List Wr} {i : Nat} {w : Wr} (h : ws[i]? = some w) : (ws.map tW)[((i : Int)).toNat]? = some (tW w) := by
  rw [Int.toNat_natCast, List.getElem?_map, h]; rfl

def someF (n : Int) (bs : List Int) (bad : Bool) : List Wr × List Int × Bool := runW n (2 * bs.length + 2) [] bs bad
theorem someF_props (n : Int) (bs : List Int) (bad : Bool) : (∀ w ∈ (someF n bs bad).1, w.v.length = 8) ∧ (someF n bs bad).2.1.length ≤ bs.length ∧ (someF n bs bad).1.length ≤ 2 * bs.length + 2 := by
  have := runW_props n (2 * bs.length + 2) [] bs bad (by simp)
  exact ⟨this.1, this.2.1, Nat.le_trans this.2.2 (by simp)⟩

set_option maxRecDepth 100000 in
set_option maxHeartbeats 4000000 in
theorem some_c (n : Int) (bs : List Int) (bad : Bool) (hbs : bs.length ≤ 1000000) : AnsM Try.prog 60 [(I n, 3), (.fn (.func 61) [.ptr 0 []] [], 105), (.ptr 0 [1], 0)] [RO bs bad] ⟨[], 0⟩ (Ls (someF n bs bad).1, 39) [RO (someF n bs bad).2.1 (someF n bs bad).2.2] ⟨[], 0⟩ := by
  obtain ⟨ws', bs', bad', hF⟩ : ∃ x y z, runW n (2 * bs.length + 2) [] bs bad = (x, y, z) := ⟨_, _, _, rfl⟩
  unfold someF
  rw [hF]
  refine AnsM.body1R WFC.wf Try.func60 rfl rfl rfl (npR _ _) (by simp [np, npW, Tag.nt]) ?_
  refine walkD ?_
  refine AW.loopF (fun m t h u => ∃ ws b d tag, t = [(0, (I n, 3)), (1, (.fn (.func 61) [.ptr 0 []] [], 105)), (2, (.ptr 0 [1], 0)), (7, (.lst (ws.map tW) tag, 39))] ∧ h = [RO b d] ∧ ((ws = [] ∧ tag = .nil ∧ u = ⟨[], 0⟩) ∨ (∃ k, tag = .tip k ∧ u = ⟨[k], k + 1⟩)) ∧ runW n m ws b d = (ws', bs', bad') ∧ 2 * b.length + (if d then 0 else 1) < m ∧ ws.length + m ≤ 2000002)
    (2 * bs.length + 2) ([(0, (I n, 3)), (1, (.fn (.func 61) [.ptr 0 []] [], 105)), (2, (.ptr 0 [1], 0)), (7, (.lst (([] : List Wr).map tW) .nil, 39))]) (.cons rfl (.cons rfl (.cons rfl (.cons rfl .nil)))) ⟨[], bs, bad, .nil, rfl, rfl, .inl ⟨rfl, rfl, rfl⟩, hF, by split <;> omega, by simp; omega⟩ ?_
  rintro m t h u ⟨ws, b, d, tag, rfl, rfl, htag, hrun, hm, hlen⟩
  have hl := Ls_len ws
  obtain ⟨m, rfl⟩ : ∃ k, m = k + 1 := ⟨m - 1, by omega⟩
  by_cases hn : (ws.length : Int) < n
  · cases d with
    | true =>
      simp only [runW, decide_eq_true hn, Prod.mk.injEq] at hrun
      obtain ⟨rfl, rfl, rfl⟩ := hrun
      refine walkD ?_
      exact ⟨.inr rfl, .tmpW rfl (Wk.noS rfl), (fun _ _ e => (by cases e)), _, rfl⟩
    | false =>
      have hw := (write_c b false).1 0
      simp only [runW, decide_eq_true hn] at hrun
      have hms : 2 * (wb b false).length + (if wd b false = true then 0 else 1) < m := by
        have h1 := (write_c b false).2.2.1
        rcases (write_c b false).2.2.2 with h2 | h2
        · simp at hm; split <;> omega
        · rw [if_pos h2]; simp at hm; omega
      rcases htag with ⟨rfl, rfl, rfl⟩ | ⟨k, rfl, rfl⟩
      · refine walkD ?_
        refine O.appendG (xs := []) (ys := [tW (wv b false)]) (tag := .nil) (tag2 := .full) rfl WFC.wf (ArgAt.tmp rfl ⟨rfl, rfl⟩) (ArgAt.tmp rfl ⟨rfl, rfl⟩) rfl rfl ZC.zero (by decide) (.inr rfl) (by simp) (Nat.le_of_ble_eq_true rfl) (Nat.le_of_ble_eq_true rfl) ?_
        refine walkD ?_
        exact ⟨rfl, m, [(0, (I n, 3)), (1, (.fn (.func 61) [.ptr 0 []] [], 105)), (2, (.ptr 0 [1], 0)), (7, (.lst ((([] : List Wr) ++ [wv b false]).map tW) (.tip 0), 39))], [RO (wb b false) (wd b false)], _, Nat.lt_succ_self _, (.cons rfl (.cons rfl (.cons rfl (.cons rfl .nil)))), rfl, rfl, (by simp [tb, pb, pbL, pbV, pbW, -List.map_append]), (by simp [hbB, pb, pbL, pbU]), ([] : List Wr) ++ [wv b false], wb b false, wd b false, _, rfl, rfl, .inr ⟨_, rfl, rfl⟩, hrun, hms, by simp only [List.length_append, List.length_cons, List.length_nil] at hlen ⊢; omega⟩
      · refine walkD ?_
        refine O.appendT (xs := ws.map tW) (ys := [tW (wv b false)]) (τ0 := k) (tag2 := .full) rfl WFC.wf (ArgAt.tmp rfl ⟨rfl, rfl⟩) (ArgAt.tmp rfl ⟨rfl, rfl⟩) (List.Mem.head _) rfl rfl ZC.zero (by decide) (by simp) (by simp [T.cell]) ?_ ?_ ?_
        · rw [hl]; simp only [List.length_cons, List.length_nil]; omega
        · rw [hl]; show (_ + _) * 16 ≤ _; simp only [List.length_cons, List.length_nil]; omega
        rw [show ws.map tW ++ [tW (wv b false)] = (ws ++ [wv b false]).map tW by simp]
        refine walkD ?_
        exact ⟨rfl, m, [(0, (I n, 3)), (1, (.fn (.func 61) [.ptr 0 []] [], 105)), (2, (.ptr 0 [1], 0)), (7, (.lst ((ws ++ [wv b false]).map tW) (.tip (k + 1)), 39))], [RO (wb b false) (wd b false)], _, Nat.lt_succ_self _, (.cons rfl (.cons rfl (.cons rfl (.cons rfl .nil)))), rfl, rfl, (by simp [tb, pb, pbL, pbV, pbW, -List.map_append]), (by simp [hbB, pb, pbL, pbU]), ws ++ [wv b false], wb b false, wd b false, _, rfl, rfl, .inr ⟨_, rfl, by simp [Tips.used, remN]⟩, hrun, hms, by simp only [List.length_append, List.length_cons, List.length_nil] at hlen ⊢; omega⟩
  · simp only [runW, decide_eq_false hn, Prod.mk.injEq] at hrun
    obtain ⟨rfl, rfl, rfl⟩ := hrun
    refine walkD ?_
    exact ⟨.inr rfl, .tmpW rfl (Wk.noS rfl), (fun _ _ e => (by cases e)), _, rfl⟩

def wsR (bs : List Int) (bad : Bool) : List Wr × List Int × Bool := someF (rdv bs) bs.tail (rdb bs bad)
theorem wsR_props (bs : List Int) (bad : Bool) : (∀ w ∈ (wsR bs bad).1, w.v.length = 8) ∧ (wsR bs bad).2.1.length ≤ bs.length ∧ (wsR bs bad).1.length ≤ 2 * bs.length + 2 := by
  obtain ⟨q1, q2, q3⟩ := someF_props (rdv bs) bs.tail (rdb bs bad)
  rw [List.length_tail] at q2 q3
  exact ⟨q1, Nat.le_trans q2 (by omega), Nat.le_trans q3 (by omega)⟩

set_option maxRecDepth 100000 in
set_option maxHeartbeats 4000000 in
theorem writes_c (bs : List Int) (bad : Bool) (hbs : bs.length ≤ 1000000) : ∀ pt, AnsR Try.prog 43 pt [] (RO bs bad) (Ls (wsR bs bad).1, 39) (RO (wsR bs bad).2.1 (wsR bs bad).2.2) := by
  intro pt
  have k1 := byte_c pt bs bad
  have h2 := some_c (rdv bs) bs.tail (rdb bs bad) (by rw [List.length_tail]; omega)
  unfold wsR
  generalize someF (rdv bs) bs.tail (rdb bs bad) = q at h2
  obtain ⟨ws, b2, d2⟩ := q
  generalize rdv bs = z, bs.tail = b1, rdb bs bad = d1 at k1 h2
  refine AnsR.body1 WFC.wf Try.func43 rfl rfl rfl (npR _ _) (npR _ _) rfl (by simp [np, npW, Tag.nt]) ?_
  refine walkD ?_
  refine AW.drawR (fun h => (h[0]?).map (·.ty) = some (.one 77)) [([], [0]), ([0], [3]), ([], [0]), ([2], [5]), ([], [0]), ([4], [7]), ([5, 4], [8]), ([1, 0, 3, 2, 6, 5, 4], [4, 6, 9]), ([7, 1, 0, 3, 2, 6, 5, 4], [10])] [1, 7] [1, 7] rfl rfl (by kernel_rfl) ?_
  refine walkG ?_
  refine walkD ?_
  exact ⟨.inr rfl, .tmpW rfl (Wk.noS rfl), (fun _ _ e => (by cases e)), _, rfl⟩

theorem writes_e (bs : List Int) (bad : Bool) (hbs : bs.length ≤ 1000000) : ∃ ws bs' bad', (∀ pt, AnsR Try.prog 43 pt [] (RO bs bad) (Ls ws, 39) (RO bs' bad')) ∧ (∀ w ∈ ws, w.v.length = 8) ∧ bs'.length ≤ bs.length ∧ ws.length ≤ 2 * bs.length + 2 :=
  ⟨_, _, _, writes_c bs bad hbs, wsR_props bs bad⟩

end Go.Proofs.Ytecacooabofloaa

/- Package record: its tests. -/
set_option linter.unusedVariables false
set_option linter.unusedSimpArgs false
set_option maxRecDepth 100000
namespace Go.Proofs.Ytecacooabofloaa
open Go.Am
structure Nm where
  s : Int
  i : Int
  t : Int
deriving DecidableEq
structure Rc where
  k : Int
  n : Nm
  y : Bool
  ws : List Wr
  g : Int
  t : Int
  sh : Int
  c1 : Int
  c2 : Int
  num : Int
deriving DecidableEq
abbrev tN (n : Nm) : T := .st [I n.s, I n.i, I n.t]
abbrev tR (r : Rc) : T := .st [.s (.int .i8 r.k), tN r.n, B r.y, Ls r.ws, I r.g, I r.t, I r.sh, .st [I r.c1, I r.c2], I r.num]
theorem npRc (r : Rc) : np (tR r) = true := by simp [np, npL, npW, Tag.nt]
theorem eqN (a b : Nm) : EqT Try.prog 10000 38 (tN a) (tN b) (decide (a = b)) := by
  have h : EqT Try.prog 10000 38 (tN a) (tN b) (decide (a.s = b.s) && (decide (a.i = b.i) && (decide (a.t = b.t) && true))) := EqT.st WFC.wf (by decide) Try.underlying38 rfl (.cons rfl rfl rfl rfl (.int rfl) (.cons rfl rfl rfl rfl (.int rfl) (.cons rfl rfl rfl rfl (.int rfl) .nil)))
  have e : (decide (a.s = b.s) && (decide (a.i = b.i) && (decide (a.t = b.t) && true))) = decide (a = b) := by
    obtain ⟨a1, a2, a3⟩ := a
    obtain ⟨b1, b2, b3⟩ := b
    rw [Bool.eq_iff_iff]; simp
  rw [e] at h; exact h
theorem eqV : ∀ {n : Nat} (v u : List Int), v.length = u.length → EqA Try.prog (n + 1) 5 (v.map U8) (u.map U8) (decide (v = u))
  | n, [], [], _ => by have := EqA.nil (P := Try.prog) (n := n + 1) (e := 5); simpa using this
  | n, a :: v, b :: u, h => by
    have := EqA.cons (P := Try.prog) (n := n + 1) (e := 5) (x := U8 a) (y := U8 b) rfl rfl (.int rfl) (eqV v u (by simpa using h))
    rw [show decide (a :: v = b :: u) = (decide (a = b) && decide (v = u)) by rw [Bool.eq_iff_iff]; simp]
    exact this
theorem eqW (a b : Wr) (h : a.v.length = b.v.length) : EqT Try.prog 10000 49 (tW a) (tW b) (decide (a = b)) := by
  have h : EqT Try.prog 10000 49 (tW a) (tW b) (decide (a.b = b.b) && (decide (a.v = b.v) && true)) := EqT.st WFC.wf (by decide) Try.underlying49 (by kernel_rfl) (.cons rfl rfl rfl rfl (.int rfl) (.cons rfl rfl rfl rfl (EqT.arr WFC.wf (by decide) Try.underlying23 rfl rfl (eqV _ _ h)) .nil))
  have e : (decide (a.b = b.b) && (decide (a.v = b.v) && true)) = decide (a = b) := by
    obtain ⟨a1, a2⟩ := a
    obtain ⟨b1, b2⟩ := b
    rw [Bool.eq_iff_iff]; simp
  rw [e] at h; exact h
def lastB (ws : List Wr) : Nat → Int
  | 0 => -1
  | i + 1 => match ws[i]? with
    | some w => w.b
    | none => lastB ws i
def okAt (ws : List Wr) (i : Nat) : Prop := ∀ w, ws[i]? = some w → lastB ws i < w.b ∧ w.b < 32
/-- Writes that rise. -/
structure Wn (ws : List Wr) : Prop where
  ok : ∀ i, okAt ws i
  len : ws.length ≤ 8

set_option maxHeartbeats 4000000 in
theorem within_tt (n a b : Int) (h1 : a ≤ n) (h2 : n ≤ b) : Ans Try.prog 32 [(I n, 3), (I a, 3), (I b, 3)] (B true, 4) := by
  refine Ans.body1 WFC.wf Try.func32 rfl rfl rfl (by simp [npL, np, npU, npV, npW, Tag.nt]) (by simp [npL, np, npU, npV, npW, Tag.nt]) ?_
  refine walkD ?_
  exact ⟨.inr rfl, .tmp rfl, (fun _ _ e => (by cases e))⟩

set_option maxHeartbeats 4000000 in
theorem within_tf (n a b : Int) (h1 : a ≤ n) (h2 : b < n) : Ans Try.prog 32 [(I n, 3), (I a, 3), (I b, 3)] (B false, 4) := by
  refine Ans.body1 WFC.wf Try.func32 rfl rfl rfl (by simp [npL, np, npU, npV, npW, Tag.nt]) (by simp [npL, np, npU, npV, npW, Tag.nt]) ?_
  refine walkD ?_
  exact ⟨.inr rfl, .tmp rfl, (fun _ _ e => (by cases e))⟩

set_option maxHeartbeats 4000000 in
theorem within_f (n a b : Int) (h1 : n < a) : Ans Try.prog 32 [(I n, 3), (I a, 3), (I b, 3)] (B false, 4) := by
  refine Ans.body1 WFC.wf Try.func32 rfl rfl rfl (by simp [npL, np, npU, npV, npW, Tag.nt]) (by simp [npL, np, npU, npV, npW, Tag.nt]) ?_
  refine walkD ?_
  exact ⟨.inr rfl, .tmp rfl, (fun _ _ e => (by cases e))⟩

/-- Is a number from a to b? -/
def wiB (n a b : Int) : Bool := decide (a ≤ n) && decide (n ≤ b)
theorem within_c (n a b : Int) : Ans Try.prog 32 [(I n, 3), (I a, 3), (I b, 3)] (B (wiB n a b), 4) := by
  by_cases h1 : a ≤ n
  · by_cases h2 : n ≤ b
    · have h := within_tt n a b h1 h2
      rwa [show true = wiB n a b by simp [wiB, h1, h2]] at h
    · have h := within_tf n a b h1 (by omega)
      rwa [show false = wiB n a b by simp [wiB, h1, h2]] at h
  · have h := within_f n a b (by omega)
    rwa [show false = wiB n a b by simp [wiB, h1]] at h
theorem within_e (n a b : Int) : ∃ r, Ans Try.prog 32 [(I n, 3), (I a, 3), (I b, 3)] (B r, 4) := ⟨_, within_c n a b⟩
def nmB (n : Nm) : Bool := wiB n.s 1 1048576 && wiB n.i 1 1048576 && wiB n.t 1 1048576

set_option maxRecDepth 100000 in
set_option maxHeartbeats 4000000 in
theorem named_c (n : Nm) : Ans Try.prog 39 [(tN n, 38)] (B (nmB n), 4) := by
  have h1 := within_c n.s 1 1048576
  have h2 := within_c n.i 1 1048576
  have h3 := within_c n.t 1 1048576
  unfold nmB
  generalize wiB n.s 1 1048576 = r1, wiB n.i 1 1048576 = r2, wiB n.t 1 1048576 = r3 at h1 h2 h3
  refine Ans.body1 WFC.wf Try.func39 rfl rfl rfl rfl rfl ?_
  cases r1
  · refine walkD ?_
    exact ⟨.inr rfl, .tmp rfl, (fun _ _ e => (by cases e))⟩
  cases r2
  · refine walkD ?_
    exact ⟨.inr rfl, .tmp rfl, (fun _ _ e => (by cases e))⟩
  cases r3
  · refine walkD ?_
    exact ⟨.inr rfl, .tmp rfl, (fun _ _ e => (by cases e))⟩
  refine walkD ?_
  exact ⟨.inr rfl, .tmp rfl, (fun _ _ e => (by cases e))⟩

theorem named_e (n : Nm) : ∃ r, Ans Try.prog 39 [(tN n, 38)] (B r, 4) := ⟨_, named_c n⟩

set_option maxHeartbeats 4000000 in
theorem written_c (ws : List Wr) (hm : ws.length < 4611686018427387904) (r : Bool) (hr : r = true ↔ Wn ws) : Ans Try.prog 45 [(Ls ws, 39)] (B r, 4) := by
  refine Ans.body1 WFC.wf Try.func45 rfl rfl rfl (by simp [npL, np, npU, npV, npW, Tag.nt]) (by simp [npL, np, npU, npV, npW, Tag.nt]) ?_
  have hl := Ls_len ws
  refine walkD ?_
  refine AW.loopF (fun m t h u' => u' = ⟨[], 0⟩ ∧ ∃ i : Nat, m = ws.length - i ∧ i ≤ ws.length ∧ h = [] ∧ t = [(0, (Ls ws, 39)), (3, (I (lastB ws i), 3)), (6, (Ls ws, 39)), (7, (I ((ws.map tW).length : Nat), 3)), (8, (I (i : Nat), 3))] ∧ (∀ j, j < i → okAt ws j)) (ws.length) [(0, (Ls ws, 39)), (3, (I (lastB ws 0), 3)), (6, (Ls ws, 39)), (7, (I ((ws.map tW).length : Nat), 3)), (8, (I (0 : Nat), 3))] (.cons rfl (.cons rfl (.cons rfl (.cons rfl (.cons rfl .nil))))) ⟨rfl, 0, rfl, Nat.zero_le _, rfl, rfl, (fun j h => by omega)⟩ ?_
  rintro m t h u' ⟨rfl, i, rfl, hi, rfl, rfl, hinv⟩
  by_cases he : i = ws.length
  · subst he
    by_cases h8 : ws.length ≤ 8
    · have ht : r = true := hr.2 ⟨fun j w hj => hinv j (List.getElem?_eq_some_iff.1 hj).1 w hj, h8⟩
      subst ht
      refine walkD ?_
      exact ⟨.inr rfl, .tmp rfl, (fun _ _ e => (by cases e))⟩
    · have hf : r = false := by rw [Bool.eq_false_iff]; intro h; exact h8 (hr.1 h).len
      subst hf
      refine walkD ?_
      exact ⟨.inr rfl, .tmp rfl, (fun _ _ e => (by cases e))⟩
  obtain ⟨w, hw⟩ : ∃ w, ws[i]? = some w := ⟨_, List.getElem?_eq_getElem (by omega)⟩
  have hx0 := Ls_get hw
  have hlast : lastB ws (i + 1) = w.b := by simp only [lastB, hw]
  by_cases h1 : w.b ≤ lastB ws i
  · have hf : r = false := by rw [Bool.eq_false_iff]; intro h; have := (hr.1 h).ok i w hw; omega
    subst hf
    refine walkD ?_
    exact ⟨.inr rfl, .tmp rfl, (fun _ _ e => (by cases e))⟩
  by_cases h2 : 32 ≤ w.b
  · have hf : r = false := by rw [Bool.eq_false_iff]; intro h; have := (hr.1 h).ok i w hw; omega
    subst hf
    refine walkD ?_
    exact ⟨.inr rfl, .tmp rfl, (fun _ _ e => (by cases e))⟩
  refine walkD ?_
  exact ⟨rfl, ws.length - (i + 1), [(0, (Ls ws, 39)), (3, (I (lastB ws (i + 1)), 3)), (6, (Ls ws, 39)), (7, (I ((ws.map tW).length : Nat), 3)), (8, (I ((i + 1) : Nat), 3))], [], _, by omega, (.cons rfl (.cons (by rw [hlast]; rfl) (.cons rfl (.cons rfl (.cons rfl .nil))))), rfl, rfl, (by simp [tb, hbB, pb, pbL, pbU, pbV, pbW]), (by simp [tb, hbB, pb, pbL, pbU, pbV, pbW]), rfl, i + 1, rfl, by omega, rfl, rfl, fun j hj w2 hw2 => by
    by_cases hji : j = i
    · subst hji; rw [hw] at hw2; cases hw2; omega
    · exact hinv j (by omega) w2 hw2⟩


/-- Do writes rise? -/
def riB : Int → List Wr → Bool
  | _, [] => true
  | l, w :: ws => decide (l < w.b) && decide (w.b < 32) && riB w.b ws
def wnB (ws : List Wr) : Bool := riB (-1) ws && decide (ws.length ≤ 8)
theorem riB_iff (ws : List Wr) : ∀ (n i : Nat), i + n = ws.length → (riB (lastB ws i) (ws.drop i) = true ↔ ∀ j, i ≤ j → okAt ws j)
  | 0, i, h => by
    rw [List.drop_of_length_le (by omega)]
    exact ⟨fun _ j hj w hw => absurd (List.getElem?_eq_some_iff.1 hw).1 (by omega), fun _ => rfl⟩
  | n + 1, i, h => by
    have hi : i < ws.length := by omega
    have hd : ws.drop i = ws[i] :: ws.drop (i + 1) := List.drop_eq_getElem_cons hi
    have hg : ws[i]? = some ws[i] := List.getElem?_eq_getElem hi
    have hlast : lastB ws (i + 1) = ws[i].b := by simp only [lastB, hg]
    have ih := riB_iff ws n (i + 1) (by omega)
    rw [hlast] at ih
    rw [hd]
    simp only [riB, Bool.and_eq_true, decide_eq_true_eq, ih]
    constructor
    · rintro ⟨⟨h1, h2⟩, h3⟩ j hj w hw
      by_cases hji : j = i
      · subst hji; rw [hg] at hw; cases hw; exact ⟨h1, h2⟩
      · exact h3 j (by omega) w hw
    · intro h3
      have := h3 i (Nat.le_refl _) _ hg
      exact ⟨this, fun j hj => h3 j (by omega)⟩
theorem wnB_iff (ws : List Wr) : wnB ws = true ↔ Wn ws := by
  have := riB_iff ws ws.length 0 (by omega)
  rw [List.drop_zero] at this
  simp only [wnB, Bool.and_eq_true, decide_eq_true_eq]
  constructor
  · rintro ⟨h1, h2⟩; exact ⟨fun i => this.1 h1 i (Nat.zero_le _), h2⟩
  · rintro ⟨h1, h2⟩; exact ⟨this.2 fun j _ => h1 j, h2⟩
theorem written_x (ws : List Wr) (hm : ws.length < 4611686018427387904) : Ans Try.prog 45 [(Ls ws, 39)] (B (wnB ws), 4) := written_c ws hm _ (wnB_iff ws)
theorem written_e (ws : List Wr) (hm : ws.length < 4611686018427387904) : ∃ r, Ans Try.prog 45 [(Ls ws, 39)] (B r, 4) := ⟨_, written_x ws hm⟩

theorem ne_get {u v : List Wr} (hl : u.length = v.length) (h : ∀ j, j < u.length → u[j]? = v[j]?) : u = v := by
  apply List.ext_getElem?
  intro j
  by_cases hj : j < u.length
  · exact h j hj
  · rw [List.getElem?_eq_none (by omega), List.getElem?_eq_none (by omega)]

set_option maxHeartbeats 4000000 in
theorem equal_c (u v : List Wr) (hmu : u.length < 4611686018427387904) (hmv : v.length < 4611686018427387904) (hu : ∀ w ∈ u, w.v.length = 8) (hv : ∀ w ∈ v, w.v.length = 8) : Ans Try.prog 24 [(Ls u, 39), (Ls v, 39)] (B (decide (u = v)), 4) := by
  refine Ans.body1 WFC.wf Try.func24 rfl rfl rfl (by simp [npL, np, npU, npV, npW, Tag.nt]) (by simp [npL, np, npU, npV, npW, Tag.nt]) ?_
  have hlu := Ls_len u
  have hlv := Ls_len v
  by_cases hl : u.length ≠ v.length
  · rw [decide_eq_false (fun e => hl (by rw [e]))]
    refine walkD ?_
    exact ⟨.inr rfl, .tmp rfl, (fun _ _ e => (by cases e))⟩
  have hl : u.length = v.length := by omega
  refine walkD ?_
  refine AW.loopF (fun m t h u' => u' = ⟨[], 0⟩ ∧ ∃ i : Nat, m = u.length - i ∧ i ≤ u.length ∧ h = [] ∧ t = [(0, (Ls u, 39)), (1, (Ls v, 39)), (12, (I ((u.map tW).length : Nat), 3)), (13, (I (i : Nat), 3))] ∧ (∀ j, j < i → u[j]? = v[j]?)) (u.length) [(0, (Ls u, 39)), (1, (Ls v, 39)), (12, (I ((u.map tW).length : Nat), 3)), (13, (I (0 : Nat), 3))] (.cons rfl (.cons rfl (.cons rfl (.cons rfl .nil)))) ⟨rfl, 0, rfl, Nat.zero_le _, rfl, rfl, (fun j h => by omega)⟩ ?_
  rintro m t h u' ⟨rfl, i, rfl, hi, rfl, rfl, hinv⟩
  by_cases he : i = u.length
  · subst he
    rw [decide_eq_true (ne_get hl hinv)]
    refine walkD ?_
    exact ⟨.inr rfl, .tmp rfl, (fun _ _ e => (by cases e))⟩
  obtain ⟨x, hx⟩ : ∃ w, u[i]? = some w := ⟨_, List.getElem?_eq_getElem (by omega)⟩
  obtain ⟨y, hy⟩ : ∃ w, v[i]? = some w := ⟨_, List.getElem?_eq_getElem (by omega)⟩
  have hx0 := Ls_get hx
  have hy0 := Ls_get hy
  have hE := eqW x y ((hu x (List.mem_of_getElem? hx)).trans (hv y (List.mem_of_getElem? hy)).symm)
  by_cases hxy : x = y
  · rw [decide_eq_true hxy] at hE
    refine walkD ?_
    refine AW.drawP [([], [0]), ([], [5]), ([0, 1], [16, 17]), ([2, 0, 1], [18]), ([], [1]), ([], [5]), ([4, 5], [20, 21]), ([6, 4, 5], [22]), ([3, 2, 0, 1, 7, 6, 4, 5], [19, 23])] [2, 3, 6, 7] [] rfl (by kernel_rfl) ?_
    refine walkG ?_
    refine walkD ?_
    exact ⟨rfl, u.length - (i + 1), [(0, (Ls u, 39)), (1, (Ls v, 39)), (12, (I ((u.map tW).length : Nat), 3)), (13, (I ((i + 1) : Nat), 3))], [], _, by omega, (.cons rfl (.cons rfl (.cons rfl (.cons rfl .nil)))), rfl, rfl, (by simp [tb, hbB, pb, pbL, pbU, pbV, pbW]), (by simp [tb, hbB, pb, pbL, pbU, pbV, pbW]), rfl, i + 1, rfl, by omega, rfl, rfl, fun j hj => by
      by_cases hji : j = i
      · subst hji; rw [hx, hy, hxy]
      · exact hinv j (by omega)⟩
  · rw [decide_eq_false hxy] at hE
    have hne : u ≠ v := fun e => by subst e; rw [hx] at hy; cases hy; exact hxy rfl
    rw [decide_eq_false hne]
    refine walkD ?_
    refine AW.drawP [([], [0]), ([], [5]), ([0, 1], [16, 17]), ([2, 0, 1], [18]), ([], [1]), ([], [5]), ([4, 5], [20, 21]), ([6, 4, 5], [22]), ([3, 2, 0, 1, 7, 6, 4, 5], [19, 23])] [2, 3, 6, 7] [] rfl (by kernel_rfl) ?_
    refine walkG ?_
    refine walkD ?_
    exact ⟨.inr rfl, .tmp rfl, (fun _ _ e => (by cases e))⟩

theorem eqC (a1 a2 b1 b2 : Int) : EqT Try.prog 10000 41 (.st [I a1, I a2]) (.st [I b1, I b2]) (decide (a1 = b1 ∧ a2 = b2)) := by
  have h : EqT Try.prog 10000 41 (.st [I a1, I a2]) (.st [I b1, I b2]) (decide (a1 = b1) && (decide (a2 = b2) && true)) := EqT.st WFC.wf (by decide) Try.underlying41 (by kernel_rfl) (.cons rfl rfl rfl rfl (.int rfl) (.cons rfl rfl rfl rfl (.int rfl) .nil))
  have e : (decide (a1 = b1) && (decide (a2 = b2) && true)) = decide (a1 = b1 ∧ a2 = b2) := by
    rw [Bool.eq_iff_iff]; simp
  rw [e] at h; exact h

set_option maxRecDepth 100000 in
set_option maxHeartbeats 4000000 in
theorem same_c (a b : Rc) (hma : a.ws.length < 4611686018427387904) (hmb : b.ws.length < 4611686018427387904) (ha : ∀ w ∈ a.ws, w.v.length = 8) (hb : ∀ w ∈ b.ws, w.v.length = 8) : Ans Try.prog 20 [(tR a, 43), (tR b, 43)] (B (decide (a = b)), 4) := by
  have h24 := equal_c a.ws b.ws hma hmb ha hb
  have e1 := eqN a.n b.n
  have e2 := eqC a.c1 a.c2 b.c1 b.c2
  by_cases hws : ¬ a.ws = b.ws
  · rw [decide_eq_false hws] at h24
    rw [decide_eq_false (fun e : a = b => hws (by subst e; rfl))]
    refine Ans.body1 WFC.wf Try.func20 rfl rfl rfl (by simp [npL, npRc]) rfl ?_
    refine walkD ?_
    exact ⟨.inr rfl, .tmp rfl, (fun _ _ e => (by cases e))⟩
  have hws : a.ws = b.ws := Classical.not_not.1 hws
  rw [decide_eq_true hws] at h24
  by_cases hk : ¬ (a.k = b.k)
  · rw [decide_eq_false (fun e : a = b => hk (by subst e; simp))]
    refine Ans.body1 WFC.wf Try.func20 rfl rfl rfl (by simp [npL, npRc]) rfl ?_
    refine walkD ?_
    exact ⟨.inr rfl, .tmp rfl, (fun _ _ e => (by cases e))⟩
  have hk : a.k = b.k := Classical.not_not.1 hk
  by_cases hn : ¬ (a.n = b.n)
  · rw [decide_eq_false hn] at e1
    rw [decide_eq_false (fun e : a = b => hn (by subst e; simp))]
    refine Ans.body1 WFC.wf Try.func20 rfl rfl rfl (by simp [npL, npRc]) rfl ?_
    refine walkD ?_
    exact ⟨.inr rfl, .tmp rfl, (fun _ _ e => (by cases e))⟩
  have hn : a.n = b.n := Classical.not_not.1 hn
  rw [decide_eq_true hn] at e1
  by_cases hy : ¬ (a.y = b.y)
  · have hyy : (a.y == b.y) = false := by simpa using hy
    rw [decide_eq_false (fun e : a = b => hy (by subst e; simp))]
    refine Ans.body1 WFC.wf Try.func20 rfl rfl rfl (by simp [npL, npRc]) rfl ?_
    refine walkD ?_
    rw [hyy]
    refine walkD ?_
    exact ⟨.inr rfl, .tmp rfl, (fun _ _ e => (by cases e))⟩
  have hy : a.y = b.y := Classical.not_not.1 hy
  have hyy : (a.y == b.y) = true := by simp [hy]
  by_cases hg : ¬ (a.g = b.g)
  · rw [decide_eq_false (fun e : a = b => hg (by subst e; simp))]
    refine Ans.body1 WFC.wf Try.func20 rfl rfl rfl (by simp [npL, npRc]) rfl ?_
    refine walkD ?_
    rw [hyy]
    refine walkD ?_
    exact ⟨.inr rfl, .tmp rfl, (fun _ _ e => (by cases e))⟩
  have hg : a.g = b.g := Classical.not_not.1 hg
  by_cases ht : ¬ (a.t = b.t)
  · rw [decide_eq_false (fun e : a = b => ht (by subst e; simp))]
    refine Ans.body1 WFC.wf Try.func20 rfl rfl rfl (by simp [npL, npRc]) rfl ?_
    refine walkD ?_
    rw [hyy]
    refine walkD ?_
    exact ⟨.inr rfl, .tmp rfl, (fun _ _ e => (by cases e))⟩
  have ht : a.t = b.t := Classical.not_not.1 ht
  by_cases hs : ¬ (a.sh = b.sh)
  · rw [decide_eq_false (fun e : a = b => hs (by subst e; simp))]
    refine Ans.body1 WFC.wf Try.func20 rfl rfl rfl (by simp [npL, npRc]) rfl ?_
    refine walkD ?_
    rw [hyy]
    refine walkD ?_
    exact ⟨.inr rfl, .tmp rfl, (fun _ _ e => (by cases e))⟩
  have hs : a.sh = b.sh := Classical.not_not.1 hs
  by_cases hc : ¬ (a.c1 = b.c1 ∧ a.c2 = b.c2)
  · rw [decide_eq_false hc] at e2
    rw [decide_eq_false (fun e : a = b => hc (by subst e; simp))]
    refine Ans.body1 WFC.wf Try.func20 rfl rfl rfl (by simp [npL, npRc]) rfl ?_
    refine walkD ?_
    rw [hyy]
    refine walkD ?_
    exact ⟨.inr rfl, .tmp rfl, (fun _ _ e => (by cases e))⟩
  have hc : a.c1 = b.c1 ∧ a.c2 = b.c2 := Classical.not_not.1 hc
  rw [decide_eq_true hc] at e2
  by_cases hm : ¬ (a.num = b.num)
  · rw [decide_eq_false (fun e : a = b => hm (by subst e; simp))]
    refine Ans.body1 WFC.wf Try.func20 rfl rfl rfl (by simp [npL, npRc]) rfl ?_
    refine walkD ?_
    rw [hyy]
    refine walkD ?_
    exact ⟨.inr rfl, .tmp rfl, (fun _ _ e => (by cases e))⟩
  have hm : a.num = b.num := Classical.not_not.1 hm
  rw [decide_eq_true (show a = b by obtain ⟨a1, a2, a3, a4, a5, a6, a7, a8, a9, a10⟩ := a; obtain ⟨b1, b2, b3, b4, b5, b6, b7, b8, b9, b10⟩ := b; simp_all)]
  refine Ans.body1 WFC.wf Try.func20 rfl rfl rfl (by simp [npL, npRc]) rfl ?_
  refine walkD ?_
  rw [hyy]
  refine walkD ?_
  exact ⟨.inr rfl, .tmp rfl, (fun _ _ e => (by cases e))⟩

theorem same_e (a b : Rc) (hma : a.ws.length < 4611686018427387904) (hmb : b.ws.length < 4611686018427387904) (ha : ∀ w ∈ a.ws, w.v.length = 8) (hb : ∀ w ∈ b.ws, w.v.length = 8) : ∃ r, Ans Try.prog 20 [(tR a, 43), (tR b, 43)] (B r, 4) := ⟨_, same_c a b hma hmb ha hb⟩

end Go.Proofs.Ytecacooabofloaa

/- Package record: its writers. -/
set_option linter.unusedVariables false
set_option linter.unusedSimpArgs false
set_option maxRecDepth 100000
namespace Go.Proofs.Ytecacooabofloaa
open Go.Am
instance : ZC Try.prog 5 (U8 0) := ⟨zero_of (by kernel_rfl)⟩
abbrev LI (ns : List Int) : T := .lst (ns.map I) .full
theorem npI (v : List Int) : npL (v.map I) = true := npL_iff.2 (fun x hx => by obtain ⟨n, _, rfl⟩ := List.mem_map.1 hx; rfl)
theorem pbI (k : Nat) (v : List Int) : pbL k (v.map I) = true := pbL_iff.2 (fun x hx => by obtain ⟨n, _, rfl⟩ := List.mem_map.1 hx; rfl)
theorem npLI (ns : List Int) : npL (([(LI ns, 107)] : List X).map (·.1)) = true := by simp [npL, np, npI, Tag.nt]
theorem LI_get {ws : List Int} {i : Nat} {w : Int} (h : ws[i]? = some w) : (ws.map I)[((i : Int)).toNat]? = some (I w) := by
  rw [Int.toNat_natCast, List.getElem?_map, h]; rfl
theorem snocU {bs ns : List Int} {i : Nat} {x : Int} (h : ns[i]? = some x) : Us (bs ++ (ns.take i).map w8) ++ [U8 (w8 x)] = Us (bs ++ (ns.take (i + 1)).map w8) := by
  have hi := (List.getElem?_eq_some_iff.1 h).1
  have e : ns.take (i + 1) = ns.take i ++ [x] := by rw [List.take_add_one, h]; rfl
  rw [e]; simp

set_option maxRecDepth 100000 in
set_option maxHeartbeats 4000000 in
theorem bytes_w : ∀ (pt : TypeId) (bs ns : List Int) (hn : ns.length ≤ 100000) (hb : bs.length ≤ 1000000), AnsW Try.prog 47 pt 84 [(LI ns, 107)] (Us bs) (.tup [], 0) (Us (bs ++ ns.map w8)) := by
  intro pt bs ns hn hb
  refine AnsW.bodyN (rs := []) WFC.wf 0 Try.func47 rfl rfl (by decide) rfl rfl (npU _) (npU _) (npLI _) rfl ?_
  have hl : (ns.map I).length = ns.length := List.length_map _
  refine walkD ?_
  refine AW.loopF (fun m t h u => ∃ i, m = ns.length - i ∧ i ≤ ns.length ∧ t = [(0, (.ptr 0 [], pt)), (6, (LI ns, 107)), (7, (I ((ns.map I).length : Nat), 3)), (8, (I (i : Nat), 3))] ∧ h = [WO 84 (Us (bs ++ (ns.take i).map w8)) (.tip i)] ∧ u = ⟨[i], i + 1⟩) ns.length ([(0, (.ptr 0 [], pt)), (6, (LI ns, 107)), (7, (I ((ns.map I).length : Nat), 3)), (8, (I (0 : Nat), 3))]) (.cons rfl (.cons rfl (.cons rfl (.cons rfl .nil)))) ⟨0, rfl, Nat.zero_le _, rfl, by simp, rfl⟩ ?_
  rintro m t h u ⟨i, rfl, hi, rfl, rfl, rfl⟩
  by_cases he : i = ns.length
  · subst he
    rw [List.take_length]
    refine walkD ?_
    exact ⟨.inl rfl, .nil, trivial, _, _, _, rfl, rfl⟩
  obtain ⟨x, hx⟩ : ∃ w, ns[i]? = some w := ⟨_, List.getElem?_eq_getElem (by omega)⟩
  have hx0 := LI_get hx
  refine walkD ?_
  refine O.appendT (xs := Us (bs ++ (ns.take i).map w8)) (ys := [U8 (w8 x)]) (τ0 := i) (tag2 := .full) rfl WFC.wf (ArgAt.tmp rfl ⟨rfl, rfl⟩) (ArgAt.tmp rfl ⟨rfl, rfl⟩) (List.Mem.head _) rfl rfl ZC.zero (by decide) (by simp) (by simp [T.cell]) ?_ ?_ ?_
  · simp; omega
  · show (_ + _) * 1 ≤ _; simp; omega
  rw [snocU hx]
  refine walkD ?_
  exact ⟨rfl, ns.length - (i + 1), [(0, (.ptr 0 [], pt)), (6, (LI ns, 107)), (7, (I ((ns.map I).length : Nat), 3)), (8, (I ((i + 1) : Nat), 3))], [WO 84 (Us (bs ++ (ns.take (i + 1)).map w8)) (.tip (i + 1))], _, by omega, (.cons rfl (.cons rfl (.cons rfl (.cons rfl .nil)))), rfl, rfl, (by simp [tb, pb, pbI]), (by simp [hbB, pb, pbL, pbU, -List.map_append]), i + 1, rfl, by omega, rfl, rfl, by simp [Tips.used, remN]⟩

set_option maxRecDepth 100000 in
set_option maxHeartbeats 4000000 in
theorem bytes_n : ∀ (pt : TypeId) (ns : List Int) (hn : ns.length ≤ 100000) (h0 : 0 < ns.length), AnsN Try.prog 47 pt 84 [(LI ns, 107)] (.tup [], 0) (Us (ns.map w8)) := by
  intro pt ns hn h0
  refine AnsN.bodyN (rs := []) WFC.wf 0 Try.func47 rfl rfl (by decide) rfl rfl (npU _) (npLI _) rfl ?_
  have hl : (ns.map I).length = ns.length := List.length_map _
  refine walkD ?_
  refine AW.loopF (fun m t h u => ∃ i, m = ns.length - i ∧ i ≤ ns.length ∧ t = [(0, (.ptr 0 [], pt)), (6, (LI ns, 107)), (7, (I ((ns.map I).length : Nat), 3)), (8, (I (i : Nat), 3))] ∧ ((i = 0 ∧ h = [WO 84 [] .nil] ∧ u = ⟨[], 0⟩) ∨ (∃ j, i = j + 1 ∧ h = [WO 84 (Us ([] ++ (ns.take i).map w8)) (.tip j)] ∧ u = ⟨[j], j + 1⟩))) ns.length ([(0, (.ptr 0 [], pt)), (6, (LI ns, 107)), (7, (I ((ns.map I).length : Nat), 3)), (8, (I (0 : Nat), 3))]) (.cons rfl (.cons rfl (.cons rfl (.cons rfl .nil)))) ⟨0, rfl, Nat.zero_le _, rfl, .inl ⟨rfl, rfl, rfl⟩⟩ ?_
  rintro m t h u ⟨i, rfl, hi, rfl, ⟨rfl, rfl, rfl⟩ | ⟨j, rfl, rfl, rfl⟩⟩
  · obtain ⟨x, hx⟩ : ∃ w, ns[0]? = some w := ⟨_, List.getElem?_eq_getElem (by omega)⟩
    have hx0 : (ns.map I)[((0 : Nat) : Int).toNat]? = some (I x) := LI_get hx
    refine walkD ?_
    refine O.appendG (xs := []) (ys := [U8 (w8 x)]) (tag := .nil) (tag2 := .full) rfl WFC.wf (ArgAt.tmp rfl ⟨rfl, rfl⟩) (ArgAt.tmp rfl ⟨rfl, rfl⟩) rfl rfl ZC.zero (by decide) (.inr rfl) (by simp) (Nat.le_of_ble_eq_true rfl) (Nat.le_of_ble_eq_true rfl) ?_
    rw [show [] ++ [U8 (w8 x)] = Us ([] ++ (ns.take (0 + 1)).map w8) by rw [← snocU hx]; simp]
    refine walkD ?_
    exact ⟨rfl, ns.length - (0 + 1), [(0, (.ptr 0 [], pt)), (6, (LI ns, 107)), (7, (I ((ns.map I).length : Nat), 3)), (8, (I ((0 + 1) : Nat), 3))], [WO 84 (Us ([] ++ (ns.take (0 + 1)).map w8)) (.tip 0)], _, by omega, (.cons rfl (.cons rfl (.cons rfl (.cons rfl .nil)))), rfl, rfl, (by simp [tb, pb, pbI]), (by simp only [hbB, pb, pbL, pbU, Bool.and_self]), 0 + 1, rfl, by omega, rfl, .inr ⟨0, rfl, rfl, rfl⟩⟩
  by_cases he : j + 1 = ns.length
  · rw [he, List.take_length, List.nil_append]
    refine walkD ?_
    exact ⟨.inl rfl, .nil, trivial, _, _, _, rfl, rfl⟩
  obtain ⟨x, hx⟩ : ∃ w, ns[j + 1]? = some w := ⟨_, List.getElem?_eq_getElem (by omega)⟩
  have hx0 := LI_get hx
  refine walkD ?_
  refine O.appendT (xs := Us ([] ++ (ns.take (j + 1)).map w8)) (ys := [U8 (w8 x)]) (τ0 := j) (tag2 := .full) rfl WFC.wf (ArgAt.tmp rfl ⟨rfl, rfl⟩) (ArgAt.tmp rfl ⟨rfl, rfl⟩) (List.Mem.head _) rfl rfl ZC.zero (by decide) (by simp) (by simp [T.cell]) ?_ ?_ ?_
  · simp; omega
  · show (_ + _) * 1 ≤ _; simp; omega
  rw [snocU hx]
  refine walkD ?_
  exact ⟨rfl, ns.length - (j + 1 + 1), [(0, (.ptr 0 [], pt)), (6, (LI ns, 107)), (7, (I ((ns.map I).length : Nat), 3)), (8, (I ((j + 1 + 1) : Nat), 3))], [WO 84 (Us ([] ++ (ns.take (j + 1 + 1)).map w8)) (.tip (j + 1))], _, by omega, (.cons rfl (.cons rfl (.cons rfl (.cons rfl .nil)))), rfl, rfl, (by simp [tb, pb, pbI]), (by simp only [hbB, pb, pbL, pbU, Bool.and_self]), j + 1 + 1, rfl, by omega, rfl, .inr ⟨j + 1, rfl, rfl, by simp [Tips.used, remN]⟩⟩

def shrI (a : Int) (k : Nat) : Int := a.fdiv (2 ^ k)
/-- Three bytes, written. -/
def enc3 (n : Int) : List Int := [n, shrI n 8, shrI n 16].map w8
def encN (n : Nm) : List Int := enc3 n.s ++ enc3 n.i ++ enc3 n.t
theorem enc3_len (n : Int) : (enc3 n).length = 3 := rfl
theorem encN_len (n : Nm) : (encN n).length = 9 := rfl

set_option maxRecDepth 100000 in
set_option maxHeartbeats 4000000 in
theorem three_n (n : Int) : ∀ pt, AnsN Try.prog 28 pt 84 [(I n, 3)] (.tup [], 0) (Us (enc3 n)) := by
  intro pt
  refine AnsN.bodyN (rs := []) WFC.wf 0 Try.func28 rfl rfl (by decide) rfl rfl (npU _) rfl rfl ?_
  refine walkD ?_
  refine O.fnN (xs := [(LI [n, shrI n 8, shrI n 16], 107)]) rfl (.cons (.tmp rfl ⟨rfl, rfl⟩) (.cons (.tmp rfl ⟨rfl, rfl⟩) .nil)) rfl (bytes_n pt [n, shrI n 8, shrI n 16] (by simp) (by simp)) rfl ?_
  refine walkD ?_
  exact ⟨.inl rfl, .nil, trivial, _, _, _, rfl, rfl⟩

set_option maxRecDepth 100000 in
set_option maxHeartbeats 4000000 in
theorem three_w (bs : List Int) (hb : bs.length ≤ 1000000) (n : Int) : ∀ pt, AnsW Try.prog 28 pt 84 [(I n, 3)] (Us bs) (.tup [], 0) (Us (bs ++ enc3 n)) := by
  intro pt
  refine AnsW.bodyN (rs := []) WFC.wf 0 Try.func28 rfl rfl (by decide) rfl rfl (npU _) (npU _) rfl rfl ?_
  refine walkD ?_
  refine O.fnW (xs := [(LI [n, shrI n 8, shrI n 16], 107)]) rfl (.cons (.tmp rfl ⟨rfl, rfl⟩) (.cons (.tmp rfl ⟨rfl, rfl⟩) .nil)) rfl (bytes_w pt bs [n, shrI n 8, shrI n 16] (by simp) hb) (by omega) rfl ?_
  refine walkD ?_
  exact ⟨.inl rfl, .nil, trivial, _, _, _, rfl, rfl⟩

set_option maxRecDepth 100000 in
set_option maxHeartbeats 4000000 in
theorem name_x (n : Nm) : ∀ pt, AnsN Try.prog 35 pt 84 [(tN n, 38)] (.tup [], 0) (Us (encN n)) := by
  intro pt
  have h1 := three_n n.s pt
  have h2 := three_w (enc3 n.s) (by simp [enc3]) n.i pt
  have h3 := three_w (enc3 n.s ++ enc3 n.i) (by simp [enc3]) n.t pt
  refine AnsN.bodyN (rs := []) WFC.wf 0 Try.func35 rfl rfl (by decide) rfl rfl (npU _) rfl rfl ?_
  refine walkD ?_
  refine AW.roundsW 4 ([(0, (.ptr 0 [], pt)), (12, (.arr [I n.s, I n.i, I n.t], 101)), (13, (I 0, 3))]) (.cons rfl (.cons rfl (.cons rfl .nil))) (AWR.next (h := [WO 84 [] .nil, ⟨.one 38, tN n⟩]) (u := ⟨[], 0⟩) ?_)
  refine walkD ?_
  refine ⟨rfl, [(0, (.ptr 0 [], pt)), (12, (.arr [I n.s, I n.i, I n.t], 101)), (13, (I 1, 3))], (.cons rfl (.cons rfl (.cons rfl .nil))), AWR.next (h := [WO 84 (Us (enc3 n.s)) (.tip 0), ⟨.one 38, tN n⟩]) (u := ⟨[0], 1⟩) ?_⟩
  refine walkD ?_
  refine ⟨rfl, [(0, (.ptr 0 [], pt)), (12, (.arr [I n.s, I n.i, I n.t], 101)), (13, (I 2, 3))], (.cons rfl (.cons rfl (.cons rfl .nil))), AWR.next (h := [WO 84 (Us (enc3 n.s ++ enc3 n.i)) (.tip 1), ⟨.one 38, tN n⟩]) (u := ⟨[1], 2⟩) ?_⟩
  refine walkD ?_
  refine ⟨rfl, [(0, (.ptr 0 [], pt)), (12, (.arr [I n.s, I n.i, I n.t], 101)), (13, (I 3, 3))], (.cons rfl (.cons rfl (.cons rfl .nil))), AWR.next (h := [WO 84 (Us (enc3 n.s ++ enc3 n.i ++ enc3 n.t)) (.tip 2), ⟨.one 38, tN n⟩]) (u := ⟨[2], 3⟩) ?_⟩
  refine walkD ?_
  exact ⟨.inl rfl, .nil, trivial, _, _, _, rfl, rfl⟩

theorem name_n (n : Nm) : ∃ v, (∀ pt, AnsN Try.prog 35 pt 84 [(tN n, 38)] (.tup [], 0) (Us v)) ∧ v.length = 9 := ⟨_, name_x n, encN_len n⟩

def encW (ws : List Wr) : List Int := ws.flatMap fun w => w8 w.b :: w.v
theorem encW_len : ∀ (ws : List Wr), (∀ w ∈ ws, w.v.length = 8) → (encW ws).length = 9 * ws.length
  | [], _ => rfl
  | w :: ws, h => by
    have := encW_len ws fun x hx => h x (.tail _ hx)
    have h0 := h w (.head _)
    simp only [encW, List.flatMap_cons, List.length_append, List.length_cons] at this ⊢
    omega
theorem encW_snoc {ws : List Wr} {i : Nat} {w : Wr} (h : ws[i]? = some w) (bs : List Int) : bs ++ encW (ws.take i) ++ [w8 w.b] ++ w.v = bs ++ encW (ws.take (i + 1)) := by
  have e : ws.take (i + 1) = ws.take i ++ [w] := by rw [List.take_add_one, h]; rfl
  rw [e]; simp [encW]

def encF (y : Bool) : List Int := [if y then 1 else 0]
def encWs (ws : List Wr) : List Int := w8 ((ws.map tW).length : Nat) :: encW ws

set_option maxRecDepth 100000 in
set_option maxHeartbeats 4000000 in
theorem flag_x (bs : List Int) (hb : bs.length ≤ 1000000) (y : Bool) : ∀ pt, AnsW Try.prog 52 pt 84 [(B y, 4)] (Us bs) (.tup [], 0) (Us (bs ++ encF y)) := by
  intro pt
  cases y
  · have h1 := bytes_w pt bs [0] (by simp) hb
    rw [show bs ++ encF false = bs ++ [0].map w8 from rfl]
    refine AnsW.bodyN (rs := []) WFC.wf 0 Try.func52 rfl rfl (by decide) rfl rfl (npU _) (npU _) rfl rfl ?_
    refine walkD ?_
    exact ⟨.inl rfl, .nil, trivial, _, _, _, rfl, rfl⟩
  · have h1 := bytes_w pt bs [1] (by simp) hb
    rw [show bs ++ encF true = bs ++ [1].map w8 from rfl]
    refine AnsW.bodyN (rs := []) WFC.wf 0 Try.func52 rfl rfl (by decide) rfl rfl (npU _) (npU _) rfl rfl ?_
    refine walkD ?_
    exact ⟨.inl rfl, .nil, trivial, _, _, _, rfl, rfl⟩

theorem flag_w (bs : List Int) (hb : bs.length ≤ 1000000) (y : Bool) : ∃ v, (∀ pt, AnsW Try.prog 52 pt 84 [(B y, 4)] (Us bs) (.tup [], 0) (Us (bs ++ v))) ∧ v.length = 1 := ⟨_, flag_x bs hb y, rfl⟩

set_option maxRecDepth 100000 in
set_option maxHeartbeats 4000000 in
theorem writes_x (bs : List Int) (hb : bs.length ≤ 100000) (ws : List Wr) (hw : ws.length ≤ 1000) (h8 : ∀ w ∈ ws, w.v.length = 8) : ∀ pt, AnsW Try.prog 41 pt 84 [(Ls ws, 39)] (Us bs) (.tup [], 0) (Us (bs ++ encWs ws)) := by
  have hl := Ls_len ws
  obtain ⟨n, hn⟩ : ∃ n : Int, n = ((ws.map tW).length : Nat) := ⟨_, rfl⟩
  have hel := encW_len ws h8
  intro pt
  rw [show encWs ws = [w8 n] ++ encW ws by rw [hn]; rfl, ← List.append_assoc]
  have h1 := bytes_w pt bs [n] (by simp) (by omega)
  refine AnsW.bodyN (rs := []) WFC.wf 0 Try.func41 rfl rfl (by decide) rfl rfl (npU _) (npU _) (by simp [np, npL, npW, Tag.nt]) rfl ?_
  refine walkD ?_
  rw [← hn]
  refine walkD ?_
  refine AW.loopF (fun m t h u => ∃ i, m = ws.length - i ∧ i ≤ ws.length ∧ t = [(0, (.ptr 0 [], pt)), (11, (Ls ws, 39)), (12, (I ((ws.map tW).length : Nat), 3)), (13, (I (i : Nat), 3))] ∧ h = [WO 84 (Us (bs ++ [w8 n] ++ encW (ws.take i))) (.tip (2 * i + 1))] ∧ u = ⟨[2 * i + 1], 2 * i + 2⟩) ws.length ([(0, (.ptr 0 [], pt)), (11, (Ls ws, 39)), (12, (I ((ws.map tW).length : Nat), 3)), (13, (I (0 : Nat), 3))]) (.cons rfl (.cons rfl (.cons rfl (.cons rfl .nil)))) ⟨0, rfl, Nat.zero_le _, rfl, by simp [encW], rfl⟩ ?_
  rintro m t h u ⟨i, rfl, hi, rfl, rfl, rfl⟩
  by_cases he : i = ws.length
  · subst he
    rw [List.take_length]
    refine walkD ?_
    exact ⟨.inl rfl, .nil, trivial, _, _, _, rfl, rfl⟩
  obtain ⟨w, hx⟩ : ∃ w, ws[i]? = some w := ⟨_, List.getElem?_eq_getElem (by omega)⟩
  have hx0 := Ls_get hx
  have hwv := h8 w (List.mem_of_getElem? hx)
  have hei := encW_len (ws.take i) fun x hx => h8 x (List.mem_of_mem_take hx)
  have hil : (ws.take i).length ≤ ws.length := by simp; omega
  have h2 := bytes_w pt (bs ++ [w8 n] ++ encW (ws.take i)) [w.b] (by simp) (by simp; omega)
  refine walkD ?_
  refine AW.freezeP (b := 1) (ty := 49) (x := tW w) (t' := [(0, (.ptr 0 [], pt)), (5, (.ep 49 (tW w), 0)), (11, (Ls ws, 39)), (12, (I ((ws.map tW).length : Nat), 3)), (13, (I (i : Nat), 3))]) rfl (.keep rfl (.ep rfl (.keep rfl (.keep rfl (.keep rfl .nil))))) ?_
  refine AW.drawP [([], [0]), ([], [0]), ([1], [23]), ([2, 1], [24]), ([3, 2, 1], [25]), ([], [5]), ([5], [27]), ([4, 3, 2, 1, 6, 5], [26, 28]), ([0, 1, 2, 3, 4, 5, 6, 7], [22]), ([8, 0, 1, 2, 3, 4, 5, 6, 7], [30]), ([9, 8, 0, 1, 2, 3, 4, 5, 6, 7], [31, 29])] [3, 4, 7, 9, 10] [7, 10] rfl (by kernel_rfl) ?_
  refine walkG ?_
  refine D.appendT (xs := Us (bs ++ [w8 n] ++ encW (ws.take i) ++ [w8 w.b])) (ys := Us w.v) (τ0 := 2 * i + 2) (tag2 := .no) rfl rfl rfl trivial WFC.wf (ArgAt.tmp rfl ⟨rfl, rfl⟩) (ArgAt.tmp rfl ⟨rfl, rfl⟩) (List.Mem.head _) rfl rfl ZC.zero (by decide) ?_ ?_ ?_ ?_ rfl trivial ?_
  · intro e; have := congrArg List.length e; simp [hwv] at this
  · intro y hy; obtain ⟨q, _, rfl⟩ := List.mem_map.1 hy; rfl
  · simp [hwv]; omega
  · show (_ + _) * 1 ≤ _; simp [hwv]; omega
  rw [show Us (bs ++ [w8 n] ++ encW (ws.take i) ++ [w8 w.b]) ++ Us w.v = Us (bs ++ [w8 n] ++ encW (ws.take (i + 1))) by rw [← encW_snoc hx]; simp]
  refine walkG ?_
  refine walkD ?_
  exact ⟨rfl, ws.length - (i + 1), [(0, (.ptr 0 [], pt)), (11, (Ls ws, 39)), (12, (I ((ws.map tW).length : Nat), 3)), (13, (I ((i + 1) : Nat), 3))], [WO 84 (Us (bs ++ [w8 n] ++ encW (ws.take (i + 1)))) (.tip (2 * (i + 1) + 1))], _, by omega, (.cons rfl (.cons rfl (.cons rfl (.cons rfl .nil)))), rfl, rfl, (by simp [tb, pb, pbW]), (by simp only [hbB, pb, pbL, pbU, Bool.and_self]), i + 1, rfl, by omega, rfl, rfl, by simp [Tips.used, remN]; omega⟩

theorem writes_w (bs : List Int) (hb : bs.length ≤ 100000) (ws : List Wr) (hw : ws.length ≤ 1000) (h8 : ∀ w ∈ ws, w.v.length = 8) : ∃ v, (∀ pt, AnsW Try.prog 41 pt 84 [(Ls ws, 39)] (Us bs) (.tup [], 0) (Us (bs ++ v))) ∧ v.length ≤ 10000 := by
  have := encW_len ws h8
  exact ⟨_, writes_x bs hb ws hw h8, by simp [encWs]; omega⟩

end Go.Proofs.Ytecacooabofloaa
