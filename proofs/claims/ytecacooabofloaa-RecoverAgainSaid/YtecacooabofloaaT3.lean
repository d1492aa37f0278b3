/- Package overlay: On. -/
import Derived.Test.YtecacooabofloaaT2
import Derived.Test.YtecacooabofloaaL9
/- Package overlay: On. -/
set_option linter.unusedVariables false
set_option linter.unusedSimpArgs false
set_option maxRecDepth 100000
namespace Go.Proofs.Ytecacooabofloaa
open Go.Am
abbrev HT (h : List (List Int)) : T := .arr (h.map V)
abbrev V0 : T := .arr (List.replicate 8 (U8 0))
abbrev H0 : T := .arr (List.replicate 32 V0)
theorem npH (h : List (List Int)) : npL (h.map V) = true := npL_iff.2 (fun x hx => by obtain ⟨n, _, rfl⟩ := List.mem_map.1 hx; simp [np, npV])
theorem pbH (k : Nat) (h : List (List Int)) : pbL k (h.map V) = true := pbL_iff.2 (fun x hx => by obtain ⟨n, _, rfl⟩ := List.mem_map.1 hx; simp [pb, pbV])
def onF : List (List Int) → List Wr → List (List Int)
  | h, [] => h
  | h, w :: r => onF (if 0 ≤ w.b ∧ w.b < 32 then h.set w.b.toNat w.v else h) r
theorem onF_at {h : List (List Int)} {l : List Wr} {i : Nat} {w : Wr} (hw : l[i]? = some w) : onF h (l.drop i) = onF (if 0 ≤ w.b ∧ w.b < 32 then h.set w.b.toNat w.v else h) (l.drop (i + 1)) := by
  obtain ⟨hl, e⟩ := List.getElem?_eq_some_iff.1 hw
  rw [List.drop_eq_getElem_cons hl, e]
  rfl
theorem onF_len : ∀ (l : List Wr) (h : List (List Int)), (onF h l).length = h.length
  | [], h => rfl
  | w :: r, h => by rw [onF, onF_len r]; split <;> simp
theorem walk24 {i : Nat} (h : i < 32) : walkO Try.prog (.one 24) ([] ++ [i]) = some (i * szOf Try.prog 23 + 0, 23) := by
  simp only [walkO, List.nil_append, walkPath, stepPath, Try.underlying24, if_pos h]
theorem HT_put {h : List (List Int)} {i : Nat} (v : List Int) (hi : i < h.length) : (HT h).put ([] ++ [i]) (V v) = some (HT (h.set i v)) := by
  have : (h.map V)[i]? = some (V h[i]) := by rw [List.getElem?_map, List.getElem?_eq_getElem hi]; rfl
  simp only [List.nil_append, T.put, this]
  rw [show HT (h.set i v) = T.arr ((h.set i v).map V) from rfl, List.map_set]

set_option maxHeartbeats 4000000 in
theorem on_c (home : List (List Int)) (l : List Wr) (hl : home.length = 32) (hm : l.length < 4611686018427387904) : Ans Try.prog 14 [(HT home, 24), (Ls l, 39)] (HT (onF home l), 24) := by
  refine Ans.body1 WFC.wf Try.func14 rfl rfl rfl (by simp [npL, np, npV, npW, npH, Tag.nt]) (by simp [npL, np, npV, npW, npH, Tag.nt]) ?_
  have hll := Ls_len l
  refine walkD ?_
  refine AW.loopF (fun m t h u' => u' = ⟨[], 0⟩ ∧ ∃ (i : Nat) (cur : List (List Int)), m = l.length - i ∧ i ≤ l.length ∧ h = [⟨.one 24, HT cur⟩, ⟨.one 24, H0⟩] ∧ t = [(2, (.ptr 0 [], 0)), (4, (.ptr 1 [], 0)), (7, (Ls l, 39)), (8, (I ((l.map tW).length : Nat), 3)), (9, (I (i : Nat), 3))] ∧ cur.length = 32 ∧ onF home l = onF cur (l.drop i)) l.length [(2, (.ptr 0 [], 0)), (4, (.ptr 1 [], 0)), (7, (Ls l, 39)), (8, (I ((l.map tW).length : Nat), 3)), (9, (I (0 : Nat), 3))] (.cons rfl (.cons rfl (.cons rfl (.cons rfl (.cons rfl .nil))))) ⟨rfl, 0, home, rfl, Nat.zero_le _, rfl, rfl, hl, rfl⟩ ?_
  rintro m t h u' ⟨rfl, i, cur, rfl, hi, rfl, rfl, hcl, hinv⟩
  by_cases he : i = l.length
  · subst he
    rw [hinv, List.drop_length]
    refine walkD ?_
    exact ⟨.inr rfl, .cell rfl rfl, (fun _ _ _ => ⟨rfl, rfl⟩)⟩
  obtain ⟨w, hw⟩ : ∃ w, l[i]? = some w := ⟨_, List.getElem?_eq_getElem (by omega)⟩
  have hx0 := Ls_get hw
  rw [onF_at hw] at hinv
  by_cases h0 : w.b < 0
  · rw [if_neg (by omega)] at hinv
    refine walkD ?_
    exact ⟨rfl, l.length - (i + 1), [(2, (.ptr 0 [], 0)), (4, (.ptr 1 [], 0)), (7, (Ls l, 39)), (8, (I ((l.map tW).length : Nat), 3)), (9, (I ((i + 1) : Nat), 3))], [⟨.one 24, HT cur⟩, ⟨.one 24, H0⟩], _, by omega, (.cons rfl (.cons rfl (.cons rfl (.cons rfl (.cons rfl .nil))))), rfl, rfl, (by simp [tb, hbB, pb, pbL, pbU, pbV, pbW, pbH]), (by simp only [List.length, tb, hbB, pb, pbL, pbV, pbW, pbH]; rfl), rfl, i + 1, cur, rfl, by omega, rfl, rfl, hcl, hinv⟩
  by_cases h32 : 32 ≤ w.b
  · rw [if_neg (by omega)] at hinv
    refine walkD ?_
    exact ⟨rfl, l.length - (i + 1), [(2, (.ptr 0 [], 0)), (4, (.ptr 1 [], 0)), (7, (Ls l, 39)), (8, (I ((l.map tW).length : Nat), 3)), (9, (I ((i + 1) : Nat), 3))], [⟨.one 24, HT cur⟩, ⟨.one 24, H0⟩], _, by omega, (.cons rfl (.cons rfl (.cons rfl (.cons rfl (.cons rfl .nil))))), rfl, rfl, (by simp [tb, hbB, pb, pbL, pbU, pbV, pbW, pbH]), (by simp only [List.length, tb, hbB, pb, pbL, pbV, pbW, pbH]; rfl), rfl, i + 1, cur, rfl, by omega, rfl, rfl, hcl, hinv⟩
  · rw [if_pos (by omega)] at hinv
    have hwk := walk24 (i := w.b.toNat) (by omega)
    have hput := HT_put (h := cur) (i := w.b.toNat) w.v (by omega)
    refine walkD ?_
    exact ⟨rfl, l.length - (i + 1), [(2, (.ptr 0 [], 0)), (4, (.ptr 1 [], 0)), (7, (Ls l, 39)), (8, (I ((l.map tW).length : Nat), 3)), (9, (I ((i + 1) : Nat), 3))], [⟨.one 24, HT (cur.set w.b.toNat w.v)⟩, ⟨.one 24, H0⟩], _, by omega, (.cons rfl (.cons rfl (.cons rfl (.cons rfl (.cons rfl .nil))))), rfl, rfl, (by simp [tb, hbB, pb, pbL, pbU, pbV, pbW, pbH]), (by simp only [List.length, tb, hbB, pb, pbL, pbV, pbW, pbH]; rfl), rfl, i + 1, (cur.set w.b.toNat w.v), rfl, by omega, rfl, rfl, by rw [List.length_set]; exact hcl, hinv⟩


end Go.Proofs.Ytecacooabofloaa

/- Package recover: Clone, Find. -/
set_option linter.unusedVariables false
set_option linter.unusedSimpArgs false
set_option maxRecDepth 100000
namespace Go.Proofs.Ytecacooabofloaa
open Go.Am
structure Pr where
  n : Nm
  ws : List Wr
  g : Int
  t : Int
deriving DecidableEq
abbrev tP (p : Pr) : T := .st [tN p.n, Ls p.ws, I p.g, I p.t]
theorem npP (ds : List Pr) : npL (ds.map tP) = true := npL_iff.2 (fun x hx => by obtain ⟨n, _, rfl⟩ := List.mem_map.1 hx; simp [np, npL, npW, Tag.nt])
theorem cellW (ws : List Wr) : ∀ y ∈ ws.map tW, y.cell = true := fun y hy => by obtain ⟨n, _, rfl⟩ := List.mem_map.1 hy; rfl
theorem cellP (ds : List Pr) : ∀ y ∈ ds.map tP, y.cell = true := fun y hy => by obtain ⟨n, _, rfl⟩ := List.mem_map.1 hy; rfl

set_option maxRecDepth 100000 in
set_option maxHeartbeats 4000000 in
theorem clone15_nil : Ans Try.prog 15 [(Ls [], 39)] (Ls [], 39) := by
  refine Ans.body1 WFC.wf Try.func15 rfl rfl rfl rfl rfl ?_
  refine walkD ?_
  refine O.eqNilU rfl rfl ⟨rfl, rfl⟩ rfl fun r => ?_
  cases r
  · refine walkD ?_
    refine O.appendE (xs := []) (tag := .full) (tag2 := .no) rfl WFC.wf (ArgAt.tmp rfl ⟨rfl, rfl⟩) (ArgAt.tmp rfl ⟨rfl, rfl⟩) rfl rfl (by decide) ?_
    refine walkD ?_
    exact ⟨.inr rfl, .tmpW rfl (Wk.noS rfl), (fun _ _ e => (by cases e))⟩
  · refine walkD ?_
    exact ⟨.inr rfl, .tmpW rfl (Wk.noS rfl), (fun _ _ e => (by cases e))⟩

set_option maxRecDepth 100000 in
set_option maxHeartbeats 4000000 in
theorem clone15_cons (ws : List Wr) (h0 : ws ≠ []) (hm : ws.length ≤ 100000) : Ans Try.prog 15 [(Ls ws, 39)] (Ls ws, 39) := by
  refine Ans.body1 WFC.wf Try.func15 rfl rfl rfl (by simp [npL, np, npW, Tag.nt]) (by simp [npL, np, npW, Tag.nt]) ?_
  refine walkD ?_
  refine O.eqNilL (r := false) rfl rfl ⟨rfl, rfl⟩ rfl (by decide) (.inr ⟨rfl, by simpa using h0⟩) ?_
  refine walkD ?_
  refine O.appendG (xs := []) (ys := ws.map tW) (tag := .full) (tag2 := .no) rfl WFC.wf (ArgAt.tmp rfl ⟨rfl, rfl⟩) (ArgAt.tmp rfl ⟨rfl, rfl⟩) rfl rfl ZC.zero (by decide) (.inl rfl) (by simpa using h0) ?_ ?_ ?_
  · simp; omega
  · show (_ + _) * 16 ≤ _; simp; omega
  refine walkD ?_
  exact ⟨.inr rfl, .tmpW rfl (Wk.noS rfl), (fun _ _ e => (by cases e))⟩

theorem clone15_c (ws : List Wr) (hm : ws.length ≤ 100000) : Ans Try.prog 15 [(Ls ws, 39)] (Ls ws, 39) := by
  by_cases h : ws = []
  · subst h; exact clone15_nil
  · exact clone15_cons ws h hm

set_option maxRecDepth 100000 in
set_option maxHeartbeats 4000000 in
theorem find22 (p : Pr) (nm : Nm) : AnsM Try.prog 22 [(tP p, 52), (.ptr 0 [], 0)] [⟨.one 38, tN nm⟩] ⟨[], 0⟩ (B (decide (p.n = nm)), 4) [⟨.one 38, tN nm⟩] ⟨[], 0⟩ := by
  have hE := eqN p.n nm
  refine AnsM.body1R WFC.wf Try.func22 rfl rfl rfl (by simp [np, npL]) rfl ?_
  refine walkD ?_
  exact ⟨.inr rfl, .tmp rfl, (fun _ _ e => (by cases e)), _, rfl⟩

/-- Where a name stands among those in doubt. -/
def fi (ds : List Pr) (nm : Nm) : Nat := ds.findIdx fun p => decide (p.n = nm)
theorem find22_at (p : Pr) (nm : Nm) {H : List AO} {b : Nat} (hb : H[b]? = some ⟨.one 38, tN nm⟩) : AnsM Try.prog 22 (X0 [] ++ [(tP p, 52)] ++ X0 [.ptr b []]) H ⟨[], 0⟩ (B (decide (p.n = nm)), 4) (H.set b ⟨.one 38, tN nm⟩) ⟨[], 0⟩ :=
  (find22 p nm).atX (by simp [np, npL]) (by simp [np, npL]) (by
    have h1 : inB 1 0 (tP p) = true := in_np _ (by simp [np, npL, npW, Tag.nt])
    simp only [List.all_cons, List.all_nil, h1, Bool.true_and]; rfl) rfl hb (by
    have h1 : (tP p).ren (mapTo [b] H.length) (mapTo [] 0) = tP p := ren_np _ (by simp [np, npL, npW, Tag.nt])
    simp only [List.map_cons, List.map_nil, h1]; rfl)

abbrev Z52 : T := .st [.st [I 0, I 0, I 0], .lst [] .nil, I 0, I 0]
/-- The row of those in doubt. -/
abbrev RW (ds : List Pr) (m : Nat) : AO := ⟨.row 52 (ds.length + m), .arr (ds.map tP ++ List.replicate m Z52)⟩
theorem RW_get {ds : List Pr} {m i : Nat} {p : Pr} (h : ds[i]? = some p) : (RW ds m).t.get [0 + ((i : Nat) : Int).toNat] = some (tP p) := by
  have hi := (List.getElem?_eq_some_iff.1 h).1
  have : (ds.map tP ++ List.replicate m Z52)[0 + ((i : Nat) : Int).toNat]? = some (tP p) := by
    rw [Int.toNat_natCast, Nat.zero_add, List.getElem?_append_left (by simpa using hi), List.getElem?_map, h]; rfl
  simp only [T.get, T.kids, this]
theorem RW_walk {ds : List Pr} {m i : Nat} (h : i < ds.length) : walkO Try.prog (RW ds m).ty [0 + ((i : Nat) : Int).toNat] = some ((0 + ((i : Nat) : Int).toNat) * szOf Try.prog 52 + 0, 52) := by
  have hb : Nat.blt (0 + ((i : Nat) : Int).toNat) (ds.length + m) = true := by rw [Nat.blt_eq]; omega
  simp only [walkO, hb, walkPath]
abbrev VW (b : Nat) (ds : List Pr) (m : Nat) : T := .vw b 0 ds.length (ds.length + m)
abbrev NO (nm : Nm) : AO := ⟨.one 38, tN nm⟩

set_option maxRecDepth 100000 in
set_option maxHeartbeats 4000000 in
theorem index_m (ds : List Pr) (m : Nat) (o : AO) (nm : Nm) (k : Nat) (hm : ds.length < 4611686018427387904) (hk : k ≤ ds.length) (hlo : ∀ j, j < k → ∀ p, ds[j]? = some p → p.n ≠ nm) (hat : ∀ p, ds[k]? = some p → p.n = nm) :
    AnsM Try.prog 21 [(VW 0 ds m, 32), (.fn (.func 22) [] [.ptr 2 []], 80)] [RW ds m, o, NO nm] ⟨[], 0⟩ (I (if k < ds.length then (k : Int) else -1), 3) [RW ds m, o, NO nm] ⟨[], 0⟩ := by
  refine AnsM.body1 WFC.wf Try.func21 rfl rfl rfl ?_
  refine walkD ?_
  refine AW.loopT (fun m' t h u => ∃ i : Nat, m' = ds.length - i ∧ i ≤ k ∧ t = [(0, (VW 0 ds m, 32)), (1, (.fn (.func 22) [] [.ptr 2 []], 80)), (7, (I (ds.length : Nat), 3)), (8, (I (i : Nat), 3))] ∧ h = [RW ds m, o, NO nm] ∧ u = ⟨[], 0⟩) ds.length ([(0, (VW 0 ds m, 32)), (1, (.fn (.func 22) [] [.ptr 2 []], 80)), (7, (I (ds.length : Nat), 3)), (8, (I (0 : Nat), 3))]) (.cons rfl (.cons rfl (.cons rfl (.cons rfl .nil)))) ⟨0, rfl, Nat.zero_le _, rfl, rfl, rfl⟩ ?_
  rintro m' t h u ⟨i, rfl, hi, rfl, rfl, rfl⟩
  by_cases hil : i = ds.length
  · have hkl : ¬ k < ds.length := by omega
    rw [if_neg hkl]
    refine walkD ?_
    exact ⟨.inr rfl, .tmp rfl, (fun _ _ e => (by cases e)), rfl, rfl⟩
  obtain ⟨p, hp⟩ : ∃ w, ds[i]? = some w := ⟨_, List.getElem?_eq_getElem (by omega)⟩
  have hx0 := RW_get (m := m) hp
  have hw0 := RW_walk (m := m) (show i < ds.length by omega)
  refine walkD ?_
  refine O.fnVM (xs := [(tP p, 52)]) rfl rfl (.cons (.tmp rfl ⟨rfl, rfl⟩) .nil) (find22_at p nm rfl) rfl ?_
  by_cases he : i = k
  · subst he
    rw [decide_eq_true (hat p hp), if_pos (by omega)]
    refine walkD ?_
    exact ⟨.inr rfl, .tmp rfl, (fun _ _ e => (by cases e)), rfl, rfl⟩
  · rw [decide_eq_false (hlo i (by omega) p hp)]
    refine walkD ?_
    exact ⟨rfl, ds.length - (i + 1), [(0, (VW 0 ds m, 32)), (1, (.fn (.func 22) [] [.ptr 2 []], 80)), (7, (I (ds.length : Nat), 3)), (8, (I ((i + 1) : Nat), 3))], by omega, (.cons rfl (.cons rfl (.cons rfl (.cons rfl .nil)))), i + 1, rfl, by omega, rfl, rfl, rfl⟩

abbrev tS (su lg : T) (home : List (List Int)) (d : T) (ap : Int) : T := .st [su, lg, HT home, d, I ap]
theorem npRW (ds : List Pr) (m : Nat) : np (RW ds m).t = true := by
  have : npL (List.replicate m Z52) = true := npL_iff.2 fun x hx => by rw [(List.mem_replicate.1 hx).2]; rfl
  have h : npL (ds.map tP ++ List.replicate m Z52) = true := npL_iff.2 fun x hx => by
    rcases List.mem_append.1 hx with hx | hx
    · exact npL_iff.1 (npP ds) x hx
    · exact npL_iff.1 this x hx
  simpa [np] using h
theorem RW_in (ds : List Pr) (m : Nat) : (([RW ds m] : List AO).all fun o => inB ([RW ds m] : List AO).length 0 o.t) = true := by
  simp only [List.all_cons, List.all_nil, in_np _ (npRW ds m), Bool.and_true]
theorem RW_ren (ds : List Pr) (m : Nat) : ([RW ds m] : List AO).map (AO.ren id id) = [RW ds m] := by
  simp only [List.map_cons, List.map_nil]
  rw [show AO.ren id id (RW ds m) = RW ds m by simp only [AO.ren, ren_np _ (npRW ds m)]]

set_option maxRecDepth 100000 in
set_option maxHeartbeats 4000000 in
theorem find_some (ds : List Pr) (m : Nat) (su lg : T) (home : List (List Int)) (ap : Int) (nm : Nm) (k : Nat) (p : Pr) (hk : ds[k]? = some p) (hp : p.n = nm) (hlo : ∀ j, j < k → ∀ p, ds[j]? = some p → p.n ≠ nm) (hm : ds.length < 4611686018427387904) :
    AnsM Try.prog 16 [(tS su lg home (VW 0 ds m) ap, 34), (tN nm, 38)] [RW ds m] ⟨[], 0⟩ (.tup [I (k : Nat), B true], 62) [RW ds m] ⟨[], 0⟩ := by
  have hkl := (List.getElem?_eq_some_iff.1 hk).1
  have h21 := index_m ds m ⟨.one 34, tS su lg home (VW 0 ds m) ap⟩ nm k hm (by omega) hlo (fun q hq => by rw [hk] at hq; cases hq; exact hp)
  rw [if_pos hkl] at h21
  refine AnsM.bodyND (rs := [(I (k : Nat), 3), (B true, 4)]) WFC.wf 62 Try.func16 rfl rfl (by decide) rfl rfl rfl rfl (RW_in ds m) rfl (RW_ren ds m) ?_
  refine walkD ?_
  rw [if_neg (show ¬ ((k : Nat) : Int) < 0 by omega)]
  exact ⟨.inr rfl, .cons (.tmp rfl) (.cons (.tmp rfl) .nil), ⟨fun _ _ e => (by cases e), fun _ _ e => (by cases e), trivial⟩, [_, _], rfl⟩

set_option maxRecDepth 100000 in
set_option maxHeartbeats 4000000 in
theorem find_none (ds : List Pr) (m : Nat) (su lg : T) (home : List (List Int)) (ap : Int) (nm : Nm) (hlo : ∀ p ∈ ds, p.n ≠ nm) (hm : ds.length < 4611686018427387904) :
    AnsM Try.prog 16 [(tS su lg home (VW 0 ds m) ap, 34), (tN nm, 38)] [RW ds m] ⟨[], 0⟩ (.tup [I 0, B false], 62) [RW ds m] ⟨[], 0⟩ := by
  have h21 := index_m ds m ⟨.one 34, tS su lg home (VW 0 ds m) ap⟩ nm ds.length hm (Nat.le_refl _) (fun j _ p hp => hlo p (List.mem_of_getElem? hp)) (fun q hq => by rw [List.getElem?_eq_none (Nat.le_refl _)] at hq; cases hq)
  rw [if_neg (Nat.lt_irrefl _)] at h21
  refine AnsM.bodyND (rs := [(I 0, 3), (B false, 4)]) WFC.wf 62 Try.func16 rfl rfl (by decide) rfl rfl rfl rfl (RW_in ds m) rfl (RW_ren ds m) ?_
  refine walkD ?_
  exact ⟨.inr rfl, .cons (.tmp rfl) (.cons (.tmp rfl) .nil), ⟨fun _ _ e => (by cases e), fun _ _ e => (by cases e), trivial⟩, [_, _], rfl⟩

set_option maxRecDepth 100000 in
set_option maxHeartbeats 4000000 in
theorem index_0 (g : Tag) (o : AO) (nm : Nm) : AnsM Try.prog 21 [(.lst [] g, 32), (.fn (.func 22) [] [.ptr 1 []], 80)] [o, NO nm] ⟨[], 0⟩ (I (-1), 3) [o, NO nm] ⟨[], 0⟩ := by
  refine AnsM.body1 WFC.wf Try.func21 rfl rfl rfl ?_
  refine walkD ?_
  refine AW.loop1 ?_
  refine walkD ?_
  exact ⟨.inr rfl, .tmp rfl, (fun _ _ e => (by cases e)), rfl, rfl⟩

set_option maxRecDepth 100000 in
set_option maxHeartbeats 4000000 in
theorem find_0 (g : Tag) (hg : g.nt = true) (su lg : T) (home : List (List Int)) (ap : Int) (nm : Nm) :
    AnsM Try.prog 16 [(tS su lg home (.lst [] g) ap, 34), (tN nm, 38)] [] ⟨[], 0⟩ (.tup [I 0, B false], 62) [] ⟨[], 0⟩ := by
  have h21 := index_0 g ⟨.one 34, tS su lg home (.lst [] g) ap⟩ nm
  refine AnsM.bodyND (rs := [(I 0, 3), (B false, 4)]) WFC.wf 62 Try.func16 rfl rfl (by decide) rfl rfl rfl rfl rfl rfl rfl ?_
  refine walkD ?_
  exact ⟨.inr rfl, .cons (.tmp rfl) (.cons (.tmp rfl) .nil), ⟨fun _ _ e => (by cases e), fun _ _ e => (by cases e), trivial⟩, [_, _], rfl⟩

end Go.Proofs.Ytecacooabofloaa

/- Package recover: one of those in doubt goes. -/
set_option linter.unusedVariables false
set_option linter.unusedSimpArgs false
set_option maxRecDepth 100000
namespace Go.Proofs.Ytecacooabofloaa
open Go.Am

set_option maxRecDepth 100000 in
set_option maxHeartbeats 4000000 in
theorem delete_m (ds : List Pr) (m k : Nat) (hk : k < ds.length) (hm : ds.length < 4611686018427387904) :
    AnsM Try.prog 17 [(VW 0 ds m, 32), (I (k : Nat), 3), (I ((k : Nat) + 1), 3)] [RW ds m] ⟨[], 0⟩ (.vw 0 0 (ds.length - 1) (ds.length + m), 32) [⟨.row 52 (ds.length + m), .arr (put2 (put2 (ds.map tP ++ List.replicate m Z52) (0 + k) (((ds.map tP ++ List.replicate m Z52).drop (k + 1)).take (ds.length - (k + 1)))) (ds.length - 1) (List.replicate 1 Z52))⟩] ⟨[], 0⟩ := by
  obtain ⟨q, hq1, hq2⟩ : ∃ q, (if ds.length + m = k + 1 then 0 else 0 + (k + 1)) = q ∧ ((ds.map tP ++ List.replicate m Z52).drop q).take (ds.length - (k + 1)) = ((ds.map tP ++ List.replicate m Z52).drop (k + 1)).take (ds.length - (k + 1)) := by
    by_cases h : ds.length + m = k + 1
    · refine ⟨0, if_pos h, ?_⟩
      rw [show ds.length - (k + 1) = 0 by omega]; simp
    · exact ⟨k + 1, by rw [if_neg h, Nat.zero_add], rfl⟩
  refine AnsM.body1 WFC.wf Try.func17 rfl rfl rfl ?_
  refine walkD ?_
  refine O.sliceV3 rfl WFC.wf rfl ⟨rfl, rfl⟩ (by decide) rfl (.yes (.tmp rfl)) (.tmp rfl) (.tmp rfl) (by omega) (by omega) (by omega) (by omega) ?_
  refine walkD ?_
  refine AW.drawP [([], [0]), ([], [1]), ([0, 1], [20, 21]), ([], [0]), ([], [2]), ([3, 4], [23, 24]), ([2, 0, 1, 5, 3, 4], [22, 25]), ([6, 2, 0, 1, 5, 3, 4], [26])] [6] [6] rfl (by kernel_rfl) ?_
  refine walkG ?_
  refine D.sliceVn (y := .vw 0 0 k (ds.length + m)) rfl rfl trivial WFC.wf rfl ⟨rfl, rfl⟩ (by decide) rfl (fun _ _ => .no) (fun _ _ => .yes (.tmp rfl)) (by omega) (by
    congr 1
    · split <;> omega) ?_
  refine walkG ?_
  refine D.sliceVn (y := .vw 0 q (ds.length - (k + 1)) (ds.length + m - (k + 1))) (h := ds.length) rfl rfl trivial WFC.wf rfl ⟨rfl, rfl⟩ (by decide) rfl (fun _ _ => .yes (.tmp rfl)) (fun _ _ => .no) (by omega) (by rw [← hq1]; rfl) ?_
  refine D.appendW rfl rfl rfl trivial WFC.wf rfl rfl rfl rfl rfl (by omega) rfl trivial ?_
  rw [show k + (ds.length - (k + 1)) = ds.length - 1 by omega, hq2]
  refine walkG ?_
  refine walkD ?_
  refine O.sliceVn (y := .vw 0 (ds.length - 1) 1 (ds.length + m - (ds.length - 1))) rfl WFC.wf rfl ⟨rfl, rfl⟩ (by decide) rfl (.yes (.tmp rfl)) (.yes (.tmp rfl)) (by omega) (by
    rw [if_neg (by omega)]
    congr 1 <;> omega) ?_
  refine O.clearN WFC.wf rfl ⟨rfl, rfl⟩ rfl rfl ZC.zero (by decide) (by decide) rfl ?_
  refine walkD ?_
  exact ⟨.inr rfl, .tmp rfl, (fun _ _ e => (by cases e)), rfl, rfl⟩

theorem erase_rows (A : List T) (z : T) (k m : Nat) (hk : k < A.length) : put2 (put2 (A ++ List.replicate m z) (0 + k) (((A ++ List.replicate m z).drop (k + 1)).take (A.length - (k + 1)))) (A.length - 1) (List.replicate 1 z) = A.eraseIdx k ++ List.replicate (m + 1) z := by
  have hX : ((A ++ List.replicate m z).drop (k + 1)).take (A.length - (k + 1)) = A.drop (k + 1) := by
    rw [List.drop_append_of_le_length (by omega), List.take_append_of_le_length (by simp), List.take_of_length_le (by simp)]
  rw [hX, Nat.zero_add]
  have hB : (A.take k ++ A.drop (k + 1)).length = A.length - 1 := by simp; omega
  have h1 : put2 (A ++ List.replicate m z) k (A.drop (k + 1)) = (A.take k ++ A.drop (k + 1)) ++ (A ++ List.replicate m z).drop (A.length - 1) := by
    unfold put2
    rw [List.take_append_of_le_length (by omega), List.length_drop, show k + (A.length - (k + 1)) = A.length - 1 by omega]
  rw [h1]
  have h2 : ∀ (B C : List T) (n : Nat), B.length = n → put2 (B ++ C) n (List.replicate 1 z) = B ++ [z] ++ C.drop 1 := by
    intro B C n hn
    subst hn
    unfold put2
    rw [List.take_left', List.length_replicate, List.drop_append]
    · simp
    · rfl
  rw [h2 _ _ _ hB, List.drop_drop, show A.length - 1 + 1 = A.length by omega, List.drop_left', List.eraseIdx_eq_take_drop_succ]
  · simp [List.replicate_succ]
  · rfl
theorem RW_erase (ds : List Pr) (m k : Nat) (hk : k < ds.length) : (⟨.row 52 (ds.length + m), .arr (put2 (put2 (ds.map tP ++ List.replicate m Z52) (0 + k) (((ds.map tP ++ List.replicate m Z52).drop (k + 1)).take (ds.length - (k + 1)))) (ds.length - 1) (List.replicate 1 Z52))⟩ : AO) = RW (ds.eraseIdx k) (m + 1) := by
  have h := erase_rows (ds.map tP) Z52 k m (by simpa using hk)
  rw [List.length_map] at h
  rw [h]
  have he : (ds.eraseIdx k).length + (m + 1) = ds.length + m := by rw [List.length_eraseIdx_of_lt hk]; omega
  have hmap : (ds.map tP).eraseIdx k = (ds.eraseIdx k).map tP := by rw [List.eraseIdx_eq_take_drop_succ, List.eraseIdx_eq_take_drop_succ, List.map_append, List.map_take, List.map_drop]
  unfold RW
  rw [he, hmap]

theorem delete_c (ds : List Pr) (m k : Nat) (hk : k < ds.length) (hm : ds.length < 4611686018427387904) :
    AnsM Try.prog 17 [(VW 0 ds m, 32), (I (k : Nat), 3), (I ((k : Nat) + 1), 3)] [RW ds m] ⟨[], 0⟩ (VW 0 (ds.eraseIdx k) (m + 1), 32) [RW (ds.eraseIdx k) (m + 1)] ⟨[], 0⟩ := by
  have h := delete_m ds m k hk hm
  rw [RW_erase ds m k hk] at h
  have he : (ds.eraseIdx k).length = ds.length - 1 := List.length_eraseIdx_of_lt hk
  have he2 : ds.length - 1 + (m + 1) = ds.length + m := by omega
  show AnsM Try.prog 17 _ _ _ (.vw 0 0 (ds.eraseIdx k).length ((ds.eraseIdx k).length + (m + 1)), 32) _ _
  rw [he, he2]; exact h

end Go.Proofs.Ytecacooabofloaa

/- Package recover: Clone of those in doubt. -/
set_option linter.unusedVariables false
set_option linter.unusedSimpArgs false
set_option maxRecDepth 100000
namespace Go.Proofs.Ytecacooabofloaa
open Go.Am
abbrev Lp (ds : List Pr) : T := .lst (ds.map tP) .no

set_option maxRecDepth 100000 in
set_option maxHeartbeats 4000000 in
theorem clone13_cons (ds : List Pr) (h0 : ds ≠ []) (hm : ds.length ≤ 100000) (H : List AO) (U : Tips) : ACalls Try.prog 13 [(Lp ds, 32)] H U fun x h u => ∃ m, x = (VW H.length ds m, 32) ∧ h = H ++ [RW ds m] ∧ u = U := by
  refine ACalls.body1 WFC.wf Try.func13 rfl rfl (Nat.le_of_ble_eq_true rfl) ?_
  refine walkD ?_
  refine O.eqNilL (r := false) rfl rfl ⟨rfl, rfl⟩ rfl (by decide) (.inr ⟨rfl, by simpa using h0⟩) ?_
  refine walkD ?_
  refine O.appendV (xs := []) (ys := ds.map tP) (tag := .full) (tag2 := .no) rfl WFC.wf (ArgAt.tmp rfl ⟨rfl, rfl⟩) (ArgAt.tmp rfl ⟨rfl, rfl⟩) rfl rfl ZC.zero (by decide) (.inl rfl) (by simpa using h0) ?_ ?_ ?_ (cellP ds) ?_
  · simp; omega
  · show (_ + _) * 64 ≤ _; simp; omega
  · intro y hy; cases hy
  intro m
  rw [List.nil_append, List.length_nil, Nat.zero_add, List.length_map]
  refine walkD ?_
  exact ⟨.inr rfl, _, .tmp rfl, (fun _ _ e => (by cases e)), m, rfl, rfl, rfl⟩

set_option maxRecDepth 100000 in
set_option maxHeartbeats 4000000 in
theorem clone13_nil (H : List AO) (U : Tips) : ACalls Try.prog 13 [(Lp [], 32)] H U fun x h u => ∃ g, x = (.lst [] g, 32) ∧ (g = .full ∨ g = .nil) ∧ h = H ∧ u = U := by
  refine ACalls.body1 WFC.wf Try.func13 rfl rfl (Nat.le_of_ble_eq_true rfl) ?_
  refine walkD ?_
  refine O.eqNilU rfl rfl ⟨rfl, rfl⟩ rfl fun r => ?_
  cases r
  · refine walkD ?_
    refine O.appendE (xs := []) (tag := .full) (tag2 := .no) rfl WFC.wf (ArgAt.tmp rfl ⟨rfl, rfl⟩) (ArgAt.tmp rfl ⟨rfl, rfl⟩) rfl rfl (by decide) ?_
    refine walkD ?_
    exact ⟨.inr rfl, (.lst [] .full, 32), .tmp rfl, (fun _ _ e => (by cases e)), .full, rfl, .inl rfl, rfl, rfl⟩
  · refine walkD ?_
    exact ⟨.inr rfl, (.lst [] .nil, 32), .tmp rfl, (fun _ _ e => (by cases e)), .nil, rfl, .inr rfl, rfl, rfl⟩

end Go.Proofs.Ytecacooabofloaa

/- Package recover: own. -/
set_option linter.unusedVariables false
set_option linter.unusedSimpArgs false
set_option maxRecDepth 100000
namespace Go.Proofs.Ytecacooabofloaa
open Go.Am
abbrev Z29 : T := .st [I 0, I 0, I 0, I 0, I 0, .arr (List.replicate 8 (I 0))]
abbrev ZS : T := .st [Z29, .st [I 0, I 0], H0, .lst [] .nil, I 0]
/-- Memory of Apply, ahead of own. -/
abbrev HA (su lg : T) (home : List (List Int)) (d : T) (ap : Int) (r : Rc) : List AO := [⟨.one 34, tS su lg home d ap⟩, RR r, ⟨.one 34, ZS⟩]
/-- The state. -/
abbrev SO (su lg : T) (home : List (List Int)) (d : T) (ap : Int) : AO := ⟨.one 58, .st [tS su lg home d ap]⟩

set_option maxRecDepth 100000 in
set_option maxHeartbeats 4000000 in
theorem own_cons (su lg : T) (home : List (List Int)) (ds : List Pr) (ap : Int) (r : Rc) (hsu : su.aggB = true) (hlg : lg.aggB = true) (h0 : ds ≠ []) (hm : ds.length ≤ 100000) :
    ACalls Try.prog 8 [(tS su lg home (Lp ds) ap, 34)] (HA su lg home (Lp ds) ap r) ⟨[], 0⟩ fun x h u => ∃ m, x = (.ptr 5 [], 0) ∧ h = HA su lg home (Lp ds) ap r ++ [⟨.one 34, tS su lg home (VW 4 ds m) ap⟩, RW ds m, SO su lg home (VW 4 ds m) ap] ∧ u = ⟨[], 0⟩ := by
  refine ACalls.body1 WFC.wf Try.func8 rfl rfl (Nat.le_of_ble_eq_true rfl) ?_
  refine walkD ?_
  refine O.call rfl rfl (.cons (.tmp rfl ⟨rfl, rfl⟩) .nil) ((clone13_cons ds h0 hm _ _).mono ?_)
  rintro x h u ⟨m, rfl, rfl, rfl⟩
  refine walkD ?_
  exact ⟨.inr rfl, _, .tmp rfl, (fun _ _ e => (by cases e)), m, rfl, rfl, rfl⟩

set_option maxRecDepth 100000 in
set_option maxHeartbeats 4000000 in
theorem own_nil (su lg : T) (home : List (List Int)) (ap : Int) (r : Rc) (hsu : su.aggB = true) (hlg : lg.aggB = true) :
    ACalls Try.prog 8 [(tS su lg home (Lp []) ap, 34)] (HA su lg home (Lp []) ap r) ⟨[], 0⟩ fun x h u => ∃ g, (g = .full ∨ g = .nil) ∧ x = (.ptr 4 [], 0) ∧ h = HA su lg home (Lp []) ap r ++ [⟨.one 34, tS su lg home (.lst [] g) ap⟩, SO su lg home (.lst [] g) ap] ∧ u = ⟨[], 0⟩ := by
  refine ACalls.body1 WFC.wf Try.func8 rfl rfl (Nat.le_of_ble_eq_true rfl) ?_
  refine walkD ?_
  refine O.call rfl rfl (.cons (.tmp rfl ⟨rfl, rfl⟩) .nil) ((clone13_nil _ _).mono ?_)
  rintro x h u ⟨g, rfl, hg, rfl, rfl⟩
  refine walkD ?_
  exact ⟨.inr rfl, _, .tmp rfl, (fun _ _ e => (by cases e)), g, hg, rfl, rfl, rfl⟩

end Go.Proofs.Ytecacooabofloaa

/- Package recover: local. -/
set_option linter.unusedVariables false
set_option linter.unusedSimpArgs false
set_option maxRecDepth 100000
namespace Go.Proofs.Ytecacooabofloaa
open Go.Am
abbrev KT (b : Nat) : AO := ⟨.one 56, .arr [.s .nilFunc, .fn (.func 9) [.ptr b []] [], .fn (.func 10) [.ptr b []] [], .fn (.func 11) [.ptr b []] []]⟩

set_option maxRecDepth 100000 in
set_option maxHeartbeats 4000000 in
theorem local_c (o0 o1 o2 : AO) (su lg : T) (home : List (List Int)) (ds : List Pr) (m : Nat) (ap : Int) (r : Rc) (hh : home.length = 32) (hw : r.ws.length < 4611686018427387904) :
    AnsM Try.prog 9 [(.ptr 5 [], 0), (tR r, 43)] [o0, o1, o2, ⟨.one 34, tS su lg home (VW 4 ds m) ap⟩, RW ds m, SO su lg home (VW 4 ds m) ap, KT 5] ⟨[], 0⟩ (.tup [], 0) ([o0, o1, o2, ⟨.one 34, tS su lg home (VW 4 ds m) ap⟩, RW ds m, SO su lg (onF home r.ws) (VW 4 ds m) ap, KT 5] ++ [RR r]) ⟨[], 0⟩ := by
  have hon := on_c home r.ws hh hw
  refine AnsM.bodyN (rs := []) WFC.wf 0 Try.func9 rfl rfl (by decide) rfl rfl ?_
  refine walkD ?_
  refine AW.drawP [([], [0]), ([], [0]), ([1], [5]), ([2, 1], [6]), ([3, 2, 1], [7]), ([4, 3, 2, 1], [8]), ([], [3]), ([6], [10]), ([5, 4, 3, 2, 1, 7, 6], [9, 11]), ([0, 1, 2, 3, 4, 5, 6, 7, 8], [4]), ([9, 0, 1, 2, 3, 4, 5, 6, 7, 8], [13]), ([10, 9, 0, 1, 2, 3, 4, 5, 6, 7, 8], [14]), ([11, 10, 9, 0, 1, 2, 3, 4, 5, 6, 7, 8], [15, 12])] [3, 4, 5, 6, 7, 10, 11, 12] [12] rfl (by kernel_rfl) ?_
  refine walkG ?_
  refine walkD ?_
  exact ⟨.inl rfl, .nil, trivial, rfl, rfl⟩

set_option maxRecDepth 100000 in
set_option maxHeartbeats 4000000 in
theorem local_n (o0 o1 o2 : AO) (su lg : T) (home : List (List Int)) (g : Tag) (ap : Int) (r : Rc) (hh : home.length = 32) (hw : r.ws.length < 4611686018427387904) :
    AnsM Try.prog 9 [(.ptr 4 [], 0), (tR r, 43)] [o0, o1, o2, ⟨.one 34, tS su lg home (.lst [] g) ap⟩, SO su lg home (.lst [] g) ap, KT 4] ⟨[], 0⟩ (.tup [], 0) ([o0, o1, o2, ⟨.one 34, tS su lg home (.lst [] g) ap⟩, SO su lg (onF home r.ws) (.lst [] g) ap, KT 4] ++ [RR r]) ⟨[], 0⟩ := by
  have hon := on_c home r.ws hh hw
  refine AnsM.bodyN (rs := []) WFC.wf 0 Try.func9 rfl rfl (by decide) rfl rfl ?_
  refine walkD ?_
  refine AW.drawP [([], [0]), ([], [0]), ([1], [5]), ([2, 1], [6]), ([3, 2, 1], [7]), ([4, 3, 2, 1], [8]), ([], [3]), ([6], [10]), ([5, 4, 3, 2, 1, 7, 6], [9, 11]), ([0, 1, 2, 3, 4, 5, 6, 7, 8], [4]), ([9, 0, 1, 2, 3, 4, 5, 6, 7, 8], [13]), ([10, 9, 0, 1, 2, 3, 4, 5, 6, 7, 8], [14]), ([11, 10, 9, 0, 1, 2, 3, 4, 5, 6, 7, 8], [15, 12])] [3, 4, 5, 6, 7, 10, 11, 12] [12] rfl (by kernel_rfl) ?_
  refine walkG ?_
  refine walkD ?_
  exact ⟨.inl rfl, .nil, trivial, rfl, rfl⟩

end Go.Proofs.Ytecacooabofloaa
