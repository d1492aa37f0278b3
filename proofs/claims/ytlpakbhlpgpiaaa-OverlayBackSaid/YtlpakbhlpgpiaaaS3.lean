/- Package overlay: Put. -/
import Derived.Test.YtlpakbhlpgpiaaaS2
set_option linter.unusedVariables false
set_option linter.unusedSimpArgs false
namespace Go.Proofs.Ytlpakbhlpgpiaaa
open Go.Am
theorem npL_app : ∀ {xs ys : List T}, npL (xs ++ ys) = (npL xs && npL ys)
  | [], ys => by simp [npL]
  | x :: xs, ys => by simp [npL, npL_app, Bool.and_assoc]
theorem npW_app (ws : List Wr) (ys : List T) : npL (ws.map tW ++ ys) = npL ys := by rw [npL_app, npW]; rfl
theorem walk26 {n k : Nat} (h : k < n) : walkO Try.prog (.row 26 n) [k] = some (k * szOf Try.prog 26 + 0, 26) := by
  have : Nat.blt k n = true := by rw [Nat.blt_eq]; exact h
  simp only [walkO, walkPath, this]
theorem arr_put {ws : List Wr} {k j : Nat} (w : Wr) (ys : List T) (hj : j = k) (h : k < ws.length) : (T.arr (ws.map tW ++ ys)).put [j] (tW w) = some (.arr ((ws.set k w).map tW ++ ys)) := by
  subst hj
  have h2 : (ws.map tW ++ ys)[j]? = some (tW ws[j]) := by
    rw [List.getElem?_append_left (by simpa using h), List.getElem?_map, List.getElem?_eq_getElem h]; rfl
  simp only [T.put, h2]
  rw [List.set_append_left _ _ (by simpa using h), List.map_set]
theorem take_W (ws : List Wr) (k : Nat) : ((ws.map tW).drop (0 : Int).toNat).take ((k : Int).toNat - (0 : Int).toNat) = (ws.take k).map tW := by
  simp [List.map_take]
theorem drop_W (ws : List Wr) (k : Nat) : ((ws.map tW).drop (k : Int).toNat).take (((ws.map tW).length : Int).toNat - (k : Int).toNat) = (ws.drop k).map tW := by
  rw [Int.toNat_natCast, Int.toNat_natCast, List.take_of_length_le (by rw [List.length_drop]; exact Nat.le_refl _)]
  simp [List.map_drop]
theorem cellW (ws : List Wr) : ∀ y ∈ ws.map tW, y.cell = true := fun y hy => by obtain ⟨w, _, rfl⟩ := List.mem_map.1 hy; rfl

set_option maxHeartbeats 4000000 in
theorem put_nw (ws : List Wr) (hm : ws.length < 4611686018427387904) (w : Wr) (h : ¬ Wn ws) : Ans Try.prog 7 [(Ls ws, 22), (tW w, 26)] (.tup [Ls [], I 2], 30) := by
  refine Ans.bodyN (rs := [(Ls [], 22), (I 2, 29)]) WFC.wf 30 Try.func7 rfl rfl (by decide) rfl rfl (by simp [npL, np, npV, npW, npW_app, Tag.nt]) (by simp [npL, np, npV, npW, npW_app, Tag.nt]) ?_
  have hwr := written_c ws hm false ⟨fun h => (by cases h), fun hw => absurd hw h⟩
  refine walkD ?_
  exact ⟨.inr rfl, (.cons (.tmpW rfl (Wk.noS rfl)) (.cons (.tmp rfl) .nil)), ⟨(fun _ _ e => (by cases e)), ⟨(fun _ _ e => (by cases e)), trivial⟩⟩⟩

set_option maxHeartbeats 4000000 in
theorem put_low (ws : List Wr) (hm : ws.length < 4611686018427387904) (w : Wr) (h : Wn ws) (hb : w.b < 0) : Ans Try.prog 7 [(Ls ws, 22), (tW w, 26)] (.tup [Ls [], I 2], 30) := by
  refine Ans.bodyN (rs := [(Ls [], 22), (I 2, 29)]) WFC.wf 30 Try.func7 rfl rfl (by decide) rfl rfl (by simp [npL, np, npV, npW, npW_app, Tag.nt]) (by simp [npL, np, npV, npW, npW_app, Tag.nt]) ?_
  have hwr := written_c ws hm true ⟨fun _ => h, fun _ => rfl⟩
  refine walkD ?_
  exact ⟨.inr rfl, (.cons (.tmpW rfl (Wk.noS rfl)) (.cons (.tmp rfl) .nil)), ⟨(fun _ _ e => (by cases e)), ⟨(fun _ _ e => (by cases e)), trivial⟩⟩⟩

set_option maxHeartbeats 4000000 in
theorem put_high (ws : List Wr) (hm : ws.length < 4611686018427387904) (w : Wr) (h : Wn ws) (hb0 : 0 ≤ w.b) (hb : 32 ≤ w.b) : Ans Try.prog 7 [(Ls ws, 22), (tW w, 26)] (.tup [Ls [], I 2], 30) := by
  refine Ans.bodyN (rs := [(Ls [], 22), (I 2, 29)]) WFC.wf 30 Try.func7 rfl rfl (by decide) rfl rfl (by simp [npL, np, npV, npW, npW_app, Tag.nt]) (by simp [npL, np, npV, npW, npW_app, Tag.nt]) ?_
  have hwr := written_c ws hm true ⟨fun _ => h, fun _ => rfl⟩
  refine walkD ?_
  exact ⟨.inr rfl, (.cons (.tmpW rfl (Wk.noS rfl)) (.cons (.tmp rfl) .nil)), ⟨(fun _ _ e => (by cases e)), ⟨(fun _ _ e => (by cases e)), trivial⟩⟩⟩

set_option maxHeartbeats 4000000 in
theorem put_there (ws : List Wr) (hm : ws.length < 4611686018427387904) (w : Wr) (h : Wn ws) (hb0 : 0 ≤ w.b) (hb : w.b < 32) (k : Nat) (hk : k ≤ ws.length) (hlo : ∀ (j : Nat) x, j < k → ws[j]? = some x → x.b < w.b) (hhi : ∀ x, ws[k]? = some x → w.b ≤ x.b) (x : Wr) (hx : ws[k]? = some x) (hxb : x.b = w.b) : Ans Try.prog 7 [(Ls ws, 22), (tW w, 26)] (.tup [Ls (ws.set k w), I 0], 30) := by
  refine Ans.bodyN (rs := [(Ls (ws.set k w), 22), (I 0, 29)]) WFC.wf 30 Try.func7 rfl rfl (by decide) rfl rfl (by simp [npL, np, npV, npW, npW_app, Tag.nt]) (by simp only [List.map, npL, np, npW, Tag.nt]; rfl) ?_
  have hwr := written_c ws hm true ⟨fun _ => h, fun _ => rfl⟩
  have hpl := place_c ws hm w.b k true hk hlo hhi ⟨fun _ => ⟨x, hx, hxb⟩, fun _ => rfl⟩
  have hkl := (List.getElem?_eq_some_iff.1 hx).1
  have h8 := h.len
  have hl := Ls_len ws
  refine walkD ?_
  refine O.appendV (xs := []) (ys := ws.map tW) (tag := .nil) (tag2 := .no) rfl WFC.wf (ArgAt.nil rfl) (ArgAt.tmp rfl ⟨rfl, rfl⟩) rfl rfl ZC.zero (by decide) (.inr rfl) ?_ ?_ ?_ ?_ ?_ ?_
  · intro hn; rw [hn] at hl; simp at hl; omega
  · simp; omega
  · show (_ + _) * 16 ≤ _; simp; omega
  · intro y hy; cases hy
  · exact cellW ws
  intro m
  simp only [List.length_nil, List.nil_append, Nat.zero_add]
  refine walkD ?_
  refine O.store WFC.wf rfl (ArgAt.tmp rfl ⟨rfl, rfl⟩) rfl (walk26 (by omega)) (by decide) (arr_put w _ (by omega : 0 + ((k : Nat) : Int).toNat = k) hkl) rfl (.inl rfl) ?_
  apply OPS.freeze (b := 1) (e := 26) (n := (ws.map tW).length + m) (t' := [(0, (Ls (ws.set k w), 22))])
  · rfl
  · decide
  · intro k' y hk'
    unfold lk at hk'
    split at hk'
    · rename_i hb'
      cases hk'
      have := Nat.eq_of_beq_eq_true hb'
      subst this
      refine ⟨_, rfl, .inr ⟨0, (ws.map tW).length, (ws.map tW).length + m, rfl, ?_⟩⟩
      rw [List.drop_zero, List.take_append_of_le_length (by simp), List.take_of_length_le (by simp)]
    · cases hk'
  refine walkD ?_
  exact ⟨.inr rfl, (.cons (.tmp rfl) (.cons (.tmp rfl) .nil)), ⟨(fun _ _ e => (by cases e)), ⟨(fun _ _ e => (by cases e)), trivial⟩⟩⟩

set_option maxHeartbeats 4000000 in
theorem put_full (ws : List Wr) (hm : ws.length < 4611686018427387904) (w : Wr) (h : Wn ws) (hb0 : 0 ≤ w.b) (hb : w.b < 32) (k : Nat) (hk : k ≤ ws.length) (hlo : ∀ (j : Nat) x, j < k → ws[j]? = some x → x.b < w.b) (hhi : ∀ x, ws[k]? = some x → w.b ≤ x.b) (hx : ∀ x, ws[k]? = some x → x.b ≠ w.b) (h8 : ws.length = 8) : Ans Try.prog 7 [(Ls ws, 22), (tW w, 26)] (.tup [Ls [], I 50], 30) := by
  refine Ans.bodyN (rs := [(Ls [], 22), (I 50, 29)]) WFC.wf 30 Try.func7 rfl rfl (by decide) rfl rfl (by simp [npL, np, npV, npW, npW_app, Tag.nt]) (by simp [npL, np, npV, npW, npW_app, Tag.nt]) ?_
  have hwr := written_c ws hm true ⟨fun _ => h, fun _ => rfl⟩
  have hpl := place_c ws hm w.b k false hk hlo hhi ⟨fun h => (by cases h), fun ⟨x, h1, h2⟩ => absurd h2 (hx x h1)⟩
  have hl := Ls_len ws
  refine walkD ?_
  exact ⟨.inr rfl, (.cons (.tmpW rfl (Wk.noS rfl)) (.cons (.tmp rfl) .nil)), ⟨(fun _ _ e => (by cases e)), ⟨(fun _ _ e => (by cases e)), trivial⟩⟩⟩

set_option maxHeartbeats 4000000 in
theorem put_new1 (ws : List Wr) (hm : ws.length < 4611686018427387904) (w : Wr) (h : Wn ws) (hb0 : 0 ≤ w.b) (hb : w.b < 32) (k : Nat) (hk : k ≤ ws.length) (hlo : ∀ (j : Nat) x, j < k → ws[j]? = some x → x.b < w.b) (hhi : ∀ x, ws[k]? = some x → w.b ≤ x.b) (hx : ∀ x, ws[k]? = some x → x.b ≠ w.b) (h8 : ws.length < 8) (hkl : k < ws.length) : Ans Try.prog 7 [(Ls ws, 22), (tW w, 26)] (.tup [(.lst ((ws.take k).map tW ++ [tW w] ++ (ws.drop k).map tW) .no), I 0], 30) := by
  refine Ans.bodyN (rs := [((.lst ((ws.take k).map tW ++ [tW w] ++ (ws.drop k).map tW) .no), 22), (I 0, 29)]) WFC.wf 30 Try.func7 rfl rfl (by decide) rfl rfl (by simp [npL, np, npV, npW, npW_app, Tag.nt]) (by simp only [List.map, npL, np, npL_app, npW, npV, Tag.nt]; rfl) ?_
  have hwr := written_c ws hm true ⟨fun _ => h, fun _ => rfl⟩
  have hpl := place_c ws hm w.b k false hk hlo hhi ⟨fun h => (by cases h), fun ⟨x, h1, h2⟩ => absurd h2 (hx x h1)⟩
  have hl := Ls_len ws
  have htk := take_W ws k
  have hdr := drop_W ws k
  have hlt : ((ws.take k).map tW).length ≤ 8 := by rw [List.length_map, List.length_take]; omega
  have hld : ((ws.drop k).map tW).length ≤ 8 := by rw [List.length_map, List.length_drop]; omega
  refine walkD ?_
  refine AW.drawP [([], [0]), ([], [6]), ([], [6]), ([0, 1, 2], [41, 42, 43]), ([], [3]), ([4], [45]), ([3, 0, 1, 2, 5, 4], [44, 46]), ([], [0]), ([], [6]), ([7, 8], [48, 49]), ([6, 3, 0, 1, 2, 5, 4, 9, 7, 8], [47, 50]), ([10, 6, 3, 0, 1, 2, 5, 4, 9, 7, 8], [51]), ([11, 10, 6, 3, 0, 1, 2, 5, 4, 9, 7, 8], [])] [4, 6, 10] [6, 10] rfl (by kernel_rfl) ?_
  refine walkG ?_
  refine D.sliceFn rfl rfl trivial WFC.wf rfl ⟨rfl, rfl⟩ (by decide) rfl (by decide) (fun _ _ => .no) (fun _ _ => .tmp rfl) (fun _ _ => .tmp rfl) rfl (by omega) htk ?_
  refine walkG ?_
  refine D.appendG (xs := (ws.take k).map tW) (ys := [tW w]) (tag := .full) (tag2 := .full) rfl rfl rfl trivial WFC.wf (ArgAt.tmp rfl ⟨rfl, rfl⟩) (ArgAt.tmp rfl ⟨rfl, rfl⟩) rfl rfl ZC.zero (by decide) (.inl rfl) ?_ ?_ ?_ rfl ?_
  · simp
  · simp only [List.length_cons, List.length_nil]; omega
  · show (_ + _) * 16 ≤ _; simp only [List.length_cons, List.length_nil]; omega
  refine walkG ?_
  refine D.sliceLn rfl rfl trivial WFC.wf rfl ⟨rfl, rfl⟩ (by decide) rfl (by decide) (fun _ _ => .yes (.tmp rfl)) (fun _ _ => .no) (by omega) hdr ?_
  refine D.appendT (xs := (ws.take k).map tW ++ [tW w]) (ys := (ws.drop k).map tW) (τ0 := 0) (tag2 := .no) rfl rfl rfl trivial WFC.wf (ArgAt.tmp rfl ⟨rfl, rfl⟩) (ArgAt.tmp rfl ⟨rfl, rfl⟩) (List.Mem.head _) rfl rfl ZC.zero (by decide) ?_ (cellW _) ?_ ?_ rfl ?_
  · intro hn; have := congrArg List.length hn; rw [List.length_map, List.length_drop] at this; simp at this; omega
  · simp only [List.length_append, List.length_cons, List.length_nil]; omega
  · show (_ + _) * 16 ≤ _; simp only [List.length_append, List.length_cons, List.length_nil]; omega
  refine walkG ?_
  refine walkD ?_
  exact ⟨.inr rfl, (.cons (.tmpW rfl (Wk.noS rfl)) (.cons (.tmp rfl) .nil)), ⟨(fun _ _ e => (by cases e)), ⟨(fun _ _ e => (by cases e)), trivial⟩⟩⟩

set_option maxHeartbeats 4000000 in
theorem put_new2 (ws : List Wr) (hm : ws.length < 4611686018427387904) (w : Wr) (h : Wn ws) (hb0 : 0 ≤ w.b) (hb : w.b < 32) (k : Nat) (hk : k ≤ ws.length) (hlo : ∀ (j : Nat) x, j < k → ws[j]? = some x → x.b < w.b) (hhi : ∀ x, ws[k]? = some x → w.b ≤ x.b) (hx : ∀ x, ws[k]? = some x → x.b ≠ w.b) (h8 : ws.length < 8) (hkl : k = ws.length) : Ans Try.prog 7 [(Ls ws, 22), (tW w, 26)] (.tup [(.lst ((ws.take k).map tW ++ [tW w] ++ (ws.drop k).map tW) .no), I 0], 30) := by
  refine Ans.bodyN (rs := [((.lst ((ws.take k).map tW ++ [tW w] ++ (ws.drop k).map tW) .no), 22), (I 0, 29)]) WFC.wf 30 Try.func7 rfl rfl (by decide) rfl rfl (by simp [npL, np, npV, npW, npW_app, Tag.nt]) (by simp only [List.map, npL, np, npL_app, npW, npV, Tag.nt]; rfl) ?_
  have hwr := written_c ws hm true ⟨fun _ => h, fun _ => rfl⟩
  have hpl := place_c ws hm w.b k false hk hlo hhi ⟨fun h => (by cases h), fun ⟨x, h1, h2⟩ => absurd h2 (hx x h1)⟩
  have hl := Ls_len ws
  have htk := take_W ws k
  have hdr := drop_W ws k
  have hlt : ((ws.take k).map tW).length ≤ 8 := by rw [List.length_map, List.length_take]; omega
  have hld : ((ws.drop k).map tW).length ≤ 8 := by rw [List.length_map, List.length_drop]; omega
  refine walkD ?_
  refine AW.drawP [([], [0]), ([], [6]), ([], [6]), ([0, 1, 2], [41, 42, 43]), ([], [3]), ([4], [45]), ([3, 0, 1, 2, 5, 4], [44, 46]), ([], [0]), ([], [6]), ([7, 8], [48, 49]), ([6, 3, 0, 1, 2, 5, 4, 9, 7, 8], [47, 50]), ([10, 6, 3, 0, 1, 2, 5, 4, 9, 7, 8], [51]), ([11, 10, 6, 3, 0, 1, 2, 5, 4, 9, 7, 8], [])] [4, 6, 10] [6, 10] rfl (by kernel_rfl) ?_
  refine walkG ?_
  refine D.sliceFn rfl rfl trivial WFC.wf rfl ⟨rfl, rfl⟩ (by decide) rfl (by decide) (fun _ _ => .no) (fun _ _ => .tmp rfl) (fun _ _ => .tmp rfl) rfl (by omega) htk ?_
  refine walkG ?_
  refine D.appendG (xs := (ws.take k).map tW) (ys := [tW w]) (tag := .full) (tag2 := .full) rfl rfl rfl trivial WFC.wf (ArgAt.tmp rfl ⟨rfl, rfl⟩) (ArgAt.tmp rfl ⟨rfl, rfl⟩) rfl rfl ZC.zero (by decide) (.inl rfl) ?_ ?_ ?_ rfl ?_
  · simp
  · simp only [List.length_cons, List.length_nil]; omega
  · show (_ + _) * 16 ≤ _; simp only [List.length_cons, List.length_nil]; omega
  refine walkG ?_
  refine D.sliceLn rfl rfl trivial WFC.wf rfl ⟨rfl, rfl⟩ (by decide) rfl (by decide) (fun _ _ => .yes (.tmp rfl)) (fun _ _ => .no) (by omega) hdr ?_
  have hnil : (ws.drop k).map tW = [] := by rw [hkl, List.drop_length]; rfl
  rw [hnil]
  refine D.appendE (xs := (ws.take k).map tW ++ [tW w]) (tag := .tip 0) (tag2 := .no) rfl rfl trivial WFC.wf (fun _ _ => ArgAt.tmp rfl ⟨rfl, rfl⟩) (fun _ _ => ArgAt.tmp rfl ⟨rfl, rfl⟩) rfl rfl (by decide) ?_
  refine walkG ?_
  refine walkD ?_
  rw [List.append_nil]
  exact ⟨.inr rfl, (.cons (.tmpW rfl (Wk.noS rfl)) (.cons (.tmp rfl) .nil)), ⟨(fun _ _ e => (by cases e)), ⟨(fun _ _ e => (by cases e)), trivial⟩⟩⟩


theorem put_new (ws : List Wr) (hm : ws.length < 4611686018427387904) (w : Wr) (h : Wn ws) (hb0 : 0 ≤ w.b) (hb : w.b < 32) (k : Nat) (hk : k ≤ ws.length) (hlo : ∀ (j : Nat) x, j < k → ws[j]? = some x → x.b < w.b) (hhi : ∀ x, ws[k]? = some x → w.b ≤ x.b) (hx : ∀ x, ws[k]? = some x → x.b ≠ w.b) (h8 : ws.length < 8) : Ans Try.prog 7 [(Ls ws, 22), (tW w, 26)] (.tup [Ls (ws.take k ++ w :: ws.drop k), I 0], 30) := by
  have e : Ls (ws.take k ++ w :: ws.drop k) = (.lst ((ws.take k).map tW ++ [tW w] ++ (ws.drop k).map tW) .no) := by simp [Ls]
  rw [e]
  by_cases hkl : k < ws.length
  · exact put_new1 ws hm w h hb0 hb k hk hlo hhi hx h8 hkl
  · exact put_new2 ws hm w h hb0 hb k hk hlo hhi hx h8 (by omega)

end Go.Proofs.Ytlpakbhlpgpiaaa
