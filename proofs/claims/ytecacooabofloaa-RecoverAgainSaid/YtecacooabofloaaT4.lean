/- Package recover: prepare. -/
import Derived.Test.YtecacooabofloaaT3
/- Package recover: prepare. -/
set_option linter.unusedVariables false
set_option linter.unusedSimpArgs false
set_option maxRecDepth 100000
namespace Go.Proofs.Ytecacooabofloaa
open Go.Am
/-- What is in doubt of a record. -/
abbrev PR (r : Rc) : Pr := ⟨r.n, r.ws, r.g, r.t⟩

set_option maxRecDepth 100000 in
set_option maxHeartbeats 4000000 in
theorem prepare_n (o0 o1 o2 : AO) (su lg : T) (home : List (List Int)) (g : Tag) (hg : g = .full ∨ g = .nil) (hsu : np su = true) (hlg : np lg = true) (ap : Int) (r : Rc) (hw : r.ws.length ≤ 100000) :
    AnsM Try.prog 10 [(.ptr 4 [], 0), (tR r, 43)] [o0, o1, o2, ⟨.one 34, tS su lg home (.lst [] g) ap⟩, SO su lg home (.lst [] g) ap, KT 4] ⟨[], 0⟩ (.tup [], 0) ([o0, o1, o2, ⟨.one 34, tS su lg home (.lst [] g) ap⟩, SO su lg home (.lst ([PR r].map tP) (.tip 0)) ap, KT 4] ++ [RR r, ⟨.one 52, tP (PR r)⟩]) ⟨[0], 1⟩ := by
  have hcl := clone15_c r.ws hw
  have hgn : g.nt = true := by rcases hg with rfl | rfl <;> rfl
  have hf := find_0 g hgn su lg home ap r.n
  refine AnsM.bodyN (rs := []) WFC.wf 0 Try.func10 rfl rfl (by decide) rfl rfl ?_
  refine walkD ?_
  refine AW.drawR (fun h => h[6]? = some (RR r) ∧ (h[6]?).map (·.ty) = some (.one 43)) [([], [3]), ([0], [7]), ([], [3]), ([2], [9]), ([3, 2], [10]), ([], [3]), ([5], [12]), ([], [3]), ([7], [14]), ([1, 0, 4, 3, 2, 6, 5, 8, 7], [8, 11, 13, 15]), ([], []), ([10, 9, 1, 0, 4, 3, 2, 6, 5, 8, 7], [4, 16])] [10, 11] [10, 11] rfl ⟨rfl, rfl⟩ (by kernel_rfl) ?_
  refine walkG ?_
  refine walkD ?_
  refine AW.drawP [([], [0]), ([0], [18]), ([1, 0], [19]), ([2, 1, 0], [20]), ([], [3]), ([4], [22]), ([3, 2, 1, 0, 5, 4], [21, 23]), ([6, 3, 2, 1, 0, 5, 4], [24]), ([7, 6, 3, 2, 1, 0, 5, 4], [17]), ([7, 6, 3, 2, 1, 0, 5, 4], [17]), ([8, 7, 6, 3, 2, 1, 0, 5, 4], [25]), ([9, 7, 6, 3, 2, 1, 0, 5, 4, 10, 8], [26])] [2, 3, 4, 5, 6] [6] rfl (by kernel_rfl) ?_
  refine walkG ?_
  refine D.fnM (H' := [o0, o1, o2, ⟨.one 34, tS su lg home (.lst [] g) ap⟩, SO su lg home (.lst [] g) ap, KT 4, RR r, ⟨.one 52, tP (PR r)⟩]) rfl rfl rfl trivial (.cons (.tmp rfl ⟨rfl, rfl⟩) (.cons (.tmp rfl ⟨rfl, rfl⟩) .nil)) (AnsM.app hf (by simp [npL, np, hsu, hlg, npH, hgn]) rfl rfl rfl) rfl rfl trivial ?_
  refine walkG ?_
  refine walkD ?_
  refine AW.drawP [([], [0]), ([], [0]), ([1], [37]), ([2, 1], [38]), ([3, 2, 1], [39]), ([4, 3, 2, 1], [40]), ([], [4]), ([6], [42]), ([5, 4, 3, 2, 1, 7, 6], [41, 43]), ([0, 1, 2, 3, 4, 5, 6, 7, 8], [36]), ([9, 0, 1, 2, 3, 4, 5, 6, 7, 8], [45]), ([10, 9, 0, 1, 2, 3, 4, 5, 6, 7, 8], [46]), ([11, 10, 9, 0, 1, 2, 3, 4, 5, 6, 7, 8], [47, 44])] [3, 4, 5, 6, 8, 10, 11, 12] [8, 12] rfl (by kernel_rfl) ?_
  refine walkG ?_
  refine D.appendG (xs := []) (ys := [tP (PR r)]) (tag := g) (tag2 := .full) rfl rfl rfl trivial WFC.wf (ArgAt.tmp rfl ⟨rfl, rfl⟩) (ArgAt.tmp rfl ⟨rfl, rfl⟩) rfl rfl ZC.zero (by decide) hg (by simp) (Nat.le_of_ble_eq_true rfl) (Nat.le_of_ble_eq_true rfl) rfl trivial ?_
  refine walkG ?_
  refine walkD ?_
  exact ⟨.inl rfl, .nil, trivial, rfl, rfl⟩

end Go.Proofs.Ytecacooabofloaa

/- Package recover: prepare, where somebody is in doubt. -/
set_option linter.unusedVariables false
set_option linter.unusedSimpArgs false
set_option maxRecDepth 100000
namespace Go.Proofs.Ytecacooabofloaa
open Go.Am
theorem tS_ren {su lg : T} {home : List (List Int)} {ap : Int} (hsu : np su = true) (hlg : np lg = true) (ds : List Pr) (m b L M : Nat) : (tS su lg home (VW 0 ds m) ap).ren (mapTo [b] L) (mapTo [] M) = tS su lg home (VW b ds m) ap := by
  have h3 : (HT home).ren (mapTo [b] L) (mapTo [] M) = HT home := ren_np _ (by simp [np, npH])
  simp only [T.ren, renL, ren_np _ hsu, ren_np _ hlg]
  rw [show T.arr (renL (mapTo [b] L) (mapTo [] M) (home.map V)) = HT home from h3]
  rfl
theorem find_at {su lg : T} {home : List (List Int)} {ap : Int} {ds : List Pr} {m : Nat} {nm : Nm} {r : X} (hf : AnsM Try.prog 16 [(tS su lg home (VW 0 ds m) ap, 34), (tN nm, 38)] [RW ds m] ⟨[], 0⟩ r [RW ds m] ⟨[], 0⟩) (hsu : np su = true) (hlg : np lg = true) (hr : np r.1 = true) {H : List AO} {U : Tips} {b : Nat} (hb : H[b]? = some (RW ds m)) :
    AnsM Try.prog 16 [(tS su lg home (VW b ds m) ap, 34), (tN nm, 38)] H U r (H.set b (RW ds m)) U :=
  hf.atX (npRW ds m) (npRW ds m) (by
    have h3 : inB 1 0 (HT home) = true := in_np _ (by simp [np, npH])
    show (inB 1 0 (tS su lg home (VW 0 ds m) ap) && true) = true
    simp only [inB, inL, in_np _ hsu, in_np _ hlg, Bool.and_true, Bool.true_and]
    rw [show inL 1 0 (home.map V) = true from h3]; rfl) hr hb (by
    simp only [List.map_cons, List.map_nil, tS_ren hsu hlg]
    rfl)

end Go.Proofs.Ytecacooabofloaa

/- Package recover: prepare, where somebody is in doubt. -/
set_option linter.unusedVariables false
set_option linter.unusedSimpArgs false
set_option maxRecDepth 100000
namespace Go.Proofs.Ytecacooabofloaa
open Go.Am
theorem RW_put {ds : List Pr} {m k : Nat} (hk : k < ds.length) (q : Pr) : (RW ds m).t.put [0 + ((k : Nat) : Int).toNat] (tP q) = some (RW (ds.set k q) m).t := by
  have h1 : (ds.map tP ++ List.replicate m Z52)[0 + ((k : Nat) : Int).toNat]? = some (tP ds[k]) := by
    rw [Int.toNat_natCast, Nat.zero_add, List.getElem?_append_left (by simpa using hk), List.getElem?_map, List.getElem?_eq_getElem hk]; rfl
  have h2 : (ds.map tP ++ List.replicate m Z52).set k (tP q) = (ds.set k q).map tP ++ List.replicate m Z52 := by
    rw [List.set_append_left _ _ (by simpa using hk), List.map_set]
  have h3 : (T.arr (ds.map tP ++ List.replicate m Z52)).put [k] (tP q) = some (T.arr ((ds.map tP ++ List.replicate m Z52).set k (tP q))) := by
    rw [Int.toNat_natCast, Nat.zero_add] at h1
    simp only [T.put, h1]
  rw [Int.toNat_natCast, Nat.zero_add, h3, h2]
theorem RW_set {ds : List Pr} {m k : Nat} (q : Pr) : (⟨(RW ds m).ty, (RW (ds.set k q) m).t⟩ : AO) = RW (ds.set k q) m := by
  unfold RW
  rw [List.length_set]
theorem RW_in1 {ds : List Pr} {m : Nat} (h0 : 0 < m) (q : Pr) : (⟨.row 52 (ds.length + m), .arr (put2 (ds.map tP ++ List.replicate m Z52) (0 + ds.length) [tP q])⟩ : AO) = RW (ds ++ [q]) (m - 1) := by
  obtain ⟨m, rfl⟩ : ∃ n, m = n + 1 := ⟨m - 1, by omega⟩
  have h1 : put2 (ds.map tP ++ List.replicate (m + 1) Z52) (0 + ds.length) [tP q] = (ds ++ [q]).map tP ++ List.replicate m Z52 := by
    unfold put2
    rw [Nat.zero_add, List.take_left' (by simp), List.drop_append]
    simp [List.replicate_succ]
  rw [h1]
  unfold RW
  rw [show (ds ++ [q]).length + (m + 1 - 1) = ds.length + (m + 1) by simp; omega, show m + 1 - 1 = m by omega]
theorem VW_in1 {ds : List Pr} {m : Nat} (h0 : 0 < m) (q : Pr) : T.vw 4 0 (ds.length + [tP q].length) (ds.length + m) = VW 4 (ds ++ [q]) (m - 1) := by
  show T.vw 4 0 _ _ = T.vw 4 0 _ _
  rw [show (ds ++ [q]).length = ds.length + [tP q].length by simp, show ds.length + [tP q].length + (m - 1) = ds.length + m by simp; omega]
theorem VW_new1 {ds : List Pr} {m : Nat} (q : Pr) : ((ds.map tP ++ List.replicate m Z52).drop 0).take ds.length ++ [tP q] = (ds ++ [q]).map tP := by
  rw [List.drop_zero, List.take_left' (by simp)]
  simp

set_option maxRecDepth 100000 in
set_option maxHeartbeats 4000000 in
theorem prepare_some (o0 o1 o2 : AO) (su lg : T) (home : List (List Int)) (ds : List Pr) (m : Nat) (hm : ds.length < 100000) (hsu : np su = true) (hlg : np lg = true) (ap : Int) (r : Rc) (hw : r.ws.length ≤ 100000) (k : Nat) (p : Pr) (hk : ds[k]? = some p) (hp : p.n = r.n) (hlo : ∀ j, j < k → ∀ p, ds[j]? = some p → p.n ≠ r.n) :
    AnsM Try.prog 10 [(.ptr 5 [], 0), (tR r, 43)] [o0, o1, o2, ⟨.one 34, tS su lg home (VW 4 ds m) ap⟩, RW ds m, SO su lg home (VW 4 ds m) ap, KT 5] ⟨[], 0⟩ (.tup [], 0) ([o0, o1, o2, ⟨.one 34, tS su lg home (VW 4 ds m) ap⟩, RW (ds.set k (PR r)) m, SO su lg home (VW 4 ds m) ap, KT 5] ++ [RR r, ⟨.one 52, tP (PR r)⟩]) ⟨[], 0⟩ := by
  have hcl := clone15_c r.ws hw
  have hf : AnsM Try.prog 16 [(tS su lg home (VW 4 ds m) ap, 34), (tN r.n, 38)] [o0, o1, o2, ⟨.one 34, tS su lg home (VW 4 ds m) ap⟩, RW ds m, SO su lg home (VW 4 ds m) ap, KT 5, RR r, ⟨.one 52, tP (PR r)⟩] ⟨[], 0⟩ (.tup [I (k : Nat), B true], 62) [o0, o1, o2, ⟨.one 34, tS su lg home (VW 4 ds m) ap⟩, RW ds m, SO su lg home (VW 4 ds m) ap, KT 5, RR r, ⟨.one 52, tP (PR r)⟩] ⟨[], 0⟩ := find_at (b := 4) (find_some ds m su lg home ap r.n k p hk hp hlo (by omega)) hsu hlg rfl rfl
  have hkl := (List.getElem?_eq_some_iff.1 hk).1
  have hw0 := RW_walk (m := m) hkl
  refine AnsM.bodyN (rs := []) WFC.wf 0 Try.func10 rfl rfl (by decide) rfl rfl ?_
  refine walkD ?_
  refine AW.drawR (fun h => h[7]? = some (RR r) ∧ (h[7]?).map (·.ty) = some (.one 43)) [([], [3]), ([0], [7]), ([], [3]), ([2], [9]), ([3, 2], [10]), ([], [3]), ([5], [12]), ([], [3]), ([7], [14]), ([1, 0, 4, 3, 2, 6, 5, 8, 7], [8, 11, 13, 15]), ([], []), ([10, 9, 1, 0, 4, 3, 2, 6, 5, 8, 7], [4, 16])] [10, 11] [10, 11] rfl ⟨rfl, rfl⟩ (by kernel_rfl) ?_
  refine walkG ?_
  refine walkD ?_
  refine AW.drawP [([], [0]), ([0], [18]), ([1, 0], [19]), ([2, 1, 0], [20]), ([], [3]), ([4], [22]), ([3, 2, 1, 0, 5, 4], [21, 23]), ([6, 3, 2, 1, 0, 5, 4], [24]), ([7, 6, 3, 2, 1, 0, 5, 4], [17]), ([7, 6, 3, 2, 1, 0, 5, 4], [17]), ([8, 7, 6, 3, 2, 1, 0, 5, 4], [25]), ([9, 7, 6, 3, 2, 1, 0, 5, 4, 10, 8], [26])] [2, 3, 4, 5, 6] [6] rfl (by kernel_rfl) ?_
  refine walkG ?_
  refine walkD ?_
  refine AW.drawP [([], [0]), ([0], [28]), ([1, 0], [29]), ([2, 1, 0], [30]), ([3, 2, 1, 0], [31]), ([], [5]), ([], [4]), ([4, 3, 2, 1, 0, 5, 6], [32, 33]), ([7, 4, 3, 2, 1, 0, 5, 6], [35, 34])] [2, 3, 4, 6, 7, 8] [8] rfl (by kernel_rfl) ?_
  refine walkG ?_
  refine D.indexVw rfl rfl trivial WFC.wf rfl (fun _ _ => .tmp rfl) ⟨rfl, rfl⟩ (by decide) rfl (by omega) (by omega) ?_
  refine walkG ?_
  refine D.store rfl rfl rfl trivial WFC.wf rfl (ArgAt.tmp rfl ⟨rfl, rfl⟩) rfl hw0 (by decide) (RW_put hkl (PR r)) rfl (.inl rfl) rfl trivial ?_
  rw [RW_set]
  refine walkG ?_
  refine walkD ?_
  exact ⟨.inr rfl, .nil, trivial, rfl, rfl⟩

set_option maxRecDepth 100000 in
set_option maxHeartbeats 4000000 in
theorem prepare_in (o0 o1 o2 : AO) (su lg : T) (home : List (List Int)) (ds : List Pr) (m : Nat) (hm : ds.length < 100000) (hsu : np su = true) (hlg : np lg = true) (ap : Int) (r : Rc) (hw : r.ws.length ≤ 100000) (hlo : ∀ p ∈ ds, p.n ≠ r.n) (h0 : 0 < m) :
    AnsM Try.prog 10 [(.ptr 5 [], 0), (tR r, 43)] [o0, o1, o2, ⟨.one 34, tS su lg home (VW 4 ds m) ap⟩, RW ds m, SO su lg home (VW 4 ds m) ap, KT 5] ⟨[], 0⟩ (.tup [], 0) ([o0, o1, o2, ⟨.one 34, tS su lg home (VW 4 ds m) ap⟩, RW (ds ++ [PR r]) (m - 1), SO su lg home (VW 4 (ds ++ [PR r]) (m - 1)) ap, KT 5] ++ [RR r, ⟨.one 52, tP (PR r)⟩]) ⟨[], 0⟩ := by
  have hcl := clone15_c r.ws hw
  have hf : AnsM Try.prog 16 [(tS su lg home (VW 4 ds m) ap, 34), (tN r.n, 38)] [o0, o1, o2, ⟨.one 34, tS su lg home (VW 4 ds m) ap⟩, RW ds m, SO su lg home (VW 4 ds m) ap, KT 5, RR r, ⟨.one 52, tP (PR r)⟩] ⟨[], 0⟩ (.tup [I 0, B false], 62) [o0, o1, o2, ⟨.one 34, tS su lg home (VW 4 ds m) ap⟩, RW ds m, SO su lg home (VW 4 ds m) ap, KT 5, RR r, ⟨.one 52, tP (PR r)⟩] ⟨[], 0⟩ := find_at (b := 4) (find_none ds m su lg home ap r.n hlo (by omega)) hsu hlg rfl rfl
  refine AnsM.bodyN (rs := []) WFC.wf 0 Try.func10 rfl rfl (by decide) rfl rfl ?_
  refine walkD ?_
  refine AW.drawR (fun h => h[7]? = some (RR r) ∧ (h[7]?).map (·.ty) = some (.one 43)) [([], [3]), ([0], [7]), ([], [3]), ([2], [9]), ([3, 2], [10]), ([], [3]), ([5], [12]), ([], [3]), ([7], [14]), ([1, 0, 4, 3, 2, 6, 5, 8, 7], [8, 11, 13, 15]), ([], []), ([10, 9, 1, 0, 4, 3, 2, 6, 5, 8, 7], [4, 16])] [10, 11] [10, 11] rfl ⟨rfl, rfl⟩ (by kernel_rfl) ?_
  refine walkG ?_
  refine walkD ?_
  refine AW.drawP [([], [0]), ([0], [18]), ([1, 0], [19]), ([2, 1, 0], [20]), ([], [3]), ([4], [22]), ([3, 2, 1, 0, 5, 4], [21, 23]), ([6, 3, 2, 1, 0, 5, 4], [24]), ([7, 6, 3, 2, 1, 0, 5, 4], [17]), ([7, 6, 3, 2, 1, 0, 5, 4], [17]), ([8, 7, 6, 3, 2, 1, 0, 5, 4], [25]), ([9, 7, 6, 3, 2, 1, 0, 5, 4, 10, 8], [26])] [2, 3, 4, 5, 6] [6] rfl (by kernel_rfl) ?_
  refine walkG ?_
  refine walkD ?_
  refine AW.drawP [([], [0]), ([], [0]), ([1], [37]), ([2, 1], [38]), ([3, 2, 1], [39]), ([4, 3, 2, 1], [40]), ([], [4]), ([6], [42]), ([5, 4, 3, 2, 1, 7, 6], [41, 43]), ([0, 1, 2, 3, 4, 5, 6, 7, 8], [36]), ([9, 0, 1, 2, 3, 4, 5, 6, 7, 8], [45]), ([10, 9, 0, 1, 2, 3, 4, 5, 6, 7, 8], [46]), ([11, 10, 9, 0, 1, 2, 3, 4, 5, 6, 7, 8], [47, 44])] [3, 4, 5, 6, 8, 10, 11, 12] [8, 12] rfl (by kernel_rfl) ?_
  refine walkG ?_
  refine D.appendVI (ys := [tP (PR r)]) (tag2 := .full) rfl rfl rfl trivial WFC.wf rfl (ArgAt.tmp rfl ⟨rfl, rfl⟩) rfl rfl rfl (by decide) (by simp) (fun y hy => by simp at hy; subst hy; rfl) (by simp; omega) rfl trivial ?_
  rw [RW_in1 h0 (PR r), VW_in1 h0 (PR r)]
  refine walkG ?_
  refine walkD ?_
  exact ⟨.inl rfl, .nil, trivial, rfl, rfl⟩

set_option maxRecDepth 100000 in
set_option maxHeartbeats 4000000 in
theorem prepare_new (o0 o1 o2 : AO) (su lg : T) (home : List (List Int)) (ds : List Pr) (m : Nat) (hm : ds.length < 100000) (hsu : np su = true) (hlg : np lg = true) (ap : Int) (r : Rc) (hw : r.ws.length ≤ 100000) (hlo : ∀ p ∈ ds, p.n ≠ r.n) (h0 : m = 0) :
    AnsM Try.prog 10 [(.ptr 5 [], 0), (tR r, 43)] [o0, o1, o2, ⟨.one 34, tS su lg home (VW 4 ds m) ap⟩, RW ds m, SO su lg home (VW 4 ds m) ap, KT 5] ⟨[], 0⟩ (.tup [], 0) ([o0, o1, o2, ⟨.one 34, tS su lg home (VW 4 ds m) ap⟩, RW ds m, SO su lg home (.lst ((ds ++ [PR r]).map tP) (.tip 0)) ap, KT 5] ++ [RR r, ⟨.one 52, tP (PR r)⟩]) ⟨[0], 1⟩ := by
  have hcl := clone15_c r.ws hw
  have hf : AnsM Try.prog 16 [(tS su lg home (VW 4 ds m) ap, 34), (tN r.n, 38)] [o0, o1, o2, ⟨.one 34, tS su lg home (VW 4 ds m) ap⟩, RW ds m, SO su lg home (VW 4 ds m) ap, KT 5, RR r, ⟨.one 52, tP (PR r)⟩] ⟨[], 0⟩ (.tup [I 0, B false], 62) [o0, o1, o2, ⟨.one 34, tS su lg home (VW 4 ds m) ap⟩, RW ds m, SO su lg home (VW 4 ds m) ap, KT 5, RR r, ⟨.one 52, tP (PR r)⟩] ⟨[], 0⟩ := find_at (b := 4) (find_none ds m su lg home ap r.n hlo (by omega)) hsu hlg rfl rfl
  refine AnsM.bodyN (rs := []) WFC.wf 0 Try.func10 rfl rfl (by decide) rfl rfl ?_
  refine walkD ?_
  refine AW.drawR (fun h => h[7]? = some (RR r) ∧ (h[7]?).map (·.ty) = some (.one 43)) [([], [3]), ([0], [7]), ([], [3]), ([2], [9]), ([3, 2], [10]), ([], [3]), ([5], [12]), ([], [3]), ([7], [14]), ([1, 0, 4, 3, 2, 6, 5, 8, 7], [8, 11, 13, 15]), ([], []), ([10, 9, 1, 0, 4, 3, 2, 6, 5, 8, 7], [4, 16])] [10, 11] [10, 11] rfl ⟨rfl, rfl⟩ (by kernel_rfl) ?_
  refine walkG ?_
  refine walkD ?_
  refine AW.drawP [([], [0]), ([0], [18]), ([1, 0], [19]), ([2, 1, 0], [20]), ([], [3]), ([4], [22]), ([3, 2, 1, 0, 5, 4], [21, 23]), ([6, 3, 2, 1, 0, 5, 4], [24]), ([7, 6, 3, 2, 1, 0, 5, 4], [17]), ([7, 6, 3, 2, 1, 0, 5, 4], [17]), ([8, 7, 6, 3, 2, 1, 0, 5, 4], [25]), ([9, 7, 6, 3, 2, 1, 0, 5, 4, 10, 8], [26])] [2, 3, 4, 5, 6] [6] rfl (by kernel_rfl) ?_
  refine walkG ?_
  refine walkD ?_
  refine AW.drawP [([], [0]), ([], [0]), ([1], [37]), ([2, 1], [38]), ([3, 2, 1], [39]), ([4, 3, 2, 1], [40]), ([], [4]), ([6], [42]), ([5, 4, 3, 2, 1, 7, 6], [41, 43]), ([0, 1, 2, 3, 4, 5, 6, 7, 8], [36]), ([9, 0, 1, 2, 3, 4, 5, 6, 7, 8], [45]), ([10, 9, 0, 1, 2, 3, 4, 5, 6, 7, 8], [46]), ([11, 10, 9, 0, 1, 2, 3, 4, 5, 6, 7, 8], [47, 44])] [3, 4, 5, 6, 8, 10, 11, 12] [8, 12] rfl (by kernel_rfl) ?_
  refine walkG ?_
  refine D.appendVG (ys := [tP (PR r)]) (tag2 := .full) rfl rfl rfl trivial WFC.wf rfl (ArgAt.tmp rfl ⟨rfl, rfl⟩) rfl rfl rfl ZC.zero (by decide) (by simp) (by simp; omega) (by simp; omega) (by show (_ + _) * 64 ≤ _; simp; omega) rfl trivial ?_
  rw [VW_new1 (PR r)]
  refine walkG ?_
  refine walkD ?_
  exact ⟨.inl rfl, .nil, trivial, rfl, rfl⟩

end Go.Proofs.Ytecacooabofloaa

/- Package recover: outcome. -/
set_option linter.unusedVariables false
set_option linter.unusedSimpArgs false
set_option maxRecDepth 100000
namespace Go.Proofs.Ytecacooabofloaa
open Go.Am
/-- Of one object; what is handed back may point to it. -/
theorem AnsM.atY {P : Program} {f : FuncId} {args0 : List X} {o o' : AO} {r : X} (hc : AnsM P f args0 [o] ⟨[], 0⟩ r [o'] ⟨[], 0⟩) (ho : np o.t = true) (ho' : np o'.t = true) (hx : (args0.all fun x => inB 1 0 x.1) = true)
    {H : List AO} {U : Tips} {b : Nat} {args : List X} {r' : T} (hb : H[b]? = some o) (he : args0.map (fun x => (x.1.ren (mapTo [b] H.length) (mapTo [] U.m), x.2)) = args) (hr : r.1.ren (mapTo [b] H.length) (mapTo [] U.m) = r') : AnsM P f args H U (r', r.2) (H.set b o') U := by
  subst hr
  have := ACalls.sub (H := H) (U := U) (Kp := fun x h u => x = (r.1.ren (mapTo [b] H.length) (mapTo [] U.m), r.2) ∧ h = H.set b o' ∧ u = U) [b] [] hc rfl (by simp) (fun r hr => by simp at hr; subst hr; exact (List.getElem?_eq_some_iff.1 hb).1)
    (fun c q s hc hs => by
      cases c with
      | zero => simp at hc hs; subst hc; subst hs; rw [hb]; simp [AO.ren, ren_np _ ho]
      | succ c => simp at hs)
    (fun q hq => by simp at hq; subst hq; exact in_np _ ho) (fun x hx2 => List.all_eq_true.1 hx x hx2) (fun t ht => by simp at ht) rfl (fun τ hτ => by cases hτ) (fun τ σ hτ => by cases hτ)
    (fun x h u ⟨h1, h2, h3⟩ => by
      subst h1; subst h2; subst h3
      refine ⟨rfl, ?_, rfl⟩
      simp [upd, AO.ren, ren_np _ ho'])
  rw [he] at this
  exact this
theorem delete_at (ds : List Pr) (m k : Nat) (hk : k < ds.length) (hm : ds.length < 4611686018427387904) {H : List AO} {U : Tips} {b : Nat} (hb : H[b]? = some (RW ds m)) :
    AnsM Try.prog 17 [(VW b ds m, 32), (I (k : Nat), 3), (I ((k : Nat) + 1), 3)] H U (VW b (ds.eraseIdx k) (m + 1), 32) (H.set b (RW (ds.eraseIdx k) (m + 1))) U :=
  AnsM.atY (delete_c ds m k hk hm) (npRW _ _) (npRW _ _) rfl hb rfl rfl
abbrev tU (a1 a2 ow a4 a5 : Int) (mp : T) : T := .st [I a1, I a2, I ow, I a4, I a5, mp]
/-- What is owned behind an outcome. -/
def owF (o g t : Int) : Int :=
  let x := IntKind.i64.wrap (BitVec.toNat (BitVec.ofInt 64 o &&& ~~~ BitVec.ofInt 64 g))
  IntKind.i64.wrap (BitVec.toNat (BitVec.ofInt 64 x ||| BitVec.ofInt 64 t))
theorem owR (o g : Int) (x y : Operand) : ∀ w, (do eqGuard .andNot 3 x y (.int .i64 o) (.int .i64 g); binOp .andNot 3 (.int .i64 o) (.int .i64 g) : Sem Value).run Try.prog w = .ok (.int .i64 (IntKind.i64.wrap (BitVec.toNat (BitVec.ofInt 64 o &&& ~~~ BitVec.ofInt 64 g)))) w := fun w => rfl
theorem owR2 (o g t : Int) (x y : Operand) : ∀ w, (do eqGuard .or 3 x y (.int .i64 (IntKind.i64.wrap (BitVec.toNat (BitVec.ofInt 64 o &&& ~~~ BitVec.ofInt 64 g)))) (.int .i64 t); binOp .or 3 (.int .i64 (IntKind.i64.wrap (BitVec.toNat (BitVec.ofInt 64 o &&& ~~~ BitVec.ofInt 64 g)))) (.int .i64 t) : Sem Value).run Try.prog w = .ok (.int .i64 (owF o g t)) w := fun w => rfl

set_option maxRecDepth 100000 in
set_option maxHeartbeats 4000000 in
theorem outcome_n (o0 o1 o2 : AO) (su lg : T) (home : List (List Int)) (g : Tag) (hgn : g.nt = true) (hsu : np su = true) (hlg : np lg = true) (ap : Int) (r : Rc) :
    AnsM Try.prog 11 [(.ptr 4 [], 0), (tR r, 43)] [o0, o1, o2, ⟨.one 34, tS su lg home (.lst [] g) ap⟩, SO su lg home (.lst [] g) ap, KT 4] ⟨[], 0⟩ (.tup [], 0) ([o0, o1, o2, ⟨.one 34, tS su lg home (.lst [] g) ap⟩, SO su lg home (.lst [] g) ap, KT 4] ++ [RR r]) ⟨[], 0⟩ := by
  have hf := find_0 g hgn su lg home ap r.n
  refine AnsM.bodyN (rs := []) WFC.wf 0 Try.func11 rfl rfl (by decide) rfl rfl ?_
  refine walkD ?_
  refine AW.drawP [([], [0]), ([0], [8]), ([1, 0], [9]), ([2, 1, 0], [10]), ([], [3]), ([4], [12]), ([3, 2, 1, 0, 5, 4], [11, 13]), ([6, 3, 2, 1, 0, 5, 4], [14]), ([7, 6, 3, 2, 1, 0, 5, 4], [7]), ([7, 6, 3, 2, 1, 0, 5, 4], [7]), ([8, 7, 6, 3, 2, 1, 0, 5, 4], [15]), ([9, 7, 6, 3, 2, 1, 0, 5, 4, 10, 8], [16])] [2, 3, 4, 5, 6] [6] rfl (by kernel_rfl) ?_
  refine walkG ?_
  refine D.fnM (H' := [o0, o1, o2, ⟨.one 34, tS su lg home (.lst [] g) ap⟩, SO su lg home (.lst [] g) ap, KT 4, RR r]) rfl rfl rfl trivial (.cons (.tmp rfl ⟨rfl, rfl⟩) (.cons (.tmp rfl ⟨rfl, rfl⟩) .nil)) (AnsM.app hf (by simp [npL, np, hsu, hlg, npH, hgn]) rfl rfl rfl) rfl rfl trivial ?_
  refine walkG ?_
  refine walkD ?_
  exact ⟨.inr rfl, .nil, trivial, rfl, rfl⟩

set_option maxRecDepth 100000 in
set_option maxHeartbeats 4000000 in
theorem outcome_none (o0 o1 o2 : AO) (su : T) (hsu : np su = true) (lg : T) (home : List (List Int)) (ds : List Pr) (m : Nat) (hm : ds.length < 100000) (hlg : np lg = true) (ap : Int) (r : Rc) (hlo : ∀ p ∈ ds, p.n ≠ r.n) :
    AnsM Try.prog 11 [(.ptr 5 [], 0), (tR r, 43)] [o0, o1, o2, ⟨.one 34, tS su lg home (VW 4 ds m) ap⟩, RW ds m, SO su lg home (VW 4 ds m) ap, KT 5] ⟨[], 0⟩ (.tup [], 0) [o0, o1, o2, ⟨.one 34, tS su lg home (VW 4 ds m) ap⟩, RW ds m, SO su lg home (VW 4 ds m) ap, KT 5, RR r] ⟨[], 0⟩ := by
  have hf : AnsM Try.prog 16 [(tS su lg home (VW 4 ds m) ap, 34), (tN r.n, 38)] [o0, o1, o2, ⟨.one 34, tS su lg home (VW 4 ds m) ap⟩, RW ds m, SO su lg home (VW 4 ds m) ap, KT 5, RR r] ⟨[], 0⟩ (.tup [I 0, B false], 62) [o0, o1, o2, ⟨.one 34, tS su lg home (VW 4 ds m) ap⟩, RW ds m, SO su lg home (VW 4 ds m) ap, KT 5, RR r] ⟨[], 0⟩ := find_at (b := 4) (find_none ds m su lg home ap r.n hlo (by omega)) hsu hlg rfl rfl
  refine AnsM.bodyN (rs := []) WFC.wf 0 Try.func11 rfl rfl (by decide) rfl rfl ?_
  refine walkD ?_
  refine AW.drawP [([], [0]), ([0], [8]), ([1, 0], [9]), ([2, 1, 0], [10]), ([], [3]), ([4], [12]), ([3, 2, 1, 0, 5, 4], [11, 13]), ([6, 3, 2, 1, 0, 5, 4], [14]), ([7, 6, 3, 2, 1, 0, 5, 4], [7]), ([7, 6, 3, 2, 1, 0, 5, 4], [7]), ([8, 7, 6, 3, 2, 1, 0, 5, 4], [15]), ([9, 7, 6, 3, 2, 1, 0, 5, 4, 10, 8], [16])] [2, 3, 4, 5, 6] [6] rfl (by kernel_rfl) ?_
  refine walkG ?_
  refine walkD ?_
  exact ⟨.inr rfl, .nil, trivial, rfl, rfl⟩

set_option maxRecDepth 100000 in
set_option maxHeartbeats 4000000 in
theorem outcome_no (o0 o1 o2 : AO) (a1 a2 ow a4 a5 : Int) (mp : T) (hmp : np mp = true) (lg : T) (home : List (List Int)) (ds : List Pr) (m : Nat) (hm : ds.length < 100000) (hlg : np lg = true) (ap : Int) (r : Rc) (k : Nat) (p : Pr) (hk : ds[k]? = some p) (hp : p.n = r.n) (hlo : ∀ j, j < k → ∀ p, ds[j]? = some p → p.n ≠ r.n) (hy : r.y = false) :
    AnsM Try.prog 11 [(.ptr 5 [], 0), (tR r, 43)] [o0, o1, o2, ⟨.one 34, tS (tU a1 a2 ow a4 a5 mp) lg home (VW 4 ds m) ap⟩, RW ds m, SO (tU a1 a2 ow a4 a5 mp) lg home (VW 4 ds m) ap, KT 5] ⟨[], 0⟩ (.tup [], 0) [o0, o1, o2, ⟨.one 34, tS (tU a1 a2 ow a4 a5 mp) lg home (VW 4 ds m) ap⟩, RW (ds.eraseIdx k) (m + 1), SO (tU a1 a2 ow a4 a5 mp) lg home (VW 4 (ds.eraseIdx k) (m + 1)) ap, KT 5, RR r, ⟨.one 52, tP p⟩] ⟨[], 0⟩ := by
  have hf : AnsM Try.prog 16 [(tS (tU a1 a2 ow a4 a5 mp) lg home (VW 4 ds m) ap, 34), (tN r.n, 38)] [o0, o1, o2, ⟨.one 34, tS (tU a1 a2 ow a4 a5 mp) lg home (VW 4 ds m) ap⟩, RW ds m, SO (tU a1 a2 ow a4 a5 mp) lg home (VW 4 ds m) ap, KT 5, RR r] ⟨[], 0⟩ (.tup [I (k : Nat), B true], 62) [o0, o1, o2, ⟨.one 34, tS (tU a1 a2 ow a4 a5 mp) lg home (VW 4 ds m) ap⟩, RW ds m, SO (tU a1 a2 ow a4 a5 mp) lg home (VW 4 ds m) ap, KT 5, RR r] ⟨[], 0⟩ := find_at (b := 4) (find_some ds m (tU a1 a2 ow a4 a5 mp) lg home ap r.n k p hk hp hlo (by omega)) (by simp [np, npL, hmp]) hlg rfl rfl
  have hkl := (List.getElem?_eq_some_iff.1 hk).1
  have hx0 := RW_get (m := m) hk
  have hw0 := RW_walk (m := m) hkl
  refine AnsM.bodyN (rs := []) WFC.wf 0 Try.func11 rfl rfl (by decide) rfl rfl ?_
  refine walkD ?_
  refine AW.drawP [([], [0]), ([0], [8]), ([1, 0], [9]), ([2, 1, 0], [10]), ([], [3]), ([4], [12]), ([3, 2, 1, 0, 5, 4], [11, 13]), ([6, 3, 2, 1, 0, 5, 4], [14]), ([7, 6, 3, 2, 1, 0, 5, 4], [7]), ([7, 6, 3, 2, 1, 0, 5, 4], [7]), ([8, 7, 6, 3, 2, 1, 0, 5, 4], [15]), ([9, 7, 6, 3, 2, 1, 0, 5, 4, 10, 8], [16])] [2, 3, 4, 5, 6] [6] rfl (by kernel_rfl) ?_
  refine walkG ?_
  refine walkD ?_
  refine O.fnM rfl (.cons (.tmp rfl ⟨rfl, rfl⟩) (.cons (.tmp rfl ⟨rfl, rfl⟩) (.cons (.tmp rfl ⟨rfl, rfl⟩) .nil))) (delete_at ds m k hkl (by omega) rfl) rfl ?_
  refine walkD ?_
  refine AW.cond rfl (fun h => absurd (hy.symm.trans h) (by decide)) (fun h => ?_)
  refine walkD ?_
  exact ⟨.inl rfl, .nil, trivial, rfl, rfl⟩

set_option maxRecDepth 100000 in
set_option maxHeartbeats 4000000 in
theorem outcome_yes (o0 o1 o2 : AO) (a1 a2 ow a4 a5 : Int) (mp : T) (hmp : np mp = true) (lg : T) (home : List (List Int)) (ds : List Pr) (m : Nat) (hm : ds.length < 100000) (hlg : np lg = true) (ap : Int) (r : Rc) (k : Nat) (p : Pr) (hk : ds[k]? = some p) (hp : p.n = r.n) (hlo : ∀ j, j < k → ∀ p, ds[j]? = some p → p.n ≠ r.n) (hy : r.y = true) (hh : home.length = 32) (hw : p.ws.length < 4611686018427387904) :
    AnsM Try.prog 11 [(.ptr 5 [], 0), (tR r, 43)] [o0, o1, o2, ⟨.one 34, tS (tU a1 a2 ow a4 a5 mp) lg home (VW 4 ds m) ap⟩, RW ds m, SO (tU a1 a2 ow a4 a5 mp) lg home (VW 4 ds m) ap, KT 5] ⟨[], 0⟩ (.tup [], 0) [o0, o1, o2, ⟨.one 34, tS (tU a1 a2 ow a4 a5 mp) lg home (VW 4 ds m) ap⟩, RW (ds.eraseIdx k) (m + 1), SO (tU a1 a2 (owF ow p.g p.t) a4 a5 mp) lg (onF home p.ws) (VW 4 (ds.eraseIdx k) (m + 1)) ap, KT 5, RR r, ⟨.one 52, tP p⟩] ⟨[], 0⟩ := by
  have hf : AnsM Try.prog 16 [(tS (tU a1 a2 ow a4 a5 mp) lg home (VW 4 ds m) ap, 34), (tN r.n, 38)] [o0, o1, o2, ⟨.one 34, tS (tU a1 a2 ow a4 a5 mp) lg home (VW 4 ds m) ap⟩, RW ds m, SO (tU a1 a2 ow a4 a5 mp) lg home (VW 4 ds m) ap, KT 5, RR r] ⟨[], 0⟩ (.tup [I (k : Nat), B true], 62) [o0, o1, o2, ⟨.one 34, tS (tU a1 a2 ow a4 a5 mp) lg home (VW 4 ds m) ap⟩, RW ds m, SO (tU a1 a2 ow a4 a5 mp) lg home (VW 4 ds m) ap, KT 5, RR r] ⟨[], 0⟩ := find_at (b := 4) (find_some ds m (tU a1 a2 ow a4 a5 mp) lg home ap r.n k p hk hp hlo (by omega)) (by simp [np, npL, hmp]) hlg rfl rfl
  have hkl := (List.getElem?_eq_some_iff.1 hk).1
  have hx0 := RW_get (m := m) hk
  have hw0 := RW_walk (m := m) hkl
  have hon := on_c home p.ws hh hw
  refine AnsM.bodyN (rs := []) WFC.wf 0 Try.func11 rfl rfl (by decide) rfl rfl ?_
  refine walkD ?_
  refine AW.drawP [([], [0]), ([0], [8]), ([1, 0], [9]), ([2, 1, 0], [10]), ([], [3]), ([4], [12]), ([3, 2, 1, 0, 5, 4], [11, 13]), ([6, 3, 2, 1, 0, 5, 4], [14]), ([7, 6, 3, 2, 1, 0, 5, 4], [7]), ([7, 6, 3, 2, 1, 0, 5, 4], [7]), ([8, 7, 6, 3, 2, 1, 0, 5, 4], [15]), ([9, 7, 6, 3, 2, 1, 0, 5, 4, 10, 8], [16])] [2, 3, 4, 5, 6] [6] rfl (by kernel_rfl) ?_
  refine walkG ?_
  refine walkD ?_
  refine O.fnM rfl (.cons (.tmp rfl ⟨rfl, rfl⟩) (.cons (.tmp rfl ⟨rfl, rfl⟩) (.cons (.tmp rfl ⟨rfl, rfl⟩) .nil))) (delete_at ds m k hkl (by omega) rfl) rfl ?_
  refine walkD ?_
  refine AW.cond rfl (fun h => ?_) (fun h => absurd (hy.symm.trans h) (by decide))
  refine walkD ?_
  refine AW.drawP [([], [0]), ([], [0]), ([1], [43]), ([2, 1], [44]), ([3, 2, 1], [45]), ([4, 3, 2, 1], [46]), ([], [6]), ([6], [48]), ([5, 4, 3, 2, 1, 7, 6], [47, 49]), ([0, 1, 2, 3, 4, 5, 6, 7, 8], [42]), ([9, 0, 1, 2, 3, 4, 5, 6, 7, 8], [51]), ([10, 9, 0, 1, 2, 3, 4, 5, 6, 7, 8], [52]), ([11, 10, 9, 0, 1, 2, 3, 4, 5, 6, 7, 8], [53, 50])] [3, 4, 5, 6, 7, 10, 11, 12] [12] rfl (by kernel_rfl) ?_
  refine walkG ?_
  refine walkD ?_
  refine AW.drawP [([], [0]), ([], [0]), ([1], [55]), ([2, 1], [56]), ([3, 2, 1], [57]), ([4, 3, 2, 1], [58]), ([5, 4, 3, 2, 1], [59]), ([], [6]), ([7], [61]), ([6, 5, 4, 3, 2, 1, 8, 7], [60, 62]), ([], [6]), ([10], [64]), ([9, 6, 5, 4, 3, 2, 1, 8, 7, 11, 10], [63, 65]), ([0, 1, 2, 3, 4, 5, 6, 7, 8, 9, 10, 11, 12], [54]), ([13, 0, 1, 2, 3, 4, 5, 6, 7, 8, 9, 10, 11, 12], [67]), ([14, 13, 0, 1, 2, 3, 4, 5, 6, 7, 8, 9, 10, 11, 12], [68]), ([15, 14, 13, 0, 1, 2, 3, 4, 5, 6, 7, 8, 9, 10, 11, 12], [69]), ([16, 15, 14, 13, 0, 1, 2, 3, 4, 5, 6, 7, 8, 9, 10, 11, 12], [70, 66])] [3, 4, 5, 6, 7, 8, 10, 11, 14, 15, 16, 17] [17] rfl (by kernel_rfl) ?_
  refine walkG ?_
  exact ⟨.inl rfl, .nil, trivial, rfl, rfl⟩

end Go.Proofs.Ytecacooabofloaa

/- Package recover: Apply. -/
set_option linter.unusedVariables false
set_option linter.unusedSimpArgs false
set_option maxRecDepth 100000
namespace Go.Proofs.Ytecacooabofloaa
open Go.Am
theorem _root_.Go.Am.WR.weakO {P : Program} {κ : K} {w : World} {h : List AO} {u : Tips} (H : WR P κ w h u) {b : Nat} {ty : TypeId} {x y : T} (hb : h[b]? = some ⟨.one ty, x⟩) (hw : Wk P ty x y) : WR P κ w (h.set b ⟨.one ty, y⟩) u := by
  refine ⟨by rw [List.length_set]; exact H.n, fun c q hc => ?_, H.inj, H.imm, fun g o v c q hv hc hq => ?_, H.tip, H.fresh⟩
  · by_cases hcb : c = b
    · subst hcb
      rw [List.getElem?_set_self (List.getElem?_eq_some_iff.1 hb).1] at hc
      cases hc
      obtain ⟨h1, h2, vs, e, h3, h4⟩ := H.obj c _ hb
      exact ⟨h1, h2, vs, e, h3, hw.vt κ _ h4.1, h4.2⟩
    · rw [List.getElem?_set_ne (fun e => hcb e.symm)] at hc
      exact H.obj c q hc
  · by_cases hcb : c = b
    · subst hcb
      exact H.immo g o v c _ hv hb (by simp)
    · rw [List.getElem?_set_ne (fun e => hcb e.symm)] at hc
      exact H.immo g o v c q hv hc hq
theorem _root_.Go.Am.AW.weakO {P : Program} {c : Code} {N b : Nat} {t : List (Nat × T × TypeId)} {h h' : List AO} {u : Tips} {ty : TypeId} {x y : T} {Q : Exit → St → Prop} (hb : h[b]? = some ⟨.one ty, x⟩) (hw : Wk P ty x y) (hh : h.set b ⟨.one ty, y⟩ = h') (hk : AW P c ⟨N, t, h', u⟩ Q) : AW P c ⟨N, t, h, u⟩ Q := fun κ a w hs => by
  subst hh
  exact hk κ a w ⟨hs.defers, hs.size, hs.tmp, hs.wr.weakO hb hw⟩
theorem wkS (su lg : T) (home : List (List Int)) (xs : List T) (tag : Tag) (ap : Int) : Wk Try.prog 34 (tS su lg home (.lst xs tag) ap) (tS su lg home (.lst xs .no) ap) := Wk.st Try.underlying34 (.cons .refl (.cons .refl (.cons .refl (.cons (Wk.noS rfl) (.cons .refl .nil)))))
theorem SO_fz {su lg d : T} {home : List (List Int)} {ap : Int} {zs xs : List T} {tag : Tag} {o : AO} (hsu : np su = true) (hlg : np lg = true) (hd : d.fz 4 zs = .lst xs tag) (extra : List AO) (b0 b1 b3 b6 : AO) :
    (([b0, b1, ⟨.one 34, ZS⟩, b3, o, SO su lg home d ap, b6] ++ extra).set 4 ⟨.dead, .any⟩).map (AO.fz 4 zs) = [b0.fz 4 zs, b1.fz 4 zs, ⟨.one 34, ZS⟩, b3.fz 4 zs, ⟨.dead, .any⟩, SO su lg home (.lst xs tag) ap, b6.fz 4 zs] ++ extra.map (AO.fz 4 zs) := by
  have h3 : (HT home).fz 4 zs = HT home := fz_np _ (by simp [np, npH])
  have h5 : AO.fz 4 zs (SO su lg home d ap) = SO su lg home (.lst xs tag) ap := by
    simp only [AO.fz, T.fz, fzL, fz_np _ hsu, fz_np _ hlg, hd]
    rw [show T.arr (fzL 4 zs (home.map V)) = HT home from h3]
  rw [← h5]
  rfl

set_option maxRecDepth 100000 in
set_option maxHeartbeats 4000000 in
theorem apply_n1 (su lg su2 : T) (home home2 : List (List Int)) (ap : Int)  (ds2 : List Pr) (n : Nm) (y : Bool) (ws : List Wr) (gg t sh c1 c2 num : Int) (hsu : np su = true) (hlg : np lg = true) (hsu2 : np su2 = true) (asu : su.aggB = true) (alg : lg.aggB = true) (asu2 : su2.aggB = true) (hmay : Ans Try.prog 12 [(tR (⟨1, n, y, ws, gg, t, sh, c1, c2, num⟩ : Rc), 43)] (B true, 4))
    (hc : ∀ g : Tag, (g = .full ∨ g = .nil) → ∃ tag extra u, AnsM Try.prog 9 [(.ptr 4 [], 0), (tR (⟨1, n, y, ws, gg, t, sh, c1, c2, num⟩ : Rc), 43)] ([⟨.one 34, tS su lg home (Lp []) ap⟩, RR (⟨1, n, y, ws, gg, t, sh, c1, c2, num⟩ : Rc), ⟨.one 34, ZS⟩, ⟨.one 34, tS su lg home (.lst [] g) ap⟩, SO su lg home (.lst [] g) ap, KT 4]) ⟨[], 0⟩ (.tup [], 0) ([⟨.one 34, tS su lg home (Lp []) ap⟩, RR (⟨1, n, y, ws, gg, t, sh, c1, c2, num⟩ : Rc), ⟨.one 34, ZS⟩, ⟨.one 34, tS su lg home (.lst [] g) ap⟩, SO su2 lg home2 (.lst (ds2.map tP) tag) ap, KT 4] ++ extra) u) :
    Ans Try.prog 6 [(tS su lg home (Lp []) ap, 34), (tR ((⟨1, n, y, ws, gg, t, sh, c1, c2, num⟩ : Rc)), 43)] (.tup [tS su2 lg home2 (Lp ds2) (w64 (ap + 1)), I 0], 45) := by
  refine Ans.bodyN (rs := [(tS su2 lg home2 (Lp ds2) (w64 (ap + 1)), 34), (I 0, 44)]) WFC.wf 45 Try.func6 rfl rfl (by decide) rfl rfl (by simp [npL, np, npH, npP, npW, Tag.nt, hsu, hlg]) (by simp [npL, np, npH, npP, Tag.nt, hsu2, hlg]) ?_
  refine walkD ?_
  refine O.call rfl rfl (.cons (.tmp rfl ⟨rfl, rfl⟩) .nil) ((own_nil su lg home ap (⟨1, n, y, ws, gg, t, sh, c1, c2, num⟩ : Rc) asu alg).mono ?_)
  rintro x h u ⟨gt, hgt, rfl, rfl, rfl⟩
  obtain ⟨tag, extra, u, hcc⟩ := hc gt hgt
  refine walkD ?_
  refine AW.drawP [([], [3]), ([0], [32]), ([1, 0], [7, 33]), ([2, 1, 0], [34]), ([], [3]), ([3, 2, 1, 0, 4], [35, 36])] [0, 1, 2, 3, 4, 5] [5] rfl (by kernel_rfl) ?_
  refine walkG ?_
  refine D.indexA (ii := 1) rfl rfl rfl trivial WFC.wf rfl (.tmp rfl) rfl rfl (by decide) rfl (by decide) (by decide) ?_
  refine walkG ?_
  refine D.fnVM (xs := [(tR (⟨1, n, y, ws, gg, t, sh, c1, c2, num⟩ : Rc), 43)]) rfl rfl rfl rfl trivial (.cons (.tmp rfl ⟨rfl, rfl⟩) .nil) hcc rfl rfl trivial ?_
  refine walkG ?_
  refine Then.n ?_
  refine AW.weakO (b := 4) rfl (Wk.st Try.underlying58 (.cons (wkS _ _ _ _ _ _) .nil)) rfl ?_
  refine walkD ?_
  exact ⟨.inr rfl, .cons (Res1.cell rfl rfl) (.cons (.tmp rfl) .nil), ⟨fun _ _ _ => ⟨rfl, rfl⟩, fun _ _ e => (by cases e), trivial⟩⟩

set_option maxRecDepth 100000 in
set_option maxHeartbeats 4000000 in
theorem apply_c1 (su lg su2 : T) (home home2 : List (List Int)) (ap : Int) (ds : List Pr) (h0 : ds ≠ []) (hm : ds.length ≤ 100000) (ds2 : List Pr) (n : Nm) (y : Bool) (ws : List Wr) (gg t sh c1 c2 num : Int) (hsu : np su = true) (hlg : np lg = true) (hsu2 : np su2 = true) (asu : su.aggB = true) (alg : lg.aggB = true) (asu2 : su2.aggB = true) (hmay : Ans Try.prog 12 [(tR (⟨1, n, y, ws, gg, t, sh, c1, c2, num⟩ : Rc), 43)] (B true, 4))
    (hc : ∀ m, ∃ d ds1 m1 tag extra u, AnsM Try.prog 9 [(.ptr 5 [], 0), (tR (⟨1, n, y, ws, gg, t, sh, c1, c2, num⟩ : Rc), 43)] ([⟨.one 34, tS su lg home (Lp ds) ap⟩, RR (⟨1, n, y, ws, gg, t, sh, c1, c2, num⟩ : Rc), ⟨.one 34, ZS⟩, ⟨.one 34, tS su lg home (VW 4 ds m) ap⟩, RW ds m, SO su lg home (VW 4 ds m) ap, KT 5]) ⟨[], 0⟩ (.tup [], 0) ([⟨.one 34, tS su lg home (Lp ds) ap⟩, RR (⟨1, n, y, ws, gg, t, sh, c1, c2, num⟩ : Rc), ⟨.one 34, ZS⟩, ⟨.one 34, tS su lg home (VW 4 ds m) ap⟩, RW ds1 m1, SO su2 lg home2 d ap, KT 5] ++ extra) u ∧ d.aggB = false ∧ d.fz 4 (ds1.map tP ++ List.replicate m1 Z52) = .lst (ds2.map tP) tag) :
    Ans Try.prog 6 [(tS su lg home (Lp ds) ap, 34), (tR ((⟨1, n, y, ws, gg, t, sh, c1, c2, num⟩ : Rc)), 43)] (.tup [tS su2 lg home2 (Lp ds2) (w64 (ap + 1)), I 0], 45) := by
  refine Ans.bodyN (rs := [(tS su2 lg home2 (Lp ds2) (w64 (ap + 1)), 34), (I 0, 44)]) WFC.wf 45 Try.func6 rfl rfl (by decide) rfl rfl (by simp [npL, np, npH, npP, npW, Tag.nt, hsu, hlg]) (by simp [npL, np, npH, npP, Tag.nt, hsu2, hlg]) ?_
  refine walkD ?_
  refine O.call rfl rfl (.cons (.tmp rfl ⟨rfl, rfl⟩) .nil) ((own_cons su lg home ds ap (⟨1, n, y, ws, gg, t, sh, c1, c2, num⟩ : Rc) asu alg h0 hm).mono ?_)
  rintro x h u ⟨m, rfl, rfl, rfl⟩
  obtain ⟨d, ds1, m1, tag, extra, u, hcc, hda, hd⟩ := hc m
  refine walkD ?_
  refine AW.drawP [([], [3]), ([0], [32]), ([1, 0], [7, 33]), ([2, 1, 0], [34]), ([], [3]), ([3, 2, 1, 0, 4], [35, 36])] [0, 1, 2, 3, 4, 5] [5] rfl (by kernel_rfl) ?_
  refine walkG ?_
  refine D.indexA (ii := 1) rfl rfl rfl trivial WFC.wf rfl (.tmp rfl) rfl rfl (by decide) rfl (by decide) (by decide) ?_
  refine walkG ?_
  refine D.fnVM (xs := [(tR (⟨1, n, y, ws, gg, t, sh, c1, c2, num⟩ : Rc), 43)]) rfl rfl rfl rfl trivial (.cons (.tmp rfl ⟨rfl, rfl⟩) .nil) hcc rfl rfl trivial ?_
  refine walkG ?_
  refine Then.n ?_
  refine AW.freezeD (k := 4) (t' := [(6, (.ptr 5 [], 0)), (4, (.ptr 2 [], 0))]) rfl (.cons rfl rfl (.cons rfl rfl .nil)) (SO_fz hsu2 hlg hd extra _ _ _ _) ?_
  refine AW.weakO (b := 5) rfl (Wk.st Try.underlying58 (.cons (wkS _ _ _ _ _ _) .nil)) rfl ?_
  refine walkD ?_
  exact ⟨.inr rfl, .cons (Res1.cell rfl rfl) (.cons (.tmp rfl) .nil), ⟨fun _ _ _ => ⟨rfl, rfl⟩, fun _ _ e => (by cases e), trivial⟩⟩

set_option maxRecDepth 100000 in
set_option maxHeartbeats 4000000 in
theorem apply_n2 (su lg su2 : T) (home home2 : List (List Int)) (ap : Int)  (ds2 : List Pr) (n : Nm) (y : Bool) (ws : List Wr) (gg t sh c1 c2 num : Int) (hsu : np su = true) (hlg : np lg = true) (hsu2 : np su2 = true) (asu : su.aggB = true) (alg : lg.aggB = true) (asu2 : su2.aggB = true) (hmay : Ans Try.prog 12 [(tR (⟨2, n, y, ws, gg, t, sh, c1, c2, num⟩ : Rc), 43)] (B true, 4))
    (hc : ∀ g : Tag, (g = .full ∨ g = .nil) → ∃ tag extra u, AnsM Try.prog 10 [(.ptr 4 [], 0), (tR (⟨2, n, y, ws, gg, t, sh, c1, c2, num⟩ : Rc), 43)] ([⟨.one 34, tS su lg home (Lp []) ap⟩, RR (⟨2, n, y, ws, gg, t, sh, c1, c2, num⟩ : Rc), ⟨.one 34, ZS⟩, ⟨.one 34, tS su lg home (.lst [] g) ap⟩, SO su lg home (.lst [] g) ap, KT 4]) ⟨[], 0⟩ (.tup [], 0) ([⟨.one 34, tS su lg home (Lp []) ap⟩, RR (⟨2, n, y, ws, gg, t, sh, c1, c2, num⟩ : Rc), ⟨.one 34, ZS⟩, ⟨.one 34, tS su lg home (.lst [] g) ap⟩, SO su2 lg home2 (.lst (ds2.map tP) tag) ap, KT 4] ++ extra) u) :
    Ans Try.prog 6 [(tS su lg home (Lp []) ap, 34), (tR ((⟨2, n, y, ws, gg, t, sh, c1, c2, num⟩ : Rc)), 43)] (.tup [tS su2 lg home2 (Lp ds2) (w64 (ap + 1)), I 0], 45) := by
  refine Ans.bodyN (rs := [(tS su2 lg home2 (Lp ds2) (w64 (ap + 1)), 34), (I 0, 44)]) WFC.wf 45 Try.func6 rfl rfl (by decide) rfl rfl (by simp [npL, np, npH, npP, npW, Tag.nt, hsu, hlg]) (by simp [npL, np, npH, npP, Tag.nt, hsu2, hlg]) ?_
  refine walkD ?_
  refine O.call rfl rfl (.cons (.tmp rfl ⟨rfl, rfl⟩) .nil) ((own_nil su lg home ap (⟨2, n, y, ws, gg, t, sh, c1, c2, num⟩ : Rc) asu alg).mono ?_)
  rintro x h u ⟨gt, hgt, rfl, rfl, rfl⟩
  obtain ⟨tag, extra, u, hcc⟩ := hc gt hgt
  refine walkD ?_
  refine AW.drawP [([], [3]), ([0], [32]), ([1, 0], [7, 33]), ([2, 1, 0], [34]), ([], [3]), ([3, 2, 1, 0, 4], [35, 36])] [0, 1, 2, 3, 4, 5] [5] rfl (by kernel_rfl) ?_
  refine walkG ?_
  refine D.indexA (ii := 2) rfl rfl rfl trivial WFC.wf rfl (.tmp rfl) rfl rfl (by decide) rfl (by decide) (by decide) ?_
  refine walkG ?_
  refine D.fnVM (xs := [(tR (⟨2, n, y, ws, gg, t, sh, c1, c2, num⟩ : Rc), 43)]) rfl rfl rfl rfl trivial (.cons (.tmp rfl ⟨rfl, rfl⟩) .nil) hcc rfl rfl trivial ?_
  refine walkG ?_
  refine Then.n ?_
  refine AW.weakO (b := 4) rfl (Wk.st Try.underlying58 (.cons (wkS _ _ _ _ _ _) .nil)) rfl ?_
  refine walkD ?_
  exact ⟨.inr rfl, .cons (Res1.cell rfl rfl) (.cons (.tmp rfl) .nil), ⟨fun _ _ _ => ⟨rfl, rfl⟩, fun _ _ e => (by cases e), trivial⟩⟩

set_option maxRecDepth 100000 in
set_option maxHeartbeats 4000000 in
theorem apply_c2 (su lg su2 : T) (home home2 : List (List Int)) (ap : Int) (ds : List Pr) (h0 : ds ≠ []) (hm : ds.length ≤ 100000) (ds2 : List Pr) (n : Nm) (y : Bool) (ws : List Wr) (gg t sh c1 c2 num : Int) (hsu : np su = true) (hlg : np lg = true) (hsu2 : np su2 = true) (asu : su.aggB = true) (alg : lg.aggB = true) (asu2 : su2.aggB = true) (hmay : Ans Try.prog 12 [(tR (⟨2, n, y, ws, gg, t, sh, c1, c2, num⟩ : Rc), 43)] (B true, 4))
    (hc : ∀ m, ∃ d ds1 m1 tag extra u, AnsM Try.prog 10 [(.ptr 5 [], 0), (tR (⟨2, n, y, ws, gg, t, sh, c1, c2, num⟩ : Rc), 43)] ([⟨.one 34, tS su lg home (Lp ds) ap⟩, RR (⟨2, n, y, ws, gg, t, sh, c1, c2, num⟩ : Rc), ⟨.one 34, ZS⟩, ⟨.one 34, tS su lg home (VW 4 ds m) ap⟩, RW ds m, SO su lg home (VW 4 ds m) ap, KT 5]) ⟨[], 0⟩ (.tup [], 0) ([⟨.one 34, tS su lg home (Lp ds) ap⟩, RR (⟨2, n, y, ws, gg, t, sh, c1, c2, num⟩ : Rc), ⟨.one 34, ZS⟩, ⟨.one 34, tS su lg home (VW 4 ds m) ap⟩, RW ds1 m1, SO su2 lg home2 d ap, KT 5] ++ extra) u ∧ d.aggB = false ∧ d.fz 4 (ds1.map tP ++ List.replicate m1 Z52) = .lst (ds2.map tP) tag) :
    Ans Try.prog 6 [(tS su lg home (Lp ds) ap, 34), (tR ((⟨2, n, y, ws, gg, t, sh, c1, c2, num⟩ : Rc)), 43)] (.tup [tS su2 lg home2 (Lp ds2) (w64 (ap + 1)), I 0], 45) := by
  refine Ans.bodyN (rs := [(tS su2 lg home2 (Lp ds2) (w64 (ap + 1)), 34), (I 0, 44)]) WFC.wf 45 Try.func6 rfl rfl (by decide) rfl rfl (by simp [npL, np, npH, npP, npW, Tag.nt, hsu, hlg]) (by simp [npL, np, npH, npP, Tag.nt, hsu2, hlg]) ?_
  refine walkD ?_
  refine O.call rfl rfl (.cons (.tmp rfl ⟨rfl, rfl⟩) .nil) ((own_cons su lg home ds ap (⟨2, n, y, ws, gg, t, sh, c1, c2, num⟩ : Rc) asu alg h0 hm).mono ?_)
  rintro x h u ⟨m, rfl, rfl, rfl⟩
  obtain ⟨d, ds1, m1, tag, extra, u, hcc, hda, hd⟩ := hc m
  refine walkD ?_
  refine AW.drawP [([], [3]), ([0], [32]), ([1, 0], [7, 33]), ([2, 1, 0], [34]), ([], [3]), ([3, 2, 1, 0, 4], [35, 36])] [0, 1, 2, 3, 4, 5] [5] rfl (by kernel_rfl) ?_
  refine walkG ?_
  refine D.indexA (ii := 2) rfl rfl rfl trivial WFC.wf rfl (.tmp rfl) rfl rfl (by decide) rfl (by decide) (by decide) ?_
  refine walkG ?_
  refine D.fnVM (xs := [(tR (⟨2, n, y, ws, gg, t, sh, c1, c2, num⟩ : Rc), 43)]) rfl rfl rfl rfl trivial (.cons (.tmp rfl ⟨rfl, rfl⟩) .nil) hcc rfl rfl trivial ?_
  refine walkG ?_
  refine Then.n ?_
  refine AW.freezeD (k := 4) (t' := [(6, (.ptr 5 [], 0)), (4, (.ptr 2 [], 0))]) rfl (.cons rfl rfl (.cons rfl rfl .nil)) (SO_fz hsu2 hlg hd extra _ _ _ _) ?_
  refine AW.weakO (b := 5) rfl (Wk.st Try.underlying58 (.cons (wkS _ _ _ _ _ _) .nil)) rfl ?_
  refine walkD ?_
  exact ⟨.inr rfl, .cons (Res1.cell rfl rfl) (.cons (.tmp rfl) .nil), ⟨fun _ _ _ => ⟨rfl, rfl⟩, fun _ _ e => (by cases e), trivial⟩⟩

set_option maxRecDepth 100000 in
set_option maxHeartbeats 4000000 in
theorem apply_n3 (su lg su2 : T) (home home2 : List (List Int)) (ap : Int)  (ds2 : List Pr) (n : Nm) (y : Bool) (ws : List Wr) (gg t sh c1 c2 num : Int) (hsu : np su = true) (hlg : np lg = true) (hsu2 : np su2 = true) (asu : su.aggB = true) (alg : lg.aggB = true) (asu2 : su2.aggB = true) (hmay : Ans Try.prog 12 [(tR (⟨3, n, y, ws, gg, t, sh, c1, c2, num⟩ : Rc), 43)] (B true, 4))
    (hc : ∀ g : Tag, (g = .full ∨ g = .nil) → ∃ tag extra u, AnsM Try.prog 11 [(.ptr 4 [], 0), (tR (⟨3, n, y, ws, gg, t, sh, c1, c2, num⟩ : Rc), 43)] ([⟨.one 34, tS su lg home (Lp []) ap⟩, RR (⟨3, n, y, ws, gg, t, sh, c1, c2, num⟩ : Rc), ⟨.one 34, ZS⟩, ⟨.one 34, tS su lg home (.lst [] g) ap⟩, SO su lg home (.lst [] g) ap, KT 4]) ⟨[], 0⟩ (.tup [], 0) ([⟨.one 34, tS su lg home (Lp []) ap⟩, RR (⟨3, n, y, ws, gg, t, sh, c1, c2, num⟩ : Rc), ⟨.one 34, ZS⟩, ⟨.one 34, tS su lg home (.lst [] g) ap⟩, SO su2 lg home2 (.lst (ds2.map tP) tag) ap, KT 4] ++ extra) u) :
    Ans Try.prog 6 [(tS su lg home (Lp []) ap, 34), (tR ((⟨3, n, y, ws, gg, t, sh, c1, c2, num⟩ : Rc)), 43)] (.tup [tS su2 lg home2 (Lp ds2) (w64 (ap + 1)), I 0], 45) := by
  refine Ans.bodyN (rs := [(tS su2 lg home2 (Lp ds2) (w64 (ap + 1)), 34), (I 0, 44)]) WFC.wf 45 Try.func6 rfl rfl (by decide) rfl rfl (by simp [npL, np, npH, npP, npW, Tag.nt, hsu, hlg]) (by simp [npL, np, npH, npP, Tag.nt, hsu2, hlg]) ?_
  refine walkD ?_
  refine O.call rfl rfl (.cons (.tmp rfl ⟨rfl, rfl⟩) .nil) ((own_nil su lg home ap (⟨3, n, y, ws, gg, t, sh, c1, c2, num⟩ : Rc) asu alg).mono ?_)
  rintro x h u ⟨gt, hgt, rfl, rfl, rfl⟩
  obtain ⟨tag, extra, u, hcc⟩ := hc gt hgt
  refine walkD ?_
  refine AW.drawP [([], [3]), ([0], [32]), ([1, 0], [7, 33]), ([2, 1, 0], [34]), ([], [3]), ([3, 2, 1, 0, 4], [35, 36])] [0, 1, 2, 3, 4, 5] [5] rfl (by kernel_rfl) ?_
  refine walkG ?_
  refine D.indexA (ii := 3) rfl rfl rfl trivial WFC.wf rfl (.tmp rfl) rfl rfl (by decide) rfl (by decide) (by decide) ?_
  refine walkG ?_
  refine D.fnVM (xs := [(tR (⟨3, n, y, ws, gg, t, sh, c1, c2, num⟩ : Rc), 43)]) rfl rfl rfl rfl trivial (.cons (.tmp rfl ⟨rfl, rfl⟩) .nil) hcc rfl rfl trivial ?_
  refine walkG ?_
  refine Then.n ?_
  refine AW.weakO (b := 4) rfl (Wk.st Try.underlying58 (.cons (wkS _ _ _ _ _ _) .nil)) rfl ?_
  refine walkD ?_
  exact ⟨.inr rfl, .cons (Res1.cell rfl rfl) (.cons (.tmp rfl) .nil), ⟨fun _ _ _ => ⟨rfl, rfl⟩, fun _ _ e => (by cases e), trivial⟩⟩

set_option maxRecDepth 100000 in
set_option maxHeartbeats 4000000 in
theorem apply_c3 (su lg su2 : T) (home home2 : List (List Int)) (ap : Int) (ds : List Pr) (h0 : ds ≠ []) (hm : ds.length ≤ 100000) (ds2 : List Pr) (n : Nm) (y : Bool) (ws : List Wr) (gg t sh c1 c2 num : Int) (hsu : np su = true) (hlg : np lg = true) (hsu2 : np su2 = true) (asu : su.aggB = true) (alg : lg.aggB = true) (asu2 : su2.aggB = true) (hmay : Ans Try.prog 12 [(tR (⟨3, n, y, ws, gg, t, sh, c1, c2, num⟩ : Rc), 43)] (B true, 4))
    (hc : ∀ m, ∃ d ds1 m1 tag extra u, AnsM Try.prog 11 [(.ptr 5 [], 0), (tR (⟨3, n, y, ws, gg, t, sh, c1, c2, num⟩ : Rc), 43)] ([⟨.one 34, tS su lg home (Lp ds) ap⟩, RR (⟨3, n, y, ws, gg, t, sh, c1, c2, num⟩ : Rc), ⟨.one 34, ZS⟩, ⟨.one 34, tS su lg home (VW 4 ds m) ap⟩, RW ds m, SO su lg home (VW 4 ds m) ap, KT 5]) ⟨[], 0⟩ (.tup [], 0) ([⟨.one 34, tS su lg home (Lp ds) ap⟩, RR (⟨3, n, y, ws, gg, t, sh, c1, c2, num⟩ : Rc), ⟨.one 34, ZS⟩, ⟨.one 34, tS su lg home (VW 4 ds m) ap⟩, RW ds1 m1, SO su2 lg home2 d ap, KT 5] ++ extra) u ∧ d.aggB = false ∧ d.fz 4 (ds1.map tP ++ List.replicate m1 Z52) = .lst (ds2.map tP) tag) :
    Ans Try.prog 6 [(tS su lg home (Lp ds) ap, 34), (tR ((⟨3, n, y, ws, gg, t, sh, c1, c2, num⟩ : Rc)), 43)] (.tup [tS su2 lg home2 (Lp ds2) (w64 (ap + 1)), I 0], 45) := by
  refine Ans.bodyN (rs := [(tS su2 lg home2 (Lp ds2) (w64 (ap + 1)), 34), (I 0, 44)]) WFC.wf 45 Try.func6 rfl rfl (by decide) rfl rfl (by simp [npL, np, npH, npP, npW, Tag.nt, hsu, hlg]) (by simp [npL, np, npH, npP, Tag.nt, hsu2, hlg]) ?_
  refine walkD ?_
  refine O.call rfl rfl (.cons (.tmp rfl ⟨rfl, rfl⟩) .nil) ((own_cons su lg home ds ap (⟨3, n, y, ws, gg, t, sh, c1, c2, num⟩ : Rc) asu alg h0 hm).mono ?_)
  rintro x h u ⟨m, rfl, rfl, rfl⟩
  obtain ⟨d, ds1, m1, tag, extra, u, hcc, hda, hd⟩ := hc m
  refine walkD ?_
  refine AW.drawP [([], [3]), ([0], [32]), ([1, 0], [7, 33]), ([2, 1, 0], [34]), ([], [3]), ([3, 2, 1, 0, 4], [35, 36])] [0, 1, 2, 3, 4, 5] [5] rfl (by kernel_rfl) ?_
  refine walkG ?_
  refine D.indexA (ii := 3) rfl rfl rfl trivial WFC.wf rfl (.tmp rfl) rfl rfl (by decide) rfl (by decide) (by decide) ?_
  refine walkG ?_
  refine D.fnVM (xs := [(tR (⟨3, n, y, ws, gg, t, sh, c1, c2, num⟩ : Rc), 43)]) rfl rfl rfl rfl trivial (.cons (.tmp rfl ⟨rfl, rfl⟩) .nil) hcc rfl rfl trivial ?_
  refine walkG ?_
  refine Then.n ?_
  refine AW.freezeD (k := 4) (t' := [(6, (.ptr 5 [], 0)), (4, (.ptr 2 [], 0))]) rfl (.cons rfl rfl (.cons rfl rfl .nil)) (SO_fz hsu2 hlg hd extra _ _ _ _) ?_
  refine AW.weakO (b := 5) rfl (Wk.st Try.underlying58 (.cons (wkS _ _ _ _ _ _) .nil)) rfl ?_
  refine walkD ?_
  exact ⟨.inr rfl, .cons (Res1.cell rfl rfl) (.cons (.tmp rfl) .nil), ⟨fun _ _ _ => ⟨rfl, rfl⟩, fun _ _ e => (by cases e), trivial⟩⟩

set_option maxRecDepth 100000 in
set_option maxHeartbeats 4000000 in
theorem apply_may_n (su lg : T) (home : List (List Int)) (ap : Int)  (r : Rc) (hsu : np su = true) (hlg : np lg = true) (asu : su.aggB = true) (alg : lg.aggB = true) (hmay : Ans Try.prog 12 [(tR r, 43)] (B false, 4)) :
    Ans Try.prog 6 [(tS su lg home (Lp []) ap, 34), (tR (r), 43)] (.tup [ZS, I 2], 45) := by
  refine Ans.bodyN (rs := [(ZS, 34), (I 2, 44)]) WFC.wf 45 Try.func6 rfl rfl (by decide) rfl rfl (by simp [npL, np, npH, npP, npW, Tag.nt, hsu, hlg]) rfl ?_
  refine walkD ?_
  refine O.call rfl rfl (.cons (.tmp rfl ⟨rfl, rfl⟩) .nil) ((own_nil su lg home ap r asu alg).mono ?_)
  rintro x h u ⟨gt, hgt, rfl, rfl, rfl⟩
  refine walkD ?_
  exact ⟨.inr rfl, .cons (Res1.cell rfl rfl) (.cons (.tmp rfl) .nil), ⟨fun _ _ _ => ⟨rfl, rfl⟩, fun _ _ e => (by cases e), trivial⟩⟩

set_option maxRecDepth 100000 in
set_option maxHeartbeats 4000000 in
theorem apply_low_n (su lg : T) (home : List (List Int)) (ap : Int)  (r : Rc) (hsu : np su = true) (hlg : np lg = true) (asu : su.aggB = true) (alg : lg.aggB = true) (hmay : Ans Try.prog 12 [(tR r, 43)] (B true, 4)) (hk : r.k ≤ 0) :
    Ans Try.prog 6 [(tS su lg home (Lp []) ap, 34), (tR (r), 43)] (.tup [ZS, I 2], 45) := by
  refine Ans.bodyN (rs := [(ZS, 34), (I 2, 44)]) WFC.wf 45 Try.func6 rfl rfl (by decide) rfl rfl (by simp [npL, np, npH, npP, npW, Tag.nt, hsu, hlg]) rfl ?_
  refine walkD ?_
  refine O.call rfl rfl (.cons (.tmp rfl ⟨rfl, rfl⟩) .nil) ((own_nil su lg home ap r asu alg).mono ?_)
  rintro x h u ⟨gt, hgt, rfl, rfl, rfl⟩
  refine walkD ?_
  exact ⟨.inr rfl, .cons (Res1.cell rfl rfl) (.cons (.tmp rfl) .nil), ⟨fun _ _ _ => ⟨rfl, rfl⟩, fun _ _ e => (by cases e), trivial⟩⟩

set_option maxRecDepth 100000 in
set_option maxHeartbeats 4000000 in
theorem apply_high_n (su lg : T) (home : List (List Int)) (ap : Int)  (r : Rc) (hsu : np su = true) (hlg : np lg = true) (asu : su.aggB = true) (alg : lg.aggB = true) (hmay : Ans Try.prog 12 [(tR r, 43)] (B true, 4)) (h4 : 4 ≤ r.k) (h7 : r.k ≤ 127) :
    Ans Try.prog 6 [(tS su lg home (Lp []) ap, 34), (tR (r), 43)] (.tup [ZS, I 2], 45) := by
  refine Ans.bodyN (rs := [(ZS, 34), (I 2, 44)]) WFC.wf 45 Try.func6 rfl rfl (by decide) rfl rfl (by simp [npL, np, npH, npP, npW, Tag.nt, hsu, hlg]) rfl ?_
  refine walkD ?_
  refine O.call rfl rfl (.cons (.tmp rfl ⟨rfl, rfl⟩) .nil) ((own_nil su lg home ap r asu alg).mono ?_)
  rintro x h u ⟨gt, hgt, rfl, rfl, rfl⟩
  have hw := wr_i8 r.k (by omega) h7
  refine walkD ?_
  exact ⟨.inr rfl, .cons (Res1.cell rfl rfl) (.cons (.tmp rfl) .nil), ⟨fun _ _ _ => ⟨rfl, rfl⟩, fun _ _ e => (by cases e), trivial⟩⟩

set_option maxRecDepth 100000 in
set_option maxHeartbeats 4000000 in
theorem apply_may_c (su lg : T) (home : List (List Int)) (ap : Int) (ds : List Pr) (h0 : ds ≠ []) (hm : ds.length ≤ 100000) (r : Rc) (hsu : np su = true) (hlg : np lg = true) (asu : su.aggB = true) (alg : lg.aggB = true) (hmay : Ans Try.prog 12 [(tR r, 43)] (B false, 4)) :
    Ans Try.prog 6 [(tS su lg home (Lp ds) ap, 34), (tR (r), 43)] (.tup [ZS, I 2], 45) := by
  refine Ans.bodyN (rs := [(ZS, 34), (I 2, 44)]) WFC.wf 45 Try.func6 rfl rfl (by decide) rfl rfl (by simp [npL, np, npH, npP, npW, Tag.nt, hsu, hlg]) rfl ?_
  refine walkD ?_
  refine O.call rfl rfl (.cons (.tmp rfl ⟨rfl, rfl⟩) .nil) ((own_cons su lg home ds ap r asu alg h0 hm).mono ?_)
  rintro x h u ⟨m, rfl, rfl, rfl⟩
  refine walkD ?_
  exact ⟨.inr rfl, .cons (Res1.cell rfl rfl) (.cons (.tmp rfl) .nil), ⟨fun _ _ _ => ⟨rfl, rfl⟩, fun _ _ e => (by cases e), trivial⟩⟩

set_option maxRecDepth 100000 in
set_option maxHeartbeats 4000000 in
theorem apply_low_c (su lg : T) (home : List (List Int)) (ap : Int) (ds : List Pr) (h0 : ds ≠ []) (hm : ds.length ≤ 100000) (r : Rc) (hsu : np su = true) (hlg : np lg = true) (asu : su.aggB = true) (alg : lg.aggB = true) (hmay : Ans Try.prog 12 [(tR r, 43)] (B true, 4)) (hk : r.k ≤ 0) :
    Ans Try.prog 6 [(tS su lg home (Lp ds) ap, 34), (tR (r), 43)] (.tup [ZS, I 2], 45) := by
  refine Ans.bodyN (rs := [(ZS, 34), (I 2, 44)]) WFC.wf 45 Try.func6 rfl rfl (by decide) rfl rfl (by simp [npL, np, npH, npP, npW, Tag.nt, hsu, hlg]) rfl ?_
  refine walkD ?_
  refine O.call rfl rfl (.cons (.tmp rfl ⟨rfl, rfl⟩) .nil) ((own_cons su lg home ds ap r asu alg h0 hm).mono ?_)
  rintro x h u ⟨m, rfl, rfl, rfl⟩
  refine walkD ?_
  exact ⟨.inr rfl, .cons (Res1.cell rfl rfl) (.cons (.tmp rfl) .nil), ⟨fun _ _ _ => ⟨rfl, rfl⟩, fun _ _ e => (by cases e), trivial⟩⟩

set_option maxRecDepth 100000 in
set_option maxHeartbeats 4000000 in
theorem apply_high_c (su lg : T) (home : List (List Int)) (ap : Int) (ds : List Pr) (h0 : ds ≠ []) (hm : ds.length ≤ 100000) (r : Rc) (hsu : np su = true) (hlg : np lg = true) (asu : su.aggB = true) (alg : lg.aggB = true) (hmay : Ans Try.prog 12 [(tR r, 43)] (B true, 4)) (h4 : 4 ≤ r.k) (h7 : r.k ≤ 127) :
    Ans Try.prog 6 [(tS su lg home (Lp ds) ap, 34), (tR (r), 43)] (.tup [ZS, I 2], 45) := by
  refine Ans.bodyN (rs := [(ZS, 34), (I 2, 44)]) WFC.wf 45 Try.func6 rfl rfl (by decide) rfl rfl (by simp [npL, np, npH, npP, npW, Tag.nt, hsu, hlg]) rfl ?_
  refine walkD ?_
  refine O.call rfl rfl (.cons (.tmp rfl ⟨rfl, rfl⟩) .nil) ((own_cons su lg home ds ap r asu alg h0 hm).mono ?_)
  rintro x h u ⟨m, rfl, rfl, rfl⟩
  have hw := wr_i8 r.k (by omega) h7
  refine walkD ?_
  exact ⟨.inr rfl, .cons (Res1.cell rfl rfl) (.cons (.tmp rfl) .nil), ⟨fun _ _ _ => ⟨rfl, rfl⟩, fun _ _ e => (by cases e), trivial⟩⟩

end Go.Proofs.Ytecacooabofloaa

/- Package recover: Apply, as a whole. -/
set_option linter.unusedVariables false
set_option linter.unusedSimpArgs false
set_option maxRecDepth 100000
namespace Go.Proofs.Ytecacooabofloaa
open Go.Am
/-- A state that records are applied to; its superblock is empty but for what is owned. -/
structure Sx where
  ow : Int
  home : List (List Int)
  ds : List Pr
  ap : Int
abbrev Z8 : T := .arr (List.replicate 8 (I 0))
abbrev LG : T := .st [I 0, I 0]
abbrev tX (s : Sx) : T := tS (tU 0 0 s.ow 0 0 Z8) LG s.home (Lp s.ds) s.ap
/-- What a record makes of those in doubt. -/
def dsF (ds : List Pr) (r : Rc) : List Pr :=
  if r.k = 2 then (if fi ds r.n < ds.length then ds.set (fi ds r.n) (PR r) else ds ++ [PR r]) else if r.k = 3 then ds.eraseIdx (fi ds r.n) else ds
/-- What a record writes. -/
def wsF (ds : List Pr) (r : Rc) : List Wr :=
  if r.k = 1 then r.ws else if r.k = 3 then (match ds[fi ds r.n]? with | some p => if r.y then p.ws else [] | none => []) else []
def owG (ow : Int) (ds : List Pr) (r : Rc) : Int :=
  if r.k = 3 then (match ds[fi ds r.n]? with | some p => if r.y then owF ow p.g p.t else ow | none => ow) else ow
def stepX (s : Sx) (r : Rc) : Sx := ⟨owG s.ow s.ds r, onF s.home (wsF s.ds r), dsF s.ds r, w64 (s.ap + 1)⟩
theorem onF_nil (h : List (List Int)) : onF h [] = h := rfl

theorem fi_at {ds : List Pr} {nm : Nm} (h : fi ds nm < ds.length) : ∃ p, ds[fi ds nm]? = some p ∧ p.n = nm ∧ ∀ j, j < fi ds nm → ∀ p, ds[j]? = some p → p.n ≠ nm := by
  refine ⟨ds[fi ds nm], List.getElem?_eq_getElem h, ?_, fun j hj p hp => ?_⟩
  · have := List.findIdx_getElem (xs := ds) (p := fun p : Pr => decide (p.n = nm)) (w := h)
    exact of_decide_eq_true this
  · obtain ⟨hl, rfl⟩ := List.getElem?_eq_some_iff.1 hp
    have := List.not_of_lt_findIdx (p := fun p : Pr => decide (p.n = nm)) hj
    simpa using this
theorem fi_no {ds : List Pr} {nm : Nm} (h : ¬ fi ds nm < ds.length) : ∀ p ∈ ds, p.n ≠ nm := by
  intro p hp he
  exact h (List.findIdx_lt_length_of_exists ⟨p, hp, by simpa using he⟩)
theorem VW_fz (ds : List Pr) (m : Nat) : (VW 4 ds m).fz 4 (ds.map tP ++ List.replicate m Z52) = .lst (ds.map tP) .no := by
  show (if Nat.beq 4 4 = true then T.lst (((ds.map tP ++ List.replicate m Z52).drop 0).take ds.length) .no else _) = _
  have h : ((ds.map tP ++ List.replicate m Z52).drop 0).take ds.length = ds.map tP := by rw [List.drop_zero, List.take_left' (by simp)]
  rw [h]; rfl

theorem apply_1 (s : Sx) (n : Nm) (y : Bool) (ws : List Wr) (gg t sh c1 c2 num : Int) (hmay : Ans Try.prog 12 [(tR (⟨1, n, y, ws, gg, t, sh, c1, c2, num⟩ : Rc), 43)] (B true, 4)) (hh : s.home.length = 32) (hd : s.ds.length < 100000) (hw : ws.length ≤ 100000) :
    Ans Try.prog 6 [(tX s, 34), (tR (⟨1, n, y, ws, gg, t, sh, c1, c2, num⟩ : Rc), 43)] (.tup [tX (stepX s ⟨1, n, y, ws, gg, t, sh, c1, c2, num⟩), I 0], 45) := by
  obtain ⟨ow, home, ds, ap⟩ := s
  by_cases h0 : ds = []
  · subst h0
    exact apply_n1 (tU 0 0 ow 0 0 Z8) LG (tU 0 0 ow 0 0 Z8) home (onF home ws) ap [] n y ws gg t sh c1 c2 num rfl rfl rfl rfl rfl rfl hmay
      (fun g hg => ⟨g, _, ⟨[], 0⟩, local_n _ _ _ _ _ home g ap ⟨1, n, y, ws, gg, t, sh, c1, c2, num⟩ hh (by show ws.length < _; omega)⟩)
  · exact apply_c1 (tU 0 0 ow 0 0 Z8) LG (tU 0 0 ow 0 0 Z8) home (onF home ws) ap ds h0 (by show ds.length ≤ _; have : ds.length < 100000 := hd; omega) ds n y ws gg t sh c1 c2 num rfl rfl rfl rfl rfl rfl hmay
      (fun m => ⟨VW 4 ds m, ds, m, .no, _, ⟨[], 0⟩, local_c _ _ _ _ _ home ds m ap ⟨1, n, y, ws, gg, t, sh, c1, c2, num⟩ hh (by show ws.length < _; omega), rfl, VW_fz ds m⟩)

theorem apply_2 (s : Sx) (n : Nm) (y : Bool) (ws : List Wr) (gg t sh c1 c2 num : Int) (hmay : Ans Try.prog 12 [(tR (⟨2, n, y, ws, gg, t, sh, c1, c2, num⟩ : Rc), 43)] (B true, 4)) (hd : s.ds.length < 100000) (hw : ws.length ≤ 100000) :
    Ans Try.prog 6 [(tX s, 34), (tR (⟨2, n, y, ws, gg, t, sh, c1, c2, num⟩ : Rc), 43)] (.tup [tX (stepX s ⟨2, n, y, ws, gg, t, sh, c1, c2, num⟩), I 0], 45) := by
  obtain ⟨ow, home, ds, ap⟩ := s
  have hd' : ds.length < 100000 := hd
  by_cases h0 : ds = []
  · subst h0
    exact apply_n2 (tU 0 0 ow 0 0 Z8) LG (tU 0 0 ow 0 0 Z8) home home ap [PR ⟨2, n, y, ws, gg, t, sh, c1, c2, num⟩] n y ws gg t sh c1 c2 num rfl rfl rfl rfl rfl rfl hmay
      (fun g hg => ⟨.tip 0, _, ⟨[0], 1⟩, prepare_n _ _ _ (tU 0 0 ow 0 0 Z8) LG home g hg rfl rfl ap ⟨2, n, y, ws, gg, t, sh, c1, c2, num⟩ hw⟩)
  · have hmk : ∀ ds2, dsF ds ⟨2, n, y, ws, gg, t, sh, c1, c2, num⟩ = ds2 → (∀ m, ∃ d ds1 m1 tag extra u, AnsM Try.prog 10 [(.ptr 5 [], 0), (tR (⟨2, n, y, ws, gg, t, sh, c1, c2, num⟩ : Rc), 43)] ([⟨.one 34, tS (tU 0 0 ow 0 0 Z8) LG home (Lp ds) ap⟩, RR (⟨2, n, y, ws, gg, t, sh, c1, c2, num⟩ : Rc), ⟨.one 34, ZS⟩, ⟨.one 34, tS (tU 0 0 ow 0 0 Z8) LG home (VW 4 ds m) ap⟩, RW ds m, SO (tU 0 0 ow 0 0 Z8) LG home (VW 4 ds m) ap, KT 5]) ⟨[], 0⟩ (.tup [], 0) ([⟨.one 34, tS (tU 0 0 ow 0 0 Z8) LG home (Lp ds) ap⟩, RR (⟨2, n, y, ws, gg, t, sh, c1, c2, num⟩ : Rc), ⟨.one 34, ZS⟩, ⟨.one 34, tS (tU 0 0 ow 0 0 Z8) LG home (VW 4 ds m) ap⟩, RW ds1 m1, SO (tU 0 0 ow 0 0 Z8) LG home d ap, KT 5] ++ extra) u ∧ d.aggB = false ∧ d.fz 4 (ds1.map tP ++ List.replicate m1 Z52) = .lst (ds2.map tP) tag) →
        Ans Try.prog 6 [(tX ⟨ow, home, ds, ap⟩, 34), (tR (⟨2, n, y, ws, gg, t, sh, c1, c2, num⟩ : Rc), 43)] (.tup [tX (stepX ⟨ow, home, ds, ap⟩ ⟨2, n, y, ws, gg, t, sh, c1, c2, num⟩), I 0], 45) := by
      intro ds2 he hc
      have := apply_c2 (tU 0 0 ow 0 0 Z8) LG (tU 0 0 ow 0 0 Z8) home home ap ds h0 (by omega) ds2 n y ws gg t sh c1 c2 num rfl rfl rfl rfl rfl rfl hmay hc
      rw [← he] at this
      exact this
    by_cases hf : fi ds n < ds.length
    · obtain ⟨p, hp1, hp2, hp3⟩ := fi_at hf
      refine hmk (ds.set (fi ds n) (PR ⟨2, n, y, ws, gg, t, sh, c1, c2, num⟩)) (by unfold dsF; rw [if_pos rfl, if_pos hf]) fun m => ?_
      have hl : (ds.set (fi ds n) (PR ⟨2, n, y, ws, gg, t, sh, c1, c2, num⟩)).length = ds.length := List.length_set
      have hv : VW 4 ds m = VW 4 (ds.set (fi ds n) (PR ⟨2, n, y, ws, gg, t, sh, c1, c2, num⟩)) m := by show T.vw 4 0 _ _ = T.vw 4 0 _ _; rw [hl]
      exact ⟨VW 4 ds m, _, m, .no, _, ⟨[], 0⟩, prepare_some _ _ _ (tU 0 0 ow 0 0 Z8) LG home ds m hd' rfl rfl ap ⟨2, n, y, ws, gg, t, sh, c1, c2, num⟩ hw (fi ds n) p hp1 hp2 hp3, rfl, by rw [hv]; exact VW_fz _ m⟩
    · have hno := fi_no hf
      refine hmk (ds ++ [PR ⟨2, n, y, ws, gg, t, sh, c1, c2, num⟩]) (by unfold dsF; rw [if_pos rfl, if_neg hf]) fun m => ?_
      by_cases hm : m = 0
      · refine ⟨_, ds, m, .tip 0, _, ⟨[0], 1⟩, prepare_new _ _ _ (tU 0 0 ow 0 0 Z8) LG home ds m hd' rfl rfl ap ⟨2, n, y, ws, gg, t, sh, c1, c2, num⟩ hw hno hm, rfl, ?_⟩
        simp only [T.fz]
        rw [fzL_np _ (npP _)]
      · exact ⟨VW 4 (ds ++ [PR ⟨2, n, y, ws, gg, t, sh, c1, c2, num⟩]) (m - 1), _, m - 1, .no, _, ⟨[], 0⟩, prepare_in _ _ _ (tU 0 0 ow 0 0 Z8) LG home ds m hd' rfl rfl ap ⟨2, n, y, ws, gg, t, sh, c1, c2, num⟩ hw hno (by omega), rfl, VW_fz _ _⟩

theorem apply_3 (s : Sx) (n : Nm) (y : Bool) (ws : List Wr) (gg t sh c1 c2 num : Int) (hmay : Ans Try.prog 12 [(tR (⟨3, n, y, ws, gg, t, sh, c1, c2, num⟩ : Rc), 43)] (B true, 4)) (hh : s.home.length = 32) (hd : s.ds.length < 100000) (hws : ∀ p ∈ s.ds, p.ws.length < 4611686018427387904) :
    Ans Try.prog 6 [(tX s, 34), (tR (⟨3, n, y, ws, gg, t, sh, c1, c2, num⟩ : Rc), 43)] (.tup [tX (stepX s ⟨3, n, y, ws, gg, t, sh, c1, c2, num⟩), I 0], 45) := by
  obtain ⟨ow, home, ds, ap⟩ := s
  have hd' : ds.length < 100000 := hd
  by_cases h0 : ds = []
  · subst h0
    exact apply_n3 (tU 0 0 ow 0 0 Z8) LG (tU 0 0 ow 0 0 Z8) home home ap [] n y ws gg t sh c1 c2 num rfl rfl rfl rfl rfl rfl hmay
      (fun g hg => ⟨g, _, ⟨[], 0⟩, outcome_n _ _ _ (tU 0 0 ow 0 0 Z8) LG home g (by rcases hg with rfl | rfl <;> rfl) rfl rfl ap ⟨3, n, y, ws, gg, t, sh, c1, c2, num⟩⟩)
  · have hmk : ∀ ow2 home2 ds2, owG ow ds ⟨3, n, y, ws, gg, t, sh, c1, c2, num⟩ = ow2 → onF home (wsF ds ⟨3, n, y, ws, gg, t, sh, c1, c2, num⟩) = home2 → dsF ds ⟨3, n, y, ws, gg, t, sh, c1, c2, num⟩ = ds2 → (∀ m, ∃ d ds1 m1 tag extra u, AnsM Try.prog 11 [(.ptr 5 [], 0), (tR (⟨3, n, y, ws, gg, t, sh, c1, c2, num⟩ : Rc), 43)] ([⟨.one 34, tS (tU 0 0 ow 0 0 Z8) LG home (Lp ds) ap⟩, RR (⟨3, n, y, ws, gg, t, sh, c1, c2, num⟩ : Rc), ⟨.one 34, ZS⟩, ⟨.one 34, tS (tU 0 0 ow 0 0 Z8) LG home (VW 4 ds m) ap⟩, RW ds m, SO (tU 0 0 ow 0 0 Z8) LG home (VW 4 ds m) ap, KT 5]) ⟨[], 0⟩ (.tup [], 0) ([⟨.one 34, tS (tU 0 0 ow 0 0 Z8) LG home (Lp ds) ap⟩, RR (⟨3, n, y, ws, gg, t, sh, c1, c2, num⟩ : Rc), ⟨.one 34, ZS⟩, ⟨.one 34, tS (tU 0 0 ow 0 0 Z8) LG home (VW 4 ds m) ap⟩, RW ds1 m1, SO (tU 0 0 ow2 0 0 Z8) LG home2 d ap, KT 5] ++ extra) u ∧ d.aggB = false ∧ d.fz 4 (ds1.map tP ++ List.replicate m1 Z52) = .lst (ds2.map tP) tag) →
        Ans Try.prog 6 [(tX ⟨ow, home, ds, ap⟩, 34), (tR (⟨3, n, y, ws, gg, t, sh, c1, c2, num⟩ : Rc), 43)] (.tup [tX (stepX ⟨ow, home, ds, ap⟩ ⟨3, n, y, ws, gg, t, sh, c1, c2, num⟩), I 0], 45) := by
      intro ow2 home2 ds2 e1 e2 e3 hc
      have := apply_c3 (tU 0 0 ow 0 0 Z8) LG (tU 0 0 ow2 0 0 Z8) home home2 ap ds h0 (by omega) ds2 n y ws gg t sh c1 c2 num rfl rfl rfl rfl rfl rfl hmay hc
      rw [← e1, ← e2, ← e3] at this
      exact this
    by_cases hf : fi ds n < ds.length
    · obtain ⟨p, hp1, hp2, hp3⟩ := fi_at hf
      have hp1' : ds[fi ds (⟨3, n, y, ws, gg, t, sh, c1, c2, num⟩ : Rc).n]? = some p := hp1
      cases y
      · refine hmk ow home (ds.eraseIdx (fi ds n)) (by unfold owG; rw [if_pos rfl, hp1']; rfl) (by unfold wsF; rw [if_neg (show ¬ (3 : Int) = _ by decide), if_pos rfl, hp1']; rfl) (by unfold dsF; rw [if_neg (show ¬ (3 : Int) = _ by decide), if_pos rfl]) fun m => ?_
        exact ⟨VW 4 (ds.eraseIdx (fi ds n)) (m + 1), _, m + 1, .no, _, ⟨[], 0⟩, outcome_no _ _ _ 0 0 ow 0 0 Z8 rfl LG home ds m hd' rfl ap ⟨3, n, false, ws, gg, t, sh, c1, c2, num⟩ (fi ds n) p hp1 hp2 hp3 rfl, rfl, VW_fz _ _⟩
      · refine hmk (owF ow p.g p.t) (onF home p.ws) (ds.eraseIdx (fi ds n)) (by unfold owG; rw [if_pos rfl, hp1']; rfl) (by unfold wsF; rw [if_neg (show ¬ (3 : Int) = _ by decide), if_pos rfl, hp1']; rfl) (by unfold dsF; rw [if_neg (show ¬ (3 : Int) = _ by decide), if_pos rfl]) fun m => ?_
        exact ⟨VW 4 (ds.eraseIdx (fi ds n)) (m + 1), _, m + 1, .no, _, ⟨[], 0⟩, outcome_yes _ _ _ 0 0 ow 0 0 Z8 rfl LG home ds m hd' rfl ap ⟨3, n, true, ws, gg, t, sh, c1, c2, num⟩ (fi ds n) p hp1 hp2 hp3 rfl hh (hws p (List.mem_of_getElem? hp1)), rfl, VW_fz _ _⟩
    · have hno := fi_no hf
      have he : ds[fi ds (⟨3, n, y, ws, gg, t, sh, c1, c2, num⟩ : Rc).n]? = none := List.getElem?_eq_none (by show ds.length ≤ fi ds n; omega)
      refine hmk ow home ds (by unfold owG; rw [if_pos rfl, he]) (by unfold wsF; rw [if_neg (show ¬ (3 : Int) = _ by decide), if_pos rfl, he]; rfl) (by unfold dsF; rw [if_neg (show ¬ (3 : Int) = _ by decide), if_pos rfl, List.eraseIdx_of_length_le (by show ds.length ≤ fi ds n; omega)]) fun m => ?_
      exact ⟨VW 4 ds m, ds, m, .no, _, ⟨[], 0⟩, outcome_none _ _ _ _ rfl LG home ds m hd' rfl ap ⟨3, n, y, ws, gg, t, sh, c1, c2, num⟩ hno, rfl, VW_fz _ _⟩

/-- What Apply answers, if May answers b. -/
def okX (r : Rc) (b : Bool) : Bool := b && decide (0 < r.k) && decide (r.k < 4)
theorem apply_x (s : Sx) (r : Rc) (b : Bool) (hmay : Ans Try.prog 12 [(tR r, 43)] (B b, 4)) (h127 : r.k ≤ 127) (hh : s.home.length = 32) (hd : s.ds.length < 100000) (hws : ∀ p ∈ s.ds, p.ws.length < 4611686018427387904) (hw : r.ws.length ≤ 100000) :
    Ans Try.prog 6 [(tX s, 34), (tR r, 43)] (.tup [if okX r b then tX (stepX s r) else ZS, I (if okX r b then 0 else 2)], 45) := by
  by_cases hok : okX r b = true
  · rw [if_pos hok, if_pos hok]
    simp only [okX, Bool.and_eq_true, decide_eq_true_eq] at hok
    obtain ⟨⟨rfl, h1⟩, h2⟩ := hok
    obtain ⟨k, n, y, ws, gg, t, sh, c1, c2, num⟩ := r
    have h1' : 0 < k := h1
    have h2' : k < 4 := h2
    have : k = 1 ∨ k = 2 ∨ k = 3 := by omega
    rcases this with rfl | rfl | rfl
    · exact apply_1 s n y ws gg t sh c1 c2 num hmay hh hd hw
    · exact apply_2 s n y ws gg t sh c1 c2 num hmay hd hw
    · exact apply_3 s n y ws gg t sh c1 c2 num hmay hh hd hws
  · rw [if_neg hok, if_neg hok]
    obtain ⟨ow, home, ds, ap⟩ := s
    have hd' : ds.length < 100000 := hd
    cases b
    · by_cases h0 : ds = []
      · subst h0; exact apply_may_n _ _ _ _ _ rfl rfl rfl rfl hmay
      · exact apply_may_c _ _ _ _ ds h0 (by omega) _ rfl rfl rfl rfl hmay
    · have hk : r.k ≤ 0 ∨ 4 ≤ r.k := by
        by_cases h1 : 0 < r.k
        · by_cases h2 : r.k < 4
          · exact absurd (by simp [okX, h1, h2]) hok
          · omega
        · omega
      rcases hk with hk | hk
      · by_cases h0 : ds = []
        · subst h0; exact apply_low_n _ _ _ _ _ rfl rfl rfl rfl hmay hk
        · exact apply_low_c _ _ _ _ ds h0 (by omega) _ rfl rfl rfl rfl hmay hk
      · by_cases h0 : ds = []
        · subst h0; exact apply_high_n _ _ _ _ _ rfl rfl rfl rfl hmay hk h127
        · exact apply_high_c _ _ _ _ ds h0 (by omega) _ rfl rfl rfl rfl hmay hk h127

end Go.Proofs.Ytecacooabofloaa
