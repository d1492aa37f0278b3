/- Package overlay: the law of order. -/
import Derived.Test.YtlpakbhlpgpiaaaP2
set_option linter.unusedVariables false
set_option linter.unusedSimpArgs false
namespace Go.Proofs.Ytlpakbhlpgpiaaa
open Go.Am
theorem put_ok {ws : List Wr} {w : Wr} (h : Ok ws w) : Ans Try.prog 7 [(Ls ws, 22), (tW w, 26)] (.tup [Ls (ins ws w), I 0], 30) := by
  have := put_c ws (by have := (WnB_split.1 h.wn).2; omega) w
  rw [putF_ok h] at this; exact this
theorem get_some {ws : List Wr} {w : Wr} {k : Int} (hm : ws.length < 4611686018427387904) (h : getF ws k = some w) : Ans Try.prog 8 [(Ls ws, 22), (I k, 3)] (.tup [V w.v, B true], 32) := by
  have := get_c ws hm k; rw [h] at this; exact this
theorem get_none {ws : List Wr} {k : Int} (hm : ws.length < 4611686018427387904) (h : getF ws k = none) : Ans Try.prog 8 [(Ls ws, 22), (I k, 3)] (.tup [V0, B false], 32) := by
  have := get_c ws hm k; rw [h] at this; exact this

set_option maxHeartbeats 4000000 in
theorem order_great (l : List Wr) (a b : Wr) (h : 100 < l.length) : Ans Try.prog 3 [(Ls l, 22), (tW a, 26), (tW b, 26)] (B true, 4) := by
  refine Ans.body1 WFC.wf Try.func3 rfl rfl rfl (by simp [npL, np, npV, npW, npH, Tag.nt]) (by simp [npL, np, npV, npW, npH, Tag.nt]) ?_
  have hg := great_t l h
  have hwk := wakes_c
  refine walkD ?_
  exact ⟨.inr rfl, .tmp rfl, (fun _ _ e => (by cases e))⟩

set_option maxHeartbeats 4000000 in
theorem order_no1 (l : List Wr) (a b : Wr) (h100 : l.length ≤ 100) (h : (putF l a).2 ≠ 0) : Ans Try.prog 3 [(Ls l, 22), (tW a, 26), (tW b, 26)] (B true, 4) := by
  refine Ans.body1 WFC.wf Try.func3 rfl rfl rfl (by simp [npL, np, npV, npW, npH, Tag.nt]) (by simp [npL, np, npV, npW, npH, Tag.nt]) ?_
  have hg := great_f l h100
  have hwk := wakes_c
  have hm : l.length < 4611686018427387904 := by omega
  have pa := put_c l hm a
  have pb := put_c l hm b
  refine walkD ?_
  exact ⟨.inr rfl, .tmp rfl, (fun _ _ e => (by cases e))⟩

set_option maxHeartbeats 4000000 in
theorem order_no2 (l : List Wr) (a b : Wr) (h100 : l.length ≤ 100) (ha : Ok l a) (h : (putF l b).2 ≠ 0) : Ans Try.prog 3 [(Ls l, 22), (tW a, 26), (tW b, 26)] (B true, 4) := by
  refine Ans.body1 WFC.wf Try.func3 rfl rfl rfl (by simp [npL, np, npV, npW, npH, Tag.nt]) (by simp [npL, np, npV, npW, npH, Tag.nt]) ?_
  have hg := great_f l h100
  have hwk := wakes_c
  have hm : l.length < 4611686018427387904 := by omega
  have pa := put_ok ha
  have pb := put_c l hm b
  refine walkD ?_
  exact ⟨.inr rfl, .tmp rfl, (fun _ _ e => (by cases e))⟩

set_option maxHeartbeats 4000000 in
theorem order_same (l : List Wr) (a b : Wr) (vl : ∀ w ∈ l, w.v.length = 8) (va : a.v.length = 8) (vb : b.v.length = 8) (h100 : l.length ≤ 100) (ha : Ok l a) (hb : Ok l b) (hab : a.b = b.b) : Ans Try.prog 3 [(Ls l, 22), (tW a, 26), (tW b, 26)] (B true, 4) := by
  refine Ans.body1 WFC.wf Try.func3 rfl rfl rfl (by simp [npL, np, npV, npW, npH, Tag.nt]) (by simp [npL, np, npV, npW, npH, Tag.nt]) ?_
  have hg := great_f l h100
  have hwk := wakes_c
  have hm : l.length < 4611686018427387904 := by omega
  have pa := put_ok ha
  have pb := put_ok hb
  have hl8 := (WnB_split.1 ha.wn).2
  have hla := Ls_len (ins l a)
  have hll := Ls_len l
  have hla8 := (WnB_split.1 ha.wn').2
  have hlen := ins_len a (WnB_split.1 ha.wn).1
  have hhas := getF_has l a.b
  have hva : ∀ w ∈ ins l a, w.v.length = 8 := fun w hw => by rcases ins_mem hw with rfl | hw; exact va; exact vl w hw
  have hvb : ∀ w ∈ ins l b, w.v.length = 8 := fun w hw => by rcases ins_mem hw with rfl | hw; exact vb; exact vl w hw
  have hob : Ok (ins l a) b := ⟨ha.wn', hb.b0, hb.b32, .inl (by rw [ins_has, decide_eq_true hab, Bool.or_true])⟩
  have pc := put_ok hob
  rw [ins_same a b hab] at pc
  have hsm := same_c (ins l b) (ins l b) (by have := (WnB_split.1 hb.wn').2; omega) hvb hvb true ⟨fun _ => rfl, fun _ => rfl⟩
  cases hgt : getF l a.b with
  | some w =>
    rw [hgt] at hhas
    rw [← hhas] at hlen
    have hlen : (ins l a).length = l.length := hlen
    have hge := get_some hm hgt
    refine walkD ?_
    exact ⟨.inr rfl, .tmp rfl, (fun _ _ e => (by cases e))⟩
  | none =>
    rw [hgt] at hhas
    rw [← hhas] at hlen
    have hlen : (ins l a).length = l.length + 1 := hlen
    have hge := get_none hm hgt
    refine walkD ?_
    exact ⟨.inr rfl, .tmp rfl, (fun _ _ e => (by cases e))⟩


set_option maxHeartbeats 4000000 in
theorem order_err (l : List Wr) (a b : Wr) (vl : ∀ w ∈ l, w.v.length = 8) (va : a.v.length = 8) (vb : b.v.length = 8) (h100 : l.length ≤ 100) (ha : Ok l a) (hb : Ok l b) (hab : a.b ≠ b.b) (hz : (putF (ins l a) b).2 ≠ 0) : Ans Try.prog 3 [(Ls l, 22), (tW a, 26), (tW b, 26)] (B true, 4) := by
  refine Ans.body1 WFC.wf Try.func3 rfl rfl rfl (by simp [npL, np, npV, npW, npH, Tag.nt]) (by simp [npL, np, npV, npW, npH, Tag.nt]) ?_
  have hg := great_f l h100
  have hwk := wakes_c
  have hm : l.length < 4611686018427387904 := by omega
  have pa := put_ok ha
  have pb := put_ok hb
  have hl8 := (WnB_split.1 ha.wn).2
  have hla := Ls_len (ins l a)
  have hll := Ls_len l
  have hla8 := (WnB_split.1 ha.wn').2
  have hlen := ins_len a (WnB_split.1 ha.wn).1
  have hhas := getF_has l a.b
  have hva : ∀ w ∈ ins l a, w.v.length = 8 := fun w hw => by rcases ins_mem hw with rfl | hw; exact va; exact vl w hw
  have hvb : ∀ w ∈ ins l b, w.v.length = 8 := fun w hw => by rcases ins_mem hw with rfl | hw; exact vb; exact vl w hw
  have pc := put_c (ins l a) (by omega) b
  have pd := put_c (ins l b) (by have := (WnB_split.1 hb.wn').2; omega) a
  rw [← (put_order ha hb hab).1] at pd
  cases hgt : getF l a.b with
  | some w =>
    rw [hgt] at hhas
    rw [← hhas] at hlen
    have hlen : (ins l a).length = l.length := hlen
    have hge := get_some hm hgt
    refine walkD ?_
    exact ⟨.inr rfl, .tmp rfl, (fun _ _ e => (by cases e))⟩
  | none =>
    rw [hgt] at hhas
    rw [← hhas] at hlen
    have hlen : (ins l a).length = l.length + 1 := hlen
    have hge := get_none hm hgt
    refine walkD ?_
    exact ⟨.inr rfl, .tmp rfl, (fun _ _ e => (by cases e))⟩


set_option maxHeartbeats 4000000 in
theorem order_ok (l : List Wr) (a b : Wr) (vl : ∀ w ∈ l, w.v.length = 8) (va : a.v.length = 8) (vb : b.v.length = 8) (h100 : l.length ≤ 100) (ha : Ok l a) (hb : Ok l b) (hab : a.b ≠ b.b) (hz : (putF (ins l a) b).2 = 0) : Ans Try.prog 3 [(Ls l, 22), (tW a, 26), (tW b, 26)] (B true, 4) := by
  refine Ans.body1 WFC.wf Try.func3 rfl rfl rfl (by simp [npL, np, npV, npW, npH, Tag.nt]) (by simp [npL, np, npV, npW, npH, Tag.nt]) ?_
  have hg := great_f l h100
  have hwk := wakes_c
  have hm : l.length < 4611686018427387904 := by omega
  have pa := put_ok ha
  have pb := put_ok hb
  have hl8 := (WnB_split.1 ha.wn).2
  have hla := Ls_len (ins l a)
  have hll := Ls_len l
  have hla8 := (WnB_split.1 ha.wn').2
  have hlen := ins_len a (WnB_split.1 ha.wn).1
  have hhas := getF_has l a.b
  have hva : ∀ w ∈ ins l a, w.v.length = 8 := fun w hw => by rcases ins_mem hw with rfl | hw; exact va; exact vl w hw
  have hvb : ∀ w ∈ ins l b, w.v.length = 8 := fun w hw => by rcases ins_mem hw with rfl | hw; exact vb; exact vl w hw
  have hz2 := (put_order ha hb hab).1.symm.trans hz
  have pc := put_ok (putF_err.1 hz)
  have pd := put_ok (putF_err.1 hz2)
  rw [ins_comm b a (Ne.symm hab)] at pd
  have hvc : ∀ w ∈ ins (ins l a) b, w.v.length = 8 := fun w hw => by rcases ins_mem hw with rfl | hw; exact vb; exact hva w hw
  have hsm := same_c (ins (ins l a) b) (ins (ins l a) b) (by have := (WnB_split.1 (putF_err.1 hz).wn').2; omega) hvc hvc true ⟨fun _ => rfl, fun _ => rfl⟩
  cases hgt : getF l a.b with
  | some w =>
    rw [hgt] at hhas
    rw [← hhas] at hlen
    have hlen : (ins l a).length = l.length := hlen
    have hge := get_some hm hgt
    refine walkD ?_
    exact ⟨.inr rfl, .tmp rfl, (fun _ _ e => (by cases e))⟩
  | none =>
    rw [hgt] at hhas
    rw [← hhas] at hlen
    have hlen : (ins l a).length = l.length + 1 := hlen
    have hge := get_none hm hgt
    refine walkD ?_
    exact ⟨.inr rfl, .tmp rfl, (fun _ _ e => (by cases e))⟩


theorem order_c (l : List Wr) (a b : Wr) (vl : ∀ w ∈ l, w.v.length = 8) (va : a.v.length = 8) (vb : b.v.length = 8) : Ans Try.prog 3 [(Ls l, 22), (tW a, 26), (tW b, 26)] (B true, 4) := by
  by_cases h100 : 100 < l.length
  · exact order_great l a b h100
  have h100 : l.length ≤ 100 := by omega
  by_cases ha : (putF l a).2 = 0
  · have ha := putF_err.1 ha
    by_cases hb : (putF l b).2 = 0
    · have hb := putF_err.1 hb
      by_cases hab : a.b = b.b
      · exact order_same l a b vl va vb h100 ha hb hab
      · by_cases hz : (putF (ins l a) b).2 = 0
        · exact order_ok l a b vl va vb h100 ha hb hab hz
        · exact order_err l a b vl va vb h100 ha hb hab hz
    · exact order_no2 l a b h100 ha hb
  · exact order_no1 l a b h100 ha
end Go.Proofs.Ytlpakbhlpgpiaaa
