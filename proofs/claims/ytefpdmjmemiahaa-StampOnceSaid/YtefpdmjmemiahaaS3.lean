/- StampLeft and StampOnce are proved, for every input, without a condition. -/
import Derived.Test.YtefpdmjmemiahaaS2
import Derived.Test.YtefpdmjmemiahaaAmW
import Derived.Test.YtefpdmjmemiahaaRows
set_option linter.unusedVariables false
namespace Go.Proofs.Ytefpdmjmemiahaa
open Go.Am Go.ChangeShapes Go.WideShapes Go.ChangeAt Go.RowKit

theorem Try.own : ownKnob Try.prog.godebug = none := by kernel_rfl
theorem Try.laidOut : laidOutB Try.prog = true := by kernel_rfl

set_option maxRecDepth 100000 in
theorem stampLeft_lifted (os : Os) (started : os.Started) (H : Type) (enc : TypeId × Value → H) :
    ReturnsInHanded {} Try.checked os 3 .any (Rows.stampLeftSpec.pre6 enc Try.prog Try.f3 Rows.stampLeftRow.domain false) (Rows.stampLeftSpec.post enc Try.prog Try.f3 false true false false) := by
  refine law_lifted (C := Try.checked) 6 4 Try.own started (by kernel_rfl) Try.func3
    (ChangeSpec.witness6 (enc := enc) (C := Try.checked) false ⟨#[], #[.agg #[.int .i64 0, .int .i64 0]], []⟩ 8 (by kernel_rfl) (by kernel_rfl) (by kernel_rfl) (by kernel_rfl))
    Try.laidOut (by kernel_rfl) rfl rfl Try.underlying4 (fun ds h => ?_) (fun xs h => ?_)
  · match ds, h with
    | [d], _ => rfl
  · obtain ⟨x, r, rfl, hx, h⟩ := WX.cons (P := Try.prog) (t := 23) (ts := []) h
    obtain rfl := h.nil
    obtain ⟨xs, rfl, hf⟩ := WT.struct (P := Try.prog) Try.underlying23 hx
    obtain ⟨a, r, rfl, ha, hf⟩ := hf.cons
    obtain ⟨b, r, rfl, hb, hf⟩ := hf.cons
    obtain rfl := hf.nil
    obtain ⟨n, rfl, _⟩ := WT.int (P := Try.prog) Try.underlying3 ha
    obtain ⟨m, rfl, _⟩ := WT.int (P := Try.prog) Try.underlying3 hb
    exact (stampLeft_c n m).calls _ _ rfl

set_option maxRecDepth 100000 in
theorem stampOnce_lifted (os : Os) (started : os.Started) (H : Type) (enc : TypeId × Value → H) :
    ReturnsInHanded {} Try.checked os 4 .any (Rows.stampOnceSpec.pre6 enc Try.prog Try.f4 Rows.stampOnceRow.domain false) (Rows.stampOnceSpec.post enc Try.prog Try.f4 false true false false) := by
  refine law_lifted (C := Try.checked) 6 4 Try.own started (by kernel_rfl) Try.func4
    (ChangeSpec.witness6 (enc := enc) (C := Try.checked) false ⟨#[], #[.int .i64 0, .slice none 0 0], []⟩ 8 (by kernel_rfl) (by kernel_rfl) (by kernel_rfl) (by kernel_rfl))
    Try.laidOut (by kernel_rfl) rfl rfl Try.underlying4 (fun ds h => ?_) (fun xs h => ?_)
  · match ds, h with
    | [d, e], _ => rfl
  · obtain ⟨x, r, rfl, hx, h⟩ := WX.cons (P := Try.prog) (t := 3) (ts := [30]) h
    obtain ⟨y, r, rfl, hy, h⟩ := WX.cons (P := Try.prog) (t := 30) (ts := []) h
    obtain rfl := h.nil
    obtain ⟨n, rfl, _⟩ := WT.int (P := Try.prog) Try.underlying3 hx
    obtain ⟨ys, tag, rfl, _, _, hl⟩ := WT.slice (P := Try.prog) Try.underlying30 hy
    exact (stampOnce_c n ys tag (fun y hy => WT.bool (P := Try.prog) Try.underlying4 (hl y hy))).calls _ _ rfl

theorem stampLeft_holds : Rows.StampLeftSaid :=
  OpenClaim.holds_of_wide 3 Try.f3 rfl rfl rfl rfl rfl rfl rfl ⟨rfl, rfl, rfl, rfl, rfl⟩ rfl rfl rfl rfl rfl (by kernel_rfl) Try.func3 (by kernel_rfl)
    (of_decide_eq_true (by kernel_rfl)) (by unfold Func.isWrapper; first | (rw [if_pos (by decide +kernel)]; kernel_rfl) | (rw [if_neg (by decide +kernel)]; exact ⟨rfl, rfl⟩))
    (fun os started H enc _ => stampLeft_lifted os started H enc)
theorem stampOnce_holds : Rows.StampOnceSaid :=
  OpenClaim.holds_of_wide 4 Try.f4 rfl rfl rfl rfl rfl rfl rfl ⟨rfl, rfl, rfl, rfl, rfl⟩ rfl rfl rfl rfl rfl (by kernel_rfl) Try.func4 (by kernel_rfl)
    (of_decide_eq_true (by kernel_rfl)) (by unfold Func.isWrapper; first | (rw [if_pos (by decide +kernel)]; kernel_rfl) | (rw [if_neg (by decide +kernel)]; exact ⟨rfl, rfl⟩))
    (fun os started H enc _ => stampOnce_lifted os started H enc)
end Go.Proofs.Ytefpdmjmemiahaa
