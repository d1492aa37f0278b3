/- The law RouteEven: for every input it returns true. No condition. -/
import Derived.Test.YtpjaijenjkcleaaS7
import Derived.Test.YtpjaijenjkcleaaAmW
import Derived.Test.YtpjaijenjkcleaaRows
set_option linter.unusedVariables false
namespace Go.Proofs.Ytpjaijenjkcleaa
open Go.Am Go.ChangeShapes Go.WideShapes Go.ChangeAt Go.RowKit

theorem Try.own : ownKnob Try.prog.godebug = none := by kernel_rfl
theorem Try.laidOut : laidOutB Try.prog = true := by kernel_rfl
theorem ints {d : Nat} {xs : List T} (h : ∀ y ∈ xs, WT Try.prog (d + 1) 3 y) : ∃ ms : List Int, xs = ms.map I := by
  induction xs with
  | nil => exact ⟨[], rfl⟩
  | cons x xs ih =>
    obtain ⟨ms, rfl⟩ := ih (fun y hy => h y (.tail _ hy))
    obtain ⟨n, rfl, _⟩ := WT.int (P := Try.prog) Try.underlying3 (h x (.head _))
    exact ⟨n :: ms, rfl⟩
theorem map8 {d : Nat} {x : T} (h : WT Try.prog (d + 1 + 1) 22 x) : ∃ ms : List Int, x = A ms ∧ ms.length = 8 := by
  obtain ⟨xs, rfl, hl, hx⟩ := WT.arr (P := Try.prog) Try.underlying22 h
  obtain ⟨ms, rfl⟩ := ints hx
  exact ⟨ms, rfl, by simpa using hl⟩

set_option maxRecDepth 100000 in
theorem routeEven_lifted (os : Os) (started : os.Started) (H : Type) (enc : TypeId × Value → H) :
    ReturnsInHanded {} Try.checked os 3 .any (Rows.routeEvenSpec.pre6 enc Try.prog Try.f3 Rows.routeEvenRow.domain false) (Rows.routeEvenSpec.post enc Try.prog Try.f3 false true false false) := by
  refine law_lifted (C := Try.checked) 6 4 Try.own started (by kernel_rfl) Try.func3
    (ChangeSpec.witness6 (enc := enc) (C := Try.checked) false ⟨#[], #[.agg #[.int .i64 0, .int .i64 0, .int .i64 0, .int .i64 0, .int .i64 0, .int .i64 0, .int .i64 0, .int .i64 0], .int .i64 0], []⟩ 8 (by kernel_rfl) (by kernel_rfl) (by kernel_rfl) (by kernel_rfl))
    Try.laidOut (by kernel_rfl) rfl rfl Try.underlying4 (fun ds h => ?_) (fun xs h => ?_)
  · match ds, h with
    | [d, e], _ => rfl
  · obtain ⟨x, r, rfl, hx, h⟩ := WX.cons (P := Try.prog) (t := 22) (ts := [3]) h
    obtain ⟨y, r, rfl, hy, h⟩ := WX.cons (P := Try.prog) (t := 3) (ts := []) h
    obtain rfl := h.nil
    obtain ⟨ms, rfl, hl⟩ := map8 hx
    obtain ⟨n, rfl, _⟩ := WT.int (P := Try.prog) Try.underlying3 hy
    exact (routeEven_c ms n hl).calls _ _ rfl
theorem routeEven_holds : Rows.RouteEvenSaid :=
  OpenClaim.holds_of_wide 3 Try.f3 rfl rfl rfl rfl rfl rfl rfl ⟨rfl, rfl, rfl, rfl, rfl⟩ rfl rfl rfl rfl rfl (by kernel_rfl) Try.func3 (by kernel_rfl)
    (of_decide_eq_true (by kernel_rfl)) (by unfold Func.isWrapper; first | (rw [if_pos (by decide +kernel)]; kernel_rfl) | (rw [if_neg (by decide +kernel)]; exact ⟨rfl, rfl⟩))
    (fun os started H enc _ => routeEven_lifted os started H enc)
end Go.Proofs.Ytpjaijenjkcleaa
