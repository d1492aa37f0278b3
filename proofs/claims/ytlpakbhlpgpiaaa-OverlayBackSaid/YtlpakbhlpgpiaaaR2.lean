/- The law OverlayBack: for every input it returns true. No condition. -/
import Derived.Test.YtlpakbhlpgpiaaaS6
import Derived.Test.YtlpakbhlpgpiaaaAmW
import Derived.Test.YtlpakbhlpgpiaaaRows
set_option linter.unusedVariables false
namespace Go.Proofs.Ytlpakbhlpgpiaaa
open Go.Am Go.ChangeShapes Go.WideShapes Go.ChangeAt Go.RowKit
theorem Try.own : ownKnob Try.prog.godebug = none := by kernel_rfl
theorem Try.laidOut : laidOutB Try.prog = true := by kernel_rfl
theorem list_of {α : Type} {R : T → Prop} {f : α → T} {q : α → Prop} (hf : ∀ x, R x → ∃ a, x = f a ∧ q a) : ∀ {xs : List T}, (∀ y ∈ xs, R y) → ∃ l : List α, xs = l.map f ∧ ∀ a ∈ l, q a
  | [], _ => ⟨[], rfl, fun _ h => by cases h⟩
  | x :: xs, h => by
    obtain ⟨l, rfl, hl⟩ := list_of hf (fun y hy => h y (.tail _ hy))
    obtain ⟨a, rfl, ha⟩ := hf x (h x (.head _))
    exact ⟨a :: l, rfl, fun b hb => by rcases List.mem_cons.1 hb with rfl | hb; exact ha; exact hl b hb⟩
theorem rdV {d : Nat} {x : T} (h : WT Try.prog (d + 1 + 1) 24 x) : ∃ v : List Int, x = V v ∧ v.length = 8 := by
  obtain ⟨xs, rfl, hl, hx⟩ := WT.arr (P := Try.prog) Try.underlying24 h
  obtain ⟨l, rfl, _⟩ := list_of (f := U8) (q := fun _ => True) (fun x hx => by obtain ⟨n, rfl, _⟩ := WT.int (P := Try.prog) Try.underlying5 hx; exact ⟨n, rfl, trivial⟩) hx
  exact ⟨l, rfl, by simpa using hl⟩
theorem rdW {d : Nat} {x : T} (h : WT Try.prog (d + 1 + 1 + 1) 26 x) : ∃ w : Wr, x = tW w ∧ w.v.length = 8 := by
  obtain ⟨xs, rfl, hf⟩ := WT.struct (P := Try.prog) Try.underlying26 h
  obtain ⟨a, r, rfl, ha, hf⟩ := hf.cons
  obtain ⟨b, r, rfl, hb, hf⟩ := hf.cons
  obtain rfl := hf.nil
  obtain ⟨n, rfl, _⟩ := WT.int (P := Try.prog) Try.underlying3 ha
  obtain ⟨v, rfl, hv⟩ := rdV hb
  exact ⟨⟨n, v⟩, rfl, hv⟩
theorem rdL {d : Nat} {x : T} (h : WT Try.prog (d + 1 + 1 + 1 + 1) 22 x) : ∃ l : List Wr, x = Ls l ∧ ∀ w ∈ l, w.v.length = 8 := by
  obtain ⟨xs, rfl, _, hx⟩ := WT.slice (P := Try.prog) Try.underlying22 h
  obtain ⟨l, rfl, hl⟩ := list_of (f := tW) (q := fun w => w.v.length = 8) (fun x hx => rdW hx) hx
  exact ⟨l, rfl, hl⟩
theorem rdH {d : Nat} {x : T} (h : WT Try.prog (d + 1 + 1 + 1) 36 x) : ∃ l : List (List Int), x = HT l ∧ l.length = 32 ∧ ∀ v ∈ l, v.length = 8 := by
  obtain ⟨xs, rfl, hn, hx⟩ := WT.arr (P := Try.prog) Try.underlying36 h
  obtain ⟨l, rfl, hl⟩ := list_of (f := V) (q := fun v => v.length = 8) (fun x hx => rdV hx) hx
  exact ⟨l, rfl, by simpa using hn, hl⟩

set_option maxRecDepth 100000 in
theorem overlayBack_lifted (os : Os) (started : os.Started) (H : Type) (enc : TypeId × Value → H) :
    ReturnsInHanded {} Try.checked os 4 .any (Rows.overlayBackSpec.pre6 enc Try.prog Try.f4 Rows.overlayBackRow.domain false) (Rows.overlayBackSpec.post enc Try.prog Try.f4 false true false false) := by
  refine law_lifted (C := Try.checked) 6 4 Try.own started (by kernel_rfl) Try.func4
    (ChangeSpec.witness6 (enc := enc) (C := Try.checked) false ⟨#[], #[.agg (Array.replicate 256 (.int .u8 0)), .slice none 0 0, .slice none 0 0, .agg #[.int .i64 0, .int .u8 0, .int .u8 0, .int .u8 0, .int .u8 0, .int .u8 0, .int .u8 0, .int .u8 0, .int .u8 0]], []⟩ 8 (by kernel_rfl) (by kernel_rfl) (by kernel_rfl) (by kernel_rfl))
    Try.laidOut (by kernel_rfl) rfl rfl Try.underlying4 (fun ds h => ?_) (fun xs h => ?_)
  · match ds, h with
    | [d0, d1, d2, d3], _ => rfl
  · skip
    obtain ⟨x, r, rfl, hx, h⟩ := WX.cons (P := Try.prog) (t := 36) (ts := [22, 22, 26]) h
    obtain ⟨y, r, rfl, hy, h⟩ := WX.cons (P := Try.prog) (t := 22) (ts := [22, 26]) h
    obtain ⟨z, r, rfl, hz, h⟩ := WX.cons (P := Try.prog) (t := 22) (ts := [26]) h
    obtain ⟨q, r, rfl, hq, h⟩ := WX.cons (P := Try.prog) (t := 26) (ts := []) h
    obtain rfl := h.nil
    obtain ⟨hm, rfl, h1, h2⟩ := rdH hx
    obtain ⟨l, rfl, hl⟩ := rdL hy
    obtain ⟨k, rfl, hk⟩ := rdL hz
    obtain ⟨w, rfl, hw⟩ := rdW hq
    exact (back_all hm l k w h1 h2 hl hk hw).calls _ _ rfl
theorem overlayBack_holds : Rows.OverlayBackSaid :=
  OpenClaim.holds_of_wide 4 Try.f4 rfl rfl rfl rfl rfl rfl rfl ⟨rfl, rfl, rfl, rfl, rfl⟩ rfl rfl rfl rfl rfl (by kernel_rfl) Try.func4 (by kernel_rfl)
    (of_decide_eq_true (by kernel_rfl)) (by unfold Func.isWrapper; first | (rw [if_pos (by decide +kernel)]; kernel_rfl) | (rw [if_neg (by decide +kernel)]; exact ⟨rfl, rfl⟩))
    (fun os started H enc _ => overlayBack_lifted os started H enc)
end Go.Proofs.Ytlpakbhlpgpiaaa
