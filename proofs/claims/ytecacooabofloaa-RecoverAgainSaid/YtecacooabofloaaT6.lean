/- The law RecoverAgain: for every input it returns true. No condition. -/
import Derived.Test.YtecacooabofloaaT5
import Derived.Test.YtecacooabofloaaL8
import Derived.Test.YtecacooabofloaaRows
/- The law RecoverAgain: for every input it returns true. No condition. -/
set_option linter.unusedVariables false
namespace Go.Proofs.Ytecacooabofloaa
open Go.Am Go.ChangeShapes Go.WideShapes Go.ChangeAt Go.RowKit
theorem Try.own : ownKnob Try.prog.godebug = none := by kernel_rfl
theorem Try.laidOut : laidOutB Try.prog = true := by kernel_rfl
set_option maxRecDepth 100000
theorem list_of {α : Type} {R : T → Prop} {f : α → T} {q : α → Prop} (hf : ∀ x, R x → ∃ a, x = f a ∧ q a) : ∀ {xs : List T}, (∀ y ∈ xs, R y) → ∃ l : List α, xs = l.map f ∧ ∀ a ∈ l, q a
  | [], _ => ⟨[], rfl, fun _ h => by cases h⟩
  | x :: xs, h => by
    obtain ⟨l, rfl, hl⟩ := list_of hf (fun y hy => h y (.tail _ hy))
    obtain ⟨a, rfl, ha⟩ := hf x (h x (.head _))
    exact ⟨a :: l, rfl, fun b hb => by rcases List.mem_cons.1 hb with rfl | hb; exact ha; exact hl b hb⟩
theorem rdV {d : Nat} {x : T} (h : WT Try.prog (d + 1 + 1) 23 x) : ∃ v : List Int, x = V v ∧ v.length = 8 := by
  obtain ⟨xs, rfl, hl, hx⟩ := WT.arr (P := Try.prog) Try.underlying23 h
  obtain ⟨l, rfl, _⟩ := list_of (f := U8) (q := fun _ => True) (fun x hx => by obtain ⟨n, rfl, _⟩ := WT.int (P := Try.prog) Try.underlying5 hx; exact ⟨n, rfl, trivial⟩) hx
  exact ⟨l, rfl, by simpa using hl⟩
theorem rdW {d : Nat} {x : T} (h : WT Try.prog (d + 1 + 1 + 1) 49 x) : ∃ w : Wr, x = tW w ∧ w.v.length = 8 := by
  obtain ⟨xs, rfl, hf⟩ := WT.struct (P := Try.prog) Try.underlying49 h
  obtain ⟨a, r, rfl, ha, hf⟩ := hf.cons
  obtain ⟨b, r, rfl, hb, hf⟩ := hf.cons
  obtain rfl := hf.nil
  obtain ⟨n, rfl, _⟩ := WT.int (P := Try.prog) Try.underlying3 ha
  obtain ⟨v, rfl, hv⟩ := rdV hb
  exact ⟨⟨n, v⟩, rfl, hv⟩
theorem rdL {d : Nat} {x : T} (h : WT Try.prog (d + 1 + 1 + 1 + 1) 39 x) : ∃ l : List Wr, x = Ls l ∧ ∀ w ∈ l, w.v.length = 8 := by
  obtain ⟨xs, rfl, _, hx⟩ := WT.slice (P := Try.prog) Try.underlying39 h
  obtain ⟨l, rfl, hl⟩ := list_of (f := tW) (q := fun w => w.v.length = 8) (fun x hx => rdW hx) hx
  exact ⟨l, rfl, hl⟩
theorem rdH {d : Nat} {x : T} (h : WT Try.prog (d + 1 + 1 + 1) 24 x) : ∃ l : List (List Int), x = HT l ∧ l.length = 32 := by
  obtain ⟨xs, rfl, hn, hx⟩ := WT.arr (P := Try.prog) Try.underlying24 h
  obtain ⟨l, rfl, hl⟩ := list_of (f := V) (q := fun v => v.length = 8) (fun x hx => rdV hx) hx
  exact ⟨l, rfl, by simpa using hn⟩
theorem rdNm {d : Nat} {x : T} (h : WT Try.prog (d + 1 + 1) 38 x) : ∃ n : Nm, x = tN n := by
  obtain ⟨xs, rfl, hf⟩ := WT.struct (P := Try.prog) Try.underlying38 h
  obtain ⟨a, r, rfl, ha, hf⟩ := hf.cons
  obtain ⟨b, r, rfl, hb, hf⟩ := hf.cons
  obtain ⟨c, r, rfl, hc, hf⟩ := hf.cons
  obtain rfl := hf.nil
  obtain ⟨a, rfl, _⟩ := WT.int (P := Try.prog) Try.underlying3 ha
  obtain ⟨b, rfl, _⟩ := WT.int (P := Try.prog) Try.underlying3 hb
  obtain ⟨c, rfl, _⟩ := WT.int (P := Try.prog) Try.underlying3 hc
  exact ⟨⟨a, b, c⟩, rfl⟩
theorem rdC {d : Nat} {x : T} (h : WT Try.prog (d + 1 + 1) 41 x) : ∃ a b : Int, x = .st [I a, I b] := by
  obtain ⟨xs, rfl, hf⟩ := WT.struct (P := Try.prog) Try.underlying41 h
  obtain ⟨a, r, rfl, ha, hf⟩ := hf.cons
  obtain ⟨b, r, rfl, hb, hf⟩ := hf.cons
  obtain rfl := hf.nil
  obtain ⟨a, rfl, _⟩ := WT.int (P := Try.prog) Try.underlying3 ha
  obtain ⟨b, rfl, _⟩ := WT.int (P := Try.prog) Try.underlying3 hb
  exact ⟨a, b, rfl⟩
theorem wf_i8 {n : Int} (h : (Lit.int .i8 n).wf = true) : -128 ≤ n ∧ n ≤ 127 := by
  simp only [Lit.wf, Bool.and_eq_true, decide_eq_true_eq] at h
  have h1 : IntKind.i8.min = -128 := rfl
  have h2 : IntKind.i8.max = 127 := rfl
  omega
theorem rdRc {d : Nat} {x : T} (h : WT Try.prog (d + 1 + 1 + 1 + 1 + 1) 43 x) : ∃ r : Rc, x = tR r ∧ RcOk r := by
  obtain ⟨xs, rfl, hf⟩ := WT.struct (P := Try.prog) Try.underlying43 h
  obtain ⟨k, r, rfl, hk, hf⟩ := hf.cons
  obtain ⟨n, r, rfl, hn, hf⟩ := hf.cons
  obtain ⟨y, r, rfl, hy, hf⟩ := hf.cons
  obtain ⟨ws, r, rfl, hws, hf⟩ := hf.cons
  obtain ⟨gg, r, rfl, hgg, hf⟩ := hf.cons
  obtain ⟨t, r, rfl, ht, hf⟩ := hf.cons
  obtain ⟨sh, r, rfl, hsh, hf⟩ := hf.cons
  obtain ⟨c, r, rfl, hc, hf⟩ := hf.cons
  obtain ⟨num, r, rfl, hnum, hf⟩ := hf.cons
  obtain rfl := hf.nil
  obtain ⟨k, rfl, hk8⟩ := WT.int (P := Try.prog) Try.underlying36 hk
  obtain ⟨n, rfl⟩ := rdNm hn
  obtain ⟨y, rfl⟩ := WT.bool (P := Try.prog) Try.underlying4 hy
  obtain ⟨ws, rfl, h8⟩ := rdL hws
  obtain ⟨gg, rfl, _⟩ := WT.int (P := Try.prog) Try.underlying3 hgg
  obtain ⟨t, rfl, _⟩ := WT.int (P := Try.prog) Try.underlying3 ht
  obtain ⟨sh, rfl, _⟩ := WT.int (P := Try.prog) Try.underlying3 hsh
  obtain ⟨c1, c2, rfl⟩ := rdC hc
  obtain ⟨num, rfl, _⟩ := WT.int (P := Try.prog) Try.underlying3 hnum
  exact ⟨⟨k, n, y, ws, gg, t, sh, c1, c2, num⟩, rfl, (wf_i8 hk8).1, (wf_i8 hk8).2, h8⟩
theorem rdLR {d : Nat} {x : T} (h : WT Try.prog (d + 1 + 1 + 1 + 1 + 1 + 1) 25 x) : ∃ l : List Rc, x = LR l ∧ ∀ r ∈ l, RcOk r := by
  obtain ⟨xs, rfl, _, hx⟩ := WT.slice (P := Try.prog) Try.underlying25 h
  obtain ⟨l, rfl, hl⟩ := list_of (f := tR) (q := RcOk) (fun x hx => rdRc hx) hx
  exact ⟨l, rfl, hl⟩

set_option maxRecDepth 100000 in
theorem recoverAgain_lifted (os : Os) (started : os.Started) (H : Type) (enc : TypeId × Value → H) :
    ReturnsInHanded {} Try.checked os 3 .any (Rows.recoverAgainSpec.pre6 enc Try.prog Try.f3 Rows.recoverAgainRow.domain false) (Rows.recoverAgainSpec.post enc Try.prog Try.f3 false true false false) := by
  refine law_lifted (C := Try.checked) 8 4 Try.own started (by kernel_rfl) Try.func3
    (ChangeSpec.witness6 (enc := enc) (C := Try.checked) false ⟨#[], #[.agg (Array.replicate 256 (.int .u8 0)), .slice none 0 0], []⟩ 8 (by kernel_rfl) (by kernel_rfl) (by kernel_rfl) (by kernel_rfl))
    Try.laidOut (by kernel_rfl) rfl rfl Try.underlying4 (fun ds h => ?_) (fun xs h => ?_)
  · match ds, h with
    | [d0, d1], _ => rfl
  · skip
    obtain ⟨x, r, rfl, hx, h⟩ := WX.cons (P := Try.prog) (t := 24) (ts := [25]) h
    obtain ⟨y, r, rfl, hy, h⟩ := WX.cons (P := Try.prog) (t := 25) (ts := []) h
    obtain rfl := h.nil
    obtain ⟨hm, rfl, h1⟩ := rdH hx
    obtain ⟨l, rfl, hl⟩ := rdLR hy
    exact (law_all hm l h1 hl).calls _ _ rfl
theorem recoverAgain_holds : Rows.RecoverAgainSaid :=
  OpenClaim.holds_of_wide 3 Try.f3 rfl rfl rfl rfl rfl rfl rfl ⟨rfl, rfl, rfl, rfl, rfl⟩ rfl rfl rfl rfl rfl (by kernel_rfl) Try.func3 (by kernel_rfl)
    (of_decide_eq_true (by kernel_rfl)) (by unfold Func.isWrapper; first | (rw [if_pos (by decide +kernel)]; kernel_rfl) | (rw [if_neg (by decide +kernel)]; exact ⟨rfl, rfl⟩))
    (fun os started H enc _ => recoverAgain_lifted os started H enc)
end Go.Proofs.Ytecacooabofloaa
