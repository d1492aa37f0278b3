/- A layer over the walk's rules. This text: the moves in a region that draws its order. -/
import Derived.Test.YtlpakbhlpgpiaaaAmP
import Derived.Test.YtlpakbhlpgpiaaaAmD
set_option linter.unusedVariables false
namespace Go.Am
variable {P : Program} {S E : List Nat} {N : Nat} {l : List Oper} {t0 t : List (Nat × T × TypeId)} {Q : St → Prop} {rest : List Oper} {tab : List (List Nat × List Nat)} {bef ks : List Nat} {i : Nat} {db : Db} {H : List AO} {U : Tips}
variable {d : Option Nat} {op : Op} {ty : TypeId} {p : String} {af : Array Edge} {g : Option (Nat × Bool)}

def GuardOk (l : List Oper) (V : List (Nat × T × TypeId)) : Option (Nat × Bool) → Prop
  | none => True
  | some (j, want) => ∃ k ty, (l[j]?).bind (·.dst) = some k ∧ lk V k = some (.s (.bool want), ty)
theorem Ev.of {V : List (Nat × T × TypeId)} {h h' : List AO} {u u' : Tips} {x : X} (hg : GuardOk l V g) (he : EvS P N ⟨d, op, ty, p, af, none⟩ V h u x h' u') : Ev P N l ⟨d, op, ty, p, af, g⟩ V h u x h' u' := by
  cases g with
  | none => exact he
  | some gw =>
    obtain ⟨j, want⟩ := gw
    obtain ⟨k, tb, h1, h2⟩ := hg
    exact ⟨k, _, tb, h1, h2, .inl ⟨rfl, he⟩⟩
theorem D.free {V : List (Nat × T × TypeId)} {x : X} (hd : dstOk ⟨N, [], [], U⟩ d = true) (hV : pickOut ks (selD db bef ++ t0) = V) (hg : GuardOk l V g)
    (he : ∀ h u, OPE P ⟨d, op, ty, p, af, none⟩ ⟨N, V, h, u⟩ fun x' h2 u2 => x' = x ∧ h2 = h ∧ u2 = u) (hk : DP P S E N l t0 Q rest tab (i + 1) (addD i d x db) (addT d x t) H U) : DP P S E N l t0 Q (⟨d, op, ty, p, af, g⟩ :: rest) ((bef, ks) :: tab) i db t H U := by
  subst hV
  exact ⟨hd, .inl ⟨x, fun h u => Ev.of hg (he h u), hk⟩⟩
theorem D.sens {V : List (Nat × T × TypeId)} {x : X} {H' : List AO} {U' : Tips} (hd : dstOk ⟨N, [], [], U⟩ d = true) (hS : memB S i = true) (hV : pickOut ks (selD db bef ++ t0) = V) (hg : GuardOk l V g)
    (he : OPE P ⟨d, op, ty, p, af, none⟩ ⟨N, V, H, U⟩ fun x' h2 u2 => x' = x ∧ h2 = H' ∧ u2 = U') (hE : memB E i = true ∨ (H' = H ∧ U' = U)) (hk : DP P S E N l t0 Q rest tab (i + 1) (addD i d x db) (addT d x t) H' U') : DP P S E N l t0 Q (⟨d, op, ty, p, af, g⟩ :: rest) ((bef, ks) :: tab) i db t H U := by
  subst hV
  exact ⟨hd, .inr ⟨hS, x, H', U', Ev.of hg he, hE, hk⟩⟩
theorem D.skip {j k : Nat} {b want : Bool} {tb : TypeId} {V : List (Nat × T × TypeId)} (hd : dstOk ⟨N, [], [], U⟩ d = true) (hV : pickOut ks (selD db bef ++ t0) = V) (hj : (l[j]?).bind (·.dst) = some k) (hl : lk V k = some (.s (.bool b), tb)) (hb : (b == want) = false)
    (hk : DP P S E N l t0 Q rest tab (i + 1) (addD i d (.any, 0) db) (addT d (.any, 0) t) H U) : DP P S E N l t0 Q (⟨d, op, ty, p, af, some (j, want)⟩ :: rest) ((bef, ks) :: tab) i db t H U := by
  subst hV
  have hb' : b = !want := by cases b <;> cases want <;> simp_all
  subst hb'
  exact ⟨hd, .inl ⟨_, fun h u => ⟨k, _, tb, hj, hl, .inr ⟨.inl rfl, rfl, rfl, rfl⟩⟩, hk⟩⟩
theorem D.skipU {j k : Nat} {want : Bool} {tb : TypeId} {V : List (Nat × T × TypeId)} (hd : dstOk ⟨N, [], [], U⟩ d = true) (hV : pickOut ks (selD db bef ++ t0) = V) (hj : (l[j]?).bind (·.dst) = some k) (hl : lk V k = some (.any, tb))
    (hk : DP P S E N l t0 Q rest tab (i + 1) (addD i d (.any, 0) db) (addT d (.any, 0) t) H U) : DP P S E N l t0 Q (⟨d, op, ty, p, af, some (j, want)⟩ :: rest) ((bef, ks) :: tab) i db t H U := by
  subst hV
  exact ⟨hd, .inl ⟨_, fun h u => ⟨k, _, tb, hj, hl, .inr ⟨.inr rfl, rfl, rfl, rfl⟩⟩, hk⟩⟩
theorem D.nil {Q : St → Prop} (h : Q ⟨N, t, H, U⟩) : DP P S E N l t0 Q [] tab i db t H U := h
theorem D.fn {V : List (Nat × T × TypeId)} {f : FuncId} {os : List Operand} {ats : Array TypeId} {xs : List X} {r : X} (hd : dstOk ⟨N, [], [], U⟩ d = true) (hf : Ans P f xs r) (he : enters P f = true)
    (hV : pickOut ks (selD db bef ++ t0) = V) (hg : GuardOk l V g) (ha : ∀ h u, Args P ⟨N, V, h, u⟩ os xs) (hk : DP P S E N l t0 Q rest tab (i + 1) (addD i d r db) (addT d r t) H U) :
    DP P S E N l t0 Q (⟨d, .call { callee := .value (.func f), args := os.toArray, argTypes := ats }, ty, p, af, g⟩ :: rest) ((bef, ks) :: tab) i db t H U :=
  D.free hd hV hg (fun h u => OPE.call he (ha h u) (hf.calls h u ⟨rfl, rfl, rfl⟩)) hk
end Go.Am
