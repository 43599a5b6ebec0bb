/-
  The parts PolyDiv, PolyGcd.
-/
import Derived.Test.YtdcmebegnekkcaaGreatGens
import Derived.Test.YtdcmebegnekkcaaGreatOwn
import Derived.Test.YtdcmebegnekkcaaGreatQuo
/-
  The walks of the two PolyDiv.
-/
namespace Go.Proofs.YtdcmebegnekkcaaGreat
open Go.RowKit
set_option linter.unusedVariables false

noncomputable def divC (p pw g : Int) (x y : List Int) : Int := if codeP p pw g [x, y] = 0 then (if y = [] then 5 else 0) else codeP p pw g [x, y]
noncomputable def divQ (p pw g : Int) (x y : List Int) : List Int := if y = [] then [] else onP p pw g [x, y] fun V => (VF.dqr V x y).1
noncomputable def divR (p pw g : Int) (x y : List Int) : List Int := if y = [] then [] else onP p pw g [x, y] fun V => (VF.dqr V x y).2
/-- Two results that share no memory: the second in blocks ahead of the first's. -/
def Res2 (w w' : World) (v v2 : Value) (zs zs2 : List Int) : Prop := ∃ mid a cap a2 cap2, v = .slice a zs.length cap ∧ v2 = .slice a2 zs2.length cap2 ∧ w.heap.size ≤ mid ∧ mid ≤ w'.heap.size ∧ Own w' mid w'.heap.size a zs.length zs ∧ Own w' w.heap.size mid a2 zs2.length zs2
theorem Res2.none (w w' : World) (h : Below w.heap.size w w') : Res2 w w' (.slice none 0 0) (.slice none 0 0) [] [] :=
  ⟨w.heap.size, _, _, _, _, rfl, rfl, Nat.le_refl _, h.size, ⟨OwnAt.nil _ _ _, fun h => by simp at h⟩, ⟨OwnAt.nil _ _ _, fun h => by simp at h⟩⟩
theorem TwoL.res {w W w' : World} {v v2 : Value} {zs zs2 : List Int} (h : TwoL W w' v v2 zs zs2) (hb : w.heap.size ≤ W.heap.size) : Res2 w w' v v2 zs zs2 := by
  obtain ⟨mid, h1, h2, h3, h4⟩ := h
  obtain ⟨a, c, rfl, _, ho⟩ := h1.shape
  obtain ⟨a2, c2, rfl, _, ho2⟩ := h2.shape
  refine ⟨mid, _, _, _, _, rfl, rfl, by omega, h1.1, Own.of ho, ⟨ho2.mono hb, fun hn x hx => ?_⟩⟩
  subst hx
  exact h4 _ rfl
end Go.Proofs.YtdcmebegnekkcaaGreat
/-
  The walks of the two PolyGcd.
-/
namespace Go.Proofs.YtdcmebegnekkcaaGreat
open Go.RowKit
set_option linter.unusedVariables false

/-- Euclid's sums: both reckon the remainders in turn. -/
noncomputable def gcdTo (V : VF) : Nat → List Int → List Int → List Int
  | 0, a, _ => a
  | f + 1, a, b => if b = [] then a else gcdTo V f b (VF.dqr V a b).2
theorem gcdTo_nil (V : VF) (f : Nat) (a : List Int) : gcdTo V f a [] = a := by
  cases f with
  | zero => rfl
  | succ f => unfold gcdTo; rw [if_pos rfl]
theorem gcdTo_step (V : VF) {f : Nat} {a b : List Int} (hb : b ≠ []) : gcdTo V (f + 1) a b = gcdTo V f b (VF.dqr V a b).2 := by
  conv => lhs; unfold gcdTo
  rw [if_neg hb]
/-- The last polynomial, made to end in 1. -/
noncomputable def monic (V : VF) (a : List Int) : List Int := VF.lst V (PS.C (VF.of V (V.F.inv (gi a (a.length - 1)))) * VF.ps V a)
noncomputable def gcdL (V : VF) (x y : List Int) : List Int := monic V (gcdTo V (y.length + 1) x y)
/-- What holds of the two lists at every round's head. -/
structure GcdInv (V : VF) (x y : List Int) (f : Nat) (a b : List Int) : Prop where
  ha : VF.isP V a
  hb : VF.isP V b
  ne : a ≠ [] ∨ b ≠ []
  eq : gcdTo V (y.length + 1) x y = gcdTo V f a b
  lt : b.length < f
  la : a.length ≤ 4096
  lb : b.length ≤ 4096
theorem GcdInv.start {V : VF} {x y : List Int} (hx : VF.isP V x) (hy : VF.isP V y) (hne : x ≠ [] ∨ y ≠ []) (h1 : x.length ≤ 512) (h2 : y.length ≤ 512) : GcdInv V x y (y.length + 1) x y :=
  ⟨hx, hy, hne, rfl, by omega, by omega, by omega⟩
theorem GcdInv.step {V : VF} {x y : List Int} {f : Nat} {a b q r : List Int} (h : GcdInv V x y (f + 1) a b) (hb : b ≠ []) (hd : VF.DivOf V a b q r) : GcdInv V x y f b r := by
  have e := VF.dqr_of h.hb hd
  have hl := hd.len
  have hlt := h.lt
  have hlb := h.lb
  refine ⟨h.hb, hd.hr, .inl hb, ?_, by omega, by omega, by omega⟩
  rw [h.eq, gcdTo_step V hb, e]
theorem GcdInv.done {V : VF} {x y : List Int} {f : Nat} {a : List Int} (h : GcdInv V x y f a []) : gcdL V x y = monic V a ∧ a ≠ [] := by
  unfold gcdL
  rw [h.eq, gcdTo_nil]
  exact ⟨rfl, h.ne.resolve_right (fun h => h rfl)⟩
noncomputable def gcdC (p pw g : Int) (x y : List Int) : Int := if codeP p pw g [x, y] = 0 then (if x = [] ∧ y = [] then 5 else 0) else codeP p pw g [x, y]
noncomputable def gcdR (p pw g : Int) (x y : List Int) : List Int := if x = [] ∧ y = [] then [] else onP p pw g [x, y] fun V => gcdL V x y
end Go.Proofs.YtdcmebegnekkcaaGreat
