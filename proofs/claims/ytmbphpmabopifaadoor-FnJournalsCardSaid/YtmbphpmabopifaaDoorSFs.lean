/-
  The parts SpecAdd, SF.
-/
import Derived.Test.YtmbphpmabopifaaDoorOwn
import Derived.Test.YtmbphpmabopifaaDoorProd
/-
  The walk of the reference's sum.
-/
namespace Go.Proofs.YtmbphpmabopifaaDoor
open Go.RowKit
set_option linter.unusedVariables false

end Go.Proofs.YtmbphpmabopifaaDoor
/-
  The reference's arithmetic in one bundle; powers and inverses.
-/
namespace Go.Proofs.YtmbphpmabopifaaDoor
open Go.RowKit
set_option linter.unusedVariables false

/-- The reference's field is the field V. -/
structure SF (V : VF) (p pw g : Int) : Prop where
  hv : validB p pw g = true
  hV : V.F = ffOf p pw g
theorem SF.of {p pw g : Int} (hv : validB p pw g = true) : SF ⟨ffOf p pw g, ffOf_ok hv⟩ p pw g := ⟨hv, rfl⟩
/-- What is left of a power behind some squarings. -/
def PowLeft (V : VF) (a : Int) (n : Nat) (o a' : Int) (m : Nat) : Prop := V.F.el o ∧ V.F.el a' ∧ VF.of V o * VF.of V a' ^ m = VF.of V a ^ n
theorem sq_pow {K : Type} [CR K] (x : K) (k : Nat) : (x * x) ^ k = x ^ (2 * k) := by
  induction k with
  | zero => grind
  | succ k ih => rw [show 2 * (k + 1) = 2 * k + 1 + 1 by omega]; grind
theorem PowLeft.even {V : VF} {a o a' : Int} {n m : Nat} (h : PowLeft V a n o a' m) (hm : m % 2 = 0) : PowLeft V a n o (V.F.mul a' a') (m / 2) := by
  obtain ⟨h1, h2, h3⟩ := h
  refine ⟨h1, FF.mul_el V.ok _ _, ?_⟩
  rw [VF.of_mul h2 h2, sq_pow, show 2 * (m / 2) = m by omega]; exact h3
theorem PowLeft.odd {V : VF} {a o a' : Int} {n m : Nat} (h : PowLeft V a n o a' m) (hm : m % 2 = 1) : PowLeft V a n (V.F.mul o a') (V.F.mul a' a') (m / 2) := by
  obtain ⟨h1, h2, h3⟩ := h
  refine ⟨FF.mul_el V.ok _ _, FF.mul_el V.ok _ _, ?_⟩
  rw [VF.of_mul h2 h2, VF.of_mul h1 h2, sq_pow, ← h3]
  have e : m = 2 * (m / 2) + 1 := by omega
  generalize 2 * (m / 2) = k at *
  subst e; grind
theorem PowLeft.end {V : VF} {a o a' : Int} {n : Nat} (ha : V.F.el a) (h : PowLeft V a n o a' 0) : o = V.F.pow a n := by
  obtain ⟨h1, h2, h3⟩ := h
  refine VF.of_inj h1 (FF.pow_el V.ok _ _) ?_
  rw [VF.of_pow ha, ← h3]; grind
end Go.Proofs.YtmbphpmabopifaaDoor
