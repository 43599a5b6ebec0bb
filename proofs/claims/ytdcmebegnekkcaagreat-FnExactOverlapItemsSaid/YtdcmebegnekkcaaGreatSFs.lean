/-
  The parts SpecAdd, SF.
-/
import Derived.Test.YtdcmebegnekkcaaGreatOwn
import Derived.Test.YtdcmebegnekkcaaGreatProd
/-
  The walk of the reference's sum.
-/
namespace Go.Proofs.YtdcmebegnekkcaaGreat
open Go.RowKit
set_option linter.unusedVariables false

end Go.Proofs.YtdcmebegnekkcaaGreat
/-
  The reference's arithmetic in one bundle; powers and inverses.
-/
namespace Go.Proofs.YtdcmebegnekkcaaGreat
open Go.RowKit
set_option linter.unusedVariables false

/-- The reference's field is the field V. -/
structure SF (V : VF) (p pw g : Int) : Prop where
  hv : validB p pw g = true
  hV : V.F = ffOf p pw g
theorem SF.of {p pw g : Int} (hv : validB p pw g = true) : SF ⟨ffOf p pw g, ffOf_ok hv⟩ p pw g := ⟨hv, rfl⟩
theorem SF.mul {V : VF} {p pw g : Int} (h : SF V p pw g) (x y : Int) (hx : V.F.el x) (hy : V.F.el y) (W : World) :
    Calls Tryz.prog 79 #[fV p pw g, .int .i64 x, .int .i64 y] W fun e w' => e = .returned (.int .i64 (V.F.mul x y)) ∧ Below W.heap.size W w' := by
  have hV := h.hV; rw [hV] at hx hy ⊢; exact l02Mul_any p pw g h.hv x y hx hy W
theorem SF.size {V : VF} {p pw g : Int} (h : SF V p pw g) (W : World) :
    Calls Tryz.prog 74 #[fV p pw g] W fun e w' => e = .returned (.int .i64 V.F.size) ∧ Below W.heap.size W w' := by
  have hV := h.hV; rw [hV]; exact l02Size_any p pw g W (ranged_of h.hv)
/-- What is left of a power behind some squarings. -/
def PowLeft (V : VF) (a : Int) (n : Nat) (o a' : Int) (m : Nat) : Prop := V.F.el o ∧ V.F.el a' ∧ VF.of V o * VF.of V a' ^ m = VF.of V a ^ n
theorem PowLeft.end {V : VF} {a o a' : Int} {n : Nat} (ha : V.F.el a) (h : PowLeft V a n o a' 0) : o = V.F.pow a n := by
  obtain ⟨h1, h2, h3⟩ := h
  refine VF.of_inj h1 (FF.pow_el V.ok _ _) ?_
  rw [VF.of_pow ha, ← h3]; grind
end Go.Proofs.YtdcmebegnekkcaaGreat
