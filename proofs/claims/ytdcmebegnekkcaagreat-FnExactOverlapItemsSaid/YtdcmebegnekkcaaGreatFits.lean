/-
  The parts Fit, SpecFit.
-/
import Derived.Test.YtdcmebegnekkcaaGreatMathG
import Derived.Test.YtdcmebegnekkcaaGreatGens
import Derived.Test.YtdcmebegnekkcaaGreatGcds
import Derived.Test.YtdcmebegnekkcaaGreatSFs
/-
  The walk of the program's PolyFit.
-/
namespace Go.Proofs.YtdcmebegnekkcaaGreat
open Go.RowKit
set_option linter.unusedVariables false

open Classical in
noncomputable def fitC (p pw g : Int) (xs ys : List Int) : Int :=
  if validB p pw g = true then (if 64 < xs.length then 3 else if allB (ffOf p pw g) xs = true ∧ allB (ffOf p pw g) ys = true then (if xs.length = ys.length ∧ Apart xs xs.length then 0 else 5) else 2) else 1
open Classical in
/-- The polynomial through the points. -/
noncomputable def fitR (p pw g : Int) (xs ys : List Int) : List Int := if h : fitC p pw g xs ys = 0 ∧ validB p pw g = true then fitL (vfOf p pw g h.2) xs ys else []
end Go.Proofs.YtdcmebegnekkcaaGreat
/-
  The walk of the reference's PolyFit.
-/
namespace Go.Proofs.YtdcmebegnekkcaaGreat
open Go.RowKit
set_option linter.unusedVariables false

end Go.Proofs.YtdcmebegnekkcaaGreat
