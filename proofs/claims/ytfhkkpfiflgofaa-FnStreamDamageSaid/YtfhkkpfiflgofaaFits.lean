/-
  The parts Fit, SpecFit.
-/
import Derived.Test.YtfhkkpfiflgofaaMathG
import Derived.Test.YtfhkkpfiflgofaaGens
import Derived.Test.YtfhkkpfiflgofaaGcds
import Derived.Test.YtfhkkpfiflgofaaSFs
/-
  The walk of the program's PolyFit.
-/
namespace Go.Proofs.Ytfhkkpfiflgofaa
open Go.RowKit
set_option linter.unusedVariables false

/-- A value as the program reckons it. -/
theorem evI_of {V : VF} {l : List Int} (hl : VF.els V l) {x : Int} (hx : V.F.el x) : VF.of V (evI V.F l x) = PS.ev (VF.ps V l) (VF.of V x) := by
  show _ = VF.evl V l x
  induction l with
  | nil => rw [VF.evl_nil]; exact VF.of_zero
  | cons a l ih =>
    have h := VF.els_cons.1 hl
    rw [VF.evl_cons, ← ih h.2]
    show VF.of V (V.F.add (V.F.mul (evI V.F l x) x) a) = _
    rw [VF.of_add (FF.mul_el V.ok _ _) h.1, VF.of_mul (evI_el V.ok h.2 x) hx]; grind
theorem evI_lst {V : VF} {f : PS (El V)} (hf : f.IsPoly) {x : Int} (hx : V.F.el x) : VF.of V (evI V.F (VF.lst V f) x) = PS.ev f (VF.of V x) := by
  rw [evI_of (VF.lst_isP hf).els hx, VF.lst_eq hf]
open Classical in
noncomputable def fitC (p pw g : Int) (xs ys : List Int) : Int :=
  if validB p pw g = true then (if 64 < xs.length then 3 else if allB (ffOf p pw g) xs = true ∧ allB (ffOf p pw g) ys = true then (if xs.length = ys.length ∧ Apart xs xs.length then 0 else 5) else 2) else 1
open Classical in
/-- The polynomial through the points. -/
noncomputable def fitR (p pw g : Int) (xs ys : List Int) : List Int := if h : fitC p pw g xs ys = 0 ∧ validB p pw g = true then fitL (vfOf p pw g h.2) xs ys else []
end Go.Proofs.Ytfhkkpfiflgofaa
/-
  The walk of the reference's PolyFit.
-/
namespace Go.Proofs.Ytfhkkpfiflgofaa
open Go.RowKit
set_option linter.unusedVariables false

end Go.Proofs.Ytfhkkpfiflgofaa
