/-
  The walks of the reference's derivative, remainders, words of values, and values.
-/
import Derived.Test.YtfhkkpfiflgofaaEucP
import Derived.Test.YtfhkkpfiflgofaaEnc
namespace Go.Proofs.Ytfhkkpfiflgofaa
open Go.RowKit
set_option linter.unusedVariables false

/-- n times 1, as a number. -/
def nkI (V : VF) (n : Nat) : Int := (PS.nk n : El V).val
/-- The first k coefficients of a derivative. -/
def derTo (V : VF) (zs : List Int) (k : Nat) : List Int := (List.range k).map fun i => V.F.mul (gi zs (i + 1)) (nkI V (i + 1))
end Go.Proofs.Ytfhkkpfiflgofaa
