/-
  The reference's correction.
-/
import Derived.Test.YtfhkkpfiflgofaaTwo
namespace Go.Proofs.Ytfhkkpfiflgofaa
open Go.RowKit
set_option linter.unusedVariables false

end Go.Proofs.Ytfhkkpfiflgofaa
