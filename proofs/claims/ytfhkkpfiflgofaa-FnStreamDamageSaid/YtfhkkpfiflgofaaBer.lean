/-
  The walk of berlekamp.
-/
import Derived.Test.YtfhkkpfiflgofaaTwo
import Derived.Test.YtfhkkpfiflgofaaCorI
import Derived.Test.YtfhkkpfiflgofaaRegs
import Derived.Laws.CopyOwn
namespace Go.Proofs.Ytfhkkpfiflgofaa
open Go.RowKit
set_option linter.unusedVariables false

end Go.Proofs.Ytfhkkpfiflgofaa
