/-
  The walks of inverse and powers, out of a field's tables.
-/
import Derived.Test.YtbfnicpamknlaaaCalc
namespace Go.Proofs.Ytbfnicpamknlaaa
open Go.RowKit
set_option linter.unusedVariables false

end Go.Proofs.Ytbfnicpamknlaaa
