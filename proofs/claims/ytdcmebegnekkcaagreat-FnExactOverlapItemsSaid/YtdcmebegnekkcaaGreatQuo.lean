/-
  The parts Over, SpecDiv, Scaled.
-/
import Derived.Test.YtdcmebegnekkcaaGreatProd
import Derived.Test.YtdcmebegnekkcaaGreatMathG
import Derived.Test.YtdcmebegnekkcaaGreatSFs
/-
  The walk of over.
-/
namespace Go.Proofs.YtdcmebegnekkcaaGreat
open Go.RowKit
set_option linter.unusedVariables false

/-- Two results of one call, the second in blocks ahead of the first's. -/
def TwoL (w w' : World) (v v2 : Value) (zs zs2 : List Int) : Prop := ∃ mid, OwnL w' mid v zs ∧ OwnL w' w.heap.size v2 zs2 ∧ w.heap.size ≤ mid ∧ (∀ k, v2.ownBlock = some k → k < mid)
end Go.Proofs.YtdcmebegnekkcaaGreat
/-
  The walk of the reference's division.
-/
namespace Go.Proofs.YtdcmebegnekkcaaGreat
open Go.RowKit
set_option linter.unusedVariables false

end Go.Proofs.YtdcmebegnekkcaaGreat
/-
  The walk of scaled; copies by append out of a slice of another type.
-/
namespace Go.Proofs.YtdcmebegnekkcaaGreat
open Go.RowKit
set_option linter.unusedVariables false

end Go.Proofs.YtdcmebegnekkcaaGreat
