/-
  The parts Times, SpecTimes.
-/
import Derived.Test.YtdcmebegnekkcaaGreatOwn
import Derived.Test.YtdcmebegnekkcaaGreatPeel
/-
  The walk of times.
-/
namespace Go.Proofs.YtdcmebegnekkcaaGreat
open Go.RowKit
set_option linter.unusedVariables false

theorem drew1 (w : World) : Drew w w.drew := ⟨1, rfl⟩
theorem drew4 (w : World) (q : Nat) : Drew w (w.drewN q) := ⟨q, rfl⟩
end Go.Proofs.YtdcmebegnekkcaaGreat
/-
  The walk of the reference's product.
-/
namespace Go.Proofs.YtdcmebegnekkcaaGreat
open Go.RowKit
set_option linter.unusedVariables false

end Go.Proofs.YtdcmebegnekkcaaGreat
