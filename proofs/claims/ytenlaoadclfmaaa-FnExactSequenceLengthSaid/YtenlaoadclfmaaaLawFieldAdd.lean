/-
  FieldAdd of the program and FieldAdd of the reference agree at every field and all numbers. No condition.
-/
import Derived.Test.YtenlaoadclfmaaaFieldAdd
import Derived.Test.YtenlaoadclfmaaaRows
import Derived.ProofKit
import Derived.OpenShut
import Derived.ChangeOld
import Derived.Lib.SmallJoins
namespace Go.Proofs.Ytenlaoadclfmaaa
open Go.ChangeShapes Go.WideShapes Go.ChangeAt Go.RowKit Go.Joins
set_option linter.unusedVariables false

theorem toField_any (p pw g : Int) (w : World) :
    Calls Try.prog 16 #[fV p pw g] w fun e w' => e = .returned (fV p pw g) ∧ Below w.heap.size w w' := by
  go_enter Try.func16, Try.ntmps16
  go_wp2
  exact bodyPost_ret (v := fV p pw g) (by simp [results, Try.results16, go_sem]) rfl ⟨rfl, ((below1 _ _).alloc (by simp) _).alloc (by simp; omega) _⟩
end Go.Proofs.Ytenlaoadclfmaaa
