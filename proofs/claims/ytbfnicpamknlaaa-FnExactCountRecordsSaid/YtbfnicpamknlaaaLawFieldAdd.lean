/-
  FieldAdd of the program and FieldAdd of the reference agree at every field and all numbers. No condition.
-/
import Derived.Test.YtbfnicpamknlaaaFieldAdd
import Derived.Test.YtbfnicpamknlaaaRows
import Derived.ProofKit
import Derived.OpenShut
import Derived.ChangeOld
import Derived.Lib.SmallJoins
namespace Go.Proofs.Ytbfnicpamknlaaa
open Go.ChangeShapes Go.WideShapes Go.ChangeAt Go.RowKit Go.Joins
set_option linter.unusedVariables false

theorem toField_any (p pw g : Int) (w : World) :
    Calls Try.prog 23 #[fV p pw g] w fun e w' => e = .returned (fV p pw g) ∧ Below w.heap.size w w' := by
  go_enter Try.func23, Try.ntmps23
  go_wp2
  exact bodyPost_ret (v := fV p pw g) (by simp [results, Try.results23, go_sem]) rfl ⟨rfl, ((below1 _ _).alloc (by simp) _).alloc (by simp; omega) _⟩
theorem lawFnExactFieldAdd (p pw g x y : Int) (w : World) (_ : (Lit.int .i64 p).wf = true) (_ : (Lit.int .i64 pw).wf = true) (_ : (Lit.int .i64 g).wf = true) (_ : (Lit.int .i64 x).wf = true) (_ : (Lit.int .i64 y).wf = true) :
    Calls Try.prog 5 #[fV p pw g, .int .i64 x, .int .i64 y] w fun e w' => e = .returned (.bool true) ∧ Below w.heap.size w w' := by
  go_enter Try.func5, Try.ntmps5
  go_wp2_with fail
  refine (toField_any p pw g _).mono ?_
  rintro e w1 ⟨rfl, hb1⟩
  have B1 := Lib.hid ((below1 _ _).trans (hb1.mono (by simp)))
  have X1 := Lib.hid ((box_new w p pw g 41).below hb1 (by simp))
  clear hb1
  go_wp2_with fail
  refine (specFieldAdd_any p pw g x y _).mono ?_
  rintro e w2 ⟨rfl, hb2⟩
  have B2 := Lib.hid (B1.out.trans (hb2.mono B1.out.size))
  have hX2 := X1.out.below hb2 X1.out.lt
  have X2 := Lib.hid hX2
  obtain ⟨_, c0, c1, c2⟩ := hX2
  clear hb2
  go_wp2_with fail
  refine (toField_any p pw g _).mono ?_
  rintro e w3 ⟨rfl, hb3⟩
  have B3 := Lib.hid (B2.out.trans (hb3.mono B2.out.size))
  clear hb3
  go_wp2_with fail
  refine (implFieldAdd_any p pw g x y _).mono ?_
  rintro e w4 ⟨rfl, hb4⟩
  have B4 := Lib.hid (B3.out.trans (hb4.mono B3.out.size))
  clear hb4
  go_wp2_with fail
  go_ret
  exact ⟨rfl, B4.out⟩
end Go.Proofs.Ytbfnicpamknlaaa
