/-
  The walk of the law FnExactIsRecord.
-/
import Derived.Test.YtbfnicpamknlaaaRec
namespace Go.Proofs.Ytbfnicpamknlaaa
open Go.RowKit
set_option linter.unusedVariables false

theorem lawFnExactIsRecord (k i : Int) (w : World) (_ : (Lit.int .i64 k).wf = true) (_ : (Lit.int .i64 i).wf = true) :
    Calls Try.prog 3 #[rV k i] w fun e w' => e = .returned (.bool true) ∧ Below w.heap.size w w' := by
  go_enter Try.func3, Try.ntmps3
  go_wp2_with fail
  refine (toRecord_any k i _).mono ?_
  rintro e w1 ⟨rfl, hb1⟩
  have B1 := Lib.hid ((below1 _ _).trans (hb1.mono (by simp)))
  have X1 := Lib.hid ((boxR_new w k i 23).below hb1 (by simp))
  clear hb1
  go_wp2_with fail
  refine (specIsRecord_any k i _).mono ?_
  rintro e w2 ⟨rfl, hb2⟩
  have B2 := Lib.hid (B1.out.trans (hb2.mono B1.out.size))
  have X2 := Lib.hid (X1.out.below hb2 X1.out.lt)
  obtain ⟨_, c0, c1⟩ := X2.out
  clear hb2
  go_wp2_with fail
  refine (toRecord_any k i _).mono ?_
  rintro e w3 ⟨rfl, hb3⟩
  have B3 := Lib.hid (B2.out.trans (hb3.mono B2.out.size))
  clear hb3
  go_wp2_with fail
  refine (implIsRecord_any k i _).mono ?_
  rintro e w4 ⟨rfl, hb4⟩
  have B4 := Lib.hid (B3.out.trans (hb4.mono B3.out.size))
  clear hb4
  go_wp2_with fail
  go_ret
  exact ⟨rfl, B4.out⟩
end Go.Proofs.Ytbfnicpamknlaaa
