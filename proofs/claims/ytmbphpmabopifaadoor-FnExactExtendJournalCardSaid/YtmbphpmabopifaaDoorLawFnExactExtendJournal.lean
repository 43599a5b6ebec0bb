/-
  The walk of the law FnExactExtendJournal.
-/
import Derived.Test.YtmbphpmabopifaaDoorRcvM
namespace Go.Proofs.YtmbphpmabopifaaDoor
open Go.RowKit
set_option linter.unusedVariables false

set_option maxHeartbeats 4000000 in
set_option maxRecDepth 100000 in
theorem lawFnExactExtendJournal (S : List UInt8) (k i : Int) (w : World) (_ : (Lit.int .i64 k).wf = true) (_ : (Lit.int .i64 i).wf = true) (hG : Glob w) :
    Calls Tryd.prog 6 #[.string (str S), rV k i] w fun e w' => e = .returned (.bool true) ∧ Below w.heap.size w w' := by
  have hsz := str_size S
  have HG := Lib.hid (fun w' (hb : Below w.heap.size w w') => hG.below hb)
  clear hG
  have X0 := Lib.hid (boxR_new w k i 34)
  have B0 := Lib.hid (below1 w (.cells #[.int .i64 k, .int .i64 i] 34))
  by_cases hB : S.length ≤ 1048576
  rotate_left
  · have hB' : (1048576 : Int) < (S.length : Int) := by omega
    clear hB
    go_enter Tryd.func6, Tryd.ntmps6
    go_wp2_with fail
    go_ret
    exact ⟨rfl, B0.out⟩
  have hB' : ¬ (1048576 : Int) < (S.length : Int) := by omega
  have hb : S.length ≤ 4611686018427387903 := by omega
  clear hB
  go_enter Tryd.func6, Tryd.ntmps6
  have c0 := X0.out.c0
  have c1 := X0.out.c1
  go_wp2_with fail
  refine (toRecord_any k i _).mono ?_
  rintro e w1 ⟨rfl, hb1⟩
  have X1 := Lib.hid (X0.out.below hb1 X0.out.lt)
  have B1 := Lib.hid (B0.out.trans (hb1.mono B0.out.size))
  clear hb1 c0 c1 X0 B0
  go_wp2_with fail
  refine (specExtendJournal_any S hb k i _).mono ?_
  rintro e w2 ⟨rfl, hb2⟩
  have X2 := Lib.hid (X1.out.below hb2 X1.out.lt)
  have B2 := Lib.hid (B1.out.trans (hb2.mono B1.out.size))
  have c0 := X2.out.c0
  have c1 := X2.out.c1
  have hX2 := X2.out.lt
  clear hb2 X1 B1
  go_wp2_with fail
  refine (toRecord_any k i _).mono ?_
  rintro e w3 ⟨rfl, hb3⟩
  have B3 := Lib.hid (B2.out.trans (hb3.mono B2.out.size))
  clear hb3 c0 c1
  go_wp2_with fail
  refine (implExtendJournal_any S hb k i (HG.out _ B3.out)).mono ?_
  rintro e w4 ⟨rfl, hb4⟩
  have B4 := Lib.hid (B3.out.trans (hb4.mono B3.out.size))
  clear hb4
  generalize str (extV S k i) = T at *
  generalize extC S k i = y at *
  have hq2 : (y != y) = false := by simp
  go_wp2_with fail
  go_ret
  exact ⟨rfl, B4.out⟩
end Go.Proofs.YtmbphpmabopifaaDoor
