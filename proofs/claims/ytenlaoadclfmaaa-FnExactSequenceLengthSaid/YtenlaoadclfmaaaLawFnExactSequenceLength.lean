/-
  The walk of the law FnExactSequenceLength.
-/
import Derived.Test.YtenlaoadclfmaaaSeqLen
import Derived.Test.YtenlaoadclfmaaaOwn
import Derived.Test.YtenlaoadclfmaaaFrame
namespace Go.Proofs.Ytenlaoadclfmaaa
open Go.RowKit
set_option linter.unusedVariables false

set_option maxHeartbeats 4000000 in
set_option maxRecDepth 100000 in
theorem lawFnExactSequenceLength (p pw g : Int) (s0 : Option Addr) (n0 cap0 : Nat) (z0 : List Int) (w : World) (_ : (Lit.int .i64 p).wf = true) (_ : (Lit.int .i64 pw).wf = true) (_ : (Lit.int .i64 g).wf = true) (hr0 : RowAt w s0 n0 z0) :
    Calls Try.prog 13 #[fV p pw g, .slice s0 n0 cap0] w fun e w' => e = .returned (.bool true) ∧ Below w.heap.size w w' := by
  have HR0 := Lib.hid hr0
  have hsm0 := hr0.small
  clear hr0
  by_cases hn0 : n0 ≤ 1048576
  rotate_left
  · go_enter Try.func13, Try.ntmps13
    go_wp2_with fail
    go_ret
    exact ⟨rfl, below1 _ _⟩
  go_enter Try.func13, Try.ntmps13
  go_wp2_with fail
  refine (toField_any p pw g _).mono ?_
  rintro e w1 ⟨rfl, hb1⟩
  have B1 := Lib.hid ((below1 _ _).trans (hb1.mono (by simp)))
  have S1 := Lib.hid B1.out.size
  have X1 := Lib.hid ((box_new w p pw g 23).below hb1 (by simp))
  clear hb1
  have S1 := Lib.hid X1.out.lt
  go_wp2_with fail
  refine (toRow_any (HR0.out.below' B1.out) hn0).mono ?_
  rintro e w2 ⟨a2, cp2, rfl, hb2, ho2, hca2, hcb2⟩
  have CA2 := Lib.hid hca2
  have CB2 := Lib.hid hcb2
  clear hca2 hcb2
  have B2 := Lib.hid (B1.out.trans (hb2.mono B1.out.size))
  have S2 := Lib.hid (show w1.heap.size ≤ w2.heap.size from hb2.size)
  have X2 := Lib.hid (X1.out.below hb2 X1.out.lt)
  have O2 := Lib.hid (Own.of ho2)
  clear hb2 ho2
  go_wp2_with fail
  refine (specSeqLen_any p pw g _ O2.out.row).mono ?_
  rintro e w3 ⟨rfl, hb3⟩
  have B3 := Lib.hid (B2.out.trans (hb3.mono B2.out.size))
  have S3 := Lib.hid (show w2.heap.size ≤ w3.heap.size from hb3.size)
  have O2_3 := Lib.hid (O2.out.below hb3)
  have X3 := Lib.hid (X2.out.below hb3 X2.out.lt)
  clear hb3
  go_wp2_with fail
  refine (toRow_any (HR0.out.below' B3.out) hn0).mono ?_
  rintro e w4 ⟨a4, cp4, rfl, hb4, ho4, hca4, hcb4⟩
  have CA4 := Lib.hid hca4
  have CB4 := Lib.hid hcb4
  clear hca4 hcb4
  have B4 := Lib.hid (B3.out.trans (hb4.mono B3.out.size))
  have S4 := Lib.hid (show w3.heap.size ≤ w4.heap.size from hb4.size)
  have X4 := Lib.hid (X3.out.below hb4 X3.out.lt)
  have O4 := Lib.hid (Own.of ho4)
  clear hb4 ho4
  obtain ⟨_, c0, c1, c2⟩ := X4.out
  go_wp2_with fail
  refine (toField_any p pw g _).mono ?_
  rintro e w5 ⟨rfl, hb5⟩
  have B5 := Lib.hid (B4.out.trans (hb5.mono B4.out.size))
  have S5 := Lib.hid (show w4.heap.size ≤ w5.heap.size from hb5.size)
  have O4_5 := Lib.hid (O4.out.below hb5)
  have X5 := Lib.hid (X4.out.below hb5 X4.out.lt)
  clear hb5
  clear c0 c1 c2
  go_wp2_with fail
  refine (implSeqLen_any p pw g _ O4_5.out.row).mono ?_
  rintro e w6 ⟨rfl, hb6⟩
  have B6 := Lib.hid (B5.out.trans (hb6.mono B5.out.size))
  have S6 := Lib.hid (show w5.heap.size ≤ w6.heap.size from hb6.size)
  have O4_6 := Lib.hid (O4_5.out.below hb6)
  have X6 := Lib.hid (X5.out.below hb6 X5.out.lt)
  clear hb6
  go_wp2_with fail
  refine (toRow_any (HR0.out.below' B6.out) hn0).mono ?_
  rintro e w7 ⟨a7, cp7, rfl, hb7, ho7, hca7, hcb7⟩
  have CA7 := Lib.hid hca7
  have CB7 := Lib.hid hcb7
  clear hca7 hcb7
  have B7 := Lib.hid (B6.out.trans (hb7.mono B6.out.size))
  have S7 := Lib.hid (show w6.heap.size ≤ w7.heap.size from hb7.size)
  have O4_7 := Lib.hid (O4_6.out.below hb7)
  have X7 := Lib.hid (X6.out.below hb7 X6.out.lt)
  have O7 := Lib.hid (Own.of ho7)
  clear hb7 ho7
  go_wp2_with fail
  refine (eqRow_any O4_7.out.row O7.out.row).mono ?_
  rintro e w8 ⟨rfl, hd8⟩
  have hb8 := (show Drew w7 w8 from hd8).below w7.heap.size
  have B8 := Lib.hid (B7.out.trans (hb8.mono B7.out.size))
  have S8 := Lib.hid (show w7.heap.size ≤ w8.heap.size from hb8.size)
  have O4_8 := Lib.hid (O4_7.out.below hb8)
  have O7_8 := Lib.hid (O7.out.below hb8)
  have X8 := Lib.hid (X7.out.below hb8 X7.out.lt)
  have hdec : decide (z0 = z0) = true := by simp
  rw [hdec]
  clear hd8 hb8 hdec
  go_wp2_with fail
  go_ret
  exact ⟨rfl, B8.out⟩
end Go.Proofs.Ytenlaoadclfmaaa
