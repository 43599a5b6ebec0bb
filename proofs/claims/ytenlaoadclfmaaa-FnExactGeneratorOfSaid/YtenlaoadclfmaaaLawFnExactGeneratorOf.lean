/-
  The walk of the law FnExactGeneratorOf.
-/
import Derived.Test.YtenlaoadclfmaaaGenOf
import Derived.Test.YtenlaoadclfmaaaOwn
import Derived.Test.YtenlaoadclfmaaaFrameCode
namespace Go.Proofs.Ytenlaoadclfmaaa
open Go.RowKit
set_option linter.unusedVariables false

set_option maxHeartbeats 4000000 in
set_option maxRecDepth 100000 in
theorem lawFnExactGeneratorOf (p pw g l c : Int) (w : World) (_ : (Lit.int .i64 p).wf = true) (_ : (Lit.int .i64 pw).wf = true) (_ : (Lit.int .i64 g).wf = true) (_ : (Lit.int .i64 l).wf = true) (_ : (Lit.int .i64 c).wf = true) :
    Calls Try.prog 8 #[cV p pw g l c] w fun e w' => e = .returned (.bool true) ∧ Below w.heap.size w w' := by
  go_enter Try.func8, Try.ntmps8
  go_wp2_with fail
  refine (toCode_any p pw g l c _).mono ?_
  rintro e w1 ⟨rfl, hb1⟩
  have B1 := Lib.hid ((below1 _ _).trans (hb1.mono (by simp)))
  have S1 := Lib.hid B1.out.size
  have X1 := Lib.hid ((boxC_new w p pw g l c 34).below hb1 (by simp))
  clear hb1
  have S1 := Lib.hid X1.out.lt
  go_wp2_with fail
  refine (specGeneratorOf_any p pw g l c _).mono ?_
  rintro e w2 ⟨v2_0, rfl, hb2, hres2_0⟩
  have B2 := Lib.hid (B1.out.trans (hb2.mono B1.out.size))
  have S2 := Lib.hid (show w1.heap.size ≤ w2.heap.size from hb2.size)
  have X2 := Lib.hid (X1.out.below hb2 X1.out.lt)
  obtain ⟨a2_0, cp2_0, rfl, _, ho2_0⟩ := hres2_0
  have O2_0 := Lib.hid (Own.of ho2_0)
  clear ho2_0
  clear hb2
  obtain ⟨_, c0, c1, c2, c3, c4⟩ := X2.out
  go_wp2_with fail
  refine (toCode_any p pw g l c _).mono ?_
  rintro e w3 ⟨rfl, hb3⟩
  have B3 := Lib.hid (B2.out.trans (hb3.mono B2.out.size))
  have S3 := Lib.hid (show w2.heap.size ≤ w3.heap.size from hb3.size)
  have O2_0_3 := Lib.hid (O2_0.out.below hb3)
  have X3 := Lib.hid (X2.out.below hb3 X2.out.lt)
  clear hb3
  clear c0 c1 c2 c3 c4
  go_wp2_with fail
  refine (implGeneratorOf_any p pw g l c _).mono ?_
  rintro e w4 ⟨v4_0, rfl, hb4, hres4_0⟩
  have B4 := Lib.hid (B3.out.trans (hb4.mono B3.out.size))
  have S4 := Lib.hid (show w3.heap.size ≤ w4.heap.size from hb4.size)
  have O2_0_4 := Lib.hid (O2_0_3.out.below hb4)
  have X4 := Lib.hid (X3.out.below hb4 X3.out.lt)
  obtain ⟨a4_0, cp4_0, rfl, _, ho4_0⟩ := hres4_0
  have O4_0 := Lib.hid (Own.of ho4_0)
  clear ho4_0
  clear hb4
  go_wp2_with fail
  refine (eqRow_any O4_0.out.row O2_0_4.out.row).mono ?_
  rintro e w5 ⟨rfl, hd5⟩
  have hb5 := (show Drew w4 w5 from hd5).below w4.heap.size
  have B5 := Lib.hid (B4.out.trans (hb5.mono B4.out.size))
  have S5 := Lib.hid (show w4.heap.size ≤ w5.heap.size from hb5.size)
  have O2_0_5 := Lib.hid (O2_0_4.out.below hb5)
  have O4_0_5 := Lib.hid (O4_0.out.below hb5)
  have X5 := Lib.hid (X4.out.below hb5 X4.out.lt)
  have hdec : decide (genR p pw g l c = genR p pw g l c) = true := by simp
  rw [hdec]
  clear hd5 hb5 hdec
  have hl0 : (genR p pw g l c).length ≤ 1048576 := genR_len p pw g l c
  go_wp2_with fail
  refine (mark2_any O4_0_5.out hl0 (1) (by omega) (by omega)).mono ?_
  rintro e w6 ⟨rfl, hc6, ho6⟩
  have C6 := Lib.hid hc6
  have hlo6 : w.heap.size ≤ w3.heap.size := by have q1 := S1.out; have q2 := S2.out; have q3 := S3.out; have q4 := S4.out; have q5 := S5.out; omega
  have B6 := Lib.hid (B5.out.trans (C6.out.below hlo6))
  have S6 := Lib.hid (show w5.heap.size ≤ w6.heap.size from Nat.le_of_eq C6.out.size)
  have O2_0_6 := Lib.hid (O2_0_5.out.chg C6.out (by have q1 := S1.out; have q2 := S2.out; have q3 := S3.out; have q4 := S4.out; have q5 := S5.out; have q6 := S6.out; omega))
  have O4_0_6 := Lib.hid ho6
  have X6 := Lib.hid (X5.out.chg C6.out (by have q1 := S1.out; have q2 := S2.out; have q3 := S3.out; have q4 := S4.out; have q5 := S5.out; have q6 := S6.out; omega))
  clear hc6 ho6 hlo6
  go_wp2_with fail
  refine (held_any (1) O4_0_6.out.row hl0 (by omega) (by omega)).mono ?_
  rintro e w' ⟨rfl, rfl⟩
  obtain ⟨_, c0, c1, c2, c3, c4⟩ := X6.out
  go_wp2_with fail
  refine (toCode_any p pw g l c _).mono ?_
  rintro e w7 ⟨rfl, hb7⟩
  have B7 := Lib.hid (B6.out.trans (hb7.mono B6.out.size))
  have S7 := Lib.hid (show w6.heap.size ≤ w7.heap.size from hb7.size)
  have O2_0_7 := Lib.hid (O2_0_6.out.below hb7)
  have O4_0_7 := Lib.hid (O4_0_6.out.below hb7)
  have X7 := Lib.hid (X6.out.below hb7 X6.out.lt)
  clear hb7
  clear c0 c1 c2 c3 c4
  go_wp2_with fail
  refine (implGeneratorOf_any p pw g l c _).mono ?_
  rintro e w8 ⟨v8_0, rfl, hb8, hres8_0⟩
  have B8 := Lib.hid (B7.out.trans (hb8.mono B7.out.size))
  have S8 := Lib.hid (show w7.heap.size ≤ w8.heap.size from hb8.size)
  have O2_0_8 := Lib.hid (O2_0_7.out.below hb8)
  have O4_0_8 := Lib.hid (O4_0_7.out.below hb8)
  have X8 := Lib.hid (X7.out.below hb8 X7.out.lt)
  obtain ⟨a8_0, cp8_0, rfl, _, ho8_0⟩ := hres8_0
  have O8_0 := Lib.hid (Own.of ho8_0)
  clear ho8_0
  clear hb8
  go_wp2_with fail
  refine (eqRow_any O8_0.out.row O2_0_8.out.row).mono ?_
  rintro e w9 ⟨rfl, hd9⟩
  have hb9 := (show Drew w8 w9 from hd9).below w8.heap.size
  have B9 := Lib.hid (B8.out.trans (hb9.mono B8.out.size))
  have S9 := Lib.hid (show w8.heap.size ≤ w9.heap.size from hb9.size)
  have O2_0_9 := Lib.hid (O2_0_8.out.below hb9)
  have O4_0_9 := Lib.hid (O4_0_8.out.below hb9)
  have O8_0_9 := Lib.hid (O8_0.out.below hb9)
  have X9 := Lib.hid (X8.out.below hb9 X8.out.lt)
  have hdec : decide (genR p pw g l c = genR p pw g l c) = true := by simp
  rw [hdec]
  clear hd9 hb9 hdec
  go_wp2_with fail
  refine (held_any (1) O4_0_9.out.row hl0 (by omega) (by omega)).mono ?_
  rintro e w' ⟨rfl, rfl⟩
  go_wp2_with fail
  go_ret
  exact ⟨rfl, B9.out⟩
end Go.Proofs.Ytenlaoadclfmaaa
