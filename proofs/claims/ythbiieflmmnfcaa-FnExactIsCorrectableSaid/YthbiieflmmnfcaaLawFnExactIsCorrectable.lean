/-
  The walk of the law FnExactIsCorrectable.
-/
import Derived.Test.YthbiieflmmnfcaaCorY
import Derived.Test.YthbiieflmmnfcaaOwns
import Derived.Test.YthbiieflmmnfcaaFrames
namespace Go.Proofs.Ythbiieflmmnfcaa
open Go.RowKit
set_option linter.unusedVariables false

set_option maxHeartbeats 4000000 in
set_option maxRecDepth 100000 in
theorem lawFnExactIsCorrectable (p pw g l c : Int) (s0 : Option Addr) (n0 cap0 : Nat) (z0 : List Int) (s1 : Option Addr) (n1 cap1 : Nat) (z1 : List Int) (w : World) (_ : (Lit.int .i64 p).wf = true) (_ : (Lit.int .i64 pw).wf = true) (_ : (Lit.int .i64 g).wf = true) (_ : (Lit.int .i64 l).wf = true) (_ : (Lit.int .i64 c).wf = true) (hr0 : RowAt w s0 n0 z0) (hr1 : RowAt w s1 n1 z1) :
    Calls Try.prog 11 #[cV p pw g l c, .slice s0 n0 cap0, .slice s1 n1 cap1] w fun e w' => e = .returned (.bool true) ∧ Below w.heap.size w w' := by
  have HR0 := Lib.hid hr0
  have hsm0 := hr0.small
  clear hr0
  have HR1 := Lib.hid hr1
  have hsm1 := hr1.small
  clear hr1
  by_cases hn0 : n0 ≤ 1048576
  rotate_left
  · go_enter Try.func11, Try.ntmps11
    go_wp2_with fail
    go_ret
    exact ⟨rfl, below1 _ _⟩
  by_cases hn1 : n1 ≤ 1048576
  rotate_left
  · go_enter Try.func11, Try.ntmps11
    go_wp2_with fail
    go_ret
    exact ⟨rfl, below1 _ _⟩
  go_enter Try.func11, Try.ntmps11
  go_wp2_with fail
  refine (toCode_any p pw g l c _).mono ?_
  rintro e w1 ⟨rfl, hb1⟩
  have B1 := Lib.hid ((below1 _ _).trans (hb1.mono (by simp)))
  have S1 := Lib.hid B1.out.size
  have X1 := Lib.hid ((boxC_new w p pw g l c 77).below hb1 (by simp))
  clear hb1
  have S1 := Lib.hid X1.out.lt
  go_wp2_with fail
  refine (toRow_any (HR0.out.below' B1.out) hn0).mono ?_
  rintro e w2 ⟨a2, cp2, rfl, hb2, ho2, hca2, hcb2⟩
  have CA2 := Lib.hid hca2
  have CB2 := Lib.hid hcb2
  clear hca2 hcb2
  have B2 := Lib.hid (B1.out.trans (hb2.mono B1.out.size))
  have S2 := Lib.hid (show w1.heap.size ≤ w2.heap.size from hb2.size)
  have X2 := Lib.hid (X1.out.below hb2 X1.out.lt)
  have O2 := Lib.hid (Own.of ho2)
  clear hb2 ho2
  go_wp2_with fail
  refine (toRow_any (HR1.out.below' B2.out) hn1).mono ?_
  rintro e w3 ⟨a3, cp3, rfl, hb3, ho3, hca3, hcb3⟩
  have CA3 := Lib.hid hca3
  have CB3 := Lib.hid hcb3
  clear hca3 hcb3
  have B3 := Lib.hid (B2.out.trans (hb3.mono B2.out.size))
  have S3 := Lib.hid (show w2.heap.size ≤ w3.heap.size from hb3.size)
  have O2_3 := Lib.hid (O2.out.below hb3)
  have X3 := Lib.hid (X2.out.below hb3 X2.out.lt)
  have O3 := Lib.hid (Own.of ho3)
  clear hb3 ho3
  go_wp2_with fail
  refine (specIsCorrectable_any p pw g l c _ O2_3.out.row CB2.out CA2.out O3.out.row CB3.out).mono ?_
  rintro e w4 ⟨rfl, hb4⟩
  have B4 := Lib.hid (B3.out.trans (hb4.mono B3.out.size))
  have S4 := Lib.hid (show w3.heap.size ≤ w4.heap.size from hb4.size)
  have O2_4 := Lib.hid (O2_3.out.below hb4)
  have O3_4 := Lib.hid (O3.out.below hb4)
  have X4 := Lib.hid (X3.out.below hb4 X3.out.lt)
  clear hb4
  go_wp2_with fail
  refine (toRow_any (HR0.out.below' B4.out) hn0).mono ?_
  rintro e w5 ⟨a5, cp5, rfl, hb5, ho5, hca5, hcb5⟩
  have CA5 := Lib.hid hca5
  have CB5 := Lib.hid hcb5
  clear hca5 hcb5
  have B5 := Lib.hid (B4.out.trans (hb5.mono B4.out.size))
  have S5 := Lib.hid (show w4.heap.size ≤ w5.heap.size from hb5.size)
  have X5 := Lib.hid (X4.out.below hb5 X4.out.lt)
  have O5 := Lib.hid (Own.of ho5)
  clear hb5 ho5
  go_wp2_with fail
  refine (toRow_any (HR1.out.below' B5.out) hn1).mono ?_
  rintro e w6 ⟨a6, cp6, rfl, hb6, ho6, hca6, hcb6⟩
  have CA6 := Lib.hid hca6
  have CB6 := Lib.hid hcb6
  clear hca6 hcb6
  have B6 := Lib.hid (B5.out.trans (hb6.mono B5.out.size))
  have S6 := Lib.hid (show w5.heap.size ≤ w6.heap.size from hb6.size)
  have O5_6 := Lib.hid (O5.out.below hb6)
  have X6 := Lib.hid (X5.out.below hb6 X5.out.lt)
  have O6 := Lib.hid (Own.of ho6)
  clear hb6 ho6
  obtain ⟨_, c0, c1, c2, c3, c4⟩ := X6.out
  go_wp2_with fail
  refine (toCode_any p pw g l c _).mono ?_
  rintro e w7 ⟨rfl, hb7⟩
  have B7 := Lib.hid (B6.out.trans (hb7.mono B6.out.size))
  have S7 := Lib.hid (show w6.heap.size ≤ w7.heap.size from hb7.size)
  have O5_7 := Lib.hid (O5_6.out.below hb7)
  have O6_7 := Lib.hid (O6.out.below hb7)
  have X7 := Lib.hid (X6.out.below hb7 X6.out.lt)
  clear hb7
  clear c0 c1 c2 c3 c4
  go_wp2_with fail
  refine (implIsCorrectable_any p pw g l c _ O5_7.out.row CA5.out O6_7.out.row CB6.out CA6.out).mono ?_
  rintro e w8 ⟨rfl, hb8⟩
  have B8 := Lib.hid (B7.out.trans (hb8.mono B7.out.size))
  have S8 := Lib.hid (show w7.heap.size ≤ w8.heap.size from hb8.size)
  have O5_8 := Lib.hid (O5_7.out.below hb8)
  have O6_8 := Lib.hid (O6_7.out.below hb8)
  have X8 := Lib.hid (X7.out.below hb8 X7.out.lt)
  clear hb8
  go_wp2_with fail
  refine (toRow_any (HR0.out.below' B8.out) hn0).mono ?_
  rintro e w9 ⟨a9, cp9, rfl, hb9, ho9, hca9, hcb9⟩
  have CA9 := Lib.hid hca9
  have CB9 := Lib.hid hcb9
  clear hca9 hcb9
  have B9 := Lib.hid (B8.out.trans (hb9.mono B8.out.size))
  have S9 := Lib.hid (show w8.heap.size ≤ w9.heap.size from hb9.size)
  have O5_9 := Lib.hid (O5_8.out.below hb9)
  have O6_9 := Lib.hid (O6_8.out.below hb9)
  have X9 := Lib.hid (X8.out.below hb9 X8.out.lt)
  have O9 := Lib.hid (Own.of ho9)
  clear hb9 ho9
  go_wp2_with fail
  refine (eqRow_any O5_9.out.row O9.out.row).mono ?_
  rintro e w10 ⟨rfl, hd10⟩
  have hb10 := (show Drew w9 w10 from hd10).below w9.heap.size
  have B10 := Lib.hid (B9.out.trans (hb10.mono B9.out.size))
  have S10 := Lib.hid (show w9.heap.size ≤ w10.heap.size from hb10.size)
  have O5_10 := Lib.hid (O5_9.out.below hb10)
  have O6_10 := Lib.hid (O6_9.out.below hb10)
  have O9_10 := Lib.hid (O9.out.below hb10)
  have X10 := Lib.hid (X9.out.below hb10 X9.out.lt)
  have hdec : decide (z0 = z0) = true := by simp
  rw [hdec]
  clear hd10 hb10 hdec
  go_wp2_with fail
  refine (toRow_any (HR1.out.below' B10.out) hn1).mono ?_
  rintro e w11 ⟨a11, cp11, rfl, hb11, ho11, hca11, hcb11⟩
  have CA11 := Lib.hid hca11
  have CB11 := Lib.hid hcb11
  clear hca11 hcb11
  have B11 := Lib.hid (B10.out.trans (hb11.mono B10.out.size))
  have S11 := Lib.hid (show w10.heap.size ≤ w11.heap.size from hb11.size)
  have O5_11 := Lib.hid (O5_10.out.below hb11)
  have O6_11 := Lib.hid (O6_10.out.below hb11)
  have X11 := Lib.hid (X10.out.below hb11 X10.out.lt)
  have O11 := Lib.hid (Own.of ho11)
  clear hb11 ho11
  go_wp2_with fail
  refine (eqRow_any O6_11.out.row O11.out.row).mono ?_
  rintro e w12 ⟨rfl, hd12⟩
  have hb12 := (show Drew w11 w12 from hd12).below w11.heap.size
  have B12 := Lib.hid (B11.out.trans (hb12.mono B11.out.size))
  have S12 := Lib.hid (show w11.heap.size ≤ w12.heap.size from hb12.size)
  have O5_12 := Lib.hid (O5_11.out.below hb12)
  have O6_12 := Lib.hid (O6_11.out.below hb12)
  have O11_12 := Lib.hid (O11.out.below hb12)
  have X12 := Lib.hid (X11.out.below hb12 X11.out.lt)
  have hdec : decide (z1 = z1) = true := by simp
  rw [hdec]
  clear hd12 hb12 hdec
  go_wp2_with fail
  go_ret
  exact ⟨rfl, B12.out⟩
end Go.Proofs.Ythbiieflmmnfcaa
