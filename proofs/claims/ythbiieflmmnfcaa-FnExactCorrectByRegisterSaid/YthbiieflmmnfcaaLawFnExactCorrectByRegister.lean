/-
  The walk of the law FnExactCorrectByRegister.
-/
import Derived.Test.YthbiieflmmnfcaaCorY
import Derived.Test.YthbiieflmmnfcaaOwns
import Derived.Test.YthbiieflmmnfcaaFrames
namespace Go.Proofs.Ythbiieflmmnfcaa
open Go.RowKit
set_option linter.unusedVariables false

set_option maxHeartbeats 4000000 in
set_option maxRecDepth 100000 in
theorem lawFnExactCorrectByRegister (p pw g l c : Int) (s0 : Option Addr) (n0 cap0 : Nat) (z0 : List Int) (s1 : Option Addr) (n1 cap1 : Nat) (z1 : List Int) (w : World) (_ : (Lit.int .i64 p).wf = true) (_ : (Lit.int .i64 pw).wf = true) (_ : (Lit.int .i64 g).wf = true) (_ : (Lit.int .i64 l).wf = true) (_ : (Lit.int .i64 c).wf = true) (hr0 : RowAt w s0 n0 z0) (hr1 : RowAt w s1 n1 z1) :
    Calls Try.prog 12 #[cV p pw g l c, .slice s0 n0 cap0, .slice s1 n1 cap1] w fun e w' => e = .returned (.bool true) ∧ Below w.heap.size w w' := by
  have HR0 := Lib.hid hr0
  have hsm0 := hr0.small
  clear hr0
  have HR1 := Lib.hid hr1
  have hsm1 := hr1.small
  clear hr1
  by_cases hn0 : n0 ≤ 1048576
  rotate_left
  · go_enter Try.func12, Try.ntmps12
    go_wp2_with fail
    go_ret
    exact ⟨rfl, below1 _ _⟩
  by_cases hn1 : n1 ≤ 1048576
  rotate_left
  · go_enter Try.func12, Try.ntmps12
    go_wp2_with fail
    go_ret
    exact ⟨rfl, below1 _ _⟩
  go_enter Try.func12, Try.ntmps12
  go_wp2_with fail
  refine (toCode_any p pw g l c _).mono ?_
  rintro e w1 ⟨rfl, hb1⟩
  have B1 := Lib.hid ((below1 _ _).trans (hb1.mono (by simp)))
  have S1 := Lib.hid B1.out.size
  have X1 := Lib.hid ((boxC_new w p pw g l c 77).below hb1 (by simp))
  clear hb1
  have S1 := Lib.hid X1.out.lt
  go_wp2_with fail
  refine (toRow_any (HR0.out.below' B1.out) hn0).mono ?_
  rintro e w2 ⟨a2, cp2, rfl, hb2, ho2, hca2, hcb2⟩
  have CA2 := Lib.hid hca2
  have CB2 := Lib.hid hcb2
  clear hca2 hcb2
  have B2 := Lib.hid (B1.out.trans (hb2.mono B1.out.size))
  have S2 := Lib.hid (show w1.heap.size ≤ w2.heap.size from hb2.size)
  have X2 := Lib.hid (X1.out.below hb2 X1.out.lt)
  have O2 := Lib.hid (Own.of ho2)
  clear hb2 ho2
  go_wp2_with fail
  refine (toRow_any (HR1.out.below' B2.out) hn1).mono ?_
  rintro e w3 ⟨a3, cp3, rfl, hb3, ho3, hca3, hcb3⟩
  have CA3 := Lib.hid hca3
  have CB3 := Lib.hid hcb3
  clear hca3 hcb3
  have B3 := Lib.hid (B2.out.trans (hb3.mono B2.out.size))
  have S3 := Lib.hid (show w2.heap.size ≤ w3.heap.size from hb3.size)
  have O2_3 := Lib.hid (O2.out.below hb3)
  have X3 := Lib.hid (X2.out.below hb3 X2.out.lt)
  have O3 := Lib.hid (Own.of ho3)
  clear hb3 ho3
  go_wp2_with fail
  refine (specCorrectByRegister_law p pw g l c _ O2_3.out.row CB2.out CA2.out O3.out.row CB3.out).mono ?_
  rintro e w4 ⟨v4_0, v4_1, rfl, hb4, hres4_0, hres4_1⟩
  have B4 := Lib.hid (B3.out.trans (hb4.mono B3.out.size))
  have S4 := Lib.hid (show w3.heap.size ≤ w4.heap.size from hb4.size)
  have O2_4 := Lib.hid (O2_3.out.below hb4)
  have O3_4 := Lib.hid (O3.out.below hb4)
  have X4 := Lib.hid (X3.out.below hb4 X3.out.lt)
  obtain ⟨a4_0, cp4_0, rfl, _, ho4_0⟩ := hres4_0
  have O4_0 := Lib.hid (Own.of ho4_0)
  clear ho4_0
  obtain ⟨a4_1, cp4_1, rfl, _, ho4_1⟩ := hres4_1
  have O4_1 := Lib.hid (Own.of ho4_1)
  clear ho4_1
  clear hb4
  go_wp2_with fail
  refine (toRow_any (HR0.out.below' B4.out) hn0).mono ?_
  rintro e w5 ⟨a5, cp5, rfl, hb5, ho5, hca5, hcb5⟩
  have CA5 := Lib.hid hca5
  have CB5 := Lib.hid hcb5
  clear hca5 hcb5
  have B5 := Lib.hid (B4.out.trans (hb5.mono B4.out.size))
  have S5 := Lib.hid (show w4.heap.size ≤ w5.heap.size from hb5.size)
  have O4_0_5 := Lib.hid (O4_0.out.below hb5)
  have O4_1_5 := Lib.hid (O4_1.out.below hb5)
  have X5 := Lib.hid (X4.out.below hb5 X4.out.lt)
  have O5 := Lib.hid (Own.of ho5)
  clear hb5 ho5
  go_wp2_with fail
  refine (toRow_any (HR1.out.below' B5.out) hn1).mono ?_
  rintro e w6 ⟨a6, cp6, rfl, hb6, ho6, hca6, hcb6⟩
  have CA6 := Lib.hid hca6
  have CB6 := Lib.hid hcb6
  clear hca6 hcb6
  have B6 := Lib.hid (B5.out.trans (hb6.mono B5.out.size))
  have S6 := Lib.hid (show w5.heap.size ≤ w6.heap.size from hb6.size)
  have O4_0_6 := Lib.hid (O4_0_5.out.below hb6)
  have O4_1_6 := Lib.hid (O4_1_5.out.below hb6)
  have O5_6 := Lib.hid (O5.out.below hb6)
  have X6 := Lib.hid (X5.out.below hb6 X5.out.lt)
  have O6 := Lib.hid (Own.of ho6)
  clear hb6 ho6
  obtain ⟨_, c0, c1, c2, c3, c4⟩ := X6.out
  go_wp2_with fail
  refine (toCode_any p pw g l c _).mono ?_
  rintro e w7 ⟨rfl, hb7⟩
  have B7 := Lib.hid (B6.out.trans (hb7.mono B6.out.size))
  have S7 := Lib.hid (show w6.heap.size ≤ w7.heap.size from hb7.size)
  have O4_0_7 := Lib.hid (O4_0_6.out.below hb7)
  have O4_1_7 := Lib.hid (O4_1_6.out.below hb7)
  have O5_7 := Lib.hid (O5_6.out.below hb7)
  have O6_7 := Lib.hid (O6.out.below hb7)
  have X7 := Lib.hid (X6.out.below hb7 X6.out.lt)
  clear hb7
  clear c0 c1 c2 c3 c4
  go_wp2_with fail
  refine (implCorrectByRegister_law p pw g l c _ O5_7.out.row CA5.out O6_7.out.row CB6.out CA6.out).mono ?_
  rintro e w8 ⟨v8_0, v8_1, rfl, hb8, hres8⟩
  have B8 := Lib.hid (B7.out.trans (hb8.mono B7.out.size))
  have S8 := Lib.hid (show w7.heap.size ≤ w8.heap.size from hb8.size)
  have O4_0_8 := Lib.hid (O4_0_7.out.below hb8)
  have O4_1_8 := Lib.hid (O4_1_7.out.below hb8)
  have O5_8 := Lib.hid (O5_7.out.below hb8)
  have O6_8 := Lib.hid (O6_7.out.below hb8)
  have X8 := Lib.hid (X7.out.below hb8 X7.out.lt)
  obtain ⟨mid8, a8_1, cp8_1, a8_0, cp8_0, rfl, rfl, hmid8, hmie8, ho8_1, ho8_0⟩ := hres8
  have M8 := Lib.hid (show w7.heap.size ≤ mid8 ∧ mid8 ≤ w8.heap.size from ⟨hmid8, hmie8⟩)
  have O8_0 := Lib.hid ho8_0
  have O8_1 := Lib.hid ho8_1
  clear ho8_0 ho8_1 hmid8 hmie8 hb8
  go_wp2_with fail
  refine (eqRow_any O8_0.out.row O4_0_8.out.row).mono ?_
  rintro e w9 ⟨rfl, hd9⟩
  have hb9 := (show Drew w8 w9 from hd9).below w8.heap.size
  have B9 := Lib.hid (B8.out.trans (hb9.mono B8.out.size))
  have S9 := Lib.hid (show w8.heap.size ≤ w9.heap.size from hb9.size)
  have O4_0_9 := Lib.hid (O4_0_8.out.below hb9)
  have O4_1_9 := Lib.hid (O4_1_8.out.below hb9)
  have O5_9 := Lib.hid (O5_8.out.below hb9)
  have O6_9 := Lib.hid (O6_8.out.below hb9)
  have O8_0_9 := Lib.hid (O8_0.out.below hb9)
  have O8_1_9 := Lib.hid (O8_1.out.below hb9)
  have X9 := Lib.hid (X8.out.below hb9 X8.out.lt)
  have hdec : decide (crO p pw g l c z0 z1 = crO p pw g l c z0 z1) = true := by simp
  rw [hdec]
  clear hd9 hb9 hdec
  go_wp2_with fail
  refine (eqRow_any O8_1_9.out.row O4_1_9.out.row).mono ?_
  rintro e w10 ⟨rfl, hd10⟩
  have hb10 := (show Drew w9 w10 from hd10).below w9.heap.size
  have B10 := Lib.hid (B9.out.trans (hb10.mono B9.out.size))
  have S10 := Lib.hid (show w9.heap.size ≤ w10.heap.size from hb10.size)
  have O4_0_10 := Lib.hid (O4_0_9.out.below hb10)
  have O4_1_10 := Lib.hid (O4_1_9.out.below hb10)
  have O5_10 := Lib.hid (O5_9.out.below hb10)
  have O6_10 := Lib.hid (O6_9.out.below hb10)
  have O8_0_10 := Lib.hid (O8_0_9.out.below hb10)
  have O8_1_10 := Lib.hid (O8_1_9.out.below hb10)
  have X10 := Lib.hid (X9.out.below hb10 X9.out.lt)
  have hdec : decide (crD p pw g l c z0 z1 = crD p pw g l c z0 z1) = true := by simp
  rw [hdec]
  clear hd10 hb10 hdec
  go_wp2_with fail
  refine (toRow_any (HR0.out.below' B10.out) hn0).mono ?_
  rintro e w11 ⟨a11, cp11, rfl, hb11, ho11, hca11, hcb11⟩
  have CA11 := Lib.hid hca11
  have CB11 := Lib.hid hcb11
  clear hca11 hcb11
  have B11 := Lib.hid (B10.out.trans (hb11.mono B10.out.size))
  have S11 := Lib.hid (show w10.heap.size ≤ w11.heap.size from hb11.size)
  have O4_0_11 := Lib.hid (O4_0_10.out.below hb11)
  have O4_1_11 := Lib.hid (O4_1_10.out.below hb11)
  have O5_11 := Lib.hid (O5_10.out.below hb11)
  have O6_11 := Lib.hid (O6_10.out.below hb11)
  have O8_0_11 := Lib.hid (O8_0_10.out.below hb11)
  have O8_1_11 := Lib.hid (O8_1_10.out.below hb11)
  have X11 := Lib.hid (X10.out.below hb11 X10.out.lt)
  have O11 := Lib.hid (Own.of ho11)
  clear hb11 ho11
  go_wp2_with fail
  refine (eqRow_any O5_11.out.row O11.out.row).mono ?_
  rintro e w12 ⟨rfl, hd12⟩
  have hb12 := (show Drew w11 w12 from hd12).below w11.heap.size
  have B12 := Lib.hid (B11.out.trans (hb12.mono B11.out.size))
  have S12 := Lib.hid (show w11.heap.size ≤ w12.heap.size from hb12.size)
  have O4_0_12 := Lib.hid (O4_0_11.out.below hb12)
  have O4_1_12 := Lib.hid (O4_1_11.out.below hb12)
  have O5_12 := Lib.hid (O5_11.out.below hb12)
  have O6_12 := Lib.hid (O6_11.out.below hb12)
  have O8_0_12 := Lib.hid (O8_0_11.out.below hb12)
  have O8_1_12 := Lib.hid (O8_1_11.out.below hb12)
  have O11_12 := Lib.hid (O11.out.below hb12)
  have X12 := Lib.hid (X11.out.below hb12 X11.out.lt)
  have hdec : decide (z0 = z0) = true := by simp
  rw [hdec]
  clear hd12 hb12 hdec
  go_wp2_with fail
  refine (toRow_any (HR1.out.below' B12.out) hn1).mono ?_
  rintro e w13 ⟨a13, cp13, rfl, hb13, ho13, hca13, hcb13⟩
  have CA13 := Lib.hid hca13
  have CB13 := Lib.hid hcb13
  clear hca13 hcb13
  have B13 := Lib.hid (B12.out.trans (hb13.mono B12.out.size))
  have S13 := Lib.hid (show w12.heap.size ≤ w13.heap.size from hb13.size)
  have O4_0_13 := Lib.hid (O4_0_12.out.below hb13)
  have O4_1_13 := Lib.hid (O4_1_12.out.below hb13)
  have O5_13 := Lib.hid (O5_12.out.below hb13)
  have O6_13 := Lib.hid (O6_12.out.below hb13)
  have O8_0_13 := Lib.hid (O8_0_12.out.below hb13)
  have O8_1_13 := Lib.hid (O8_1_12.out.below hb13)
  have X13 := Lib.hid (X12.out.below hb13 X12.out.lt)
  have O13 := Lib.hid (Own.of ho13)
  clear hb13 ho13
  go_wp2_with fail
  refine (eqRow_any O6_13.out.row O13.out.row).mono ?_
  rintro e w14 ⟨rfl, hd14⟩
  have hb14 := (show Drew w13 w14 from hd14).below w13.heap.size
  have B14 := Lib.hid (B13.out.trans (hb14.mono B13.out.size))
  have S14 := Lib.hid (show w13.heap.size ≤ w14.heap.size from hb14.size)
  have O4_0_14 := Lib.hid (O4_0_13.out.below hb14)
  have O4_1_14 := Lib.hid (O4_1_13.out.below hb14)
  have O5_14 := Lib.hid (O5_13.out.below hb14)
  have O6_14 := Lib.hid (O6_13.out.below hb14)
  have O8_0_14 := Lib.hid (O8_0_13.out.below hb14)
  have O8_1_14 := Lib.hid (O8_1_13.out.below hb14)
  have O13_14 := Lib.hid (O13.out.below hb14)
  have X14 := Lib.hid (X13.out.below hb14 X13.out.lt)
  have hdec : decide (z1 = z1) = true := by simp
  rw [hdec]
  clear hd14 hb14 hdec
  go_wp2_with fail
  refine (mark2_any O5_14.out hn0 (1) (by omega) (by omega)).mono ?_
  rintro e w15 ⟨rfl, hc15, ho15⟩
  have C15 := Lib.hid hc15
  have hlo15 : w.heap.size ≤ w4.heap.size := by have q1 := S1.out; have q2 := S2.out; have q3 := S3.out; have q4 := S4.out; have q5 := S5.out; have q6 := S6.out; have q7 := S7.out; have q8 := S8.out; have q9 := S9.out; have q10 := S10.out; have q11 := S11.out; have q12 := S12.out; have q13 := S13.out; have q14 := S14.out; have qm8 := M8.out; omega
  have B15 := Lib.hid (B14.out.trans (C15.out.below hlo15))
  have S15 := Lib.hid (show w14.heap.size ≤ w15.heap.size from Nat.le_of_eq C15.out.size)
  have O4_0_15 := Lib.hid (O4_0_14.out.chg C15.out (by have q1 := S1.out; have q2 := S2.out; have q3 := S3.out; have q4 := S4.out; have q5 := S5.out; have q6 := S6.out; have q7 := S7.out; have q8 := S8.out; have q9 := S9.out; have q10 := S10.out; have q11 := S11.out; have q12 := S12.out; have q13 := S13.out; have q14 := S14.out; have q15 := S15.out; have qm8 := M8.out; omega))
  have O4_1_15 := Lib.hid (O4_1_14.out.chg C15.out (by have q1 := S1.out; have q2 := S2.out; have q3 := S3.out; have q4 := S4.out; have q5 := S5.out; have q6 := S6.out; have q7 := S7.out; have q8 := S8.out; have q9 := S9.out; have q10 := S10.out; have q11 := S11.out; have q12 := S12.out; have q13 := S13.out; have q14 := S14.out; have q15 := S15.out; have qm8 := M8.out; omega))
  have O6_15 := Lib.hid (O6_14.out.chg C15.out (by have q1 := S1.out; have q2 := S2.out; have q3 := S3.out; have q4 := S4.out; have q5 := S5.out; have q6 := S6.out; have q7 := S7.out; have q8 := S8.out; have q9 := S9.out; have q10 := S10.out; have q11 := S11.out; have q12 := S12.out; have q13 := S13.out; have q14 := S14.out; have q15 := S15.out; have qm8 := M8.out; omega))
  have O8_0_15 := Lib.hid (O8_0_14.out.chg C15.out (by have q1 := S1.out; have q2 := S2.out; have q3 := S3.out; have q4 := S4.out; have q5 := S5.out; have q6 := S6.out; have q7 := S7.out; have q8 := S8.out; have q9 := S9.out; have q10 := S10.out; have q11 := S11.out; have q12 := S12.out; have q13 := S13.out; have q14 := S14.out; have q15 := S15.out; have qm8 := M8.out; omega))
  have O8_1_15 := Lib.hid (O8_1_14.out.chg C15.out (by have q1 := S1.out; have q2 := S2.out; have q3 := S3.out; have q4 := S4.out; have q5 := S5.out; have q6 := S6.out; have q7 := S7.out; have q8 := S8.out; have q9 := S9.out; have q10 := S10.out; have q11 := S11.out; have q12 := S12.out; have q13 := S13.out; have q14 := S14.out; have q15 := S15.out; have qm8 := M8.out; omega))
  have O5_15 := Lib.hid ho15
  have X15 := Lib.hid (X14.out.chg C15.out (by have q1 := S1.out; have q2 := S2.out; have q3 := S3.out; have q4 := S4.out; have q5 := S5.out; have q6 := S6.out; have q7 := S7.out; have q8 := S8.out; have q9 := S9.out; have q10 := S10.out; have q11 := S11.out; have q12 := S12.out; have q13 := S13.out; have q14 := S14.out; have q15 := S15.out; have qm8 := M8.out; omega))
  clear hc15 ho15 hlo15
  go_wp2_with fail
  refine (mark2_any O6_15.out hn1 (1 + (n0 : Int)) (by omega) (by omega)).mono ?_
  rintro e w16 ⟨rfl, hc16, ho16⟩
  have C16 := Lib.hid hc16
  have hlo16 : w.heap.size ≤ w5.heap.size := by have q1 := S1.out; have q2 := S2.out; have q3 := S3.out; have q4 := S4.out; have q5 := S5.out; have q6 := S6.out; have q7 := S7.out; have q8 := S8.out; have q9 := S9.out; have q10 := S10.out; have q11 := S11.out; have q12 := S12.out; have q13 := S13.out; have q14 := S14.out; have q15 := S15.out; have qm8 := M8.out; omega
  have B16 := Lib.hid (B15.out.trans (C16.out.below hlo16))
  have S16 := Lib.hid (show w15.heap.size ≤ w16.heap.size from Nat.le_of_eq C16.out.size)
  have O4_0_16 := Lib.hid (O4_0_15.out.chg C16.out (by have q1 := S1.out; have q2 := S2.out; have q3 := S3.out; have q4 := S4.out; have q5 := S5.out; have q6 := S6.out; have q7 := S7.out; have q8 := S8.out; have q9 := S9.out; have q10 := S10.out; have q11 := S11.out; have q12 := S12.out; have q13 := S13.out; have q14 := S14.out; have q15 := S15.out; have q16 := S16.out; have qm8 := M8.out; omega))
  have O4_1_16 := Lib.hid (O4_1_15.out.chg C16.out (by have q1 := S1.out; have q2 := S2.out; have q3 := S3.out; have q4 := S4.out; have q5 := S5.out; have q6 := S6.out; have q7 := S7.out; have q8 := S8.out; have q9 := S9.out; have q10 := S10.out; have q11 := S11.out; have q12 := S12.out; have q13 := S13.out; have q14 := S14.out; have q15 := S15.out; have q16 := S16.out; have qm8 := M8.out; omega))
  have O8_0_16 := Lib.hid (O8_0_15.out.chg C16.out (by have q1 := S1.out; have q2 := S2.out; have q3 := S3.out; have q4 := S4.out; have q5 := S5.out; have q6 := S6.out; have q7 := S7.out; have q8 := S8.out; have q9 := S9.out; have q10 := S10.out; have q11 := S11.out; have q12 := S12.out; have q13 := S13.out; have q14 := S14.out; have q15 := S15.out; have q16 := S16.out; have qm8 := M8.out; omega))
  have O8_1_16 := Lib.hid (O8_1_15.out.chg C16.out (by have q1 := S1.out; have q2 := S2.out; have q3 := S3.out; have q4 := S4.out; have q5 := S5.out; have q6 := S6.out; have q7 := S7.out; have q8 := S8.out; have q9 := S9.out; have q10 := S10.out; have q11 := S11.out; have q12 := S12.out; have q13 := S13.out; have q14 := S14.out; have q15 := S15.out; have q16 := S16.out; have qm8 := M8.out; omega))
  have O6_16 := Lib.hid ho16
  have X16 := Lib.hid (X15.out.chg C16.out (by have q1 := S1.out; have q2 := S2.out; have q3 := S3.out; have q4 := S4.out; have q5 := S5.out; have q6 := S6.out; have q7 := S7.out; have q8 := S8.out; have q9 := S9.out; have q10 := S10.out; have q11 := S11.out; have q12 := S12.out; have q13 := S13.out; have q14 := S14.out; have q15 := S15.out; have q16 := S16.out; have qm8 := M8.out; omega))
  clear hc16 ho16 hlo16
  go_wp2_with fail
  refine (eqRow_any O8_0_16.out.row O4_0_16.out.row).mono ?_
  rintro e w17 ⟨rfl, hd17⟩
  have hb17 := (show Drew w16 w17 from hd17).below w16.heap.size
  have B17 := Lib.hid (B16.out.trans (hb17.mono B16.out.size))
  have S17 := Lib.hid (show w16.heap.size ≤ w17.heap.size from hb17.size)
  have O4_0_17 := Lib.hid (O4_0_16.out.below hb17)
  have O4_1_17 := Lib.hid (O4_1_16.out.below hb17)
  have O8_0_17 := Lib.hid (O8_0_16.out.below hb17)
  have O8_1_17 := Lib.hid (O8_1_16.out.below hb17)
  have X17 := Lib.hid (X16.out.below hb17 X16.out.lt)
  have hdec : decide (crO p pw g l c z0 z1 = crO p pw g l c z0 z1) = true := by simp
  rw [hdec]
  clear hd17 hb17 hdec
  go_wp2_with fail
  refine (eqRow_any O8_1_17.out.row O4_1_17.out.row).mono ?_
  rintro e w18 ⟨rfl, hd18⟩
  have hb18 := (show Drew w17 w18 from hd18).below w17.heap.size
  have B18 := Lib.hid (B17.out.trans (hb18.mono B17.out.size))
  have S18 := Lib.hid (show w17.heap.size ≤ w18.heap.size from hb18.size)
  have O4_0_18 := Lib.hid (O4_0_17.out.below hb18)
  have O4_1_18 := Lib.hid (O4_1_17.out.below hb18)
  have O8_0_18 := Lib.hid (O8_0_17.out.below hb18)
  have O8_1_18 := Lib.hid (O8_1_17.out.below hb18)
  have X18 := Lib.hid (X17.out.below hb18 X17.out.lt)
  have hdec : decide (crD p pw g l c z0 z1 = crD p pw g l c z0 z1) = true := by simp
  rw [hdec]
  clear hd18 hb18 hdec
  have hl0 : (crO p pw g l c z0 z1).length ≤ 1048576 := crO_len p pw g l c z0 z1
  have hl1 : (crD p pw g l c z0 z1).length ≤ 1048576 := crD_len p pw g l c z0 z1
  go_wp2_with fail
  refine (mark2_any O8_0_18.out hl0 (1) (by omega) (by omega)).mono ?_
  rintro e w19 ⟨rfl, hc19, ho19⟩
  have C19 := Lib.hid hc19
  have hlo19 : w.heap.size ≤ w7.heap.size := by have q1 := S1.out; have q2 := S2.out; have q3 := S3.out; have q4 := S4.out; have q5 := S5.out; have q6 := S6.out; have q7 := S7.out; have q8 := S8.out; have q9 := S9.out; have q10 := S10.out; have q11 := S11.out; have q12 := S12.out; have q13 := S13.out; have q14 := S14.out; have q15 := S15.out; have q16 := S16.out; have q17 := S17.out; have q18 := S18.out; have qm8 := M8.out; omega
  have B19 := Lib.hid (B18.out.trans (C19.out.below hlo19))
  have S19 := Lib.hid (show w18.heap.size ≤ w19.heap.size from Nat.le_of_eq C19.out.size)
  have O4_0_19 := Lib.hid (O4_0_18.out.chg C19.out (by have q1 := S1.out; have q2 := S2.out; have q3 := S3.out; have q4 := S4.out; have q5 := S5.out; have q6 := S6.out; have q7 := S7.out; have q8 := S8.out; have q9 := S9.out; have q10 := S10.out; have q11 := S11.out; have q12 := S12.out; have q13 := S13.out; have q14 := S14.out; have q15 := S15.out; have q16 := S16.out; have q17 := S17.out; have q18 := S18.out; have q19 := S19.out; have qm8 := M8.out; omega))
  have O4_1_19 := Lib.hid (O4_1_18.out.chg C19.out (by have q1 := S1.out; have q2 := S2.out; have q3 := S3.out; have q4 := S4.out; have q5 := S5.out; have q6 := S6.out; have q7 := S7.out; have q8 := S8.out; have q9 := S9.out; have q10 := S10.out; have q11 := S11.out; have q12 := S12.out; have q13 := S13.out; have q14 := S14.out; have q15 := S15.out; have q16 := S16.out; have q17 := S17.out; have q18 := S18.out; have q19 := S19.out; have qm8 := M8.out; omega))
  have O8_1_19 := Lib.hid (O8_1_18.out.chg C19.out (by have q1 := S1.out; have q2 := S2.out; have q3 := S3.out; have q4 := S4.out; have q5 := S5.out; have q6 := S6.out; have q7 := S7.out; have q8 := S8.out; have q9 := S9.out; have q10 := S10.out; have q11 := S11.out; have q12 := S12.out; have q13 := S13.out; have q14 := S14.out; have q15 := S15.out; have q16 := S16.out; have q17 := S17.out; have q18 := S18.out; have q19 := S19.out; have qm8 := M8.out; omega))
  have O8_0_19 := Lib.hid ho19
  have X19 := Lib.hid (X18.out.chg C19.out (by have q1 := S1.out; have q2 := S2.out; have q3 := S3.out; have q4 := S4.out; have q5 := S5.out; have q6 := S6.out; have q7 := S7.out; have q8 := S8.out; have q9 := S9.out; have q10 := S10.out; have q11 := S11.out; have q12 := S12.out; have q13 := S13.out; have q14 := S14.out; have q15 := S15.out; have q16 := S16.out; have q17 := S17.out; have q18 := S18.out; have q19 := S19.out; have qm8 := M8.out; omega))
  clear hc19 ho19 hlo19
  go_wp2_with fail
  refine (mark2_any O8_1_19.out hl1 (1 + ((crO p pw g l c z0 z1).length : Int)) (by omega) (by omega)).mono ?_
  rintro e w20 ⟨rfl, hc20, ho20⟩
  have C20 := Lib.hid hc20
  have hlo20 : w.heap.size ≤ mid8 := by have q1 := S1.out; have q2 := S2.out; have q3 := S3.out; have q4 := S4.out; have q5 := S5.out; have q6 := S6.out; have q7 := S7.out; have q8 := S8.out; have q9 := S9.out; have q10 := S10.out; have q11 := S11.out; have q12 := S12.out; have q13 := S13.out; have q14 := S14.out; have q15 := S15.out; have q16 := S16.out; have q17 := S17.out; have q18 := S18.out; have q19 := S19.out; have qm8 := M8.out; omega
  have B20 := Lib.hid (B19.out.trans (C20.out.below hlo20))
  have S20 := Lib.hid (show w19.heap.size ≤ w20.heap.size from Nat.le_of_eq C20.out.size)
  have O4_0_20 := Lib.hid (O4_0_19.out.chg C20.out (by have q1 := S1.out; have q2 := S2.out; have q3 := S3.out; have q4 := S4.out; have q5 := S5.out; have q6 := S6.out; have q7 := S7.out; have q8 := S8.out; have q9 := S9.out; have q10 := S10.out; have q11 := S11.out; have q12 := S12.out; have q13 := S13.out; have q14 := S14.out; have q15 := S15.out; have q16 := S16.out; have q17 := S17.out; have q18 := S18.out; have q19 := S19.out; have q20 := S20.out; have qm8 := M8.out; omega))
  have O4_1_20 := Lib.hid (O4_1_19.out.chg C20.out (by have q1 := S1.out; have q2 := S2.out; have q3 := S3.out; have q4 := S4.out; have q5 := S5.out; have q6 := S6.out; have q7 := S7.out; have q8 := S8.out; have q9 := S9.out; have q10 := S10.out; have q11 := S11.out; have q12 := S12.out; have q13 := S13.out; have q14 := S14.out; have q15 := S15.out; have q16 := S16.out; have q17 := S17.out; have q18 := S18.out; have q19 := S19.out; have q20 := S20.out; have qm8 := M8.out; omega))
  have O8_0_20 := Lib.hid (O8_0_19.out.chg C20.out (by have q1 := S1.out; have q2 := S2.out; have q3 := S3.out; have q4 := S4.out; have q5 := S5.out; have q6 := S6.out; have q7 := S7.out; have q8 := S8.out; have q9 := S9.out; have q10 := S10.out; have q11 := S11.out; have q12 := S12.out; have q13 := S13.out; have q14 := S14.out; have q15 := S15.out; have q16 := S16.out; have q17 := S17.out; have q18 := S18.out; have q19 := S19.out; have q20 := S20.out; have qm8 := M8.out; omega))
  have O8_1_20 := Lib.hid ho20
  have X20 := Lib.hid (X19.out.chg C20.out (by have q1 := S1.out; have q2 := S2.out; have q3 := S3.out; have q4 := S4.out; have q5 := S5.out; have q6 := S6.out; have q7 := S7.out; have q8 := S8.out; have q9 := S9.out; have q10 := S10.out; have q11 := S11.out; have q12 := S12.out; have q13 := S13.out; have q14 := S14.out; have q15 := S15.out; have q16 := S16.out; have q17 := S17.out; have q18 := S18.out; have q19 := S19.out; have q20 := S20.out; have qm8 := M8.out; omega))
  clear hc20 ho20 hlo20
  go_wp2_with fail
  refine (held_any (1) O8_0_20.out.row hl0 (by omega) (by omega)).mono ?_
  rintro e w' ⟨rfl, rfl⟩
  go_wp2_with fail
  refine (held_any (1 + ((crO p pw g l c z0 z1).length : Int)) O8_1_20.out.row hl1 (by omega) (by omega)).mono ?_
  rintro e w' ⟨rfl, rfl⟩
  obtain ⟨_, c0, c1, c2, c3, c4⟩ := X20.out
  go_wp2_with fail
  refine (toCode_any p pw g l c _).mono ?_
  rintro e w21 ⟨rfl, hb21⟩
  have B21 := Lib.hid (B20.out.trans (hb21.mono B20.out.size))
  have S21 := Lib.hid (show w20.heap.size ≤ w21.heap.size from hb21.size)
  have O4_0_21 := Lib.hid (O4_0_20.out.below hb21)
  have O4_1_21 := Lib.hid (O4_1_20.out.below hb21)
  have O8_0_21 := Lib.hid (O8_0_20.out.below hb21)
  have O8_1_21 := Lib.hid (O8_1_20.out.below hb21)
  have X21 := Lib.hid (X20.out.below hb21 X20.out.lt)
  clear hb21
  clear c0 c1 c2 c3 c4
  go_wp2_with fail
  refine (toRow_any (HR0.out.below' B21.out) hn0).mono ?_
  rintro e w22 ⟨a22, cp22, rfl, hb22, ho22, hca22, hcb22⟩
  have CA22 := Lib.hid hca22
  have CB22 := Lib.hid hcb22
  clear hca22 hcb22
  have B22 := Lib.hid (B21.out.trans (hb22.mono B21.out.size))
  have S22 := Lib.hid (show w21.heap.size ≤ w22.heap.size from hb22.size)
  have O4_0_22 := Lib.hid (O4_0_21.out.below hb22)
  have O4_1_22 := Lib.hid (O4_1_21.out.below hb22)
  have O8_0_22 := Lib.hid (O8_0_21.out.below hb22)
  have O8_1_22 := Lib.hid (O8_1_21.out.below hb22)
  have X22 := Lib.hid (X21.out.below hb22 X21.out.lt)
  have O22 := Lib.hid (Own.of ho22)
  clear hb22 ho22
  go_wp2_with fail
  refine (toRow_any (HR1.out.below' B22.out) hn1).mono ?_
  rintro e w23 ⟨a23, cp23, rfl, hb23, ho23, hca23, hcb23⟩
  have CA23 := Lib.hid hca23
  have CB23 := Lib.hid hcb23
  clear hca23 hcb23
  have B23 := Lib.hid (B22.out.trans (hb23.mono B22.out.size))
  have S23 := Lib.hid (show w22.heap.size ≤ w23.heap.size from hb23.size)
  have O4_0_23 := Lib.hid (O4_0_22.out.below hb23)
  have O4_1_23 := Lib.hid (O4_1_22.out.below hb23)
  have O8_0_23 := Lib.hid (O8_0_22.out.below hb23)
  have O8_1_23 := Lib.hid (O8_1_22.out.below hb23)
  have O22_23 := Lib.hid (O22.out.below hb23)
  have X23 := Lib.hid (X22.out.below hb23 X22.out.lt)
  have O23 := Lib.hid (Own.of ho23)
  clear hb23 ho23
  go_wp2_with fail
  refine (implCorrectByRegister_law p pw g l c _ O22_23.out.row CA22.out O23.out.row CB23.out CA23.out).mono ?_
  rintro e w24 ⟨v24_0, v24_1, rfl, hb24, hres24⟩
  have B24 := Lib.hid (B23.out.trans (hb24.mono B23.out.size))
  have S24 := Lib.hid (show w23.heap.size ≤ w24.heap.size from hb24.size)
  have O4_0_24 := Lib.hid (O4_0_23.out.below hb24)
  have O4_1_24 := Lib.hid (O4_1_23.out.below hb24)
  have O8_0_24 := Lib.hid (O8_0_23.out.below hb24)
  have O8_1_24 := Lib.hid (O8_1_23.out.below hb24)
  have O22_24 := Lib.hid (O22_23.out.below hb24)
  have O23_24 := Lib.hid (O23.out.below hb24)
  have X24 := Lib.hid (X23.out.below hb24 X23.out.lt)
  obtain ⟨mid24, a24_1, cp24_1, a24_0, cp24_0, rfl, rfl, hmid24, hmie24, ho24_1, ho24_0⟩ := hres24
  have M24 := Lib.hid (show w23.heap.size ≤ mid24 ∧ mid24 ≤ w24.heap.size from ⟨hmid24, hmie24⟩)
  have O24_0 := Lib.hid ho24_0
  have O24_1 := Lib.hid ho24_1
  clear ho24_0 ho24_1 hmid24 hmie24 hb24
  go_wp2_with fail
  refine (eqRow_any O24_0.out.row O4_0_24.out.row).mono ?_
  rintro e w25 ⟨rfl, hd25⟩
  have hb25 := (show Drew w24 w25 from hd25).below w24.heap.size
  have B25 := Lib.hid (B24.out.trans (hb25.mono B24.out.size))
  have S25 := Lib.hid (show w24.heap.size ≤ w25.heap.size from hb25.size)
  have O4_0_25 := Lib.hid (O4_0_24.out.below hb25)
  have O4_1_25 := Lib.hid (O4_1_24.out.below hb25)
  have O8_0_25 := Lib.hid (O8_0_24.out.below hb25)
  have O8_1_25 := Lib.hid (O8_1_24.out.below hb25)
  have O24_0_25 := Lib.hid (O24_0.out.below hb25)
  have O24_1_25 := Lib.hid (O24_1.out.below hb25)
  have X25 := Lib.hid (X24.out.below hb25 X24.out.lt)
  have hdec : decide (crO p pw g l c z0 z1 = crO p pw g l c z0 z1) = true := by simp
  rw [hdec]
  clear hd25 hb25 hdec
  go_wp2_with fail
  refine (eqRow_any O24_1_25.out.row O4_1_25.out.row).mono ?_
  rintro e w26 ⟨rfl, hd26⟩
  have hb26 := (show Drew w25 w26 from hd26).below w25.heap.size
  have B26 := Lib.hid (B25.out.trans (hb26.mono B25.out.size))
  have S26 := Lib.hid (show w25.heap.size ≤ w26.heap.size from hb26.size)
  have O4_0_26 := Lib.hid (O4_0_25.out.below hb26)
  have O4_1_26 := Lib.hid (O4_1_25.out.below hb26)
  have O8_0_26 := Lib.hid (O8_0_25.out.below hb26)
  have O8_1_26 := Lib.hid (O8_1_25.out.below hb26)
  have O24_0_26 := Lib.hid (O24_0_25.out.below hb26)
  have O24_1_26 := Lib.hid (O24_1_25.out.below hb26)
  have X26 := Lib.hid (X25.out.below hb26 X25.out.lt)
  have hdec : decide (crD p pw g l c z0 z1 = crD p pw g l c z0 z1) = true := by simp
  rw [hdec]
  clear hd26 hb26 hdec
  go_wp2_with fail
  refine (held_any (1) O8_0_26.out.row hl0 (by omega) (by omega)).mono ?_
  rintro e w' ⟨rfl, rfl⟩
  go_wp2_with fail
  refine (held_any (1 + ((crO p pw g l c z0 z1).length : Int)) O8_1_26.out.row hl1 (by omega) (by omega)).mono ?_
  rintro e w' ⟨rfl, rfl⟩
  go_wp2_with fail
  go_ret
  exact ⟨rfl, B26.out⟩
end Go.Proofs.Ythbiieflmmnfcaa
