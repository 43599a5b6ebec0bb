/-
  The walk of the law FnExactDecodeStream.
-/
import Derived.Test.YtfhkkpfiflgofaaDecV
import Derived.Test.YtfhkkpfiflgofaaDecI
import Derived.Test.YtfhkkpfiflgofaaOwns
import Derived.Test.YtfhkkpfiflgofaaFrames
import Derived.Test.YtfhkkpfiflgofaaFrameLay
namespace Go.Proofs.Ytfhkkpfiflgofaa
open Go.RowKit
set_option linter.unusedVariables false

set_option maxHeartbeats 4000000 in
set_option maxRecDepth 100000 in
theorem lawFnExactDecodeStream (p pw g D C N : Int) (s0 : Option Addr) (n0 cap0 : Nat) (z0 : List Int) (s1 : Option Addr) (n1 cap1 : Nat) (z1 : List Int) (w : World) (_ : (Lit.int .i64 p).wf = true) (_ : (Lit.int .i64 pw).wf = true) (_ : (Lit.int .i64 g).wf = true) (_ : (Lit.int .i64 D).wf = true) (_ : (Lit.int .i64 C).wf = true) (_ : (Lit.int .i64 N).wf = true) (hr0 : RowAt w s0 n0 z0) (hr1 : RowAt w s1 n1 z1) :
    Calls Try.prog 7 #[lV p pw g D C N, .slice s0 n0 cap0, .slice s1 n1 cap1] w fun e w' => e = .returned (.bool true) ∧ Below w.heap.size w w' := by
  have HR0 := Lib.hid hr0
  have hsm0 := hr0.small
  clear hr0
  have HR1 := Lib.hid hr1
  have hsm1 := hr1.small
  clear hr1
  by_cases hn0 : n0 ≤ 1048576
  rotate_left
  · go_enter Try.func7, Try.ntmps7
    go_wp2_with fail
    go_ret
    exact ⟨rfl, below1 _ _⟩
  by_cases hn1 : n1 ≤ 1048576
  rotate_left
  · go_enter Try.func7, Try.ntmps7
    go_wp2_with fail
    go_ret
    exact ⟨rfl, below1 _ _⟩
  go_enter Try.func7, Try.ntmps7
  go_wp2_with fail
  refine (toLayout_any p pw g D C N _).mono ?_
  rintro e w1 ⟨rfl, hb1⟩
  have B1 := Lib.hid ((below1 _ _).trans (hb1.mono (by simp)))
  have S1 := Lib.hid B1.out.size
  have X1 := Lib.hid ((boxL_new w p pw g D C N 25).below hb1 (by simp))
  clear hb1
  have S1 := Lib.hid X1.out.lt
  go_wp2_with fail
  refine (toRow_any (HR0.out.below' B1.out) hn0).mono ?_
  rintro e w2 ⟨a2, cp2, rfl, hb2, ho2, hca2, hcb2⟩
  have CA2 := Lib.hid hca2
  have CB2 := Lib.hid hcb2
  clear hca2 hcb2
  have B2 := Lib.hid (B1.out.trans (hb2.mono B1.out.size))
  have S2 := Lib.hid (show w1.heap.size ≤ w2.heap.size from hb2.size)
  have X2 := Lib.hid (X1.out.below hb2 X1.out.lt)
  have O2 := Lib.hid (Own.of ho2)
  clear hb2 ho2
  go_wp2_with fail
  refine (toRow_any (HR1.out.below' B2.out) hn1).mono ?_
  rintro e w3 ⟨a3, cp3, rfl, hb3, ho3, hca3, hcb3⟩
  have CA3 := Lib.hid hca3
  have CB3 := Lib.hid hcb3
  clear hca3 hcb3
  have B3 := Lib.hid (B2.out.trans (hb3.mono B2.out.size))
  have S3 := Lib.hid (show w2.heap.size ≤ w3.heap.size from hb3.size)
  have O2_3 := Lib.hid (O2.out.below hb3)
  have X3 := Lib.hid (X2.out.below hb3 X2.out.lt)
  have O3 := Lib.hid (Own.of ho3)
  clear hb3 ho3
  go_wp2_with fail
  refine (specDecodeStream_any p pw g D C N _ O2_3.out.row O3.out.row).mono ?_
  rintro e w4 ⟨v4_0, rfl, hb4, hres4_0⟩
  have B4 := Lib.hid (B3.out.trans (hb4.mono B3.out.size))
  have S4 := Lib.hid (show w3.heap.size ≤ w4.heap.size from hb4.size)
  have O2_4 := Lib.hid (O2_3.out.below hb4)
  have O3_4 := Lib.hid (O3.out.below hb4)
  have X4 := Lib.hid (X3.out.below hb4 X3.out.lt)
  obtain ⟨a4_0, cp4_0, rfl, _, ho4_0⟩ := hres4_0
  have O4_0 := Lib.hid (Own.of ho4_0)
  clear ho4_0
  clear hb4
  go_wp2_with fail
  refine (toRow_any (HR0.out.below' B4.out) hn0).mono ?_
  rintro e w5 ⟨a5, cp5, rfl, hb5, ho5, hca5, hcb5⟩
  have CA5 := Lib.hid hca5
  have CB5 := Lib.hid hcb5
  clear hca5 hcb5
  have B5 := Lib.hid (B4.out.trans (hb5.mono B4.out.size))
  have S5 := Lib.hid (show w4.heap.size ≤ w5.heap.size from hb5.size)
  have O4_0_5 := Lib.hid (O4_0.out.below hb5)
  have X5 := Lib.hid (X4.out.below hb5 X4.out.lt)
  have O5 := Lib.hid (Own.of ho5)
  clear hb5 ho5
  go_wp2_with fail
  refine (toRow_any (HR1.out.below' B5.out) hn1).mono ?_
  rintro e w6 ⟨a6, cp6, rfl, hb6, ho6, hca6, hcb6⟩
  have CA6 := Lib.hid hca6
  have CB6 := Lib.hid hcb6
  clear hca6 hcb6
  have B6 := Lib.hid (B5.out.trans (hb6.mono B5.out.size))
  have S6 := Lib.hid (show w5.heap.size ≤ w6.heap.size from hb6.size)
  have O4_0_6 := Lib.hid (O4_0_5.out.below hb6)
  have O5_6 := Lib.hid (O5.out.below hb6)
  have X6 := Lib.hid (X5.out.below hb6 X5.out.lt)
  have O6 := Lib.hid (Own.of ho6)
  clear hb6 ho6
  obtain ⟨_, c0, c1, c2, c3, c4, c5⟩ := X6.out
  go_wp2_with fail
  refine (toLayout_any p pw g D C N _).mono ?_
  rintro e w7 ⟨rfl, hb7⟩
  have B7 := Lib.hid (B6.out.trans (hb7.mono B6.out.size))
  have S7 := Lib.hid (show w6.heap.size ≤ w7.heap.size from hb7.size)
  have O4_0_7 := Lib.hid (O4_0_6.out.below hb7)
  have O5_7 := Lib.hid (O5_6.out.below hb7)
  have O6_7 := Lib.hid (O6.out.below hb7)
  have X7 := Lib.hid (X6.out.below hb7 X6.out.lt)
  clear hb7
  clear c0 c1 c2 c3 c4 c5
  go_wp2_with fail
  refine (implDecodeStream_any p pw g D C N _ O5_7.out.row O6_7.out.row).mono ?_
  rintro e w8 ⟨v8_0, rfl, hb8, hres8_0⟩
  have B8 := Lib.hid (B7.out.trans (hb8.mono B7.out.size))
  have S8 := Lib.hid (show w7.heap.size ≤ w8.heap.size from hb8.size)
  have O4_0_8 := Lib.hid (O4_0_7.out.below hb8)
  have O5_8 := Lib.hid (O5_7.out.below hb8)
  have O6_8 := Lib.hid (O6_7.out.below hb8)
  have X8 := Lib.hid (X7.out.below hb8 X7.out.lt)
  obtain ⟨a8_0, cp8_0, rfl, _, ho8_0⟩ := hres8_0
  have O8_0 := Lib.hid (Own.of ho8_0)
  clear ho8_0
  clear hb8
  go_wp2_with fail
  refine (eqRow_any O8_0.out.row O4_0_8.out.row).mono ?_
  rintro e w9 ⟨rfl, hd9⟩
  have hb9 := (show Drew w8 w9 from hd9).below w8.heap.size
  have B9 := Lib.hid (B8.out.trans (hb9.mono B8.out.size))
  have S9 := Lib.hid (show w8.heap.size ≤ w9.heap.size from hb9.size)
  have O4_0_9 := Lib.hid (O4_0_8.out.below hb9)
  have O5_9 := Lib.hid (O5_8.out.below hb9)
  have O6_9 := Lib.hid (O6_8.out.below hb9)
  have O8_0_9 := Lib.hid (O8_0.out.below hb9)
  have X9 := Lib.hid (X8.out.below hb9 X8.out.lt)
  have hdec : decide (dsR p pw g D C N z0 z1 = dsR p pw g D C N z0 z1) = true := by simp
  rw [hdec]
  clear hd9 hb9 hdec
  go_wp2_with fail
  refine (toRow_any (HR0.out.below' B9.out) hn0).mono ?_
  rintro e w10 ⟨a10, cp10, rfl, hb10, ho10, hca10, hcb10⟩
  have CA10 := Lib.hid hca10
  have CB10 := Lib.hid hcb10
  clear hca10 hcb10
  have B10 := Lib.hid (B9.out.trans (hb10.mono B9.out.size))
  have S10 := Lib.hid (show w9.heap.size ≤ w10.heap.size from hb10.size)
  have O4_0_10 := Lib.hid (O4_0_9.out.below hb10)
  have O5_10 := Lib.hid (O5_9.out.below hb10)
  have O6_10 := Lib.hid (O6_9.out.below hb10)
  have O8_0_10 := Lib.hid (O8_0_9.out.below hb10)
  have X10 := Lib.hid (X9.out.below hb10 X9.out.lt)
  have O10 := Lib.hid (Own.of ho10)
  clear hb10 ho10
  go_wp2_with fail
  refine (eqRow_any O5_10.out.row O10.out.row).mono ?_
  rintro e w11 ⟨rfl, hd11⟩
  have hb11 := (show Drew w10 w11 from hd11).below w10.heap.size
  have B11 := Lib.hid (B10.out.trans (hb11.mono B10.out.size))
  have S11 := Lib.hid (show w10.heap.size ≤ w11.heap.size from hb11.size)
  have O4_0_11 := Lib.hid (O4_0_10.out.below hb11)
  have O5_11 := Lib.hid (O5_10.out.below hb11)
  have O6_11 := Lib.hid (O6_10.out.below hb11)
  have O8_0_11 := Lib.hid (O8_0_10.out.below hb11)
  have O10_11 := Lib.hid (O10.out.below hb11)
  have X11 := Lib.hid (X10.out.below hb11 X10.out.lt)
  have hdec : decide (z0 = z0) = true := by simp
  rw [hdec]
  clear hd11 hb11 hdec
  go_wp2_with fail
  refine (toRow_any (HR1.out.below' B11.out) hn1).mono ?_
  rintro e w12 ⟨a12, cp12, rfl, hb12, ho12, hca12, hcb12⟩
  have CA12 := Lib.hid hca12
  have CB12 := Lib.hid hcb12
  clear hca12 hcb12
  have B12 := Lib.hid (B11.out.trans (hb12.mono B11.out.size))
  have S12 := Lib.hid (show w11.heap.size ≤ w12.heap.size from hb12.size)
  have O4_0_12 := Lib.hid (O4_0_11.out.below hb12)
  have O5_12 := Lib.hid (O5_11.out.below hb12)
  have O6_12 := Lib.hid (O6_11.out.below hb12)
  have O8_0_12 := Lib.hid (O8_0_11.out.below hb12)
  have X12 := Lib.hid (X11.out.below hb12 X11.out.lt)
  have O12 := Lib.hid (Own.of ho12)
  clear hb12 ho12
  go_wp2_with fail
  refine (eqRow_any O6_12.out.row O12.out.row).mono ?_
  rintro e w13 ⟨rfl, hd13⟩
  have hb13 := (show Drew w12 w13 from hd13).below w12.heap.size
  have B13 := Lib.hid (B12.out.trans (hb13.mono B12.out.size))
  have S13 := Lib.hid (show w12.heap.size ≤ w13.heap.size from hb13.size)
  have O4_0_13 := Lib.hid (O4_0_12.out.below hb13)
  have O5_13 := Lib.hid (O5_12.out.below hb13)
  have O6_13 := Lib.hid (O6_12.out.below hb13)
  have O8_0_13 := Lib.hid (O8_0_12.out.below hb13)
  have O12_13 := Lib.hid (O12.out.below hb13)
  have X13 := Lib.hid (X12.out.below hb13 X12.out.lt)
  have hdec : decide (z1 = z1) = true := by simp
  rw [hdec]
  clear hd13 hb13 hdec
  go_wp2_with fail
  refine (mark2_any O5_13.out hn0 (1) (by omega) (by omega)).mono ?_
  rintro e w14 ⟨rfl, hc14, ho14⟩
  have C14 := Lib.hid hc14
  have hlo14 : w.heap.size ≤ w4.heap.size := by have q1 := S1.out; have q2 := S2.out; have q3 := S3.out; have q4 := S4.out; have q5 := S5.out; have q6 := S6.out; have q7 := S7.out; have q8 := S8.out; have q9 := S9.out; have q10 := S10.out; have q11 := S11.out; have q12 := S12.out; have q13 := S13.out; omega
  have B14 := Lib.hid (B13.out.trans (C14.out.below hlo14))
  have S14 := Lib.hid (show w13.heap.size ≤ w14.heap.size from Nat.le_of_eq C14.out.size)
  have O4_0_14 := Lib.hid (O4_0_13.out.chg C14.out (by have q1 := S1.out; have q2 := S2.out; have q3 := S3.out; have q4 := S4.out; have q5 := S5.out; have q6 := S6.out; have q7 := S7.out; have q8 := S8.out; have q9 := S9.out; have q10 := S10.out; have q11 := S11.out; have q12 := S12.out; have q13 := S13.out; have q14 := S14.out; omega))
  have O6_14 := Lib.hid (O6_13.out.chg C14.out (by have q1 := S1.out; have q2 := S2.out; have q3 := S3.out; have q4 := S4.out; have q5 := S5.out; have q6 := S6.out; have q7 := S7.out; have q8 := S8.out; have q9 := S9.out; have q10 := S10.out; have q11 := S11.out; have q12 := S12.out; have q13 := S13.out; have q14 := S14.out; omega))
  have O8_0_14 := Lib.hid (O8_0_13.out.chg C14.out (by have q1 := S1.out; have q2 := S2.out; have q3 := S3.out; have q4 := S4.out; have q5 := S5.out; have q6 := S6.out; have q7 := S7.out; have q8 := S8.out; have q9 := S9.out; have q10 := S10.out; have q11 := S11.out; have q12 := S12.out; have q13 := S13.out; have q14 := S14.out; omega))
  have O5_14 := Lib.hid ho14
  have X14 := Lib.hid (X13.out.chg C14.out (by have q1 := S1.out; have q2 := S2.out; have q3 := S3.out; have q4 := S4.out; have q5 := S5.out; have q6 := S6.out; have q7 := S7.out; have q8 := S8.out; have q9 := S9.out; have q10 := S10.out; have q11 := S11.out; have q12 := S12.out; have q13 := S13.out; have q14 := S14.out; omega))
  clear hc14 ho14 hlo14
  go_wp2_with fail
  refine (mark2_any O6_14.out hn1 (1 + (n0 : Int)) (by omega) (by omega)).mono ?_
  rintro e w15 ⟨rfl, hc15, ho15⟩
  have C15 := Lib.hid hc15
  have hlo15 : w.heap.size ≤ w5.heap.size := by have q1 := S1.out; have q2 := S2.out; have q3 := S3.out; have q4 := S4.out; have q5 := S5.out; have q6 := S6.out; have q7 := S7.out; have q8 := S8.out; have q9 := S9.out; have q10 := S10.out; have q11 := S11.out; have q12 := S12.out; have q13 := S13.out; have q14 := S14.out; omega
  have B15 := Lib.hid (B14.out.trans (C15.out.below hlo15))
  have S15 := Lib.hid (show w14.heap.size ≤ w15.heap.size from Nat.le_of_eq C15.out.size)
  have O4_0_15 := Lib.hid (O4_0_14.out.chg C15.out (by have q1 := S1.out; have q2 := S2.out; have q3 := S3.out; have q4 := S4.out; have q5 := S5.out; have q6 := S6.out; have q7 := S7.out; have q8 := S8.out; have q9 := S9.out; have q10 := S10.out; have q11 := S11.out; have q12 := S12.out; have q13 := S13.out; have q14 := S14.out; have q15 := S15.out; omega))
  have O8_0_15 := Lib.hid (O8_0_14.out.chg C15.out (by have q1 := S1.out; have q2 := S2.out; have q3 := S3.out; have q4 := S4.out; have q5 := S5.out; have q6 := S6.out; have q7 := S7.out; have q8 := S8.out; have q9 := S9.out; have q10 := S10.out; have q11 := S11.out; have q12 := S12.out; have q13 := S13.out; have q14 := S14.out; have q15 := S15.out; omega))
  have O6_15 := Lib.hid ho15
  have X15 := Lib.hid (X14.out.chg C15.out (by have q1 := S1.out; have q2 := S2.out; have q3 := S3.out; have q4 := S4.out; have q5 := S5.out; have q6 := S6.out; have q7 := S7.out; have q8 := S8.out; have q9 := S9.out; have q10 := S10.out; have q11 := S11.out; have q12 := S12.out; have q13 := S13.out; have q14 := S14.out; have q15 := S15.out; omega))
  clear hc15 ho15 hlo15
  go_wp2_with fail
  refine (eqRow_any O8_0_15.out.row O4_0_15.out.row).mono ?_
  rintro e w16 ⟨rfl, hd16⟩
  have hb16 := (show Drew w15 w16 from hd16).below w15.heap.size
  have B16 := Lib.hid (B15.out.trans (hb16.mono B15.out.size))
  have S16 := Lib.hid (show w15.heap.size ≤ w16.heap.size from hb16.size)
  have O4_0_16 := Lib.hid (O4_0_15.out.below hb16)
  have O8_0_16 := Lib.hid (O8_0_15.out.below hb16)
  have X16 := Lib.hid (X15.out.below hb16 X15.out.lt)
  have hdec : decide (dsR p pw g D C N z0 z1 = dsR p pw g D C N z0 z1) = true := by simp
  rw [hdec]
  clear hd16 hb16 hdec
  have hl0 : (dsR p pw g D C N z0 z1).length ≤ 1048576 := dsR_len p pw g D C N z0 z1
  go_wp2_with fail
  refine (mark2_any O8_0_16.out hl0 (1) (by omega) (by omega)).mono ?_
  rintro e w17 ⟨rfl, hc17, ho17⟩
  have C17 := Lib.hid hc17
  have hlo17 : w.heap.size ≤ w7.heap.size := by have q1 := S1.out; have q2 := S2.out; have q3 := S3.out; have q4 := S4.out; have q5 := S5.out; have q6 := S6.out; have q7 := S7.out; have q8 := S8.out; have q9 := S9.out; have q10 := S10.out; have q11 := S11.out; have q12 := S12.out; have q13 := S13.out; have q14 := S14.out; have q15 := S15.out; have q16 := S16.out; omega
  have B17 := Lib.hid (B16.out.trans (C17.out.below hlo17))
  have S17 := Lib.hid (show w16.heap.size ≤ w17.heap.size from Nat.le_of_eq C17.out.size)
  have O4_0_17 := Lib.hid (O4_0_16.out.chg C17.out (by have q1 := S1.out; have q2 := S2.out; have q3 := S3.out; have q4 := S4.out; have q5 := S5.out; have q6 := S6.out; have q7 := S7.out; have q8 := S8.out; have q9 := S9.out; have q10 := S10.out; have q11 := S11.out; have q12 := S12.out; have q13 := S13.out; have q14 := S14.out; have q15 := S15.out; have q16 := S16.out; have q17 := S17.out; omega))
  have O8_0_17 := Lib.hid ho17
  have X17 := Lib.hid (X16.out.chg C17.out (by have q1 := S1.out; have q2 := S2.out; have q3 := S3.out; have q4 := S4.out; have q5 := S5.out; have q6 := S6.out; have q7 := S7.out; have q8 := S8.out; have q9 := S9.out; have q10 := S10.out; have q11 := S11.out; have q12 := S12.out; have q13 := S13.out; have q14 := S14.out; have q15 := S15.out; have q16 := S16.out; have q17 := S17.out; omega))
  clear hc17 ho17 hlo17
  go_wp2_with fail
  refine (held_any (1) O8_0_17.out.row hl0 (by omega) (by omega)).mono ?_
  rintro e w' ⟨rfl, rfl⟩
  obtain ⟨_, c0, c1, c2, c3, c4, c5⟩ := X17.out
  go_wp2_with fail
  refine (toLayout_any p pw g D C N _).mono ?_
  rintro e w18 ⟨rfl, hb18⟩
  have B18 := Lib.hid (B17.out.trans (hb18.mono B17.out.size))
  have S18 := Lib.hid (show w17.heap.size ≤ w18.heap.size from hb18.size)
  have O4_0_18 := Lib.hid (O4_0_17.out.below hb18)
  have O8_0_18 := Lib.hid (O8_0_17.out.below hb18)
  have X18 := Lib.hid (X17.out.below hb18 X17.out.lt)
  clear hb18
  clear c0 c1 c2 c3 c4 c5
  go_wp2_with fail
  refine (toRow_any (HR0.out.below' B18.out) hn0).mono ?_
  rintro e w19 ⟨a19, cp19, rfl, hb19, ho19, hca19, hcb19⟩
  have CA19 := Lib.hid hca19
  have CB19 := Lib.hid hcb19
  clear hca19 hcb19
  have B19 := Lib.hid (B18.out.trans (hb19.mono B18.out.size))
  have S19 := Lib.hid (show w18.heap.size ≤ w19.heap.size from hb19.size)
  have O4_0_19 := Lib.hid (O4_0_18.out.below hb19)
  have O8_0_19 := Lib.hid (O8_0_18.out.below hb19)
  have X19 := Lib.hid (X18.out.below hb19 X18.out.lt)
  have O19 := Lib.hid (Own.of ho19)
  clear hb19 ho19
  go_wp2_with fail
  refine (toRow_any (HR1.out.below' B19.out) hn1).mono ?_
  rintro e w20 ⟨a20, cp20, rfl, hb20, ho20, hca20, hcb20⟩
  have CA20 := Lib.hid hca20
  have CB20 := Lib.hid hcb20
  clear hca20 hcb20
  have B20 := Lib.hid (B19.out.trans (hb20.mono B19.out.size))
  have S20 := Lib.hid (show w19.heap.size ≤ w20.heap.size from hb20.size)
  have O4_0_20 := Lib.hid (O4_0_19.out.below hb20)
  have O8_0_20 := Lib.hid (O8_0_19.out.below hb20)
  have O19_20 := Lib.hid (O19.out.below hb20)
  have X20 := Lib.hid (X19.out.below hb20 X19.out.lt)
  have O20 := Lib.hid (Own.of ho20)
  clear hb20 ho20
  go_wp2_with fail
  refine (implDecodeStream_any p pw g D C N _ O19_20.out.row O20.out.row).mono ?_
  rintro e w21 ⟨v21_0, rfl, hb21, hres21_0⟩
  have B21 := Lib.hid (B20.out.trans (hb21.mono B20.out.size))
  have S21 := Lib.hid (show w20.heap.size ≤ w21.heap.size from hb21.size)
  have O4_0_21 := Lib.hid (O4_0_20.out.below hb21)
  have O8_0_21 := Lib.hid (O8_0_20.out.below hb21)
  have O19_21 := Lib.hid (O19_20.out.below hb21)
  have O20_21 := Lib.hid (O20.out.below hb21)
  have X21 := Lib.hid (X20.out.below hb21 X20.out.lt)
  obtain ⟨a21_0, cp21_0, rfl, _, ho21_0⟩ := hres21_0
  have O21_0 := Lib.hid (Own.of ho21_0)
  clear ho21_0
  clear hb21
  go_wp2_with fail
  refine (eqRow_any O21_0.out.row O4_0_21.out.row).mono ?_
  rintro e w22 ⟨rfl, hd22⟩
  have hb22 := (show Drew w21 w22 from hd22).below w21.heap.size
  have B22 := Lib.hid (B21.out.trans (hb22.mono B21.out.size))
  have S22 := Lib.hid (show w21.heap.size ≤ w22.heap.size from hb22.size)
  have O4_0_22 := Lib.hid (O4_0_21.out.below hb22)
  have O8_0_22 := Lib.hid (O8_0_21.out.below hb22)
  have O21_0_22 := Lib.hid (O21_0.out.below hb22)
  have X22 := Lib.hid (X21.out.below hb22 X21.out.lt)
  have hdec : decide (dsR p pw g D C N z0 z1 = dsR p pw g D C N z0 z1) = true := by simp
  rw [hdec]
  clear hd22 hb22 hdec
  go_wp2_with fail
  refine (held_any (1) O8_0_22.out.row hl0 (by omega) (by omega)).mono ?_
  rintro e w' ⟨rfl, rfl⟩
  go_wp2_with fail
  go_ret
  exact ⟨rfl, B22.out⟩
end Go.Proofs.Ytfhkkpfiflgofaa
