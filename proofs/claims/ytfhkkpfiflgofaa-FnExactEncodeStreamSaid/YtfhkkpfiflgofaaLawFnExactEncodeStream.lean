/-
  The walk of the law FnExactEncodeStream.
-/
import Derived.Test.YtfhkkpfiflgofaaEncT
import Derived.Test.YtfhkkpfiflgofaaEncI
import Derived.Test.YtfhkkpfiflgofaaOwns
import Derived.Test.YtfhkkpfiflgofaaFrames
import Derived.Test.YtfhkkpfiflgofaaFrameLay
namespace Go.Proofs.Ytfhkkpfiflgofaa
open Go.RowKit
set_option linter.unusedVariables false

set_option maxHeartbeats 4000000 in
set_option maxRecDepth 100000 in
theorem lawFnExactEncodeStream (p pw g D C N : Int) (s0 : Option Addr) (n0 cap0 : Nat) (z0 : List Int) (w : World) (_ : (Lit.int .i64 p).wf = true) (_ : (Lit.int .i64 pw).wf = true) (_ : (Lit.int .i64 g).wf = true) (_ : (Lit.int .i64 D).wf = true) (_ : (Lit.int .i64 C).wf = true) (_ : (Lit.int .i64 N).wf = true) (hr0 : RowAt w s0 n0 z0) :
    Calls Try.prog 3 #[lV p pw g D C N, .slice s0 n0 cap0] w fun e w' => e = .returned (.bool true) ∧ Below w.heap.size w w' := by
  have HR0 := Lib.hid hr0
  have hsm0 := hr0.small
  clear hr0
  by_cases hn0 : n0 ≤ 1048576
  rotate_left
  · go_enter Try.func3, Try.ntmps3
    go_wp2_with fail
    go_ret
    exact ⟨rfl, below1 _ _⟩
  go_enter Try.func3, Try.ntmps3
  go_wp2_with fail
  refine (toLayout_any p pw g D C N _).mono ?_
  rintro e w1 ⟨rfl, hb1⟩
  have B1 := Lib.hid ((below1 _ _).trans (hb1.mono (by simp)))
  have S1 := Lib.hid B1.out.size
  have X1 := Lib.hid ((boxL_new w p pw g D C N 25).below hb1 (by simp))
  clear hb1
  have S1 := Lib.hid X1.out.lt
  go_wp2_with fail
  refine (toRow_any (HR0.out.below' B1.out) hn0).mono ?_
  rintro e w2 ⟨a2, cp2, rfl, hb2, ho2, hca2, hcb2⟩
  have CA2 := Lib.hid hca2
  have CB2 := Lib.hid hcb2
  clear hca2 hcb2
  have B2 := Lib.hid (B1.out.trans (hb2.mono B1.out.size))
  have S2 := Lib.hid (show w1.heap.size ≤ w2.heap.size from hb2.size)
  have X2 := Lib.hid (X1.out.below hb2 X1.out.lt)
  have O2 := Lib.hid (Own.of ho2)
  clear hb2 ho2
  go_wp2_with fail
  refine (specEncodeStream_any p pw g D C N _ O2.out.row CB2.out).mono ?_
  rintro e w3 ⟨v3_0, rfl, hb3, hres3_0⟩
  have B3 := Lib.hid (B2.out.trans (hb3.mono B2.out.size))
  have S3 := Lib.hid (show w2.heap.size ≤ w3.heap.size from hb3.size)
  have O2_3 := Lib.hid (O2.out.below hb3)
  have X3 := Lib.hid (X2.out.below hb3 X2.out.lt)
  obtain ⟨a3_0, cp3_0, rfl, _, ho3_0⟩ := hres3_0
  have O3_0 := Lib.hid (Own.of ho3_0)
  clear ho3_0
  clear hb3
  go_wp2_with fail
  refine (toRow_any (HR0.out.below' B3.out) hn0).mono ?_
  rintro e w4 ⟨a4, cp4, rfl, hb4, ho4, hca4, hcb4⟩
  have CA4 := Lib.hid hca4
  have CB4 := Lib.hid hcb4
  clear hca4 hcb4
  have B4 := Lib.hid (B3.out.trans (hb4.mono B3.out.size))
  have S4 := Lib.hid (show w3.heap.size ≤ w4.heap.size from hb4.size)
  have O3_0_4 := Lib.hid (O3_0.out.below hb4)
  have X4 := Lib.hid (X3.out.below hb4 X3.out.lt)
  have O4 := Lib.hid (Own.of ho4)
  clear hb4 ho4
  obtain ⟨_, c0, c1, c2, c3, c4, c5⟩ := X4.out
  go_wp2_with fail
  refine (toLayout_any p pw g D C N _).mono ?_
  rintro e w5 ⟨rfl, hb5⟩
  have B5 := Lib.hid (B4.out.trans (hb5.mono B4.out.size))
  have S5 := Lib.hid (show w4.heap.size ≤ w5.heap.size from hb5.size)
  have O3_0_5 := Lib.hid (O3_0_4.out.below hb5)
  have O4_5 := Lib.hid (O4.out.below hb5)
  have X5 := Lib.hid (X4.out.below hb5 X4.out.lt)
  clear hb5
  clear c0 c1 c2 c3 c4 c5
  go_wp2_with fail
  refine (implEncodeStream_any p pw g D C N _ O4_5.out.row CB4.out).mono ?_
  rintro e w6 ⟨v6_0, rfl, hb6, hres6_0⟩
  have B6 := Lib.hid (B5.out.trans (hb6.mono B5.out.size))
  have S6 := Lib.hid (show w5.heap.size ≤ w6.heap.size from hb6.size)
  have O3_0_6 := Lib.hid (O3_0_5.out.below hb6)
  have O4_6 := Lib.hid (O4_5.out.below hb6)
  have X6 := Lib.hid (X5.out.below hb6 X5.out.lt)
  obtain ⟨a6_0, cp6_0, rfl, _, ho6_0⟩ := hres6_0
  have O6_0 := Lib.hid (Own.of ho6_0)
  clear ho6_0
  clear hb6
  go_wp2_with fail
  refine (eqRow_any O6_0.out.row O3_0_6.out.row).mono ?_
  rintro e w7 ⟨rfl, hd7⟩
  have hb7 := (show Drew w6 w7 from hd7).below w6.heap.size
  have B7 := Lib.hid (B6.out.trans (hb7.mono B6.out.size))
  have S7 := Lib.hid (show w6.heap.size ≤ w7.heap.size from hb7.size)
  have O3_0_7 := Lib.hid (O3_0_6.out.below hb7)
  have O4_7 := Lib.hid (O4_6.out.below hb7)
  have O6_0_7 := Lib.hid (O6_0.out.below hb7)
  have X7 := Lib.hid (X6.out.below hb7 X6.out.lt)
  have hdec : decide (esR p pw g D C N z0 = esR p pw g D C N z0) = true := by simp
  rw [hdec]
  clear hd7 hb7 hdec
  go_wp2_with fail
  refine (toRow_any (HR0.out.below' B7.out) hn0).mono ?_
  rintro e w8 ⟨a8, cp8, rfl, hb8, ho8, hca8, hcb8⟩
  have CA8 := Lib.hid hca8
  have CB8 := Lib.hid hcb8
  clear hca8 hcb8
  have B8 := Lib.hid (B7.out.trans (hb8.mono B7.out.size))
  have S8 := Lib.hid (show w7.heap.size ≤ w8.heap.size from hb8.size)
  have O3_0_8 := Lib.hid (O3_0_7.out.below hb8)
  have O4_8 := Lib.hid (O4_7.out.below hb8)
  have O6_0_8 := Lib.hid (O6_0_7.out.below hb8)
  have X8 := Lib.hid (X7.out.below hb8 X7.out.lt)
  have O8 := Lib.hid (Own.of ho8)
  clear hb8 ho8
  go_wp2_with fail
  refine (eqRow_any O4_8.out.row O8.out.row).mono ?_
  rintro e w9 ⟨rfl, hd9⟩
  have hb9 := (show Drew w8 w9 from hd9).below w8.heap.size
  have B9 := Lib.hid (B8.out.trans (hb9.mono B8.out.size))
  have S9 := Lib.hid (show w8.heap.size ≤ w9.heap.size from hb9.size)
  have O3_0_9 := Lib.hid (O3_0_8.out.below hb9)
  have O4_9 := Lib.hid (O4_8.out.below hb9)
  have O6_0_9 := Lib.hid (O6_0_8.out.below hb9)
  have O8_9 := Lib.hid (O8.out.below hb9)
  have X9 := Lib.hid (X8.out.below hb9 X8.out.lt)
  have hdec : decide (z0 = z0) = true := by simp
  rw [hdec]
  clear hd9 hb9 hdec
  go_wp2_with fail
  refine (mark2_any O4_9.out hn0 (1) (by omega) (by omega)).mono ?_
  rintro e w10 ⟨rfl, hc10, ho10⟩
  have C10 := Lib.hid hc10
  have hlo10 : w.heap.size ≤ w3.heap.size := by have q1 := S1.out; have q2 := S2.out; have q3 := S3.out; have q4 := S4.out; have q5 := S5.out; have q6 := S6.out; have q7 := S7.out; have q8 := S8.out; have q9 := S9.out; omega
  have B10 := Lib.hid (B9.out.trans (C10.out.below hlo10))
  have S10 := Lib.hid (show w9.heap.size ≤ w10.heap.size from Nat.le_of_eq C10.out.size)
  have O3_0_10 := Lib.hid (O3_0_9.out.chg C10.out (by have q1 := S1.out; have q2 := S2.out; have q3 := S3.out; have q4 := S4.out; have q5 := S5.out; have q6 := S6.out; have q7 := S7.out; have q8 := S8.out; have q9 := S9.out; have q10 := S10.out; omega))
  have O6_0_10 := Lib.hid (O6_0_9.out.chg C10.out (by have q1 := S1.out; have q2 := S2.out; have q3 := S3.out; have q4 := S4.out; have q5 := S5.out; have q6 := S6.out; have q7 := S7.out; have q8 := S8.out; have q9 := S9.out; have q10 := S10.out; omega))
  have O4_10 := Lib.hid ho10
  have X10 := Lib.hid (X9.out.chg C10.out (by have q1 := S1.out; have q2 := S2.out; have q3 := S3.out; have q4 := S4.out; have q5 := S5.out; have q6 := S6.out; have q7 := S7.out; have q8 := S8.out; have q9 := S9.out; have q10 := S10.out; omega))
  clear hc10 ho10 hlo10
  go_wp2_with fail
  refine (eqRow_any O6_0_10.out.row O3_0_10.out.row).mono ?_
  rintro e w11 ⟨rfl, hd11⟩
  have hb11 := (show Drew w10 w11 from hd11).below w10.heap.size
  have B11 := Lib.hid (B10.out.trans (hb11.mono B10.out.size))
  have S11 := Lib.hid (show w10.heap.size ≤ w11.heap.size from hb11.size)
  have O3_0_11 := Lib.hid (O3_0_10.out.below hb11)
  have O6_0_11 := Lib.hid (O6_0_10.out.below hb11)
  have X11 := Lib.hid (X10.out.below hb11 X10.out.lt)
  have hdec : decide (esR p pw g D C N z0 = esR p pw g D C N z0) = true := by simp
  rw [hdec]
  clear hd11 hb11 hdec
  have hl0 : (esR p pw g D C N z0).length ≤ 1048576 := esR_len p pw g D C N z0
  go_wp2_with fail
  refine (mark2_any O6_0_11.out hl0 (1) (by omega) (by omega)).mono ?_
  rintro e w12 ⟨rfl, hc12, ho12⟩
  have C12 := Lib.hid hc12
  have hlo12 : w.heap.size ≤ w5.heap.size := by have q1 := S1.out; have q2 := S2.out; have q3 := S3.out; have q4 := S4.out; have q5 := S5.out; have q6 := S6.out; have q7 := S7.out; have q8 := S8.out; have q9 := S9.out; have q10 := S10.out; have q11 := S11.out; omega
  have B12 := Lib.hid (B11.out.trans (C12.out.below hlo12))
  have S12 := Lib.hid (show w11.heap.size ≤ w12.heap.size from Nat.le_of_eq C12.out.size)
  have O3_0_12 := Lib.hid (O3_0_11.out.chg C12.out (by have q1 := S1.out; have q2 := S2.out; have q3 := S3.out; have q4 := S4.out; have q5 := S5.out; have q6 := S6.out; have q7 := S7.out; have q8 := S8.out; have q9 := S9.out; have q10 := S10.out; have q11 := S11.out; have q12 := S12.out; omega))
  have O6_0_12 := Lib.hid ho12
  have X12 := Lib.hid (X11.out.chg C12.out (by have q1 := S1.out; have q2 := S2.out; have q3 := S3.out; have q4 := S4.out; have q5 := S5.out; have q6 := S6.out; have q7 := S7.out; have q8 := S8.out; have q9 := S9.out; have q10 := S10.out; have q11 := S11.out; have q12 := S12.out; omega))
  clear hc12 ho12 hlo12
  go_wp2_with fail
  refine (held_any (1) O6_0_12.out.row hl0 (by omega) (by omega)).mono ?_
  rintro e w' ⟨rfl, rfl⟩
  obtain ⟨_, c0, c1, c2, c3, c4, c5⟩ := X12.out
  go_wp2_with fail
  refine (toLayout_any p pw g D C N _).mono ?_
  rintro e w13 ⟨rfl, hb13⟩
  have B13 := Lib.hid (B12.out.trans (hb13.mono B12.out.size))
  have S13 := Lib.hid (show w12.heap.size ≤ w13.heap.size from hb13.size)
  have O3_0_13 := Lib.hid (O3_0_12.out.below hb13)
  have O6_0_13 := Lib.hid (O6_0_12.out.below hb13)
  have X13 := Lib.hid (X12.out.below hb13 X12.out.lt)
  clear hb13
  clear c0 c1 c2 c3 c4 c5
  go_wp2_with fail
  refine (toRow_any (HR0.out.below' B13.out) hn0).mono ?_
  rintro e w14 ⟨a14, cp14, rfl, hb14, ho14, hca14, hcb14⟩
  have CA14 := Lib.hid hca14
  have CB14 := Lib.hid hcb14
  clear hca14 hcb14
  have B14 := Lib.hid (B13.out.trans (hb14.mono B13.out.size))
  have S14 := Lib.hid (show w13.heap.size ≤ w14.heap.size from hb14.size)
  have O3_0_14 := Lib.hid (O3_0_13.out.below hb14)
  have O6_0_14 := Lib.hid (O6_0_13.out.below hb14)
  have X14 := Lib.hid (X13.out.below hb14 X13.out.lt)
  have O14 := Lib.hid (Own.of ho14)
  clear hb14 ho14
  go_wp2_with fail
  refine (implEncodeStream_any p pw g D C N _ O14.out.row CB14.out).mono ?_
  rintro e w15 ⟨v15_0, rfl, hb15, hres15_0⟩
  have B15 := Lib.hid (B14.out.trans (hb15.mono B14.out.size))
  have S15 := Lib.hid (show w14.heap.size ≤ w15.heap.size from hb15.size)
  have O3_0_15 := Lib.hid (O3_0_14.out.below hb15)
  have O6_0_15 := Lib.hid (O6_0_14.out.below hb15)
  have O14_15 := Lib.hid (O14.out.below hb15)
  have X15 := Lib.hid (X14.out.below hb15 X14.out.lt)
  obtain ⟨a15_0, cp15_0, rfl, _, ho15_0⟩ := hres15_0
  have O15_0 := Lib.hid (Own.of ho15_0)
  clear ho15_0
  clear hb15
  go_wp2_with fail
  refine (eqRow_any O15_0.out.row O3_0_15.out.row).mono ?_
  rintro e w16 ⟨rfl, hd16⟩
  have hb16 := (show Drew w15 w16 from hd16).below w15.heap.size
  have B16 := Lib.hid (B15.out.trans (hb16.mono B15.out.size))
  have S16 := Lib.hid (show w15.heap.size ≤ w16.heap.size from hb16.size)
  have O3_0_16 := Lib.hid (O3_0_15.out.below hb16)
  have O6_0_16 := Lib.hid (O6_0_15.out.below hb16)
  have O15_0_16 := Lib.hid (O15_0.out.below hb16)
  have X16 := Lib.hid (X15.out.below hb16 X15.out.lt)
  have hdec : decide (esR p pw g D C N z0 = esR p pw g D C N z0) = true := by simp
  rw [hdec]
  clear hd16 hb16 hdec
  go_wp2_with fail
  refine (held_any (1) O6_0_16.out.row hl0 (by omega) (by omega)).mono ?_
  rintro e w' ⟨rfl, rfl⟩
  go_wp2_with fail
  go_ret
  exact ⟨rfl, B16.out⟩
end Go.Proofs.Ytfhkkpfiflgofaa
