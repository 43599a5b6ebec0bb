/-
  The walk of the law FnExactCountRecords.
-/
import Derived.Test.YtbfnicpamknlaaaCount
import Derived.Test.YtbfnicpamknlaaaEval
namespace Go.Proofs.Ytbfnicpamknlaaa
open Go.RowKit
set_option linter.unusedVariables false

set_option maxHeartbeats 4000000 in
set_option maxRecDepth 100000 in
theorem lawFnExactCountRecords (s0 : Option Addr) (n0 cap0 : Nat) (z0 : List (Int × Int)) (idx : Int) (w : World) (hr0 : RecsAt w s0 n0 z0) (_ : (Lit.int .i64 idx).wf = true) :
    Calls Try.prog 4 #[.slice s0 n0 cap0, .int .i64 idx] w fun e w' => e = .returned (.bool true) ∧ Below w.heap.size w w' := by
  have HR0 := Lib.hid hr0
  have hsm0 := hr0.small
  clear hr0
  by_cases hn0 : n0 ≤ 1048576
  rotate_left
  · have hh := Lib.hid (show (if (n0 : Int) ≤ 1048576 then (1048576 : Int) - n0 else -1) = -1 by rw [if_neg (by omega)])
    go_enter Try.func4, Try.ntmps4
    go_wp2_with fail
    refine (szRecordS_any 1048576 hsm0 (by omega) (by omega)).mono ?_
    rintro e w1 ⟨rfl, rfl⟩
    rw [hh.out]
    go_wp2_with fail
    go_ret
    exact ⟨rfl, Below.refl _ _⟩
  have hh := Lib.hid (show (if (n0 : Int) ≤ 1048576 then (1048576 : Int) - n0 else -1) = 1048576 - n0 by rw [if_pos (by omega)])
  go_enter Try.func4, Try.ntmps4
  go_wp2_with fail
  refine (szRecordS_any 1048576 hsm0 (by omega) (by omega)).mono ?_
  rintro e w1 ⟨rfl, rfl⟩
  rw [hh.out]
  go_wp2_with fail
  refine (toRecordS_any HR0.out hn0).mono ?_
  rintro e w1 ⟨a1, rfl, hb1, ho1, _⟩
  have B1 := Lib.hid hb1
  have S1 := Lib.hid B1.out.size
  have O1 := Lib.hid (ho1.recs HR0.out.len (by omega))
  clear hb1 ho1
  go_wp2_with fail
  refine (specCountRecords_any idx O1.out).mono ?_
  rintro e w2 ⟨v2_0, rfl, hb2, hres2⟩
  have B2 := Lib.hid (B1.out.trans (hb2.mono B1.out.size))
  have S2 := Lib.hid (show w1.heap.size ≤ w2.heap.size from hb2.size)
  obtain ⟨a2, cp2, rfl, _, ho2⟩ := hres2
  have O2 := Lib.hid (Own.of ho2)
  clear hb2 ho2
  go_wp2_with fail
  refine (toRecordS_any (HR0.out.below B2.out) hn0).mono ?_
  rintro e w3 ⟨a3, rfl, hb3, ho3, hs3⟩
  have B3 := Lib.hid (B2.out.trans (hb3.mono B2.out.size))
  have S3 := Lib.hid (show w2.heap.size + 1 ≤ w3.heap.size from hs3)
  have O2_3 := Lib.hid (O2.out.below hb3)
  have O3 := Lib.hid (ho3.recs HR0.out.len (by omega))
  have R3 := Lib.hid ho3
  clear hb3 ho3 hs3
  go_wp2_with fail
  refine (implCountRecords_any idx O3.out).mono ?_
  rintro e w4 ⟨v4_0, rfl, hb4, hres4⟩
  have B4 := Lib.hid (B3.out.trans (hb4.mono B3.out.size))
  have S4 := Lib.hid (show w3.heap.size ≤ w4.heap.size from hb4.size)
  have O2_4 := Lib.hid (O2_3.out.below hb4)
  have R3_4 := Lib.hid (R3.out.below hb4)
  have O3_4 := Lib.hid (O3.out.below hb4)
  obtain ⟨a4, cp4, rfl, _, ho4⟩ := hres4
  have O4 := Lib.hid (Own.of ho4)
  clear hb4 ho4
  go_wp2_with fail
  refine (eqRow_any O4.out.row O2_4.out.row).mono ?_
  rintro e w5 ⟨rfl, hd5⟩
  have hb5 := (show Drew w4 w5 from hd5).below w4.heap.size
  have B5 := Lib.hid (B4.out.trans (hb5.mono B4.out.size))
  have S5 := Lib.hid (show w4.heap.size ≤ w5.heap.size from hb5.size)
  have O2_5 := Lib.hid (O2_4.out.below hb5)
  have O4_5 := Lib.hid (O4.out.below hb5)
  have R3_5 := Lib.hid (R3_4.out.below hb5)
  have O3_5 := Lib.hid (O3_4.out.below hb5)
  have hdec : decide (cntR z0 idx = cntR z0 idx) = true := by simp
  rw [hdec]
  clear hd5 hb5 hdec
  go_wp2_with fail
  refine (toRecordS_any (HR0.out.below B5.out) hn0).mono ?_
  rintro e w6 ⟨a6, rfl, hb6, ho6, _⟩
  have B6 := Lib.hid (B5.out.trans (hb6.mono B5.out.size))
  have S6 := Lib.hid (show w5.heap.size ≤ w6.heap.size from hb6.size)
  have O2_6 := Lib.hid (O2_5.out.below hb6)
  have O4_6 := Lib.hid (O4_5.out.below hb6)
  have R3_6 := Lib.hid (R3_5.out.below hb6)
  have O3_6 := Lib.hid (O3_5.out.below hb6)
  have O6 := Lib.hid (ho6.recs HR0.out.len (by omega))
  clear hb6 ho6
  go_wp2_with fail
  refine (eqRecordS_same O3_6.out O6.out).mono ?_
  rintro e w7 ⟨rfl, hb7⟩
  have B7 := Lib.hid (B6.out.trans (hb7.mono B6.out.size))
  have S7 := Lib.hid (show w6.heap.size ≤ w7.heap.size from hb7.size)
  have O2_7 := Lib.hid (O2_6.out.below hb7)
  have O4_7 := Lib.hid (O4_6.out.below hb7)
  have R3_7 := Lib.hid (R3_6.out.below hb7)
  clear hb7
  go_wp2_with fail
  refine (markRecordS_any R3_7.out hn0 1 (by omega) (by omega)).mono ?_
  rintro e w8 ⟨rfl, hc8⟩
  have C8 := Lib.hid hc8
  have B8 := Lib.hid (B7.out.trans (C8.out.below (show w.heap.size ≤ w2.heap.size from B2.out.size)))
  have S8 := Lib.hid (show w7.heap.size ≤ w8.heap.size from Nat.le_of_eq C8.out.size)
  have O2_8 := Lib.hid (O2_7.out.chg C8.out (.inl (Nat.le_refl _)))
  have O4_8 := Lib.hid (O4_7.out.chg C8.out (.inr S3.out))
  clear hc8
  go_wp2_with fail
  refine (eqRow_any O4_8.out.row O2_8.out.row).mono ?_
  rintro e w9 ⟨rfl, hd9⟩
  have hb9 := (show Drew w8 w9 from hd9).below w8.heap.size
  have B9 := Lib.hid (B8.out.trans (hb9.mono B8.out.size))
  have S9 := Lib.hid (show w8.heap.size ≤ w9.heap.size from hb9.size)
  have O2_9 := Lib.hid (O2_8.out.below hb9)
  have O4_9 := Lib.hid (O4_8.out.below hb9)
  have hdec : decide (cntR z0 idx = cntR z0 idx) = true := by simp
  rw [hdec]
  clear hd9 hb9 hdec
  have hl0 : (cntR z0 idx).length ≤ 1048576 := cntR_len z0 idx
  go_wp2_with fail
  refine (mark2_any O4_9.out hl0 1 (by omega) (by omega)).mono ?_
  rintro e w10 ⟨rfl, hc10, ho10⟩
  have C10 := Lib.hid hc10
  have B10 := Lib.hid (B9.out.trans (C10.out.below (show w.heap.size ≤ w3.heap.size from B3.out.size)))
  have O2_10 := Lib.hid (O2_9.out.chg C10.out (.inl (by have q := S3.out; omega)))
  have O4_10 := Lib.hid ho10
  clear hc10 ho10
  go_wp2_with fail
  refine (held_any (1) O4_10.out.row hl0 (by omega) (by omega)).mono ?_
  rintro e w' ⟨rfl, rfl⟩
  go_wp2_with fail
  refine (toRecordS_any (HR0.out.below B10.out) hn0).mono ?_
  rintro e w11 ⟨a11, rfl, hb11, ho11, _⟩
  have B11 := Lib.hid (B10.out.trans (hb11.mono B10.out.size))
  have O2_11 := Lib.hid (O2_10.out.below hb11)
  have O4_11 := Lib.hid (O4_10.out.below hb11)
  have O11 := Lib.hid (ho11.recs HR0.out.len (by omega))
  clear hb11 ho11
  go_wp2_with fail
  refine (implCountRecords_any idx O11.out).mono ?_
  rintro e w12 ⟨v12_0, rfl, hb12, hres12⟩
  have B12 := Lib.hid (B11.out.trans (hb12.mono B11.out.size))
  have O2_12 := Lib.hid (O2_11.out.below hb12)
  have O4_12 := Lib.hid (O4_11.out.below hb12)
  obtain ⟨a12, cp12, rfl, _, ho12⟩ := hres12
  have O12 := Lib.hid (Own.of ho12)
  clear hb12 ho12
  go_wp2_with fail
  refine (eqRow_any O12.out.row O2_12.out.row).mono ?_
  rintro e w13 ⟨rfl, hd13⟩
  have hb13 := (show Drew w12 w13 from hd13).below w12.heap.size
  have B13 := Lib.hid (B12.out.trans (hb13.mono B12.out.size))
  have O4_13 := Lib.hid (O4_12.out.below hb13)
  have hdec : decide (cntR z0 idx = cntR z0 idx) = true := by simp
  rw [hdec]
  clear hd13 hb13 hdec
  go_wp2_with fail
  refine (held_any (1) O4_13.out.row hl0 (by omega) (by omega)).mono ?_
  rintro e w' ⟨rfl, rfl⟩
  go_wp2_with fail
  go_ret
  exact ⟨rfl, B13.out⟩
end Go.Proofs.Ytbfnicpamknlaaa
