/-
  The walk of the law FnExactRecoverJournal.
-/
import Derived.Test.YtmbphpmabopifaaDoorRecH
namespace Go.Proofs.YtmbphpmabopifaaDoor
open Go.RowKit
set_option linter.unusedVariables false

theorem rcvL_len (S : List UInt8) : (rcvL S).length ≤ 300 := by
  unfold rcvL
  split
  · by_cases h : ∃ L, RecP S L
    · obtain ⟨L, h⟩ := h; rw [h.recL]; exact h.1
    · unfold recL; rw [dif_neg h]; simp
  · simp
set_option maxHeartbeats 4000000 in
set_option maxRecDepth 100000 in
theorem lawFnExactRecoverJournal (S : List UInt8) (w : World) (hG : Glob w) :
    Calls Tryd.prog 7 #[.string (str S)] w fun e w' => e = .returned (.bool true) ∧ Below w.heap.size w w' := by
  have hsz := str_size S
  have HG := Lib.hid (fun w' (hb : Below w.heap.size w w') => hG.below hb)
  clear hG
  by_cases hB : S.length ≤ 1048576
  rotate_left
  · have hB' : (1048576 : Int) < (S.length : Int) := by omega
    clear hB
    go_enter Tryd.func7, Tryd.ntmps7
    go_wp2_with fail
    go_ret
    exact ⟨rfl, Below.refl _ _⟩
  have hB' : ¬ (1048576 : Int) < (S.length : Int) := by omega
  have hb : S.length ≤ 4611686018427387903 := by omega
  have hl := rcvL_len S
  clear hB
  go_enter Tryd.func7, Tryd.ntmps7
  go_wp2_with fail
  refine (specRecoverJournal_any S hb _).mono ?_
  rintro e w1 ⟨⟨v1, rfl, ho1⟩, hb1⟩
  obtain ⟨a1, c1, rfl⟩ := ho1.slice
  have B1 := Lib.hid hb1
  have O1 := Lib.hid ho1.own
  have S1 := Lib.hid hb1.size
  clear hb1 ho1
  go_wp2_with fail
  refine (implRecoverJournal_any S hb (HG.out _ B1.out)).mono ?_
  rintro e w2 ⟨⟨v2, rfl, ho2⟩, hb2⟩
  obtain ⟨a2, c2, rfl⟩ := ho2.slice
  have B2 := Lib.hid (B1.out.trans (hb2.mono B1.out.size))
  have O1_2 := Lib.hid (O1.out.below hb2)
  have O2 := Lib.hid ho2.own
  have S2 := Lib.hid hb2.size
  have HI := Lib.hid (fun w0 (hb0 : Below w.heap.size w w0) => implRecoverJournal_any S hb (HG.out _ hb0))
  clear hb2 ho2
  have hq2 : (tornV S != tornV S) = false := by simp
  have hq3 : (bigC S != bigC S) = false := by simp
  have hlen : (rcvL S).length ≤ 1048576 := by omega
  go_wp2_with fail
  refine (eqRecordS_same (O2.out.recs rfl (by omega)) (O1_2.out.recs rfl (by omega))).mono ?_
  rintro e w3 ⟨rfl, hb3⟩
  have B3 := Lib.hid (B2.out.trans (hb3.mono B2.out.size))
  have O1_3 := Lib.hid (O1_2.out.below hb3)
  have O2_3 := Lib.hid (O2.out.below hb3)
  have S3 := Lib.hid hb3.size
  clear hb3
  go_wp2_with fail
  refine (markRecordS2_any O2_3.out hlen 1 (by omega) (by omega)).mono ?_
  rintro e w4 ⟨rfl, hc4, ho4⟩
  have B4 := Lib.hid (B3.out.trans (hc4.below S1.out))
  have O1_4 := Lib.hid (O1_3.out.chg hc4 (.inl (Nat.le_refl _)))
  have O4 := Lib.hid ho4
  clear hc4 ho4
  go_wp2_with fail
  refine (heldRecordS_any 1 (O4.out.recs (mkR_length _ _) (by omega)) hlen (by omega) (by omega)).mono ?_
  rintro e w' ⟨rfl, rfl⟩
  have hneg : ¬ (1 : Int) + ((rcvL S).length : Int) + ((rcvL S).length : Int) < 0 := by omega
  have hq4 : ((1 : Int) + ((rcvL S).length : Int) + ((rcvL S).length : Int) != (1 : Int) + ((rcvL S).length : Int) + ((rcvL S).length : Int)) = false := by simp
  go_wp2_with fail
  refine (HI.out _ B4.out).mono ?_
  rintro e w5 ⟨⟨v5, rfl, ho5⟩, hb5⟩
  obtain ⟨a5, c5, rfl⟩ := ho5.slice
  have B5 := Lib.hid (B4.out.trans (hb5.mono B4.out.size))
  have O1_5 := Lib.hid (O1_4.out.below hb5)
  have O4_5 := Lib.hid (O4.out.below hb5)
  have O5 := Lib.hid ho5.own
  clear hb5 ho5
  go_wp2_with fail
  refine (eqRecordS_same (O5.out.recs rfl (by omega)) (O1_5.out.recs rfl (by omega))).mono ?_
  rintro e w6 ⟨rfl, hb6⟩
  have B6 := Lib.hid (B5.out.trans (hb6.mono B5.out.size))
  have O4_6 := Lib.hid (O4_5.out.below hb6)
  clear hb6
  go_wp2_with fail
  refine (heldRecordS_any 1 (O4_6.out.recs (mkR_length _ _) (by omega)) hlen (by omega) (by omega)).mono ?_
  rintro e w' ⟨rfl, rfl⟩
  go_wp2_with fail
  go_ret
  exact ⟨rfl, B6.out⟩
end Go.Proofs.YtmbphpmabopifaaDoor
