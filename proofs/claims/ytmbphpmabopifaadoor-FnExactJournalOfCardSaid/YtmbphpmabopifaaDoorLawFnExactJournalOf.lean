/-
  The walk of the law FnExactJournalOf.
-/
import Derived.Test.YtmbphpmabopifaaDoorJouI
namespace Go.Proofs.YtmbphpmabopifaaDoor
open Go.RowKit
set_option linter.unusedVariables false

set_option maxHeartbeats 4000000 in
set_option maxRecDepth 100000 in
theorem lawFnExactJournalOf (s0 : Option Addr) (n0 cap0 : Nat) (z0 : List (Int × Int)) (w : World) (hr0 : RecsAt w s0 n0 z0) (htab : Tab w) :
    Calls Tryd.prog 3 #[.slice s0 n0 cap0] w fun e w' => e = .returned (.bool true) ∧ Below w.heap.size w w' := by
  have HR0 := Lib.hid hr0
  have HT := Lib.hid (fun w' (hb : Below w.heap.size w w') => tab_below htab hb)
  have hsm0 := hr0.small
  clear hr0 htab
  by_cases hn0 : n0 ≤ 1048576
  rotate_left
  · have hh := Lib.hid (show (if (n0 : Int) ≤ 1048576 then (1048576 : Int) - n0 else -1) = -1 by rw [if_neg (by omega)])
    go_enter Tryd.func3, Tryd.ntmps3
    go_wp2_with fail
    refine (szRecordS_any 1048576 hsm0 (by omega) (by omega)).mono ?_
    rintro e w1 ⟨rfl, rfl⟩
    rw [hh.out]
    go_wp2_with fail
    go_ret
    exact ⟨rfl, Below.refl _ _⟩
  have hh := Lib.hid (show (if (n0 : Int) ≤ 1048576 then (1048576 : Int) - n0 else -1) = 1048576 - n0 by rw [if_pos (by omega)])
  go_enter Tryd.func3, Tryd.ntmps3
  go_wp2_with fail
  refine (szRecordS_any 1048576 hsm0 (by omega) (by omega)).mono ?_
  rintro e w1 ⟨rfl, rfl⟩
  rw [hh.out]
  go_wp2_with fail
  refine (toRecordS_any HR0.out hn0).mono ?_
  rintro e w1 ⟨a1, rfl, hb1, ho1, _⟩
  have B1 := Lib.hid hb1
  have O1 := Lib.hid (ho1.recs HR0.out.len (by omega))
  clear hb1 ho1
  go_wp2_with fail
  refine (specJournalOf_any O1.out).mono ?_
  rintro e w2 ⟨rfl, hb2⟩
  have B2 := Lib.hid (B1.out.trans (hb2.mono B1.out.size))
  clear hb2
  go_wp2_with fail
  refine (toRecordS_any (HR0.out.below B2.out) hn0).mono ?_
  rintro e w3 ⟨a3, rfl, hb3, ho3, hs3⟩
  have B3 := Lib.hid (B2.out.trans (hb3.mono B2.out.size))
  have O3 := Lib.hid (ho3.recs HR0.out.len (by omega))
  clear hb3 ho3 hs3
  go_wp2_with fail
  refine (implJournalOf_any O3.out (HT.out _ B3.out)).mono ?_
  rintro e w4 ⟨rfl, hb4⟩
  have B4 := Lib.hid (B3.out.trans (hb4.mono B3.out.size))
  have O3_4 := Lib.hid (O3.out.below hb4)
  clear hb4
  generalize recsC z0 = cd at *
  generalize str (jofR z0) = S at *
  have hq2 : (cd != cd) = false := by simp
  go_wp2_with fail
  refine (toRecordS_any (HR0.out.below B4.out) hn0).mono ?_
  rintro e w6 ⟨a6, rfl, hb6, ho6, _⟩
  have B6 := Lib.hid (B4.out.trans (hb6.mono B4.out.size))
  have O3_6 := Lib.hid (O3_4.out.below hb6)
  have O6 := Lib.hid (ho6.recs HR0.out.len (by omega))
  clear hb6 ho6
  go_wp2_with fail
  refine (eqRecordS_same O3_6.out O6.out).mono ?_
  rintro e w7 ⟨rfl, hb7⟩
  have B7 := Lib.hid (B6.out.trans (hb7.mono B6.out.size))
  clear hb7
  go_wp2_with fail
  go_ret
  exact ⟨rfl, B7.out⟩
end Go.Proofs.YtmbphpmabopifaaDoor
