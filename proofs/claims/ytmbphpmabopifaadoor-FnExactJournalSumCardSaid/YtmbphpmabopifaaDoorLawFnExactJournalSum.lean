/-
  The walk of the law FnExactJournalSum.
-/
import Derived.Test.YtmbphpmabopifaaDoorRcvM
namespace Go.Proofs.YtmbphpmabopifaaDoor
open Go.RowKit
set_option linter.unusedVariables false

set_option maxHeartbeats 4000000 in
set_option maxRecDepth 100000 in
theorem lawFnExactJournalSum (S : List UInt8) (w : World) (hG : Glob w) :
    Calls Tryd.prog 5 #[.string (str S)] w fun e w' => e = .returned (.bool true) ∧ Below w.heap.size w w' := by
  have hsz := str_size S
  have HG := Lib.hid (fun w' (hb : Below w.heap.size w w') => hG.below hb)
  clear hG
  have B0 := Lib.hid (Below.refl w.heap.size w)
  by_cases hB : S.length ≤ 1048576
  rotate_left
  · have hB' : (1048576 : Int) < (S.length : Int) := by omega
    clear hB
    go_enter Tryd.func5, Tryd.ntmps5
    go_wp2_with fail
    go_ret
    exact ⟨rfl, B0.out⟩
  have hB' : ¬ (1048576 : Int) < (S.length : Int) := by omega
  have hb : S.length ≤ 4611686018427387903 := by omega
  clear hB
  go_enter Tryd.func5, Tryd.ntmps5
  go_wp2_with fail
  refine (specJournalSum_any S hb _).mono ?_
  rintro e w1 ⟨rfl, hb1⟩
  have B1 := Lib.hid hb1
  clear hb1
  go_wp2_with fail
  refine (implJournalSum_any S hb (HG.out _ B1.out)).mono ?_
  rintro e w2 ⟨rfl, hb2⟩
  have B2 := Lib.hid (B1.out.trans (hb2.mono B1.out.size))
  clear hb2
  generalize sumV S = x at *
  generalize bigC S = y at *
  have hq : (x != x) = false := by simp
  have hq2 : (y != y) = false := by simp
  go_wp2_with fail
  go_ret
  exact ⟨rfl, B2.out⟩
end Go.Proofs.YtmbphpmabopifaaDoor
