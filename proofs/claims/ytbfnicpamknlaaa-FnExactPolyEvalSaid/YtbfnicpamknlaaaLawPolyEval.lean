/-
  The walk of the law on PolyEval.
-/
import Derived.Test.YtbfnicpamknlaaaPolyEval
import Derived.Test.YtbfnicpamknlaaaFrame
namespace Go.Proofs.Ytbfnicpamknlaaa
open Go.RowKit
set_option linter.unusedVariables false

set_option maxHeartbeats 1000000 in
theorem lawFnExactPolyEval (p pw g : Int) (a : Option Addr) (n cap : Nat) (zs : List Int) (x : Int) (w : World) (_ : (Lit.int .i64 p).wf = true) (_ : (Lit.int .i64 pw).wf = true) (_ : (Lit.int .i64 g).wf = true) (hr : RowAt w a n zs) (_ : (Lit.int .i64 x).wf = true) :
    Calls Try.prog 7 #[fV p pw g, .slice a n cap, .int .i64 x] w fun e w' => e = .returned (.bool true) ∧ Below w.heap.size w w' := by
  have HR := Lib.hid hr
  have hsm := hr.small
  clear hr
  by_cases hn : n ≤ 1048576
  · go_enter Try.func7, Try.ntmps7
    go_wp2_with fail
    refine (toField_any p pw g _).mono ?_
    rintro e w1 ⟨rfl, hb1⟩
    have B1 := Lib.hid ((below1 _ _).trans (hb1.mono (by simp)))
    have X1 := Lib.hid ((box_new w p pw g 41).below hb1 (by simp))
    clear hb1
    go_wp2_with fail
    refine (toRow_any (HR.out.below' B1.out) hn).mono ?_
    rintro e w2 ⟨a2, cap2, rfl, hb2, ho2⟩
    have B2 := Lib.hid (B1.out.trans (hb2.mono B1.out.size))
    have X2 := Lib.hid (X1.out.below hb2 X1.out.lt)
    have O2 := Lib.hid ho2
    clear hb2 ho2
    go_wp2_with fail
    refine (specPolyEval_any p pw g x _ O2.out.row).mono ?_
    rintro e w3 ⟨rfl, hb3⟩
    have B3 := Lib.hid (B2.out.trans (hb3.mono B2.out.size))
    have X3 := Lib.hid (X2.out.below hb3 X2.out.lt)
    clear hb3
    go_wp2_with fail
    refine (toRow_any (HR.out.below' B3.out) hn).mono ?_
    rintro e w4 ⟨a4, cap4, rfl, hb4, ho4⟩
    have B4 := Lib.hid (B3.out.trans (hb4.mono B3.out.size))
    have hX4 := X3.out.below hb4 X3.out.lt
    have O4 := Lib.hid ho4
    obtain ⟨_, c0, c1, c2⟩ := hX4
    clear hb4 ho4
    go_wp2_with fail
    refine (toField_any p pw g _).mono ?_
    rintro e w5 ⟨rfl, hb5⟩
    have B5 := Lib.hid (B4.out.trans (hb5.mono B4.out.size))
    have O5 := Lib.hid (O4.out.below hb5)
    clear hb5 c0 c1 c2
    go_wp2_with fail
    refine (implPolyEval_any p pw g x _ O5.out.row).mono ?_
    rintro e w6 ⟨rfl, hb6⟩
    have B6 := Lib.hid (B5.out.trans (hb6.mono B5.out.size))
    have O6 := Lib.hid (O5.out.below hb6)
    clear hb6
    go_wp2_with fail
    refine (toRow_any (HR.out.below' B6.out) hn).mono ?_
    rintro e w7 ⟨a7, cap7, rfl, hb7, ho7⟩
    have B7 := Lib.hid (B6.out.trans (hb7.mono B6.out.size))
    have O7 := Lib.hid ho7
    have O67 := Lib.hid (O6.out.below hb7)
    clear hb7 ho7
    go_wp2_with fail
    refine (eqRow_any O67.out.row O7.out.row).mono ?_
    rintro e w8 ⟨rfl, hd8⟩
    have B8 := Lib.hid (B7.out.trans ((show Drew w7 w8 from hd8).below _))
    have hdec : decide (zs = zs) = true := by simp
    rw [hdec]
    clear hd8
    go_wp2_with fail
    go_ret
    exact ⟨rfl, B8.out⟩
  · go_enter Try.func7, Try.ntmps7
    go_wp2_with fail
    go_ret
    exact ⟨rfl, below1 _ _⟩
end Go.Proofs.Ytbfnicpamknlaaa
