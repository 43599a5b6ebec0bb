/-
  The walk of the law FnExactItemBox.
-/
import Derived.Test.YtdcmebegnekkcaaGreatBoxz
namespace Go.Proofs.YtdcmebegnekkcaaGreat
open Go.RowKit
set_option linter.unusedVariables false

set_option maxHeartbeats 8000000 in
set_option maxRecDepth 100000 in
theorem lawFnExactItemBox (x : It) (w : World) (hx : ItOk x) :
    Calls Tryz.prog 6 #[itV x] w fun e w' => e = .returned (.bool true) ∧ Below w.heap.size w w' := by
  have I0 := Lib.hid (ItB.new w x LIy)
  have B0 := Lib.hid (below1 w (.cells (itL x).toArray LIy))
  have HSZ := Lib.hid (fun (V : World) => szItem_any x 1048576 (by omega) (by omega) hx V)
  have HTI := Lib.hid (fun (V : World) => toItem_any x V)
  have HSP := Lib.hid (fun (h : x.tx.length ≤ 1048576) (V : World) => specItemBox_any x h V)
  have HIM := Lib.hid (fun (h : x.tx.length ≤ 1048576) (V : World) => implItemBox_any x h V)
  go_enter Tryz.func6, Tryz.ntmps6
  obtain ⟨X, hX⟩ : ∃ X, w.heap.size = X := ⟨_, rfl⟩
  obtain ⟨w1, hw1⟩ : ∃ w1, w.alloc (.cells (itL x).toArray LIy) = w1 := ⟨_, rfl⟩
  rw [hw1, hX] at I0
  rw [hw1] at B0
  have hX1 := I0.out.lt
  have i0 := I0.out.c0
  have i1 := I0.out.c1
  have i2 := I0.out.c2
  have i3 := I0.out.c3
  have i4 := I0.out.c4
  have i5 := I0.out.c5
  have i6 := I0.out.c6
  have i7 := I0.out.c7
  have i8 := I0.out.c8
  go_wp2_with fail
  refine (HSZ.out _).mono ?_
  rintro e w2 ⟨rfl, hb2⟩
  have I2 := Lib.hid (I0.out.below hb2)
  have B2 := Lib.hid (B0.out.trans (hb2.mono B0.out.size))
  clear hw1 hb2 I0 B0 hX1 i0 i1 i2 i3 i4 i5 i6 i7 i8
  have hX1 := I2.out.lt
  have i0 := I2.out.c0
  have i1 := I2.out.c1
  have i2 := I2.out.c2
  have i3 := I2.out.c3
  have i4 := I2.out.c4
  have i5 := I2.out.c5
  have i6 := I2.out.c6
  have i7 := I2.out.c7
  have i8 := I2.out.c8
  by_cases hz : szI x 1048576 < 0
  · generalize szI x 1048576 = z at *
    go_wp2_with fail
    go_ret
    exact ⟨rfl, hX ▸ B2.out⟩
  obtain ⟨g1, -⟩ := szI_ok (x := x) (L := 1048576) (by omega)
  have HL := Lib.hid (show x.tx.length ≤ 1048576 by omega)
  clear g1
  generalize szI x 1048576 = z at *
  go_wp2_with fail
  refine (HTI.out _).mono ?_
  rintro e w3 ⟨rfl, hb3⟩
  have I3 := Lib.hid (I2.out.below hb3)
  have B3 := Lib.hid (B2.out.trans (hb3.mono B2.out.size))
  clear hb3 I2 B2 hX1 i0 i1 i2 i3 i4 i5 i6 i7 i8
  have hX1 := I3.out.lt
  have i0 := I3.out.c0
  have i1 := I3.out.c1
  have i2 := I3.out.c2
  have i3 := I3.out.c3
  have i4 := I3.out.c4
  have i5 := I3.out.c5
  have i6 := I3.out.c6
  have i7 := I3.out.c7
  have i8 := I3.out.c8
  go_wp2_with fail
  refine (HSP.out HL.out _).mono ?_
  rintro e w4 ⟨rfl, hb4⟩
  have I4 := Lib.hid (I3.out.below hb4)
  have B4 := Lib.hid (B3.out.trans (hb4.mono B3.out.size))
  clear hb4 I3 B3 hX1 i0 i1 i2 i3 i4 i5 i6 i7 i8
  have hX1 := I4.out.lt
  have i0 := I4.out.c0
  have i1 := I4.out.c1
  have i2 := I4.out.c2
  have i3 := I4.out.c3
  have i4 := I4.out.c4
  have i5 := I4.out.c5
  have i6 := I4.out.c6
  have i7 := I4.out.c7
  have i8 := I4.out.c8
  go_wp2_with fail
  refine (HTI.out _).mono ?_
  rintro e w5 ⟨rfl, hb5⟩
  have I5 := Lib.hid (I4.out.below hb5)
  have B5 := Lib.hid (B4.out.trans (hb5.mono B4.out.size))
  clear hb5 I4 B4 hX1 i0 i1 i2 i3 i4 i5 i6 i7 i8
  have hX1 := I5.out.lt
  have i0 := I5.out.c0
  have i1 := I5.out.c1
  have i2 := I5.out.c2
  have i3 := I5.out.c3
  have i4 := I5.out.c4
  have i5 := I5.out.c5
  have i6 := I5.out.c6
  have i7 := I5.out.c7
  have i8 := I5.out.c8
  go_wp2_with fail
  refine (HIM.out HL.out _).mono ?_
  rintro e w6 ⟨rfl, hb6⟩
  have B6 := Lib.hid (B5.out.trans (hb6.mono B5.out.size))
  clear hb6
  generalize boxR x = r at *
  generalize boxC x = c at *
  generalize boxE x = v at *
  have e1 : (r != r) = false := by simp
  have e2 : (c != c) = false := by simp
  have e3 : (v != v) = false := by simp
  go_wp2_with fail
  go_ret
  exact ⟨rfl, hX ▸ B6.out⟩
end Go.Proofs.YtdcmebegnekkcaaGreat
