/-
  The walk of the law FnLocators.
-/
import Derived.Test.YtnhpdenneplapaaDrawLoc
import Derived.Test.YtnhpdenneplapaaLike
import Derived.Test.YtnhpdenneplapaaLocLaw
import Derived.Test.YtnhpdenneplapaaFrameB
namespace Go.Proofs.Ytnhpdenneplapaa
open Go.RowKit
set_option linter.unusedVariables false

set_option maxHeartbeats 8000000 in
set_option maxRecDepth 100000 in
theorem lawFnLocators (s0 : Option Addr) (n0 cap0 : Nat) (z0 : List Int) (w : World) (hr : RowB w s0 n0 z0) :
    Calls Try.prog 11 #[.slice s0 n0 cap0] w fun e w' => e = .returned (.bool true) ∧ Below w.heap.size w w' := by
  have HR := Lib.hid hr
  clear hr
  go_enter Try.func11, Try.ntmps11
  go_wp2_with fail
  refine (bigL_any _ _ _ _).mono ?_
  rintro e w1 ⟨rfl, rfl⟩
  by_cases hbig : (4096 : Int) < (n0 : Int)
  · go_wp2_with fail
    go_ret
    exact ⟨rfl, Below.refl _ _⟩
  go_wp2_with fail
  refine (DrawLocatorOf_any HR.out).mono ?_
  rintro e w1 ⟨p, pw, g, l, c, vP, rfl, hb1, zP, hoP, hlP⟩
  obtain ⟨aP, capP, rfl, hcpP, hcaP, hoaP⟩ := hoP.cap
  have CAP := Lib.hid hcaP
  have CPP := Lib.hid hcpP
  have RP := Lib.hid (hoaP.row.below' (below1 w1 (.cells #[.int .i64 p, .int .i64 pw, .int .i64 g, .int .i64 l, .int .i64 c] CT)))
  clear hcaP hoaP hoP hcpP
  have B2 := Lib.hid (hb1.alloc hb1.size (.cells #[.int .i64 p, .int .i64 pw, .int .i64 g, .int .i64 l, .int .i64 c] CT))
  have X2 := Lib.hid (CB.new w1 p pw g l c)
  obtain ⟨X, hX⟩ : ∃ X, X = w1.heap.size := ⟨_, rfl⟩
  rw [← hX] at X2
  clear hb1
  go_wp2_with fail
  rw [← hX]
  clear hX
  generalize w1.alloc (.cells #[.int .i64 p, .int .i64 pw, .int .i64 g, .int .i64 l, .int .i64 c] CT) = w2 at *
  have k0 := X2.out.c0
  have k1 := X2.out.c1
  have k2 := X2.out.c2
  have k3 := X2.out.c3
  have k4 := X2.out.c4
  go_wp2_with fail
  refine (implLocatorOf_any p pw g l c _ RP.out).mono ?_
  rintro e w3 ⟨vx, rfl, hb3, hrA⟩
  have B3 := Lib.hid (B2.out.trans (hb3.mono B2.out.size))
  have X3 := Lib.hid (X2.out.below hb3 X2.out.lt)
  have RP' := Lib.hid (RP.out.below' hb3)
  clear RP k0 k1 k2 k3 k4 hb3 B2 X2
  have RP := RP'
  clear RP'
  obtain ⟨aA, capA, rfl, hcaA, hoA⟩ := hrA
  have CAA := Lib.hid hcaA
  have RA := Lib.hid hoA.row
  clear hcaA hoA
  have k0 := X3.out.c0
  have k1 := X3.out.c1
  have k2 := X3.out.c2
  have k3 := X3.out.c3
  have k4 := X3.out.c4
  go_wp2_with fail
  refine (specLocatorOf_any p pw g l c _ RP.out).mono ?_
  rintro e w4 ⟨vx, rfl, hb4, hrC⟩
  have B4 := Lib.hid (B3.out.trans (hb4.mono B3.out.size))
  have X4 := Lib.hid (X3.out.below hb4 X3.out.lt)
  have RP' := Lib.hid (RP.out.below' hb4)
  have RA' := Lib.hid (RA.out.below' hb4)
  clear RP RA k0 k1 k2 k3 k4 hb4 B3 X3
  have RP := RP'
  have RA := RA'
  clear RP' RA'
  obtain ⟨aC, capC, rfl, hcaC, hoC⟩ := hrC
  have CAC := Lib.hid hcaC
  have RC := Lib.hid hoC.row
  clear hcaC hoC
  have k0 := X4.out.c0
  have k1 := X4.out.c1
  have k2 := X4.out.c2
  have k3 := X4.out.c3
  have k4 := X4.out.c4
  have HP := Lib.hid (fun h => locators_plain (p := p) (pw := pw) (g := g) (l := l) (c := c) (P := zP) h)
  generalize locR p pw g l c zP = x at *
  generalize locC p pw g l c zP = cd at *
  go_wp2_with fail
  refine (likeInts_any RA.out RC.out).mono ?_
  rintro e w5 ⟨rfl, hb5⟩
  have B5 := Lib.hid (B4.out.trans (hb5.mono B4.out.size))
  have X5 := Lib.hid (X4.out.below hb5 X4.out.lt)
  have RP' := Lib.hid (RP.out.below' hb5)
  have RA' := Lib.hid (RA.out.below' hb5)
  have RC' := Lib.hid (RC.out.below' hb5)
  clear RP RA RC k0 k1 k2 k3 k4 hb5 B4 X4
  have RP := RP'
  have RA := RA'
  have RC := RC'
  clear RP' RA' RC'
  simp only [decide_true]
  have k0 := X5.out.c0
  have k1 := X5.out.c1
  have k2 := X5.out.c2
  have k3 := X5.out.c3
  have k4 := X5.out.c4
  by_cases hcd : cd = 0
  rotate_left
  · have hne : (cd != 0) = true := by simp [hcd]
    clear hcd
    go_wp2_with fail
    go_ret
    exact ⟨rfl, B5.out⟩
  have hne : (cd != 0) = false := by simp [hcd]
  obtain ⟨e1, e2, e3⟩ := HP.out hcd
  have e4 : ((x.length : Int) == (zP.length : Int) + 1) = true := by simp; omega
  clear hcd HP e3
  clear RC
  go_wp2_with fail
  refine (implIndicesOf_any p pw g l c _ RA.out).mono ?_
  rintro e w6 ⟨vm, rfl, hb6, hrM⟩
  have B6 := Lib.hid (B5.out.trans (hb6.mono B5.out.size))
  have X6 := Lib.hid (X5.out.below hb6 X5.out.lt)
  have RP' := Lib.hid (RP.out.below' hb6)
  have RA' := Lib.hid (RA.out.below' hb6)
  clear RP RA k0 k1 k2 k3 k4 hb6 B5 X5
  have RP := RP'
  have RA := RA'
  clear RP' RA'
  obtain ⟨aM, capM, rfl, hcaM, hoM⟩ := hrM
  have CAM := Lib.hid hcaM
  have RM := Lib.hid hoM.row
  clear hcaM hoM
  rw [e2] at RM ⊢
  rw [e1]
  have k0 := X6.out.c0
  have k1 := X6.out.c1
  have k2 := X6.out.c2
  have k3 := X6.out.c3
  have k4 := X6.out.c4
  go_wp2_with fail
  refine (likeInts_any RM.out RP.out).mono ?_
  rintro e w7 ⟨rfl, hb7⟩
  have B7 := Lib.hid (B6.out.trans (hb7.mono B6.out.size))
  have X7 := Lib.hid (X6.out.below hb7 X6.out.lt)
  have RP' := Lib.hid (RP.out.below' hb7)
  have RA' := Lib.hid (RA.out.below' hb7)
  have RM' := Lib.hid (RM.out.below' hb7)
  clear RP RA RM k0 k1 k2 k3 k4 hb7 B6 X6
  have RP := RP'
  have RA := RA'
  have RM := RM'
  clear RP' RA' RM'
  simp only [decide_true]
  have k0 := X7.out.c0
  have k1 := X7.out.c1
  have k2 := X7.out.c2
  have k3 := X7.out.c3
  have k4 := X7.out.c4
  go_wp2_with fail
  go_ret
  exact ⟨rfl, B7.out⟩
end Go.Proofs.Ytnhpdenneplapaa
