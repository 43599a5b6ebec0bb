/-
  The walk of the law FnErrorRecurrence.
-/
import Derived.Test.YtcjkmfhnlggohaaDrawW
import Derived.Test.YtcjkmfhnlggohaaLike
import Derived.Test.YtcjkmfhnlggohaaCorW
import Derived.Test.YtcjkmfhnlggohaaRecLaw
import Derived.Test.YtcjkmfhnlggohaaSyndOf
import Derived.Test.YtcjkmfhnlggohaaFrameB
namespace Go.Proofs.Ytcjkmfhnlggohaa
open Go.RowKit
set_option linter.unusedVariables false

set_option maxHeartbeats 8000000 in
set_option maxRecDepth 100000 in
theorem lawFnErrorRecurrence (s0 : Option Addr) (n0 cap0 : Nat) (z0 : List Int) (w : World) (hr : RowB w s0 n0 z0) :
    Calls Try.prog 5 #[.slice s0 n0 cap0] w fun e w' => e = .returned (.bool true) ∧ Below w.heap.size w w' := by
  have HR := Lib.hid hr
  clear hr
  go_enter Try.func5, Try.ntmps5
  go_wp2_with fail
  refine (bigL_any _ _ _ _).mono ?_
  rintro e w1 ⟨rfl, rfl⟩
  by_cases hbig : (4096 : Int) < (n0 : Int)
  · go_wp2_with fail
    go_ret
    exact ⟨rfl, Below.refl _ _⟩
  go_wp2_with fail
  refine (DrawErrorLocator_any HR.out).mono ?_
  rintro e w1 ⟨p, pw, g, l, c, vW, rfl, hb1, zW, hoW, hlW⟩
  obtain ⟨aW, capW, rfl, hcpW, hcaW, hoaW⟩ := hoW.cap
  have CAW := Lib.hid hcaW
  have CPW := Lib.hid hcpW
  have RW := Lib.hid (hoaW.row.below' (below1 w1 (.cells #[.int .i64 p, .int .i64 pw, .int .i64 g, .int .i64 l, .int .i64 c] CT)))
  clear hcaW hoaW hoW hcpW
  have B2 := Lib.hid (hb1.alloc hb1.size (.cells #[.int .i64 p, .int .i64 pw, .int .i64 g, .int .i64 l, .int .i64 c] CT))
  have X2 := Lib.hid (CB.new w1 p pw g l c)
  obtain ⟨X, hX⟩ : ∃ X, X = w1.heap.size := ⟨_, rfl⟩
  rw [← hX] at X2
  clear hb1
  go_wp2_with fail
  rw [← hX]
  clear hX
  generalize w1.alloc (.cells #[.int .i64 p, .int .i64 pw, .int .i64 g, .int .i64 l, .int .i64 c] CT) = w2 at *
  have k0 := X2.out.c0
  have k1 := X2.out.c1
  have k2 := X2.out.c2
  have k3 := X2.out.c3
  have k4 := X2.out.c4
  go_wp2_with fail
  refine (implErrorLocator_any p pw g l c _ RW.out CAW.out).mono ?_
  rintro e w3 ⟨vx, rfl, hb3, hrG⟩
  have B3 := Lib.hid (B2.out.trans (hb3.mono B2.out.size))
  have X3 := Lib.hid (X2.out.below hb3 X2.out.lt)
  have RW' := Lib.hid (RW.out.below' hb3)
  clear RW k0 k1 k2 k3 k4 hb3 B2 X2
  have RW := RW'
  clear RW'
  obtain ⟨aG, capG, rfl, hcaG, hoG⟩ := hrG
  have CAG := Lib.hid hcaG
  have RG := Lib.hid hoG.row
  clear hcaG hoG
  have k0 := X3.out.c0
  have k1 := X3.out.c1
  have k2 := X3.out.c2
  have k3 := X3.out.c3
  have k4 := X3.out.c4
  go_wp2_with fail
  refine (specErrorLocator_any p pw g l c _ RW.out CPW.out CAW.out).mono ?_
  rintro e w4 ⟨vy, rfl, hb4, hrC⟩
  have B4 := Lib.hid (B3.out.trans (hb4.mono B3.out.size))
  have X4 := Lib.hid (X3.out.below hb4 X3.out.lt)
  have RW' := Lib.hid (RW.out.below' hb4)
  have RG' := Lib.hid (RG.out.below' hb4)
  clear RW RG k0 k1 k2 k3 k4 hb4 B3 X3
  have RW := RW'
  have RG := RG'
  clear RW' RG'
  obtain ⟨aC, capC, rfl, hcaC, hoC⟩ := hrC
  have CAC := Lib.hid hcaC
  have RC := Lib.hid hoC.row
  clear hcaC hoC
  have k0 := X4.out.c0
  have k1 := X4.out.c1
  have k2 := X4.out.c2
  have k3 := X4.out.c3
  have k4 := X4.out.c4
  have HP := Lib.hid (fun h => errrec_plain (p := p) (pw := pw) (g := g) (l := l) (c := c) (W := zW) h)
  generalize elR p pw g l c zW = x at *
  generalize crC p pw g l c zW [] = cd at *
  go_wp2_with fail
  refine (likeInts_any RG.out RC.out).mono ?_
  rintro e w5 ⟨rfl, hb5⟩
  have B5 := Lib.hid (B4.out.trans (hb5.mono B4.out.size))
  have X5 := Lib.hid (X4.out.below hb5 X4.out.lt)
  have RW' := Lib.hid (RW.out.below' hb5)
  have RG' := Lib.hid (RG.out.below' hb5)
  have RC' := Lib.hid (RC.out.below' hb5)
  clear RW RG RC k0 k1 k2 k3 k4 hb5 B4 X4
  have RW := RW'
  have RG := RG'
  have RC := RC'
  clear RW' RG' RC'
  simp only [decide_true]
  have k0 := X5.out.c0
  have k1 := X5.out.c1
  have k2 := X5.out.c2
  have k3 := X5.out.c3
  have k4 := X5.out.c4
  by_cases hcd : cd = 0
  rotate_left
  · have hne : (cd != 0) = true := by simp [hcd]
    clear hcd
    go_wp2_with fail
    go_ret
    exact ⟨rfl, B5.out⟩
  have hne : (cd != 0) = false := by simp [hcd]
  obtain ⟨e1, e2, e3, e4, e5⟩ := HP.out hcd
  have E1 := Lib.hid e1
  have E2 := Lib.hid e2
  have E3 := Lib.hid e3
  have E4 := Lib.hid e4
  have E5 := Lib.hid e5
  clear hcd HP e1 e2 e3 e4 e5
  clear RC
  go_wp2_with fail
  refine (implSyndromesOf_any p pw g l c _ RW.out).mono ?_
  rintro e w6 ⟨vs, rfl, hb6, hrS⟩
  have B6 := Lib.hid (B5.out.trans (hb6.mono B5.out.size))
  have X6 := Lib.hid (X5.out.below hb6 X5.out.lt)
  have RW' := Lib.hid (RW.out.below' hb6)
  have RG' := Lib.hid (RG.out.below' hb6)
  clear RW RG k0 k1 k2 k3 k4 hb6 B5 X5
  have RW := RW'
  have RG := RG'
  clear RW' RG'
  obtain ⟨aS, capS, rfl, hcaS, hoS⟩ := hrS
  have CAS := Lib.hid hcaS
  have RS := Lib.hid hoS.row
  clear hcaS hoS
  rw [E1.out]
  have k0 := X6.out.c0
  have k1 := X6.out.c1
  have k2 := X6.out.c2
  have k3 := X6.out.c3
  have k4 := X6.out.c4
  generalize soR p pw g l c zW = ss at *
  go_wp2_with fail
  refine (implRecurrence_any p pw g _ RS.out).mono ?_
  rintro e w7 ⟨vr, rfl, hb7, hrR⟩
  have B7 := Lib.hid (B6.out.trans (hb7.mono B6.out.size))
  have X7 := Lib.hid (X6.out.below hb7 X6.out.lt)
  have RW' := Lib.hid (RW.out.below' hb7)
  have RG' := Lib.hid (RG.out.below' hb7)
  have RS' := Lib.hid (RS.out.below' hb7)
  clear RW RG RS k0 k1 k2 k3 k4 hb7 B6 X6
  have RW := RW'
  have RG := RG'
  have RS := RS'
  clear RW' RG' RS'
  obtain ⟨aR, capR, rfl, hcaR, hoR⟩ := hrR
  have CAR := Lib.hid hcaR
  have RR := Lib.hid hoR.row
  clear hcaR hoR
  rw [E3.out] at RR
  rw [E2.out]
  rw [E3.out]
  have k0 := X7.out.c0
  have k1 := X7.out.c1
  have k2 := X7.out.c2
  have k3 := X7.out.c3
  have k4 := X7.out.c4
  go_wp2_with fail
  refine (implSeqLen_any p pw g _ RS.out).mono ?_
  rintro e w8 ⟨rfl, hb8⟩
  have B8 := Lib.hid (B7.out.trans (hb8.mono B7.out.size))
  have X8 := Lib.hid (X7.out.below hb8 X7.out.lt)
  have RW' := Lib.hid (RW.out.below' hb8)
  have RG' := Lib.hid (RG.out.below' hb8)
  have RS' := Lib.hid (RS.out.below' hb8)
  have RR' := Lib.hid (RR.out.below' hb8)
  clear RW RG RS RR k0 k1 k2 k3 k4 hb8 B7 X7
  have RW := RW'
  have RG := RG'
  have RS := RS'
  have RR := RR'
  clear RW' RG' RS' RR'
  rw [E4.out, E5.out]
  have k0 := X8.out.c0
  have k1 := X8.out.c1
  have k2 := X8.out.c2
  have k3 := X8.out.c3
  have k4 := X8.out.c4
  go_wp2_with fail
  refine (likeInts_any RR.out RG.out).mono ?_
  rintro e w9 ⟨rfl, hb9⟩
  have B9 := Lib.hid (B8.out.trans (hb9.mono B8.out.size))
  have X9 := Lib.hid (X8.out.below hb9 X8.out.lt)
  have RW' := Lib.hid (RW.out.below' hb9)
  have RG' := Lib.hid (RG.out.below' hb9)
  have RS' := Lib.hid (RS.out.below' hb9)
  have RR' := Lib.hid (RR.out.below' hb9)
  clear RW RG RS RR k0 k1 k2 k3 k4 hb9 B8 X8
  have RW := RW'
  have RG := RG'
  have RS := RS'
  have RR := RR'
  clear RW' RG' RS' RR'
  simp only [decide_true]
  have k0 := X9.out.c0
  have k1 := X9.out.c1
  have k2 := X9.out.c2
  have k3 := X9.out.c3
  have k4 := X9.out.c4
  have hq : (((x.length : Int) - 1) == ((x.length : Int) - 1)) = true := by simp
  have hxs : x.length ≤ 9223372036854775807 := RG.out.small
  have hw1 : IntKind.i64.wrap ((x.length : Int) - 1) = (x.length : Int) - 1 := IntWalk.i64_in _ (by omega)
  have hw2 : wrap64 ((x.length : Int) - 1) = (x.length : Int) - 1 := IntWalk.wrap64_in _ (by omega)
  go_wp2_with fail
  go_ret
  exact ⟨by first | rfl | simp, B9.out⟩
end Go.Proofs.Ytcjkmfhnlggohaa
