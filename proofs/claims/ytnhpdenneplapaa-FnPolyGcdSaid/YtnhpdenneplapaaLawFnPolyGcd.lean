/-
  The walk of the law FnPolyGcd.
-/
import Derived.Test.YtnhpdenneplapaaDrawGcd
import Derived.Test.YtnhpdenneplapaaLike
import Derived.Test.YtnhpdenneplapaaPolyLaws
import Derived.Test.YtnhpdenneplapaaSpecGcd
import Derived.Test.YtnhpdenneplapaaFrameB
namespace Go.Proofs.Ytnhpdenneplapaa
open Go.RowKit
set_option linter.unusedVariables false

set_option maxHeartbeats 8000000 in
set_option maxRecDepth 100000 in
theorem lawFnPolyGcd (s0 : Option Addr) (n0 cap0 : Nat) (z0 : List Int) (w : World) (hr : RowB w s0 n0 z0) :
    Calls Try.prog 9 #[.slice s0 n0 cap0] w fun e w' => e = .returned (.bool true) ∧ Below w.heap.size w w' := by
  have HR := Lib.hid hr
  clear hr
  go_enter Try.func9, Try.ntmps9
  go_wp2_with fail
  refine (bigL_any _ _ _ _).mono ?_
  rintro e w1 ⟨rfl, rfl⟩
  by_cases hbig : (4096 : Int) < (n0 : Int)
  · go_wp2_with fail
    go_ret
    exact ⟨rfl, Below.refl _ _⟩
  go_wp2_with fail
  refine (DrawPolyGcd_any HR.out).mono ?_
  rintro e w1 ⟨p, pw, g, vP, vQ, rfl, hb1, zP, zQ, hoP, hoQ, hlP, hlQ⟩
  obtain ⟨aP, capP, rfl, hcpP, hcaP, hoaP⟩ := hoP.cap
  have CAP := Lib.hid hcaP
  have CPP := Lib.hid hcpP
  have RP := Lib.hid (hoaP.row.below' (below1 w1 (.cells #[.int .i64 p, .int .i64 pw, .int .i64 g] FTa)))
  clear hcaP hoaP hoP hcpP
  obtain ⟨aQ, capQ, rfl, hcpQ, hcaQ, hoaQ⟩ := hoQ.cap
  have CAQ := Lib.hid hcaQ
  have CPQ := Lib.hid hcpQ
  have RQ := Lib.hid (hoaQ.row.below' (below1 w1 (.cells #[.int .i64 p, .int .i64 pw, .int .i64 g] FTa)))
  clear hcaQ hoaQ hoQ hcpQ
  have B2 := Lib.hid (hb1.alloc hb1.size (.cells #[.int .i64 p, .int .i64 pw, .int .i64 g] FTa))
  have X2 := Lib.hid (FB.new w1 p pw g)
  obtain ⟨X, hX⟩ : ∃ X, X = w1.heap.size := ⟨_, rfl⟩
  rw [← hX] at X2
  clear hb1
  go_wp2_with fail
  rw [← hX]
  clear hX
  generalize w1.alloc (.cells #[.int .i64 p, .int .i64 pw, .int .i64 g] FTa) = w2 at *
  have k0 := X2.out.c0
  have k1 := X2.out.c1
  have k2 := X2.out.c2
  go_wp2_with fail
  refine (implPolyGcd_any p pw g _ RP.out CAP.out RQ.out CAQ.out).mono ?_
  rintro e w3 ⟨vx, rfl, hb3, hrG⟩
  have B3 := Lib.hid (B2.out.trans (hb3.mono B2.out.size))
  have X3 := Lib.hid (X2.out.below hb3 X2.out.lt)
  have RP' := Lib.hid (RP.out.below' hb3)
  have RQ' := Lib.hid (RQ.out.below' hb3)
  clear RP RQ k0 k1 k2 hb3 B2 X2
  have RP := RP'
  have RQ := RQ'
  clear RP' RQ'
  obtain ⟨aG, capG, rfl, hcaG, hoG⟩ := hrG
  have CAG := Lib.hid hcaG
  have RG := Lib.hid hoG.row
  clear hcaG hoG
  have k0 := X3.out.c0
  have k1 := X3.out.c1
  have k2 := X3.out.c2
  go_wp2_with fail
  refine (specPolyGcd_any p pw g _ RP.out CAP.out RQ.out CAQ.out).mono ?_
  rintro e w4 ⟨vx, rfl, hb4, hrC⟩
  have B4 := Lib.hid (B3.out.trans (hb4.mono B3.out.size))
  have X4 := Lib.hid (X3.out.below hb4 X3.out.lt)
  have RP' := Lib.hid (RP.out.below' hb4)
  have RQ' := Lib.hid (RQ.out.below' hb4)
  have RG' := Lib.hid (RG.out.below' hb4)
  clear RP RQ RG k0 k1 k2 hb4 B3 X3
  have RP := RP'
  have RQ := RQ'
  have RG := RG'
  clear RP' RQ' RG'
  obtain ⟨aC, capC, rfl, hcaC, hoC⟩ := hrC
  have CAC := Lib.hid hcaC
  have RC := Lib.hid hoC.row
  clear hcaC hoC
  have k0 := X4.out.c0
  have k1 := X4.out.c1
  have k2 := X4.out.c2
  have HP := Lib.hid (fun h => gcd_plain (p := p) (pw := pw) (g := g) (P := zP) (Q := zQ) h)
  generalize gcdR p pw g zP zQ = x at *
  generalize gcdC p pw g zP zQ = cd at *
  go_wp2_with fail
  refine (likeInts_any RG.out RC.out).mono ?_
  rintro e w5 ⟨rfl, hb5⟩
  have B5 := Lib.hid (B4.out.trans (hb5.mono B4.out.size))
  have X5 := Lib.hid (X4.out.below hb5 X4.out.lt)
  have RP' := Lib.hid (RP.out.below' hb5)
  have RQ' := Lib.hid (RQ.out.below' hb5)
  have RG' := Lib.hid (RG.out.below' hb5)
  have RC' := Lib.hid (RC.out.below' hb5)
  clear RP RQ RG RC k0 k1 k2 hb5 B4 X4
  have RP := RP'
  have RQ := RQ'
  have RG := RG'
  have RC := RC'
  clear RP' RQ' RG' RC'
  simp only [decide_true]
  have k0 := X5.out.c0
  have k1 := X5.out.c1
  have k2 := X5.out.c2
  by_cases hcd : cd = 0
  rotate_left
  · have hne : (cd != 0) = true := by simp [hcd]
    clear hcd
    go_wp2_with fail
    go_ret
    exact ⟨rfl, B5.out⟩
  have hne : (cd != 0) = false := by simp [hcd]
  obtain ⟨e1, e2, e3, e4, e5, e6⟩ := HP.out hcd
  have e7 : (0 : Int) < (x.length : Int) := by omega
  obtain ⟨m, hm⟩ : ∃ m : Nat, (x.length : Int) - 1 = (m : Int) ∧ m < x.length ∧ m = x.length - 1 := ⟨x.length - 1, by omega, by omega, rfl⟩
  obtain ⟨e8, e9, e10⟩ := hm
  rw [← e10] at e6
  clear hcd HP e10
  clear RC
  go_wp2_with fail
  refine (implPolyDiv_any p pw g _ RP.out CAP.out RG.out).mono ?_
  rintro e w6 ⟨vx, vr, rfl, hb6, hres⟩
  have B6 := Lib.hid (B5.out.trans (hb6.mono B5.out.size))
  have X6 := Lib.hid (X5.out.below hb6 X5.out.lt)
  have RP' := Lib.hid (RP.out.below' hb6)
  have RQ' := Lib.hid (RQ.out.below' hb6)
  have RG' := Lib.hid (RG.out.below' hb6)
  clear RP RQ RG k0 k1 k2 hb6 B5 X5
  have RP := RP'
  have RQ := RQ'
  have RG := RG'
  clear RP' RQ' RG'
  obtain ⟨mid, aA, capA, aB, capB, rfl, rfl, -, -, -, -⟩ := hres
  rw [e1, e3]
  have k0 := X6.out.c0
  have k1 := X6.out.c1
  have k2 := X6.out.c2
  go_wp2_with fail
  refine (implPolyDiv_any p pw g _ RQ.out CAQ.out RG.out).mono ?_
  rintro e w7 ⟨vx2, vr2, rfl, hb7, hres2⟩
  have B7 := Lib.hid (B6.out.trans (hb7.mono B6.out.size))
  have X7 := Lib.hid (X6.out.below hb7 X6.out.lt)
  have RP' := Lib.hid (RP.out.below' hb7)
  have RQ' := Lib.hid (RQ.out.below' hb7)
  have RG' := Lib.hid (RG.out.below' hb7)
  clear RP RQ RG k0 k1 k2 hb7 B6 X6
  have RP := RP'
  have RQ := RQ'
  have RG := RG'
  clear RP' RQ' RG'
  obtain ⟨mid', aA', capA', aB', capB', rfl, rfl, -, -, -, -⟩ := hres2
  rw [e2, e4]
  have k0 := X7.out.c0
  have k1 := X7.out.c1
  have k2 := X7.out.c2
  obtain ⟨bg, og, rfl, _, hcg⟩ := RG.out.at' (by omega)
  have hcm := hcg m e9
  have hsm := RG.out.small
  have ew : wrap64 (m : Int) = (m : Int) := IntWalk.wrap64_in _ (by omega)
  rw [e6] at hcm
  clear hcg e1 e2 e3 e4
  go_wp2_with fail
  go_ret
  exact ⟨rfl, B7.out⟩
end Go.Proofs.Ytnhpdenneplapaa
