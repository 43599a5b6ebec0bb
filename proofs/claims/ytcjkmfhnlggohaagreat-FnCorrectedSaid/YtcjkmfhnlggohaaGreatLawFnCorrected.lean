/-
  The walk of the law FnCorrected.
-/
import Derived.Test.YtcjkmfhnlggohaaGreatDrawW
import Derived.Test.YtcjkmfhnlggohaaGreatLike
import Derived.Test.YtcjkmfhnlggohaaGreatCorW
import Derived.Test.YtcjkmfhnlggohaaGreatDmg
import Derived.Test.YtcjkmfhnlggohaaGreatFrameB
namespace Go.Proofs.YtcjkmfhnlggohaaGreat
open Go.RowKit
set_option linter.unusedVariables false

set_option maxHeartbeats 8000000 in
set_option maxRecDepth 100000 in
theorem lawFnCorrected (s0 : Option Addr) (n0 cap0 : Nat) (z0 : List Int) (w : World) (hr : RowB w s0 n0 z0) :
    Calls Tryz.prog 3 #[.slice s0 n0 cap0] w fun e w' => e = .returned (.bool true) ∧ Below w.heap.size w w' := by
  have HR := Lib.hid hr
  clear hr
  go_enter Tryz.func3, Tryz.ntmps3
  go_wp2_with fail
  refine (bigL_any _ _ _ _).mono ?_
  rintro e w1 ⟨rfl, rfl⟩
  by_cases hbig : (4096 : Int) < (n0 : Int)
  · go_wp2_with fail
    go_ret
    exact ⟨rfl, Below.refl _ _⟩
  go_wp2_with fail
  refine (DrawCorrectWord_any HR.out).mono ?_
  rintro e w1 ⟨p, pw, g, l, c, vW, vE, rfl, hb1, zW, zE, hoW, hoE, hlW, hlE⟩
  obtain ⟨aW, capW, rfl, hcpW, hcaW, hoaW⟩ := hoW.cap
  have CAW := Lib.hid hcaW
  have CPW := Lib.hid hcpW
  have RW := Lib.hid (hoaW.row.below' (below1 w1 (.cells #[.int .i64 p, .int .i64 pw, .int .i64 g, .int .i64 l, .int .i64 c] CT)))
  clear hcaW hoaW hoW hcpW
  obtain ⟨aE, capE, rfl, hcpE, hcaE, hoaE⟩ := hoE.cap
  have CAE := Lib.hid hcaE
  have CPE := Lib.hid hcpE
  have RE := Lib.hid (hoaE.row.below' (below1 w1 (.cells #[.int .i64 p, .int .i64 pw, .int .i64 g, .int .i64 l, .int .i64 c] CT)))
  clear hcaE hoaE hoE hcpE
  have B2 := Lib.hid (hb1.alloc hb1.size (.cells #[.int .i64 p, .int .i64 pw, .int .i64 g, .int .i64 l, .int .i64 c] CT))
  have X2 := Lib.hid (CB.new w1 p pw g l c)
  obtain ⟨X, hX⟩ : ∃ X, X = w1.heap.size := ⟨_, rfl⟩
  rw [← hX] at X2
  clear hb1
  go_wp2_with fail
  rw [← hX]
  clear hX
  generalize w1.alloc (.cells #[.int .i64 p, .int .i64 pw, .int .i64 g, .int .i64 l, .int .i64 c] CT) = w2 at *
  have k0 := X2.out.c0
  have k1 := X2.out.c1
  have k2 := X2.out.c2
  have k3 := X2.out.c3
  have k4 := X2.out.c4
  go_wp2_with fail
  refine (implCorrectWord_any p pw g l c _ RW.out CAW.out RE.out CPE.out CAE.out).mono ?_
  rintro e w3 ⟨v1, v2, rfl, hb3, hT⟩
  have B3 := Lib.hid (B2.out.trans (hb3.mono B2.out.size))
  have X3 := Lib.hid (X2.out.below hb3 X2.out.lt)
  have RW' := Lib.hid (RW.out.below' hb3)
  have RE' := Lib.hid (RE.out.below' hb3)
  clear RW RE k0 k1 k2 k3 k4 hb3 B2 X2
  have RW := RW'
  have RE := RE'
  clear RW' RE'
  obtain ⟨midP, hoP, hoA, -, -⟩ := hT
  obtain ⟨aP, capP, rfl, hcpP, hcaP, hooP⟩ := hoP.cap
  have CAP := Lib.hid hcaP
  have CPP := Lib.hid hcpP
  have RP := Lib.hid hooP.row
  clear hcaP hooP hcpP hoP
  obtain ⟨aA, capA, rfl, hcpA, hcaA, hooA⟩ := hoA.cap
  have CAA := Lib.hid hcaA
  have CPA := Lib.hid hcpA
  have RA := Lib.hid hooA.row
  clear hcaA hooA hcpA hoA
  have k0 := X3.out.c0
  have k1 := X3.out.c1
  have k2 := X3.out.c2
  have k3 := X3.out.c3
  have k4 := X3.out.c4
  go_wp2_with fail
  refine (specCorrectWord_any p pw g l c _ RW.out CPW.out CAW.out RE.out CPE.out).mono ?_
  rintro e w4 ⟨v5, v6, rfl, hb4, hoM, hoN⟩
  have B4 := Lib.hid (B3.out.trans (hb4.mono B3.out.size))
  have X4 := Lib.hid (X3.out.below hb4 X3.out.lt)
  have RW' := Lib.hid (RW.out.below' hb4)
  have RE' := Lib.hid (RE.out.below' hb4)
  have RP' := Lib.hid (RP.out.below' hb4)
  have RA' := Lib.hid (RA.out.below' hb4)
  clear RW RE RP RA k0 k1 k2 k3 k4 hb4 B3 X3
  have RW := RW'
  have RE := RE'
  have RP := RP'
  have RA := RA'
  clear RW' RE' RP' RA'
  obtain ⟨aM, capM, rfl, hcpM, hcaM, hooM⟩ := hoM.cap
  have CAM := Lib.hid hcaM
  have CPM := Lib.hid hcpM
  have RM := Lib.hid hooM.row
  clear hcaM hooM hcpM hoM
  obtain ⟨aN, capN, rfl, hcpN, hcaN, hooN⟩ := hoN.cap
  have CAN := Lib.hid hcaN
  have CPN := Lib.hid hcpN
  have RN := Lib.hid hooN.row
  clear hcaN hooN hcpN hoN
  have k0 := X4.out.c0
  have k1 := X4.out.c1
  have k2 := X4.out.c2
  have k3 := X4.out.c3
  have k4 := X4.out.c4
  have HP := Lib.hid (fun h => corrected_plain (p := p) (pw := pw) (g := g) (l := l) (c := c) (W := zW) (E := zE) h)
  have HIC := Lib.hid (fun W RWW REE => implIsCorrectable_any p pw g l c W (a := aW) (n := zW.length) (cap := capW) (zs := zW) RWW CAW.out (a' := aE) (n' := zE.length) (cap' := capE) (E := zE) REE CPE.out CAE.out)
  have HDM := Lib.hid (fun W RWW RAA REE => implDamageOf_any p pw g l c W (a := aW) (n := zW.length) (cap := capW) (W := zW) RWW (a2 := aA) (n2 := (crO p pw g l c zW zE).length) (cap2 := capA) (o := crO p pw g l c zW zE) RAA (a' := aE) (n' := zE.length) (cap' := capE) (E := zE) REE)
  generalize crC p pw g l c zW zE = cd at *
  generalize crO p pw g l c zW zE = x at *
  generalize crD p pw g l c zW zE = y at *
  have hq : (cd != cd) = false := by simp
  have hq2 : ((cd == 0) != (cd == 0)) = false := by simp
  go_wp2_with fail
  refine (likeInts_any RA.out RM.out).mono ?_
  rintro e w5 ⟨rfl, hb5⟩
  have B5 := Lib.hid (B4.out.trans (hb5.mono B4.out.size))
  have X5 := Lib.hid (X4.out.below hb5 X4.out.lt)
  have RW' := Lib.hid (RW.out.below' hb5)
  have RE' := Lib.hid (RE.out.below' hb5)
  have RP' := Lib.hid (RP.out.below' hb5)
  have RA' := Lib.hid (RA.out.below' hb5)
  have RM' := Lib.hid (RM.out.below' hb5)
  have RN' := Lib.hid (RN.out.below' hb5)
  clear RW RE RP RA RM RN k0 k1 k2 k3 k4 hb5 B4 X4
  have RW := RW'
  have RE := RE'
  have RP := RP'
  have RA := RA'
  have RM := RM'
  have RN := RN'
  clear RW' RE' RP' RA' RM' RN'
  simp only [decide_true]
  have k0 := X5.out.c0
  have k1 := X5.out.c1
  have k2 := X5.out.c2
  have k3 := X5.out.c3
  have k4 := X5.out.c4
  go_wp2_with fail
  refine (likeInts_any RP.out RN.out).mono ?_
  rintro e w6 ⟨rfl, hb6⟩
  have B6 := Lib.hid (B5.out.trans (hb6.mono B5.out.size))
  have X6 := Lib.hid (X5.out.below hb6 X5.out.lt)
  have RW' := Lib.hid (RW.out.below' hb6)
  have RE' := Lib.hid (RE.out.below' hb6)
  have RP' := Lib.hid (RP.out.below' hb6)
  have RA' := Lib.hid (RA.out.below' hb6)
  have RM' := Lib.hid (RM.out.below' hb6)
  have RN' := Lib.hid (RN.out.below' hb6)
  clear RW RE RP RA RM RN k0 k1 k2 k3 k4 hb6 B5 X5
  have RW := RW'
  have RE := RE'
  have RP := RP'
  have RA := RA'
  have RM := RM'
  have RN := RN'
  clear RW' RE' RP' RA' RM' RN'
  simp only [decide_true]
  have k0 := X6.out.c0
  have k1 := X6.out.c1
  have k2 := X6.out.c2
  have k3 := X6.out.c3
  have k4 := X6.out.c4
  clear RM
  clear RN
  clear RP
  go_wp2_with fail
  refine (HIC.out _ RW.out RE.out).mono ?_
  rintro e w7 ⟨rfl, hb7⟩
  have B7 := Lib.hid (B6.out.trans (hb7.mono B6.out.size))
  have X7 := Lib.hid (X6.out.below hb7 X6.out.lt)
  have RW' := Lib.hid (RW.out.below' hb7)
  have RE' := Lib.hid (RE.out.below' hb7)
  have RA' := Lib.hid (RA.out.below' hb7)
  clear RW RE RA k0 k1 k2 k3 k4 hb7 B6 X6
  have RW := RW'
  have RE := RE'
  have RA := RA'
  clear RW' RE' RA'
  have k0 := X7.out.c0
  have k1 := X7.out.c1
  have k2 := X7.out.c2
  have k3 := X7.out.c3
  have k4 := X7.out.c4
  by_cases hcd : cd = 0
  rotate_left
  · have hne : (cd != 0) = true := by simp [hcd]
    clear hcd
    go_wp2_with fail
    go_ret
    exact ⟨rfl, B7.out⟩
  have hne : (cd != 0) = false := by simp [hcd]
  obtain ⟨e1, e2, e3⟩ := HP.out hcd
  have E1 := Lib.hid e1
  have E3 := Lib.hid e3
  have hle := e2
  clear hcd HP e1 e2 e3 hq2
  go_wp2_with fail
  refine (HDM.out _ RW.out RA.out RE.out).mono ?_
  rintro e w8 ⟨rfl, hb8⟩
  have B8 := Lib.hid (B7.out.trans (hb8.mono B7.out.size))
  have X8 := Lib.hid (X7.out.below hb8 X7.out.lt)
  have RW' := Lib.hid (RW.out.below' hb8)
  have RE' := Lib.hid (RE.out.below' hb8)
  have RA' := Lib.hid (RA.out.below' hb8)
  clear RW RE RA k0 k1 k2 k3 k4 hb8 B7 X7
  have RW := RW'
  have RE := RE'
  have RA := RA'
  clear RW' RE' RA'
  rw [E1.out]
  generalize dmgR p pw g l c zW x zE = dm at *
  have k0 := X8.out.c0
  have k1 := X8.out.c1
  have k2 := X8.out.c2
  have k3 := X8.out.c3
  have k4 := X8.out.c4
  go_wp2_with fail
  refine (implIsCodeWord_any p pw g l c _ RA.out).mono ?_
  rintro e w9 ⟨rfl, hb9⟩
  have B9 := Lib.hid (B8.out.trans (hb9.mono B8.out.size))
  have X9 := Lib.hid (X8.out.below hb9 X8.out.lt)
  have RW' := Lib.hid (RW.out.below' hb9)
  have RE' := Lib.hid (RE.out.below' hb9)
  have RA' := Lib.hid (RA.out.below' hb9)
  clear RW RE RA k0 k1 k2 k3 k4 hb9 B8 X8
  have RW := RW'
  have RE := RE'
  have RA := RA'
  clear RW' RE' RA'
  rw [E3.out]
  have k0 := X9.out.c0
  have k1 := X9.out.c1
  have k2 := X9.out.c2
  have k3 := X9.out.c3
  have k4 := X9.out.c4
  go_wp2_with fail
  go_ret
  exact ⟨rfl, B9.out⟩
end Go.Proofs.YtcjkmfhnlggohaaGreat
