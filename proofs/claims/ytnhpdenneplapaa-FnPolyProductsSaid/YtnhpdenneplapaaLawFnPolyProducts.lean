/-
  The walk of the law FnPolyProducts.
-/
import Derived.Test.YtnhpdenneplapaaDrawMul
import Derived.Test.YtnhpdenneplapaaLike
import Derived.Test.YtnhpdenneplapaaPolyLaws
import Derived.Test.YtnhpdenneplapaaDice
import Derived.Test.YtnhpdenneplapaaFrameB
namespace Go.Proofs.Ytnhpdenneplapaa
open Go.RowKit
set_option linter.unusedVariables false

set_option maxHeartbeats 8000000 in
set_option maxRecDepth 100000 in
theorem lawFnPolyProducts (s0 : Option Addr) (n0 cap0 : Nat) (z0 : List Int) (w : World) (hr : RowB w s0 n0 z0) :
    Calls Try.prog 10 #[.slice s0 n0 cap0] w fun e w' => e = .returned (.bool true) ∧ Below w.heap.size w w' := by
  have HR := Lib.hid hr
  clear hr
  go_enter Try.func10, Try.ntmps10
  go_wp2_with fail
  refine (bigL_any _ _ _ _).mono ?_
  rintro e w1 ⟨rfl, rfl⟩
  by_cases hbig : (4096 : Int) < (n0 : Int)
  · go_wp2_with fail
    go_ret
    exact ⟨rfl, Below.refl _ _⟩
  go_wp2_with fail
  refine (DrawPolyMul_any HR.out).mono ?_
  rintro e w1 ⟨p, pw, g, vP, vQ, rfl, hb1, zP, zQ, hoP, hoQ, hlP, hlQ⟩
  obtain ⟨aP, capP, rfl, hcpP, hcaP, hoaP⟩ := hoP.cap
  have CAP := Lib.hid hcaP
  have CPP := Lib.hid hcpP
  have RP := Lib.hid (hoaP.row.below' (below1 w1 (.cells #[.int .i64 p, .int .i64 pw, .int .i64 g] FTa)))
  clear hcaP hoaP hoP hcpP
  obtain ⟨aQ, capQ, rfl, hcpQ, hcaQ, hoaQ⟩ := hoQ.cap
  have CAQ := Lib.hid hcaQ
  have CPQ := Lib.hid hcpQ
  have RQ := Lib.hid (hoaQ.row.below' (below1 w1 (.cells #[.int .i64 p, .int .i64 pw, .int .i64 g] FTa)))
  clear hcaQ hoaQ hoQ hcpQ
  have B2 := Lib.hid (hb1.alloc hb1.size (.cells #[.int .i64 p, .int .i64 pw, .int .i64 g] FTa))
  have X2 := Lib.hid (FB.new w1 p pw g)
  obtain ⟨X, hX⟩ : ∃ X, X = w1.heap.size := ⟨_, rfl⟩
  rw [← hX] at X2
  clear hb1
  go_wp2_with fail
  rw [← hX]
  clear hX
  generalize w1.alloc (.cells #[.int .i64 p, .int .i64 pw, .int .i64 g] FTa) = w2 at *
  have k0 := X2.out.c0
  have k1 := X2.out.c1
  have k2 := X2.out.c2
  go_wp2_with fail
  refine (implPolyMul_any p pw g _ RP.out RQ.out).mono ?_
  rintro e w3 ⟨vx, rfl, hb3, hrG⟩
  have B3 := Lib.hid (B2.out.trans (hb3.mono B2.out.size))
  have X3 := Lib.hid (X2.out.below hb3 X2.out.lt)
  have RP' := Lib.hid (RP.out.below' hb3)
  have RQ' := Lib.hid (RQ.out.below' hb3)
  clear RP RQ k0 k1 k2 hb3 B2 X2
  have RP := RP'
  have RQ := RQ'
  clear RP' RQ'
  obtain ⟨aG, capG, rfl, hcaG, hoG⟩ := hrG
  have CAG := Lib.hid hcaG
  have RG := Lib.hid hoG.row
  clear hcaG hoG
  have k0 := X3.out.c0
  have k1 := X3.out.c1
  have k2 := X3.out.c2
  go_wp2_with fail
  refine (specPolyMul_any p pw g _ RP.out RQ.out).mono ?_
  rintro e w4 ⟨vx, rfl, hb4, hrC⟩
  have B4 := Lib.hid (B3.out.trans (hb4.mono B3.out.size))
  have X4 := Lib.hid (X3.out.below hb4 X3.out.lt)
  have RP' := Lib.hid (RP.out.below' hb4)
  have RQ' := Lib.hid (RQ.out.below' hb4)
  have RG' := Lib.hid (RG.out.below' hb4)
  clear RP RQ RG k0 k1 k2 hb4 B3 X3
  have RP := RP'
  have RQ := RQ'
  have RG := RG'
  clear RP' RQ' RG'
  obtain ⟨aC, capC, rfl, hcaC, hoC⟩ := hrC
  have CAC := Lib.hid hcaC
  have RC := Lib.hid hoC.row
  clear hcaC hoC
  have k0 := X4.out.c0
  have k1 := X4.out.c1
  have k2 := X4.out.c2
  have HP := Lib.hid (fun h r h0 h1 => products_plain (p := p) (pw := pw) (g := g) (P := zP) (Q := zQ) (r := r) h h0 h1)
  generalize mulR p pw g zP zQ = x at *
  generalize mulC p pw g zP zQ = cd at *
  go_wp2_with fail
  refine (likeInts_any RG.out RC.out).mono ?_
  rintro e w5 ⟨rfl, hb5⟩
  have B5 := Lib.hid (B4.out.trans (hb5.mono B4.out.size))
  have X5 := Lib.hid (X4.out.below hb5 X4.out.lt)
  have RP' := Lib.hid (RP.out.below' hb5)
  have RQ' := Lib.hid (RQ.out.below' hb5)
  have RG' := Lib.hid (RG.out.below' hb5)
  have RC' := Lib.hid (RC.out.below' hb5)
  clear RP RQ RG RC k0 k1 k2 hb5 B4 X4
  have RP := RP'
  have RQ := RQ'
  have RG := RG'
  have RC := RC'
  clear RP' RQ' RG' RC'
  simp only [decide_true]
  have k0 := X5.out.c0
  have k1 := X5.out.c1
  have k2 := X5.out.c2
  by_cases hcd : cd = 0
  rotate_left
  · have hne : (cd != 0) = true := by simp [hcd]
    clear hcd
    go_wp2_with fail
    go_ret
    exact ⟨rfl, B5.out⟩
  have hne : (cd != 0) = false := by simp [hcd]
  clear RC
  by_cases hP40 : (40 : Int) < (zP.length : Int)
  · clear hcd
    go_wp2_with fail
    go_ret
    exact ⟨rfl, B5.out⟩
  by_cases hQ40 : (40 : Int) < (zQ.length : Int)
  · clear hcd
    go_wp2_with fail
    go_ret
    exact ⟨rfl, B5.out⟩
  have HCD := Lib.hid hcd
  clear hcd
  go_wp2_with fail
  refine (roll_any (HR.out.below' B5.out) _).mono ?_
  rintro e wr ⟨d, rfl, hdr, hbr, hdice⟩
  go_wp2_with fail
  refine (below_any hdice 3 (by omega) (by omega)).mono ?_
  rintro e w6 ⟨r, rfl, hr0, hr1, hdd⟩
  have hb6 := hbr.trans (hdd.below (B := w5.heap.size) hdr hbr.size)
  clear hdice
  have B6 := Lib.hid (B5.out.trans (hb6.mono B5.out.size))
  have X6 := Lib.hid (X5.out.below hb6 X5.out.lt)
  have RP' := Lib.hid (RP.out.below' hb6)
  have RQ' := Lib.hid (RQ.out.below' hb6)
  have RG' := Lib.hid (RG.out.below' hb6)
  clear RP RQ RG k0 k1 k2 hb6 B5 X5
  have RP := RP'
  have RQ := RQ'
  have RG := RG'
  clear RP' RQ' RG'
  have k0 := X6.out.c0
  have k1 := X6.out.c1
  have k2 := X6.out.c2
  obtain ⟨e1, e2, e3, e4, e5, e6⟩ := HP.out HCD.out r hr0 hr1
  have HE := Lib.hid e6
  clear HP e6
  go_wp2_with fail
  refine (implPolyEval_any p pw g r _ RP.out).mono ?_
  rintro e w7 ⟨rfl, hb7⟩
  have B7 := Lib.hid (B6.out.trans (hb7.mono B6.out.size))
  have X7 := Lib.hid (X6.out.below hb7 X6.out.lt)
  have RP' := Lib.hid (RP.out.below' hb7)
  have RQ' := Lib.hid (RQ.out.below' hb7)
  have RG' := Lib.hid (RG.out.below' hb7)
  clear RP RQ RG k0 k1 k2 hb7 B6 X6
  have RP := RP'
  have RQ := RQ'
  have RG := RG'
  clear RP' RQ' RG'
  have k0 := X7.out.c0
  have k1 := X7.out.c1
  have k2 := X7.out.c2
  go_wp2_with fail
  refine (implPolyEval_any p pw g r _ RQ.out).mono ?_
  rintro e w8 ⟨rfl, hb8⟩
  have B8 := Lib.hid (B7.out.trans (hb8.mono B7.out.size))
  have X8 := Lib.hid (X7.out.below hb8 X7.out.lt)
  have RP' := Lib.hid (RP.out.below' hb8)
  have RQ' := Lib.hid (RQ.out.below' hb8)
  have RG' := Lib.hid (RG.out.below' hb8)
  clear RP RQ RG k0 k1 k2 hb8 B7 X7
  have RP := RP'
  have RQ := RQ'
  have RG := RG'
  clear RP' RQ' RG'
  have k0 := X8.out.c0
  have k1 := X8.out.c1
  have k2 := X8.out.c2
  go_wp2_with fail
  refine (implPolyEval_any p pw g r _ RG.out).mono ?_
  rintro e w9 ⟨rfl, hb9⟩
  have B9 := Lib.hid (B8.out.trans (hb9.mono B8.out.size))
  have X9 := Lib.hid (X8.out.below hb9 X8.out.lt)
  have RP' := Lib.hid (RP.out.below' hb9)
  have RQ' := Lib.hid (RQ.out.below' hb9)
  have RG' := Lib.hid (RG.out.below' hb9)
  clear RP RQ RG k0 k1 k2 hb9 B8 X8
  have RP := RP'
  have RQ := RQ'
  have RG := RG'
  clear RP' RQ' RG'
  have k0 := X9.out.c0
  have k1 := X9.out.c1
  have k2 := X9.out.c2
  go_wp2_with fail
  refine (implFieldMul_any p pw g (pevR p pw g zP r) (pevR p pw g zQ r) _).mono ?_
  rintro e w10 ⟨rfl, hb10⟩
  have B10 := Lib.hid (B9.out.trans (hb10.mono B9.out.size))
  have X10 := Lib.hid (X9.out.below hb10 X9.out.lt)
  have RP' := Lib.hid (RP.out.below' hb10)
  have RQ' := Lib.hid (RQ.out.below' hb10)
  have RG' := Lib.hid (RG.out.below' hb10)
  clear RP RQ RG k0 k1 k2 hb10 B9 X9
  have RP := RP'
  have RQ := RQ'
  have RG := RG'
  clear RP' RQ' RG'
  have k0 := X10.out.c0
  have k1 := X10.out.c1
  have k2 := X10.out.c2
  by_cases hQ0 : zQ = []
  · have hq0 : zQ.length = 0 := by rw [hQ0]; rfl
    clear hQ0
    go_wp2_with fail
    go_ret
    exact ⟨rfl, B10.out⟩
  obtain ⟨d1, d2, d3⟩ := HE.out hQ0
  have hq0 : ((zQ.length : Int) == 0) = false := by
    have := List.length_pos_iff.2 hQ0; simp; exact hQ0
  clear hQ0 HE
  go_wp2_with fail
  refine (implPolyDiv_any p pw g _ RG.out CAG.out RQ.out).mono ?_
  rintro e w11 ⟨vx, vr, rfl, hb11, hres⟩
  have B11 := Lib.hid (B10.out.trans (hb11.mono B10.out.size))
  have X11 := Lib.hid (X10.out.below hb11 X10.out.lt)
  have RP' := Lib.hid (RP.out.below' hb11)
  have RQ' := Lib.hid (RQ.out.below' hb11)
  have RG' := Lib.hid (RG.out.below' hb11)
  clear RP RQ RG k0 k1 k2 hb11 B10 X10
  have RP := RP'
  have RQ := RQ'
  have RG := RG'
  clear RP' RQ' RG'
  obtain ⟨mid, aA, capA, aB, capB, rfl, rfl, -, -, hoA, -⟩ := hres
  rw [d1, d2, d3]
  rw [d2] at hoA
  have RA := Lib.hid hoA.row
  clear hoA
  have k0 := X11.out.c0
  have k1 := X11.out.c1
  have k2 := X11.out.c2
  go_wp2_with fail
  refine (likeInts_any RA.out RP.out).mono ?_
  rintro e w12 ⟨rfl, hb12⟩
  have B12 := Lib.hid (B11.out.trans (hb12.mono B11.out.size))
  have X12 := Lib.hid (X11.out.below hb12 X11.out.lt)
  have RP' := Lib.hid (RP.out.below' hb12)
  have RQ' := Lib.hid (RQ.out.below' hb12)
  have RG' := Lib.hid (RG.out.below' hb12)
  have RA' := Lib.hid (RA.out.below' hb12)
  clear RP RQ RG RA k0 k1 k2 hb12 B11 X11
  have RP := RP'
  have RQ := RQ'
  have RG := RG'
  have RA := RA'
  clear RP' RQ' RG' RA'
  simp only [decide_true]
  have k0 := X12.out.c0
  have k1 := X12.out.c1
  have k2 := X12.out.c2
  go_wp2_with fail
  go_ret
  exact ⟨rfl, B12.out⟩
end Go.Proofs.Ytnhpdenneplapaa
