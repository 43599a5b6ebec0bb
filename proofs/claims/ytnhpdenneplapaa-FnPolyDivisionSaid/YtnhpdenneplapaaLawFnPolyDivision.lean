/-
  The walk of the law FnPolyDivision.
-/
import Derived.Test.YtnhpdenneplapaaDrawDiv
import Derived.Test.YtnhpdenneplapaaLike
import Derived.Test.YtnhpdenneplapaaPolyE
import Derived.Test.YtnhpdenneplapaaFrameB
namespace Go.Proofs.Ytnhpdenneplapaa
open Go.RowKit
set_option linter.unusedVariables false

/-- The plain law. -/
theorem division_plain {p pw g : Int} {P Q : List Int} (h : divC p pw g P Q = 0) :
    mulC p pw g (divQ p pw g P Q) Q = 0 ∧ codeP p pw g [mulR p pw g (divQ p pw g P Q) Q, divR p pw g P Q] = 0 ∧ addR p pw g (mulR p pw g (divQ p pw g P Q) Q) (divR p pw g P Q) = P ∧ (divR p pw g P Q).length < Q.length ∧ (validB p pw g && polyB (ffOf p pw g) (divR p pw g P Q)) = true := by
  have hc : codeP p pw g [P, Q] = 0 := by
    by_cases hc : codeP p pw g [P, Q] = 0
    · exact hc
    · rw [(divC_bad hc).1] at h; exact absurd h hc
  have hQ : Q ≠ [] := fun e => by unfold divC at h; rw [if_pos hc, if_pos e] at h; cases h
  obtain ⟨V, hSF, hall, hon, -⟩ := codeP_V hc
  obtain ⟨⟨hl, hp⟩, hl', hq⟩ := two_mem hall
  have hD := VF.dqr_spec hp hq hQ
  have eQ : divQ p pw g P Q = (VF.dqr V P Q).1 := by unfold divQ; rw [if_neg hQ]; exact hon _
  have eR : divR p pw g P Q = (VF.dqr V P Q).2 := by unfold divR; rw [if_neg hQ]; exact hon _
  have hlen := dqr_len V (x := P) hq
  rw [← eQ, ← eR] at hD hlen
  generalize divQ p pw g P Q = x at *
  generalize divR p pw g P Q = r at *
  have hxl : x.length ≤ 512 := by omega
  have hm := mul_code hSF hD.hq hxl hq hl' (by
    by_cases hx : x = []
    · left; exact hx
    · right; have := VF.DivOf.qlen' hq hD hx; omega)
  have hml : (mulR p pw g x Q).length ≤ 512 := hm.2.2.2
  have hrl : r.length ≤ 512 := by omega
  have ha := add_code hSF hm.2.1 hml hD.hr hrl
  refine ⟨hm.1, ha.1, ?_, hD.len, by rw [hSF.hv, polyB_of hSF hD.hr hrl]; rfl⟩
  refine VF.isP_inj ha.2.1 hp ?_
  rw [ha.2.2.1, hm.2.2.1, hD.eq]
set_option maxHeartbeats 8000000 in
set_option maxRecDepth 100000 in
theorem lawFnPolyDivision (s0 : Option Addr) (n0 cap0 : Nat) (z0 : List Int) (w : World) (hr : RowB w s0 n0 z0) :
    Calls Try.prog 8 #[.slice s0 n0 cap0] w fun e w' => e = .returned (.bool true) ∧ Below w.heap.size w w' := by
  have HR := Lib.hid hr
  clear hr
  go_enter Try.func8, Try.ntmps8
  go_wp2_with fail
  refine (bigL_any _ _ _ _).mono ?_
  rintro e w1 ⟨rfl, rfl⟩
  by_cases hbig : (4096 : Int) < (n0 : Int)
  · go_wp2_with fail
    go_ret
    exact ⟨rfl, Below.refl _ _⟩
  go_wp2_with fail
  refine (DrawPolyDiv_any HR.out).mono ?_
  rintro e w1 ⟨p, pw, g, vP, vQ, rfl, hb1, zP, zQ, hoP, hoQ, hlP, hlQ⟩
  obtain ⟨aP, capP, rfl, hcpP, hcaP, hoaP⟩ := hoP.cap
  have CAP := Lib.hid hcaP
  have CPP := Lib.hid hcpP
  have RP := Lib.hid (hoaP.row.below' (below1 w1 (.cells #[.int .i64 p, .int .i64 pw, .int .i64 g] FTa)))
  clear hcaP hoaP hoP hcpP
  obtain ⟨aQ, capQ, rfl, hcpQ, hcaQ, hoaQ⟩ := hoQ.cap
  have CAQ := Lib.hid hcaQ
  have CPQ := Lib.hid hcpQ
  have RQ := Lib.hid (hoaQ.row.below' (below1 w1 (.cells #[.int .i64 p, .int .i64 pw, .int .i64 g] FTa)))
  clear hcaQ hoaQ hoQ hcpQ
  have B2 := Lib.hid (hb1.alloc hb1.size (.cells #[.int .i64 p, .int .i64 pw, .int .i64 g] FTa))
  have X2 := Lib.hid (FB.new w1 p pw g)
  obtain ⟨X, hX⟩ : ∃ X, X = w1.heap.size := ⟨_, rfl⟩
  rw [← hX] at X2
  clear hb1
  go_wp2_with fail
  rw [← hX]
  clear hX
  generalize w1.alloc (.cells #[.int .i64 p, .int .i64 pw, .int .i64 g] FTa) = w2 at *
  have k0 := X2.out.c0
  have k1 := X2.out.c1
  have k2 := X2.out.c2
  go_wp2_with fail
  refine (implPolyDiv_any p pw g _ RP.out CAP.out RQ.out).mono ?_
  rintro e w3 ⟨vx, vr, rfl, hb3, hres⟩
  have B3 := Lib.hid (B2.out.trans (hb3.mono B2.out.size))
  have X3 := Lib.hid (X2.out.below hb3 X2.out.lt)
  have RP' := Lib.hid (RP.out.below' hb3)
  have RQ' := Lib.hid (RQ.out.below' hb3)
  clear RP RQ k0 k1 k2 hb3 B2 X2
  have RP := RP'
  have RQ := RQ'
  clear RP' RQ'
  obtain ⟨mid, aA, capA, aB, capB, rfl, rfl, -, -, hoA, hoB⟩ := hres
  have RA := Lib.hid hoA.row
  have RB := Lib.hid hoB.row
  clear hoA hoB
  have k0 := X3.out.c0
  have k1 := X3.out.c1
  have k2 := X3.out.c2
  go_wp2_with fail
  refine (specPolyDiv_any p pw g _ RP.out CAP.out RQ.out).mono ?_
  rintro e w4 ⟨vx, vr, rfl, hb4, hrC, hrD⟩
  have B4 := Lib.hid (B3.out.trans (hb4.mono B3.out.size))
  have X4 := Lib.hid (X3.out.below hb4 X3.out.lt)
  have RP' := Lib.hid (RP.out.below' hb4)
  have RQ' := Lib.hid (RQ.out.below' hb4)
  have RA' := Lib.hid (RA.out.below' hb4)
  have RB' := Lib.hid (RB.out.below' hb4)
  clear RP RQ RA RB k0 k1 k2 hb4 B3 X3
  have RP := RP'
  have RQ := RQ'
  have RA := RA'
  have RB := RB'
  clear RP' RQ' RA' RB'
  obtain ⟨aC, capC, rfl, hcaC, hoC⟩ := hrC
  have CAC := Lib.hid hcaC
  have RC := Lib.hid hoC.row
  clear hcaC hoC
  obtain ⟨aD, capD, rfl, hcaD, hoD⟩ := hrD
  have CAD := Lib.hid hcaD
  have RD := Lib.hid hoD.row
  clear hcaD hoD
  have k0 := X4.out.c0
  have k1 := X4.out.c1
  have k2 := X4.out.c2
  have HP := Lib.hid (fun h => division_plain (p := p) (pw := pw) (g := g) (P := zP) (Q := zQ) h)
  generalize divQ p pw g zP zQ = x at *
  generalize divR p pw g zP zQ = r at *
  generalize divC p pw g zP zQ = cd at *
  go_wp2_with fail
  refine (likeInts_any RA.out RC.out).mono ?_
  rintro e w5 ⟨rfl, hb5⟩
  have B5 := Lib.hid (B4.out.trans (hb5.mono B4.out.size))
  have X5 := Lib.hid (X4.out.below hb5 X4.out.lt)
  have RP' := Lib.hid (RP.out.below' hb5)
  have RQ' := Lib.hid (RQ.out.below' hb5)
  have RA' := Lib.hid (RA.out.below' hb5)
  have RB' := Lib.hid (RB.out.below' hb5)
  have RC' := Lib.hid (RC.out.below' hb5)
  have RD' := Lib.hid (RD.out.below' hb5)
  clear RP RQ RA RB RC RD k0 k1 k2 hb5 B4 X4
  have RP := RP'
  have RQ := RQ'
  have RA := RA'
  have RB := RB'
  have RC := RC'
  have RD := RD'
  clear RP' RQ' RA' RB' RC' RD'
  simp only [decide_true]
  have k0 := X5.out.c0
  have k1 := X5.out.c1
  have k2 := X5.out.c2
  go_wp2_with fail
  refine (likeInts_any RB.out RD.out).mono ?_
  rintro e w6 ⟨rfl, hb6⟩
  have B6 := Lib.hid (B5.out.trans (hb6.mono B5.out.size))
  have X6 := Lib.hid (X5.out.below hb6 X5.out.lt)
  have RP' := Lib.hid (RP.out.below' hb6)
  have RQ' := Lib.hid (RQ.out.below' hb6)
  have RA' := Lib.hid (RA.out.below' hb6)
  have RB' := Lib.hid (RB.out.below' hb6)
  have RC' := Lib.hid (RC.out.below' hb6)
  have RD' := Lib.hid (RD.out.below' hb6)
  clear RP RQ RA RB RC RD k0 k1 k2 hb6 B5 X5
  have RP := RP'
  have RQ := RQ'
  have RA := RA'
  have RB := RB'
  have RC := RC'
  have RD := RD'
  clear RP' RQ' RA' RB' RC' RD'
  simp only [decide_true]
  have k0 := X6.out.c0
  have k1 := X6.out.c1
  have k2 := X6.out.c2
  by_cases hcd : cd = 0
  rotate_left
  · have hne : (cd != 0) = true := by simp [hcd]
    clear hcd
    go_wp2_with fail
    go_ret
    exact ⟨rfl, B6.out⟩
  have hne : (cd != 0) = false := by simp [hcd]
  obtain ⟨e1, e2, e3, e4, e5⟩ := HP.out hcd
  have e6 : (r.length : Int) < (zQ.length : Int) := by omega
  clear hcd HP e4
  clear RC
  clear RD
  go_wp2_with fail
  refine (implPolyMul_any p pw g _ RA.out RQ.out).mono ?_
  rintro e w7 ⟨vy, rfl, hb7, hrY⟩
  have B7 := Lib.hid (B6.out.trans (hb7.mono B6.out.size))
  have X7 := Lib.hid (X6.out.below hb7 X6.out.lt)
  have RP' := Lib.hid (RP.out.below' hb7)
  have RQ' := Lib.hid (RQ.out.below' hb7)
  have RA' := Lib.hid (RA.out.below' hb7)
  have RB' := Lib.hid (RB.out.below' hb7)
  clear RP RQ RA RB k0 k1 k2 hb7 B6 X6
  have RP := RP'
  have RQ := RQ'
  have RA := RA'
  have RB := RB'
  clear RP' RQ' RA' RB'
  obtain ⟨aY, capY, rfl, hcaY, hoY⟩ := hrY
  have CAY := Lib.hid hcaY
  have RY := Lib.hid hoY.row
  clear hcaY hoY
  have k0 := X7.out.c0
  have k1 := X7.out.c1
  have k2 := X7.out.c2
  go_wp2_with fail
  refine (implPolyAdd_any p pw g _ RY.out CAY.out RB.out).mono ?_
  rintro e w8 ⟨vz, rfl, hb8, hrZ⟩
  have B8 := Lib.hid (B7.out.trans (hb8.mono B7.out.size))
  have X8 := Lib.hid (X7.out.below hb8 X7.out.lt)
  have RP' := Lib.hid (RP.out.below' hb8)
  have RQ' := Lib.hid (RQ.out.below' hb8)
  have RA' := Lib.hid (RA.out.below' hb8)
  have RB' := Lib.hid (RB.out.below' hb8)
  have RY' := Lib.hid (RY.out.below' hb8)
  clear RP RQ RA RB RY k0 k1 k2 hb8 B7 X7
  have RP := RP'
  have RQ := RQ'
  have RA := RA'
  have RB := RB'
  have RY := RY'
  clear RP' RQ' RA' RB' RY'
  obtain ⟨aZ, capZ, rfl, hcaZ, hoZ⟩ := hrZ
  have CAZ := Lib.hid hcaZ
  have RZ := Lib.hid hoZ.row
  clear hcaZ hoZ
  rw [e3] at RZ
  rw [e3]
  have k0 := X8.out.c0
  have k1 := X8.out.c1
  have k2 := X8.out.c2
  go_wp2_with fail
  refine (likeInts_any RZ.out RP.out).mono ?_
  rintro e w9 ⟨rfl, hb9⟩
  have B9 := Lib.hid (B8.out.trans (hb9.mono B8.out.size))
  have X9 := Lib.hid (X8.out.below hb9 X8.out.lt)
  have RP' := Lib.hid (RP.out.below' hb9)
  have RQ' := Lib.hid (RQ.out.below' hb9)
  have RA' := Lib.hid (RA.out.below' hb9)
  have RB' := Lib.hid (RB.out.below' hb9)
  have RY' := Lib.hid (RY.out.below' hb9)
  have RZ' := Lib.hid (RZ.out.below' hb9)
  clear RP RQ RA RB RY RZ k0 k1 k2 hb9 B8 X8
  have RP := RP'
  have RQ := RQ'
  have RA := RA'
  have RB := RB'
  have RY := RY'
  have RZ := RZ'
  clear RP' RQ' RA' RB' RY' RZ'
  simp only [decide_true]
  have k0 := X9.out.c0
  have k1 := X9.out.c1
  have k2 := X9.out.c2
  go_wp2_with fail
  refine (implIsPolynomial_any p pw g _ RB.out).mono ?_
  rintro e w10 ⟨rfl, hb10⟩
  have B10 := Lib.hid (B9.out.trans (hb10.mono B9.out.size))
  have X10 := Lib.hid (X9.out.below hb10 X9.out.lt)
  have RP' := Lib.hid (RP.out.below' hb10)
  have RQ' := Lib.hid (RQ.out.below' hb10)
  have RA' := Lib.hid (RA.out.below' hb10)
  have RB' := Lib.hid (RB.out.below' hb10)
  have RY' := Lib.hid (RY.out.below' hb10)
  have RZ' := Lib.hid (RZ.out.below' hb10)
  clear RP RQ RA RB RY RZ k0 k1 k2 hb10 B9 X9
  have RP := RP'
  have RQ := RQ'
  have RA := RA'
  have RB := RB'
  have RY := RY'
  have RZ := RZ'
  clear RP' RQ' RA' RB' RY' RZ'
  rw [e5]
  have k0 := X10.out.c0
  have k1 := X10.out.c1
  have k2 := X10.out.c2
  go_wp2_with fail
  go_ret
  exact ⟨rfl, B10.out⟩
end Go.Proofs.Ytnhpdenneplapaa
