/-
  The walk of the law FnRecurrences.
-/
import Derived.Test.YthbiieflmmnfcaaDrawR2
import Derived.Test.YthbiieflmmnfcaaLike
import Derived.Test.YthbiieflmmnfcaaSeqLaw
import Derived.Test.YthbiieflmmnfcaaCont
import Derived.Test.YthbiieflmmnfcaaSeqLen
import Derived.Test.YthbiieflmmnfcaaSat
import Derived.Test.YthbiieflmmnfcaaFrameB
namespace Go.Proofs.Ythbiieflmmnfcaa
open Go.RowKit
set_option linter.unusedVariables false

set_option maxHeartbeats 8000000 in
set_option maxRecDepth 100000 in
theorem lawFnRecurrences (s0 : Option Addr) (n0 cap0 : Nat) (z0 : List Int) (w : World) (hr : RowB w s0 n0 z0) :
    Calls Try.prog 6 #[.slice s0 n0 cap0] w fun e w' => e = .returned (.bool true) ∧ Below w.heap.size w w' := by
  have HR := Lib.hid hr
  clear hr
  go_enter Try.func6, Try.ntmps6
  go_wp2_with fail
  refine (bigL_any _ _ _ _).mono ?_
  rintro e w1 ⟨rfl, rfl⟩
  by_cases hbig : (4096 : Int) < (n0 : Int)
  · go_wp2_with fail
    go_ret
    exact ⟨rfl, Below.refl _ _⟩
  go_wp2_with fail
  refine (DrawContinueSequence_any HR.out).mono ?_
  rintro e w1 ⟨p, pw, g, x, vP, rfl, hb1, zP, hoP, hlP⟩
  obtain ⟨aP, capP, rfl, hcpP, hcaP, hoaP⟩ := hoP.cap
  have CAP := Lib.hid hcaP
  have CPP := Lib.hid hcpP
  have RP := Lib.hid (hoaP.row.below' (below1 w1 (.cells #[.int .i64 p, .int .i64 pw, .int .i64 g] FTa)))
  clear hcaP hoaP hoP hcpP
  have B2 := Lib.hid (hb1.alloc hb1.size (.cells #[.int .i64 p, .int .i64 pw, .int .i64 g] FTa))
  have X2 := Lib.hid (FB.new w1 p pw g)
  obtain ⟨X, hX⟩ : ∃ X, X = w1.heap.size := ⟨_, rfl⟩
  rw [← hX] at X2
  clear hb1
  go_wp2_with fail
  rw [← hX]
  clear hX
  generalize w1.alloc (.cells #[.int .i64 p, .int .i64 pw, .int .i64 g] FTa) = w2 at *
  have k0 := X2.out.c0
  have k1 := X2.out.c1
  have k2 := X2.out.c2
  go_wp2_with fail
  refine (implCont_any p pw g x _ RP.out CAP.out).mono ?_
  rintro e w3 ⟨vx, rfl, hb3, hrG⟩
  have B3 := Lib.hid (B2.out.trans (hb3.mono B2.out.size))
  have X3 := Lib.hid (X2.out.below hb3 X2.out.lt)
  have RP' := Lib.hid (RP.out.below' hb3)
  clear RP k0 k1 k2 hb3 B2 X2
  have RP := RP'
  clear RP'
  obtain ⟨aG, capG, rfl, hcaG, hoG⟩ := hrG
  have CAG := Lib.hid hcaG
  have RG := Lib.hid hoG.row
  clear hcaG hoG
  have k0 := X3.out.c0
  have k1 := X3.out.c1
  have k2 := X3.out.c2
  go_wp2_with fail
  refine (specCont_any p pw g x _ RP.out CAP.out).mono ?_
  rintro e w4 ⟨vy, rfl, hb4, hrC⟩
  have B4 := Lib.hid (B3.out.trans (hb4.mono B3.out.size))
  have X4 := Lib.hid (X3.out.below hb4 X3.out.lt)
  have RP' := Lib.hid (RP.out.below' hb4)
  have RG' := Lib.hid (RG.out.below' hb4)
  clear RP RG k0 k1 k2 hb4 B3 X3
  have RP := RP'
  have RG := RG'
  clear RP' RG'
  obtain ⟨aC, capC, rfl, hcaC, hoC⟩ := hrC
  have CAC := Lib.hid hcaC
  have RC := Lib.hid hoC.row
  clear hcaC hoC
  have k0 := X4.out.c0
  have k1 := X4.out.c1
  have k2 := X4.out.c2
  have HP := Lib.hid (fun h => recs_plain (p := p) (pw := pw) (g := g) (c := x) (zs := zP) h)
  generalize contR p pw g zP x = y at *
  generalize contC p pw g zP x = cd at *
  have hq : (cd != cd) = false := by simp
  go_wp2_with fail
  refine (likeInts_any RG.out RC.out).mono ?_
  rintro e w5 ⟨rfl, hb5⟩
  have B5 := Lib.hid (B4.out.trans (hb5.mono B4.out.size))
  have X5 := Lib.hid (X4.out.below hb5 X4.out.lt)
  have RP' := Lib.hid (RP.out.below' hb5)
  have RG' := Lib.hid (RG.out.below' hb5)
  have RC' := Lib.hid (RC.out.below' hb5)
  clear RP RG RC k0 k1 k2 hb5 B4 X4
  have RP := RP'
  have RG := RG'
  have RC := RC'
  clear RP' RG' RC'
  simp only [decide_true]
  have k0 := X5.out.c0
  have k1 := X5.out.c1
  have k2 := X5.out.c2
  by_cases hcd : cd = 0
  rotate_left
  · have hne : (cd != 0) = true := by simp [hcd]
    clear hcd
    go_wp2_with fail
    go_ret
    exact ⟨rfl, B5.out⟩
  have hne : (cd != 0) = false := by simp [hcd]
  clear RC
  obtain ⟨e1, e2, e3, e4, e5, e6, e7, e8⟩ := HP.out hcd
  have E1 := Lib.hid e1
  have E2 := Lib.hid e2
  have E4 := Lib.hid e4
  have E8 := Lib.hid e8
  have hyx : ((y.length : Int) != x) = false := by simp [e3]
  clear hcd HP e1 e2 e4 e8
  go_wp2_with fail
  refine (implRecurrence_any p pw g _ RP.out).mono ?_
  rintro e w6 ⟨vr, rfl, hb6, hrR⟩
  have B6 := Lib.hid (B5.out.trans (hb6.mono B5.out.size))
  have X6 := Lib.hid (X5.out.below hb6 X5.out.lt)
  have RP' := Lib.hid (RP.out.below' hb6)
  have RG' := Lib.hid (RG.out.below' hb6)
  clear RP RG k0 k1 k2 hb6 B5 X5
  have RP := RP'
  have RG := RG'
  clear RP' RG'
  obtain ⟨aR, capR, rfl, hcaR, hoR⟩ := hrR
  have CAR := Lib.hid hcaR
  have RR := Lib.hid hoR.row
  clear hcaR hoR
  rw [E1.out]
  have k0 := X6.out.c0
  have k1 := X6.out.c1
  have k2 := X6.out.c2
  go_wp2_with fail
  refine (implSeqLen_any p pw g _ RP.out).mono ?_
  rintro e w7 ⟨rfl, hb7⟩
  have B7 := Lib.hid (B6.out.trans (hb7.mono B6.out.size))
  have X7 := Lib.hid (X6.out.below hb7 X6.out.lt)
  have RP' := Lib.hid (RP.out.below' hb7)
  have RG' := Lib.hid (RG.out.below' hb7)
  have RR' := Lib.hid (RR.out.below' hb7)
  clear RP RG RR k0 k1 k2 hb7 B6 X6
  have RP := RP'
  have RG := RG'
  have RR := RR'
  clear RP' RG' RR'
  rw [E2.out]
  have k0 := X7.out.c0
  have k1 := X7.out.c1
  have k2 := X7.out.c2
  have HSAT := Lib.hid (fun W RPP RRR => implIsSatisfied_any p pw g (seqL p pw g zP) W (a := aP) (n := zP.length) (cap := capP) (zs := zP) RPP (a' := aR) (n' := (recR p pw g zP).length) (cap' := capR) (cs := recR p pw g zP) RRR)
  have HSEQ := Lib.hid (fun W a n cap RPP => implSeqLen_any p pw g W (a := a) (n := n) (cap := cap) (zs := zP ++ y) RPP)
  have HSA2 := Lib.hid (fun W a n cap RPP RRR => implIsSatisfied_any p pw g (seqL p pw g zP) W (a := a) (n := n) (cap := cap) (zs := zP ++ y) RPP (a' := aR) (n' := (recR p pw g zP).length) (cap' := capR) (cs := recR p pw g zP) RRR)
  rw [E4.out] at HSAT
  generalize seqL p pw g zP = sl at *
  generalize recR p pw g zP = rr at *
  have HE7 := Lib.hid (OwnL.empty w7 w7.heap.size (Nat.le_refl _) w7.heap.size rfl)
  have b7 := below1 w7 (.cells #[] 2)
  have RP7 := Lib.hid (RP.out.below' b7)
  have RG7 := Lib.hid (RG.out.below' b7)
  have B70 := Lib.hid ((Below.refl w7.heap.size w7).alloc (Nat.le_refl _) (.cells #[] 2))
  have hl6 : ([] : List Int).length + zP.length ≤ 16777216 := by simp; omega
  have hl7 : zP.length + y.length ≤ 16777216 := by omega
  clear b7 k0 k1 k2
  go_wp2_with (first
    | (at_builtin; refine append_row rfl _ _ _ rfl Try.underlying26 HE7.out rfl _ RP7.out rfl CAP.out hl6 ?_; intro vO w8 hownO hbO; rw [List.nil_append] at hownO; clear HE7)
    | (at_builtin; refine append_row rfl _ _ _ rfl Try.underlying26 hownO rfl _ (RG.out.below' (B70.out.trans hbO)) rfl CAG.out hl7 ?_; intro vQ w9 hownQ hbQ; have hb9 := (B70.out.trans hbO).trans hbQ; have B9 := Lib.hid (B7.out.trans (hb9.mono B7.out.size)); have X9 := Lib.hid (X7.out.below hb9 X7.out.lt); have RP9 := Lib.hid (RP.out.below' hb9); have RR9 := Lib.hid (RR.out.below' hb9); obtain ⟨aQ, cQ, rfl, -, -, hooQ⟩ := hownQ.cap; have RQ9 := Lib.hid hooQ.row; have k0 := X9.out.c0; have k1 := X9.out.c1; have k2 := X9.out.c2))
  refine (HSAT.out _ RP9.out RR9.out).mono ?_
  rintro e w10 ⟨rfl, hb10⟩
  have B10 := Lib.hid (B9.out.trans (hb10.mono B9.out.size))
  have X10 := Lib.hid (X9.out.below hb10 X9.out.lt)
  have RQ10 := Lib.hid (RQ9.out.below' hb10)
  have RR10 := Lib.hid (RR9.out.below' hb10)
  clear hb10 k0 k1 k2 B9 X9 RQ9 RR9 hownO hbO hownQ hbQ hb9 hooQ HSAT B7 X7 RP RG RR RP7 RG7 B70 RP9
  obtain ⟨m, hm⟩ : ∃ m, zP.length + y.length = m := ⟨_, rfl⟩
  rw [List.length_append] at RQ10 E8
  rw [hm] at RQ10 E8 ⊢
  by_cases hlong : (64 : Int) < (m : Int)
  · clear hm
    go_wp2_with fail
    go_ret
    exact ⟨rfl, B10.out⟩
  obtain ⟨f1, f2, f3⟩ := E8.out (by omega)
  have hsq := Lib.hid (HSEQ.out w10 aQ m cQ RQ10.out)
  have F1 := Lib.hid f1
  have F2 := Lib.hid f2
  have F3 := Lib.hid f3
  have k0 := X10.out.c0
  have k1 := X10.out.c1
  have k2 := X10.out.c2
  clear f1 f2 f3 HSEQ E8 hm
  go_wp2_with fail
  refine hsq.out.mono ?_
  rintro e w11 ⟨rfl, hb11⟩
  rw [F1.out, F2.out]
  have B11 := Lib.hid (B10.out.trans (hb11.mono B10.out.size))
  have X11 := Lib.hid (X10.out.below hb11 X10.out.lt)
  have hsa := Lib.hid (HSA2.out w11 aQ m cQ (RQ10.out.below' hb11) (RR10.out.below' hb11))
  rw [F3.out] at hsa
  have hss : (sl == sl) = true := by simp
  clear hb11 k0 k1 k2 HSA2
  have k0 := X11.out.c0
  have k1 := X11.out.c1
  have k2 := X11.out.c2
  go_wp2_with fail
  refine hsa.out.mono ?_
  rintro e w12 ⟨rfl, hb12⟩
  have B12 := Lib.hid (B11.out.trans (hb12.mono B11.out.size))
  go_wp2_with fail
  go_ret
  exact ⟨rfl, B12.out⟩
end Go.Proofs.Ythbiieflmmnfcaa
