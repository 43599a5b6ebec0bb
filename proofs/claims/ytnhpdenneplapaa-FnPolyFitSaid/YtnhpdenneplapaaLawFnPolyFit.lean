/-
  The walk of the law FnPolyFit.
-/
import Derived.Test.YtnhpdenneplapaaDrawFit
import Derived.Test.YtnhpdenneplapaaLike
import Derived.Test.YtnhpdenneplapaaFitLaw
import Derived.Test.YtnhpdenneplapaaFrameB
namespace Go.Proofs.Ytnhpdenneplapaa
open Go.RowKit
set_option linter.unusedVariables false

set_option maxHeartbeats 8000000 in
set_option maxRecDepth 100000 in
theorem lawFnPolyFit (s0 : Option Addr) (n0 cap0 : Nat) (z0 : List Int) (w : World) (hr : RowB w s0 n0 z0) :
    Calls Try.prog 12 #[.slice s0 n0 cap0] w fun e w' => e = .returned (.bool true) ∧ Below w.heap.size w w' := by
  have HR := Lib.hid hr
  clear hr
  go_enter Try.func12, Try.ntmps12
  go_wp2_with fail
  refine (bigL_any _ _ _ _).mono ?_
  rintro e w1 ⟨rfl, rfl⟩
  by_cases hbig : (4096 : Int) < (n0 : Int)
  · go_wp2_with fail
    go_ret
    exact ⟨rfl, Below.refl _ _⟩
  go_wp2_with fail
  refine (DrawPolyFit_any HR.out).mono ?_
  rintro e w1 ⟨p, pw, g, vP, vQ, rfl, hb1, zP, zQ, hoP, hoQ, hlP, hlQ⟩
  obtain ⟨aP, capP, rfl, hcpP, hcaP, hoaP⟩ := hoP.cap
  have CAP := Lib.hid hcaP
  have CPP := Lib.hid hcpP
  have RP := Lib.hid (hoaP.row.below' (below1 w1 (.cells #[.int .i64 p, .int .i64 pw, .int .i64 g] FTa)))
  clear hcaP hoaP hoP hcpP
  obtain ⟨aQ, capQ, rfl, hcpQ, hcaQ, hoaQ⟩ := hoQ.cap
  have CAQ := Lib.hid hcaQ
  have CPQ := Lib.hid hcpQ
  have RQ := Lib.hid (hoaQ.row.below' (below1 w1 (.cells #[.int .i64 p, .int .i64 pw, .int .i64 g] FTa)))
  clear hcaQ hoaQ hoQ hcpQ
  have B2 := Lib.hid (hb1.alloc hb1.size (.cells #[.int .i64 p, .int .i64 pw, .int .i64 g] FTa))
  have X2 := Lib.hid (FB.new w1 p pw g)
  obtain ⟨X, hX⟩ : ∃ X, X = w1.heap.size := ⟨_, rfl⟩
  rw [← hX] at X2
  clear hb1
  go_wp2_with fail
  rw [← hX]
  clear hX
  generalize w1.alloc (.cells #[.int .i64 p, .int .i64 pw, .int .i64 g] FTa) = w2 at *
  have k0 := X2.out.c0
  have k1 := X2.out.c1
  have k2 := X2.out.c2
  go_wp2_with fail
  refine (implPolyFit_any p pw g _ RP.out RQ.out).mono ?_
  rintro e w3 ⟨vx, rfl, hb3, hrG⟩
  have B3 := Lib.hid (B2.out.trans (hb3.mono B2.out.size))
  have X3 := Lib.hid (X2.out.below hb3 X2.out.lt)
  have RP' := Lib.hid (RP.out.below' hb3)
  have RQ' := Lib.hid (RQ.out.below' hb3)
  clear RP RQ k0 k1 k2 hb3 B2 X2
  have RP := RP'
  have RQ := RQ'
  clear RP' RQ'
  obtain ⟨aG, capG, rfl, hcaG, hoG⟩ := hrG
  have CAG := Lib.hid hcaG
  have RG := Lib.hid hoG.row
  clear hcaG hoG
  have k0 := X3.out.c0
  have k1 := X3.out.c1
  have k2 := X3.out.c2
  go_wp2_with fail
  refine (specPolyFit_any p pw g _ RP.out RQ.out).mono ?_
  rintro e w4 ⟨vx, rfl, hb4, hrC⟩
  have B4 := Lib.hid (B3.out.trans (hb4.mono B3.out.size))
  have X4 := Lib.hid (X3.out.below hb4 X3.out.lt)
  have RP' := Lib.hid (RP.out.below' hb4)
  have RQ' := Lib.hid (RQ.out.below' hb4)
  have RG' := Lib.hid (RG.out.below' hb4)
  clear RP RQ RG k0 k1 k2 hb4 B3 X3
  have RP := RP'
  have RQ := RQ'
  have RG := RG'
  clear RP' RQ' RG'
  obtain ⟨aC, capC, rfl, hcaC, hoC⟩ := hrC
  have CAC := Lib.hid hcaC
  have RC := Lib.hid hoC.row
  clear hcaC hoC
  have k0 := X4.out.c0
  have k1 := X4.out.c1
  have k2 := X4.out.c2
  have HP := Lib.hid (fun h => fit_plain (p := p) (pw := pw) (g := g) (P := zP) (Q := zQ) h)
  generalize fitR p pw g zP zQ = x at *
  generalize fitC p pw g zP zQ = cd at *
  go_wp2_with fail
  refine (likeInts_any RG.out RC.out).mono ?_
  rintro e w5 ⟨rfl, hb5⟩
  have B5 := Lib.hid (B4.out.trans (hb5.mono B4.out.size))
  have X5 := Lib.hid (X4.out.below hb5 X4.out.lt)
  have RP' := Lib.hid (RP.out.below' hb5)
  have RQ' := Lib.hid (RQ.out.below' hb5)
  have RG' := Lib.hid (RG.out.below' hb5)
  have RC' := Lib.hid (RC.out.below' hb5)
  clear RP RQ RG RC k0 k1 k2 hb5 B4 X4
  have RP := RP'
  have RQ := RQ'
  have RG := RG'
  have RC := RC'
  clear RP' RQ' RG' RC'
  simp only [decide_true]
  have k0 := X5.out.c0
  have k1 := X5.out.c1
  have k2 := X5.out.c2
  by_cases hcd : cd = 0
  rotate_left
  · have hne : (cd != 0) = true := by simp [hcd]
    clear hcd
    go_wp2_with fail
    go_ret
    exact ⟨rfl, B5.out⟩
  have hne : (cd != 0) = false := by simp [hcd]
  obtain ⟨e1, e2, e0⟩ := HP.out hcd
  have HE := Lib.hid e1
  have HQL := Lib.hid e0
  have e3 : (x.length : Int) ≤ (zP.length : Int) := by omega
  have hxs : zP.length ≤ 9223372036854775807 := RP.out.small
  clear hcd HP e1 e2 e0
  clear RC
  clear k0 k1 k2
  go_wp2_with fail
  go_loopw [10] (fun t wr => ∃ k : Nat, k ≤ zP.length ∧ t = .int .i64 k ∧ Hid (RowAt wr aP zP.length zP) ∧ Hid (RowAt wr aQ zQ.length zQ) ∧ Hid (RowAt wr aG x.length x) ∧ Hid (FB wr X p pw g) ∧ Hid (Below w.heap.size w wr)) (fun t _ => zP.length - (intOf t).toNat)
  case atStart => exact ⟨0, by omega, rfl, RP, RQ, RG, X5, B5⟩
  case round =>
    clear RP RQ RG X5 B5
    obtain ⟨k, hk, rfl, RP, RQ, RG, HX, HB⟩ := hrel
    by_cases hlt : k < zP.length
    · obtain ⟨bg, og, rfl, _, hcg⟩ := RP.out.at' (by omega)
      obtain ⟨bq, oq, rfl, _, hcq⟩ := RQ.out.at' (by rw [HQL.out]; omega)
      have hcm := hcg k hlt
      have hcn := hcq k (by rw [HQL.out]; exact hlt)
      have hkq : (k : Int) < (zQ.length : Int) := by have := HQL.out; omega
      obtain ⟨d1, d2⟩ := HE.out k hlt
      have k0 := HX.out.c0
      have k1 := HX.out.c1
      have k2 := HX.out.c2
      have RGD := Lib.hid (RG.out.below' (Drew.below (drew1 wr) _))
      clear hcg hcq
      generalize gi zP k = z at *
      generalize gi zQ k = y at *
      go_wp2_with fail
      go_region_held3 (fun w' => w'.cell? ⟨X, 0, none⟩ = some (.int .i64 p) ∧ w'.cell? ⟨X, 1, none⟩ = some (.int .i64 pw) ∧ w'.cell? ⟨X, 2, none⟩ = some (.int .i64 g) ∧ w'.cell? ⟨bg, og + k, none⟩ = some (.int .i64 z))
        (first | go_keep | ((try (dsimp only)); go_split_ands; (repeat' apply And.intro); all_goals (first | assumption | exact keep_cell hbE (by assumption))))
        (first | (go_at_call 20; refine (implPolyEval_any p pw g z _ RGD.out).mono ?_; rintro e w6 ⟨rfl, hbE⟩))
      have hb6 := Below.trans (Drew.below (drew1 wr) wr.heap.size) hbE
      have hcn' := keep_cell hb6 hcn
      have RP' := Lib.hid (RP.out.below' hb6)
      have RQ' := Lib.hid (RQ.out.below' hb6)
      have RG' := Lib.hid (RG.out.below' hb6)
      have HX' := Lib.hid (HX.out.below hb6 HX.out.lt)
      have HB' := Lib.hid (HB.out.trans (hb6.mono HB.out.size))
      clear hb6 hbE k0 k1 k2 hcm hcn RGD
      go_wp2_with fail
      go_roundw
      case rel => exact ⟨k + 1, by omega, by go_num, RP', RQ', RG', HX', HB'⟩
      case measure => simp [intOf]; omega
    · go_wp2_with fail
      go_ret
      exact ⟨rfl, HB.out⟩
end Go.Proofs.Ytnhpdenneplapaa
