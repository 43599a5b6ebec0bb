/-
  The walk of the law FnCodeSums.
-/
import Derived.Test.YtnhpdenneplapaaDrawAdd
import Derived.Test.YtnhpdenneplapaaLike
import Derived.Test.YtnhpdenneplapaaSumLaw
import Derived.Test.YtnhpdenneplapaaFrameB
namespace Go.Proofs.Ytnhpdenneplapaa
open Go.RowKit
set_option linter.unusedVariables false

set_option maxHeartbeats 8000000 in
set_option maxRecDepth 100000 in
theorem lawFnCodeSums (s0 : Option Addr) (n0 cap0 : Nat) (z0 : List Int) (w : World) (hr : RowB w s0 n0 z0) :
    Calls Try.prog 14 #[.slice s0 n0 cap0] w fun e w' => e = .returned (.bool true) ∧ Below w.heap.size w w' := by
  have HR := Lib.hid hr
  clear hr
  go_enter Try.func14, Try.ntmps14
  go_wp2_with fail
  refine (bigL_any _ _ _ _).mono ?_
  rintro e w1 ⟨rfl, rfl⟩
  by_cases hbig : (4096 : Int) < (n0 : Int)
  · go_wp2_with fail
    go_ret
    exact ⟨rfl, Below.refl _ _⟩
  go_wp2_with fail
  refine (DrawAddWords_any HR.out).mono ?_
  rintro e w1 ⟨p, pw, g, l, c, vP, vQ, rfl, hb1, zP, zQ, hoP, hoQ, hlP, hlQ⟩
  obtain ⟨aP, capP, rfl, hcpP, hcaP, hoaP⟩ := hoP.cap
  have CAP := Lib.hid hcaP
  have CPP := Lib.hid hcpP
  have RP := Lib.hid (hoaP.row.below' (below1 w1 (.cells #[.int .i64 p, .int .i64 pw, .int .i64 g, .int .i64 l, .int .i64 c] CT)))
  clear hcaP hoaP hoP hcpP
  obtain ⟨aQ, capQ, rfl, hcpQ, hcaQ, hoaQ⟩ := hoQ.cap
  have CAQ := Lib.hid hcaQ
  have CPQ := Lib.hid hcpQ
  have RQ := Lib.hid (hoaQ.row.below' (below1 w1 (.cells #[.int .i64 p, .int .i64 pw, .int .i64 g, .int .i64 l, .int .i64 c] CT)))
  clear hcaQ hoaQ hoQ hcpQ
  have B2 := Lib.hid (hb1.alloc hb1.size (.cells #[.int .i64 p, .int .i64 pw, .int .i64 g, .int .i64 l, .int .i64 c] CT))
  have X2 := Lib.hid (CB.new w1 p pw g l c)
  obtain ⟨X, hX⟩ : ∃ X, X = w1.heap.size := ⟨_, rfl⟩
  rw [← hX] at X2
  clear hb1
  go_wp2_with fail
  rw [← hX]
  clear hX
  generalize w1.alloc (.cells #[.int .i64 p, .int .i64 pw, .int .i64 g, .int .i64 l, .int .i64 c] CT) = w2 at *
  have k0 := X2.out.c0
  have k1 := X2.out.c1
  have k2 := X2.out.c2
  have k3 := X2.out.c3
  have k4 := X2.out.c4
  go_wp2_with fail
  refine (implAddWords_any p pw g l c _ RP.out RQ.out).mono ?_
  rintro e w3 ⟨vx, rfl, hb3, hrA⟩
  have B3 := Lib.hid (B2.out.trans (hb3.mono B2.out.size))
  have X3 := Lib.hid (X2.out.below hb3 X2.out.lt)
  have RP' := Lib.hid (RP.out.below' hb3)
  have RQ' := Lib.hid (RQ.out.below' hb3)
  clear RP RQ k0 k1 k2 k3 k4 hb3 B2 X2
  have RP := RP'
  have RQ := RQ'
  clear RP' RQ'
  obtain ⟨aA, capA, rfl, hcaA, hoA⟩ := hrA
  have CAA := Lib.hid hcaA
  have RA := Lib.hid hoA.row
  clear hcaA hoA
  have k0 := X3.out.c0
  have k1 := X3.out.c1
  have k2 := X3.out.c2
  have k3 := X3.out.c3
  have k4 := X3.out.c4
  go_wp2_with fail
  refine (specAddWords_any p pw g l c _ RP.out RQ.out).mono ?_
  rintro e w4 ⟨vx, rfl, hb4, hrC⟩
  have B4 := Lib.hid (B3.out.trans (hb4.mono B3.out.size))
  have X4 := Lib.hid (X3.out.below hb4 X3.out.lt)
  have RP' := Lib.hid (RP.out.below' hb4)
  have RQ' := Lib.hid (RQ.out.below' hb4)
  have RA' := Lib.hid (RA.out.below' hb4)
  clear RP RQ RA k0 k1 k2 k3 k4 hb4 B3 X3
  have RP := RP'
  have RQ := RQ'
  have RA := RA'
  clear RP' RQ' RA'
  obtain ⟨aC, capC, rfl, hcaC, hoC⟩ := hrC
  have CAC := Lib.hid hcaC
  have RC := Lib.hid hoC.row
  clear hcaC hoC
  have k0 := X4.out.c0
  have k1 := X4.out.c1
  have k2 := X4.out.c2
  have k3 := X4.out.c3
  have k4 := X4.out.c4
  have HP := Lib.hid (fun h => sums_plain (p := p) (pw := pw) (g := g) (l := l) (c := c) (P := zP) (Q := zQ) h)
  generalize awR p pw g l c zP zQ = x at *
  generalize codeC p pw g l c [zP, zQ] = cd at *
  go_wp2_with fail
  refine (likeInts_any RA.out RC.out).mono ?_
  rintro e w5 ⟨rfl, hb5⟩
  have B5 := Lib.hid (B4.out.trans (hb5.mono B4.out.size))
  have X5 := Lib.hid (X4.out.below hb5 X4.out.lt)
  have RP' := Lib.hid (RP.out.below' hb5)
  have RQ' := Lib.hid (RQ.out.below' hb5)
  have RA' := Lib.hid (RA.out.below' hb5)
  have RC' := Lib.hid (RC.out.below' hb5)
  clear RP RQ RA RC k0 k1 k2 k3 k4 hb5 B4 X4
  have RP := RP'
  have RQ := RQ'
  have RA := RA'
  have RC := RC'
  clear RP' RQ' RA' RC'
  simp only [decide_true]
  have k0 := X5.out.c0
  have k1 := X5.out.c1
  have k2 := X5.out.c2
  have k3 := X5.out.c3
  have k4 := X5.out.c4
  by_cases hcd : cd = 0
  rotate_left
  · have hne : (cd != 0) = true := by simp [hcd]
    clear hcd
    go_wp2_with fail
    go_ret
    exact ⟨rfl, B5.out⟩
  have hne : (cd != 0) = false := by simp [hcd]
  obtain ⟨e1, e2, e3, e4, e5, e6, e7, e8⟩ := HP.out hcd
  have HE := Lib.hid e7
  have H8 := Lib.hid e8
  have E4 := Lib.hid e4
  have E5 := Lib.hid e5
  have E6 := Lib.hid e6
  clear hcd HP e7 e8 e4 e5 e6
  clear RC
  go_wp2_with fail
  refine (implSyndromesOf_any p pw g l c _ RP.out).mono ?_
  rintro e w6 ⟨vs, rfl, hb6, hrS⟩
  have B6 := Lib.hid (B5.out.trans (hb6.mono B5.out.size))
  have X6 := Lib.hid (X5.out.below hb6 X5.out.lt)
  have RP' := Lib.hid (RP.out.below' hb6)
  have RQ' := Lib.hid (RQ.out.below' hb6)
  have RA' := Lib.hid (RA.out.below' hb6)
  clear RP RQ RA k0 k1 k2 k3 k4 hb6 B5 X5
  have RP := RP'
  have RQ := RQ'
  have RA := RA'
  clear RP' RQ' RA'
  obtain ⟨aS, capS, rfl, hcaS, hoS⟩ := hrS
  have CAS := Lib.hid hcaS
  have RS := Lib.hid hoS.row
  clear hcaS hoS
  rw [e1]
  rw [E4.out] at RS ⊢
  have k0 := X6.out.c0
  have k1 := X6.out.c1
  have k2 := X6.out.c2
  have k3 := X6.out.c3
  have k4 := X6.out.c4
  go_wp2_with fail
  refine (implSyndromesOf_any p pw g l c _ RQ.out).mono ?_
  rintro e w7 ⟨vs, rfl, hb7, hrT⟩
  have B7 := Lib.hid (B6.out.trans (hb7.mono B6.out.size))
  have X7 := Lib.hid (X6.out.below hb7 X6.out.lt)
  have RP' := Lib.hid (RP.out.below' hb7)
  have RQ' := Lib.hid (RQ.out.below' hb7)
  have RA' := Lib.hid (RA.out.below' hb7)
  have RS' := Lib.hid (RS.out.below' hb7)
  clear RP RQ RA RS k0 k1 k2 k3 k4 hb7 B6 X6
  have RP := RP'
  have RQ := RQ'
  have RA := RA'
  have RS := RS'
  clear RP' RQ' RA' RS'
  obtain ⟨aT, capT, rfl, hcaT, hoT⟩ := hrT
  have CAT := Lib.hid hcaT
  have RT := Lib.hid hoT.row
  clear hcaT hoT
  rw [e2]
  rw [E5.out] at RT ⊢
  have k0 := X7.out.c0
  have k1 := X7.out.c1
  have k2 := X7.out.c2
  have k3 := X7.out.c3
  have k4 := X7.out.c4
  go_wp2_with fail
  refine (implSyndromesOf_any p pw g l c _ RA.out).mono ?_
  rintro e w8 ⟨vs, rfl, hb8, hrU⟩
  have B8 := Lib.hid (B7.out.trans (hb8.mono B7.out.size))
  have X8 := Lib.hid (X7.out.below hb8 X7.out.lt)
  have RP' := Lib.hid (RP.out.below' hb8)
  have RQ' := Lib.hid (RQ.out.below' hb8)
  have RA' := Lib.hid (RA.out.below' hb8)
  have RS' := Lib.hid (RS.out.below' hb8)
  have RT' := Lib.hid (RT.out.below' hb8)
  clear RP RQ RA RS RT k0 k1 k2 k3 k4 hb8 B7 X7
  have RP := RP'
  have RQ := RQ'
  have RA := RA'
  have RS := RS'
  have RT := RT'
  clear RP' RQ' RA' RS' RT'
  obtain ⟨aU, capU, rfl, hcaU, hoU⟩ := hrU
  have CAU := Lib.hid hcaU
  have RU := Lib.hid hoU.row
  clear hcaU hoU
  rw [e3]
  rw [E6.out] at RU ⊢
  have k0 := X8.out.c0
  have k1 := X8.out.c1
  have k2 := X8.out.c2
  have k3 := X8.out.c3
  have k4 := X8.out.c4
  generalize soR p pw g l c zP = sp at *
  generalize soR p pw g l c zQ = sq at *
  generalize soR p pw g l c x = sx at *
  have hNs : c.toNat ≤ 9223372036854775807 := RS.out.small
  generalize c.toNat = N at *
  clear E4 E5 E6
  clear k0 k1 k2 k3 k4
  go_wp2_with fail
  go_loopw [16] (fun t wr => ∃ k : Nat, k ≤ N ∧ t = .int .i64 k ∧ Hid (RowAt wr aS N sp) ∧ Hid (RowAt wr aT N sq) ∧ Hid (RowAt wr aU N sx) ∧ Hid (RowAt wr aP zP.length zP) ∧ Hid (RowAt wr aQ zQ.length zQ) ∧ Hid (RowAt wr aA x.length x) ∧ Hid (CB wr X p pw g l c) ∧ Hid (Below w.heap.size w wr)) (fun t _ => N - (intOf t).toNat)
  case atStart => exact ⟨0, by omega, rfl, RS, RT, RU, RP, RQ, RA, X8, B8⟩
  case round =>
    clear RS RT RU RP RQ RA X8 B8
    obtain ⟨k, hk, rfl, RS, RT, RU, RP, RQ, RA, HX, HB⟩ := hrel
    have k0 := HX.out.c0
    have k1 := HX.out.c1
    have k2 := HX.out.c2
    by_cases hlt : k < N
    · obtain ⟨d1, d2⟩ := HE.out k hlt
      obtain ⟨b1, o1, rfl, _, hc1⟩ := RS.out.at' (by omega)
      obtain ⟨b2, o2, rfl, _, hc2⟩ := RT.out.at' (by omega)
      obtain ⟨b3, o3, rfl, _, hc3⟩ := RU.out.at' (by omega)
      have m1 := hc1 k hlt
      have m2 := hc2 k hlt
      have m3 := hc3 k hlt
      clear hc1 hc2 hc3
      generalize gi sp k = y1 at *
      generalize gi sq k = y2 at *
      generalize gi sx k = y3 at *
      go_wp2_with fail
      go_region_held3 (fun w' => w'.cell? ⟨X, 0, none⟩ = some (.int .i64 p) ∧ w'.cell? ⟨X, 1, none⟩ = some (.int .i64 pw) ∧ w'.cell? ⟨X, 2, none⟩ = some (.int .i64 g) ∧ w'.cell? ⟨b1, o1 + k, none⟩ = some (.int .i64 y1) ∧ w'.cell? ⟨b2, o2 + k, none⟩ = some (.int .i64 y2))
        (first | go_keep | ((try (dsimp only)); go_split_ands; (repeat' apply And.intro); all_goals (first | assumption | exact keep_cell hbE (by assumption))))
        (first | (go_at_call 61; refine (implFieldAdd_any p pw g y1 y2 _).mono ?_; rintro e w6 ⟨rfl, hbE⟩))
      have hb6 := Below.trans (Drew.below (drew1 wr) wr.heap.size) hbE
      have m3' := keep_cell hb6 m3
      have RS' := Lib.hid (RS.out.below' hb6)
      have RT' := Lib.hid (RT.out.below' hb6)
      have RU' := Lib.hid (RU.out.below' hb6)
      have RP' := Lib.hid (RP.out.below' hb6)
      have RQ' := Lib.hid (RQ.out.below' hb6)
      have RA' := Lib.hid (RA.out.below' hb6)
      have HX' := Lib.hid (HX.out.below hb6 HX.out.lt)
      have HB' := Lib.hid (HB.out.trans (hb6.mono HB.out.size))
      clear hb6 hbE k0 k1 k2 m1 m2 m3
      go_wp2_with fail
      go_roundw
      case rel => exact ⟨k + 1, by omega, by go_num, RS', RT', RU', RP', RQ', RA', HX', HB'⟩
      case measure => simp [intOf]; omega
    · have k3 := HX.out.c3
      have k4 := HX.out.c4
      have HI := Lib.hid (fun W (hb : Below wr.heap.size wr W) => implIsCodeWord_any p pw g l c W (cap := capP) (RP.out.below' hb))
      have HJ := Lib.hid (fun W (hb : Below wr.heap.size wr W) => implIsCodeWord_any p pw g l c W (cap := capQ) (RQ.out.below' hb))
      have HK := Lib.hid (fun W (hb : Below wr.heap.size wr W) => implIsCodeWord_any p pw g l c W (cap := capA) (RA.out.below' hb))
      clear RS RT RU RP RQ RA
      go_wp2_with fail
      refine (HI.out _ (Below.refl _ _)).mono ?_
      rintro e w9 ⟨rfl, hb9⟩
      have B9 := Lib.hid (HB.out.trans (hb9.mono HB.out.size))
      have X9 := Lib.hid (HX.out.below hb9 HX.out.lt)
      have Y9 := Lib.hid hb9
      clear hb9 k0 k1 k2 k3 k4
      cases hi1 : icwB p pw g l c zP with
      | false =>
        clear hi1
        go_wp2_with fail
        go_ret
        exact ⟨rfl, B9.out⟩
      | true =>
        have I1 := Lib.hid hi1
        clear hi1
        have k0 := X9.out.c0
        have k1 := X9.out.c1
        have k2 := X9.out.c2
        have k3 := X9.out.c3
        have k4 := X9.out.c4
        go_wp2_with fail
        refine (HJ.out _ Y9.out).mono ?_
        rintro e w10 ⟨rfl, hb10⟩
        have B10 := Lib.hid (B9.out.trans (hb10.mono B9.out.size))
        have X10 := Lib.hid (X9.out.below hb10 X9.out.lt)
        have Y10 := Lib.hid (Y9.out.trans (hb10.mono Y9.out.size))
        clear hb10 k0 k1 k2 k3 k4
        cases hi2 : icwB p pw g l c zQ with
        | false =>
          clear hi2
          go_wp2_with fail
          go_ret
          exact ⟨rfl, B10.out⟩
        | true =>
          have I2 := H8.out I1.out hi2
          clear hi2
          have k0 := X10.out.c0
          have k1 := X10.out.c1
          have k2 := X10.out.c2
          have k3 := X10.out.c3
          have k4 := X10.out.c4
          go_wp2_with fail
          refine (HK.out _ Y10.out).mono ?_
          rintro e w11 ⟨rfl, hb11⟩
          rw [I2]
          have B11 := Lib.hid (B10.out.trans (hb11.mono B10.out.size))
          clear hb11
          go_wp2_with fail
          go_ret
          exact ⟨rfl, B11.out⟩
end Go.Proofs.Ytnhpdenneplapaa
