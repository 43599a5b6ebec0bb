/-
  The walk of the law FnGenerator.
-/
import Derived.Test.YthbiieflmmnfcaaDrawIcw
import Derived.Test.YthbiieflmmnfcaaLike
import Derived.Test.YthbiieflmmnfcaaGenLaw
import Derived.Test.YthbiieflmmnfcaaFrameB
namespace Go.Proofs.Ythbiieflmmnfcaa
open Go.RowKit
set_option linter.unusedVariables false

theorem wrap_nat (i : Nat) (h : i ≤ 255) : wrap64 (i : Int) = (i : Int) ∧ IntKind.i64.wrap (i : Int) = (i : Int) := ⟨IntWalk.wrap64_in _ (by omega), IntWalk.i64_in _ (by omega)⟩
set_option maxHeartbeats 8000000 in
set_option maxRecDepth 100000 in
theorem lawFnGenerator (s0 : Option Addr) (n0 cap0 : Nat) (z0 : List Int) (w : World) (hr : RowB w s0 n0 z0) :
    Calls Try.prog 7 #[.slice s0 n0 cap0] w fun e w' => e = .returned (.bool true) ∧ Below w.heap.size w w' := by
  have HR := Lib.hid hr
  clear hr
  go_enter Try.func7, Try.ntmps7
  go_wp2_with fail
  refine (bigL_any _ _ _ _).mono ?_
  rintro e w1 ⟨rfl, rfl⟩
  by_cases hbig : (4096 : Int) < (n0 : Int)
  · go_wp2_with fail
    go_ret
    exact ⟨rfl, Below.refl _ _⟩
  go_wp2_with fail
  refine (DrawIsCodeWord_any HR.out).mono ?_
  rintro e w1 ⟨p, pw, g, l, c, vP, rfl, hb1, zP, hoP, hlP⟩
  obtain ⟨aP, capP, rfl, hcpP, hcaP, hoaP⟩ := hoP.cap
  have CAP := Lib.hid hcaP
  have CPP := Lib.hid hcpP
  have RP := Lib.hid (hoaP.row.below' (below1 w1 (.cells #[.int .i64 p, .int .i64 pw, .int .i64 g, .int .i64 l, .int .i64 c] CT)))
  clear hcaP hoaP hoP hcpP
  have B2 := Lib.hid (hb1.alloc hb1.size (.cells #[.int .i64 p, .int .i64 pw, .int .i64 g, .int .i64 l, .int .i64 c] CT))
  have X2 := Lib.hid (CB.new w1 p pw g l c)
  obtain ⟨X, hX⟩ : ∃ X, X = w1.heap.size := ⟨_, rfl⟩
  rw [← hX] at X2
  clear hb1
  go_wp2_with fail
  rw [← hX]
  clear hX
  generalize w1.alloc (.cells #[.int .i64 p, .int .i64 pw, .int .i64 g, .int .i64 l, .int .i64 c] CT) = w2 at *
  have k0 := X2.out.c0
  have k1 := X2.out.c1
  have k2 := X2.out.c2
  have k3 := X2.out.c3
  have k4 := X2.out.c4
  go_wp2_with fail
  refine (implGeneratorOf_any p pw g l c _).mono ?_
  rintro e w3 ⟨vx, rfl, hb3, hrG⟩
  have B3 := Lib.hid (B2.out.trans (hb3.mono B2.out.size))
  have X3 := Lib.hid (X2.out.below hb3 X2.out.lt)
  have RP' := Lib.hid (RP.out.below' hb3)
  clear RP k0 k1 k2 k3 k4 hb3 B2 X2
  have RP := RP'
  clear RP'
  obtain ⟨aG, capG, rfl, hcaG, hoG⟩ := hrG
  have CAG := Lib.hid hcaG
  have RG := Lib.hid hoG.row
  clear hcaG hoG
  have k0 := X3.out.c0
  have k1 := X3.out.c1
  have k2 := X3.out.c2
  have k3 := X3.out.c3
  have k4 := X3.out.c4
  go_wp2_with fail
  refine (specGeneratorOf_any p pw g l c _).mono ?_
  rintro e w4 ⟨vx, rfl, hb4, hrC⟩
  have B4 := Lib.hid (B3.out.trans (hb4.mono B3.out.size))
  have X4 := Lib.hid (X3.out.below hb4 X3.out.lt)
  have RP' := Lib.hid (RP.out.below' hb4)
  have RG' := Lib.hid (RG.out.below' hb4)
  clear RP RG k0 k1 k2 k3 k4 hb4 B3 X3
  have RP := RP'
  have RG := RG'
  clear RP' RG'
  obtain ⟨aC, capC, rfl, hcaC, hoC⟩ := hrC
  have CAC := Lib.hid hcaC
  have RC := Lib.hid hoC.row
  clear hcaC hoC
  have k0 := X4.out.c0
  have k1 := X4.out.c1
  have k2 := X4.out.c2
  have k3 := X4.out.c3
  have k4 := X4.out.c4
  have HP := Lib.hid (fun h => generator_plain (p := p) (pw := pw) (g := g) (l := l) (c := c) (W := zP) h)
  generalize genR p pw g l c = x at *
  generalize validI p pw g l c = cd at *
  have hl4 := X4.out.lt
  have RPD := Lib.hid (RP.out.below' (Drew.below (drew1 w4) _))
  have RGD := Lib.hid (RG.out.below' (Drew.below (drew1 w4) _))
  have RCD := Lib.hid (RC.out.below' (Drew.below (drew1 w4) _))
  go_wp2_with fail
  go_region_held3 (fun w' => w'.cell? ⟨X, 0, none⟩ = some (.int .i64 p) ∧ w'.cell? ⟨X, 1, none⟩ = some (.int .i64 pw) ∧ w'.cell? ⟨X, 2, none⟩ = some (.int .i64 g) ∧ w'.cell? ⟨X, 3, none⟩ = some (.int .i64 l) ∧ w'.cell? ⟨X, 4, none⟩ = some (.int .i64 c))
    (first | go_keep | ((try (dsimp only)); go_split_ands; (repeat' apply And.intro); all_goals (first | assumption | exact keep_cell hbL (by assumption) | exact keep_cell hbI (by assumption) | exact keep_cell hbS (by assumption))))
    (first
      | (go_at_call 31; refine (likeInts_any RGD.out RCD.out).mono ?_; rintro e wL ⟨rfl, hbL⟩; simp only [decide_true])
      | (go_at_call 36; refine (implIsCodeWord_any p pw g l c _ (RPD.out.below' hbL)).mono ?_; rintro e wI ⟨rfl, hbI⟩)
      | (go_at_call 46; refine (specIsCodeWord_any p pw g l c _ ((RPD.out.below' hbL).below' hbI)).mono ?_; rintro e w5 ⟨rfl, hbS⟩))
  have hb5 := Below.more (Below.more (Below.trans (Drew.below (drew1 w4) w4.heap.size) hbL) (Nat.le_refl _) hbI) (Nat.le_refl _) hbS
  have B5 := Lib.hid (B4.out.trans (hb5.mono B4.out.size))
  have X5 := Lib.hid (X4.out.below hb5 hl4)
  have RP' := Lib.hid (RP.out.below' hb5)
  have RG' := Lib.hid (RG.out.below' hb5)
  clear RP RG RC RPD RGD RCD B4 X4 k0 k1 k2 k3 k4 hbL hbI hbS hb5 hl4
  have RP := RP'
  have RG := RG'
  clear RP' RG'
  have k0 := X5.out.c0
  have k1 := X5.out.c1
  have k2 := X5.out.c2
  have k3 := X5.out.c3
  have k4 := X5.out.c4
  by_cases hcd : cd = 0
  rotate_left
  · have hne : (cd != 0) = true := by simp [hcd]
    clear hcd
    go_wp2_with fail
    go_ret
    exact ⟨rfl, B5.out⟩
  have hne : (cd != 0) = false := by simp [hcd]
  by_cases hwl : (zP.length : Int) = l
  rotate_left
  · have hne2 : ((zP.length : Int) != l) = true := by simp [hwl]
    clear hcd hwl
    go_wp2_with fail
    go_ret
    exact ⟨rfl, B5.out⟩
  have hne2 : ((zP.length : Int) != l) = false := by simp [hwl]
  clear hwl hcd
  go_wp2_with fail
  refine (specIsCodeWord_any p pw g l c _ RP.out).mono ?_
  rintro e w6 ⟨rfl, hb6⟩
  have B6 := Lib.hid (B5.out.trans (hb6.mono B5.out.size))
  have X6 := Lib.hid (X5.out.below hb6 X5.out.lt)
  have RP' := Lib.hid (RP.out.below' hb6)
  have RG' := Lib.hid (RG.out.below' hb6)
  clear RP RG k0 k1 k2 k3 k4 hb6 B5 X5
  have RP := RP'
  have RG := RG'
  clear RP' RG'
  have k0 := X6.out.c0
  have k1 := X6.out.c1
  have k2 := X6.out.c2
  have k3 := X6.out.c3
  have k4 := X6.out.c4
  cases hi : icwB p pw g l c zP with
  | false =>
    clear hi
    go_wp2_with fail
    go_ret
    exact ⟨rfl, B6.out⟩
  | true =>
    obtain ⟨e1, e2, e3, -, -, hN⟩ := HP.out hi
    have E1 := Lib.hid e1
    have E2 := Lib.hid e2
    have e4 : ((x.length : Int) == c + 1) = true := by simp; exact e3
    have hwc : IntKind.i64.wrap (c + 1) = c + 1 := by rw [← e3]; have := RG.out.small; exact IntWalk.i64_in _ (by omega)
    clear hi HP e1 e2 e3
    obtain ⟨N, hNN⟩ : ∃ N, zP.length = N := ⟨_, rfl⟩
    have HNN := Lib.hid hNN
    rw [hNN] at RP hN ⊢
    rw [hNN] at E1 E2
    clear hNN
    have HO := Lib.hid (OwnL.empty w6 w6.heap.size (Nat.le_refl _) w6.heap.size rfl)
    have HBe := Lib.hid ((Below.refl w6.heap.size w6).alloc (Nat.le_refl _) (.cells #[] 2))
    clear k0 k1 k2 k3 k4
    go_wp2_with fail
    go_loopw [9, 10] (fun a t wr => ∃ (j : Nat), j ≤ N ∧ t = .int .i64 ((N : Int) - 1 - (j : Int)) ∧ Hid (OwnL wr w6.heap.size a (revW zP j)) ∧ Hid (Below w6.heap.size w6 wr)) (fun _ t _ => ((intOf t) + 1).toNat)
    case atStart => exact ⟨0, by omega, by simp, HO, HBe⟩
    case round =>
      clear HO HBe
      obtain ⟨j, hj, rfl, ho, hb⟩ := hrel
      obtain ⟨a, cp, rfl, hcp, hca, hoa⟩ := ho.out.cap
      rw [revW_length] at hcp hoa ⊢
      by_cases hlt : j < N
      · obtain ⟨i, hi1, hi2⟩ : ∃ i : Nat, (N : Int) - 1 - (j : Int) = (i : Int) ∧ i = N - 1 - j := ⟨N - 1 - j, by omega, rfl⟩
        have hin : i < N := by omega
        obtain ⟨bg, og, rfl, _, hcg⟩ := (RP.out.below' hb.out).at' (by omega)
        have hcm := hcg i hin
        have hi0 : (0 : Int) ≤ (i : Int) := by omega
        have HRS := Lib.hid (show revW zP j ++ [gi zP i] = revW zP (j + 1) by rw [revW_succ, HNN.out, hi2])
        have hln : (revW zP j).length ≤ 16777216 := by rw [revW_length]; omega
        have hj1 : (i : Int) - 1 = (N : Int) - 1 - ((j + 1 : Nat) : Int) := by omega
        have HJ := Lib.hid hj1
        have hm1 : ((i : Int) - 1 + 1).toNat < ((i : Int) + 1).toNat := by omega
        have hoo := ho.out
        rw [revW_length] at hoo
        rw [hi1]
        have HI1 := Lib.hid hi1
        clear hcg hca hoa hi2 hj1 hi1 hm1
        generalize gi zP i = z at *
        go_wp2_with (at_builtin; refine append_one rfl _ _ _ rfl Try.underlying26 z hoo rfl _ rfl rfl hln ?_; intro v' w9 hown9 hb9)
        rw [HRS.out] at hown9
        have O9 := Lib.hid hown9
        have B9 := Lib.hid (hb.out.trans hb9)
        clear hown9 hb9 hoo ho
        go_wp2_with fail
        go_roundw
        case rel => exact ⟨j + 1, by omega, by rw [HJ.out], O9, B9⟩
        case measure => first | (simp [intOf]; done) | (simp [intOf]; omega)
      · obtain rfl : j = N := by omega
        have hng : ¬ (0 : Int) ≤ (j : Int) - 1 - (j : Int) := by omega
        have hj0 : j ≤ 255 := hN
        have HRL := Lib.hid (revW_length zP j)
        have HRR := Lib.hid hoa.row
        have HCA := Lib.hid hca
        have RG7 := Lib.hid (RG.out.below' hb.out)
        have X7 := Lib.hid (X6.out.below hb.out X6.out.lt)
        have B7 := Lib.hid (B6.out.trans (hb.out.mono B6.out.size))
        have HRT := Lib.hid (show ∀ k, k ≤ j → RowAt wr a k ((revW zP j).take k) from fun k hk => ⟨by rw [List.length_take, HRL.out]; omega, by omega, fun h0 => by
          obtain ⟨b, off, e, hb, hc⟩ := HRR.out.at' (by omega)
          exact ⟨b, off, e, hb, fun i hi => by rw [gi_take hi]; exact hc i (by omega)⟩⟩)
        generalize revW zP j = rv at *
        clear ho hb hoa hca RP RG X6 B6
        obtain ⟨wo, rfl⟩ : ∃ wo : World, wo = wr := ⟨_, rfl⟩
        go_wp2_with fail
        go_loopw [9] (fun t wr => ∃ k : Nat, k ≤ j ∧ t = .slice a k cp ∧ Hid (VF.tlen rv j = VF.tlen rv k) ∧ wr = wo) (fun t _ => (match t with | .slice _ k _ => k | _ => 0))
        case atStart => exact ⟨j, by omega, rfl, Lib.hid rfl, rfl⟩
        case round =>
          obtain ⟨k, hk, rfl, ht, rfl⟩ := hrel
          by_cases h0 : 0 < k
          · obtain ⟨i, rfl⟩ : ∃ i, k = i + 1 := ⟨k - 1, by omega⟩
            obtain ⟨b1, o1, rfl, hb1, hcs⟩ := HRR.out.at' (by omega)
            have hcell := hcs i (by omega)
            obtain ⟨k1, hk1, hk2⟩ : ∃ k1 : Nat, k1 = i + 1 ∧ (k1 : Int) - 1 = (i : Int) := ⟨i + 1, rfl, by omega⟩
            have HK1 := Lib.hid hk1
            have hkp : (0 : Int) < (k1 : Int) := by omega
            have hik : (i : Int) < (k1 : Int) := by omega
            have hik2 : i < k1 := by omega
            have hi255 : i ≤ 255 := by omega
            have hicp : (i : Int) ≤ (cp : Int) := by omega
            have hcp0 : ¬ cp = 0 := by omega
            rw [← hk1]
            rw [← hk1] at hk ht
            by_cases hz : gi rv i = 0
            · have hzb : (gi rv i == 0) = true := by simp [hz]
              have ht2 := Lib.hid (ht.out.trans (show VF.tlen rv k1 = VF.tlen rv i by rw [HK1.out]; exact tlen_succ_zero hz))
              clear hz hcs hk1
              generalize gi rv i = z at *
              go_wp2_with fail
              go_roundw
              case rel => exact ⟨i, by have := HK1.out; omega, rfl, ht2, by first | trivial | rfl⟩
              case measure => exact (show i < k1 by have := HK1.out; omega)
            · have hzb : (gi rv i == 0) = false := by simp [hz]
              have hf := Lib.hid (show VF.trim rv = rv.take k1 by unfold VF.trim; rw [HRL.out, ht.out, HK1.out, tlen_succ_ne hz])
              clear hz hcs hk1
              generalize gi rv i = z at *
              have k0 := X7.out.c0
              have k1' := X7.out.c1
              have k2 := X7.out.c2
              go_wp2_with fail
              refine (implPolyDiv_any p pw g _ (HRT.out k1 hk) HCA.out RG7.out).mono ?_
              rintro e w8 ⟨vx, vr, rfl, hb8, hres⟩
              obtain ⟨mid, aA, capA, aB, capB, rfl, rfl, -, -, -, -⟩ := hres
              rw [← hf.out, E1.out, E2.out]
              have B8 := Lib.hid (B7.out.trans (hb8.mono B7.out.size))
              have k4 := (X7.out.below hb8 X7.out.lt).c4
              clear hb8 k0 k1' k2
              go_wp2_with fail
              go_ret
              exact ⟨rfl, B8.out⟩
          · obtain rfl : k = 0 := by omega
            have hf := Lib.hid (show VF.trim rv = rv.take 0 by unfold VF.trim; rw [HRL.out, ht.out]; rfl)
            have k0 := X7.out.c0
            have k1' := X7.out.c1
            have k2 := X7.out.c2
            go_wp2_with fail
            refine (implPolyDiv_any p pw g _ (HRT.out 0 hk) HCA.out RG7.out).mono ?_
            rintro e w8 ⟨vx, vr, rfl, hb8, hres⟩
            obtain ⟨mid, aA, capA, aB, capB, rfl, rfl, -, -, -, -⟩ := hres
            rw [← hf.out, E1.out, E2.out]
            have B8 := Lib.hid (B7.out.trans (hb8.mono B7.out.size))
            have k4 := (X7.out.below hb8 X7.out.lt).c4
            clear hb8 k0 k1' k2
            go_wp2_with fail
            go_ret
            exact ⟨rfl, B8.out⟩
end Go.Proofs.Ythbiieflmmnfcaa
