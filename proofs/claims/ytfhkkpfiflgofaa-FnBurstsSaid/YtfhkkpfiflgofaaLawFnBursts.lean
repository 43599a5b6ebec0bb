/-
  The walk of the law FnBursts.
-/
import Derived.Test.YtfhkkpfiflgofaaDrawY
import Derived.Test.YtfhkkpfiflgofaaDrawK
import Derived.Test.YtfhkkpfiflgofaaEncI
import Derived.Test.YtfhkkpfiflgofaaBstX
import Derived.Test.YtfhkkpfiflgofaaBstD
import Derived.Test.YtfhkkpfiflgofaaDecI
namespace Go.Proofs.Ytfhkkpfiflgofaa
open Go.RowKit
set_option linter.unusedVariables false

set_option maxHeartbeats 8000000 in
set_option maxRecDepth 100000 in
theorem lawFnBursts (s0 : Option Addr) (n0 cap0 : Nat) (z0 : List Int) (w : World) (hr : RowB w s0 n0 z0) :
    Calls Try.prog 8 #[.slice s0 n0 cap0] w fun e w' => e = .returned (.bool true) ∧ Below w.heap.size w w' := by
  have HR := Lib.hid hr
  clear hr
  go_enter Try.func8, Try.ntmps8
  go_wp2_with fail
  refine (bigL_any _ _ _ _).mono ?_
  rintro e w1 ⟨rfl, rfl⟩
  by_cases hbig : (4096 : Int) < (n0 : Int)
  · go_wp2_with fail
    go_ret
    exact ⟨rfl, Below.refl _ _⟩
  go_wp2_with fail
  refine (DrawEncodeStream_any HR.out).mono ?_
  rintro e w1 ⟨p, pw, g, D, C, N, vD, rfl, hb1, zD, hoD, hlD⟩
  obtain ⟨aD, capD, rfl, hcpD, hcaD, hoaD⟩ := hoD.cap
  have CAD := Lib.hid hcaD
  have CPD := Lib.hid hcpD
  have RD := Lib.hid (hoaD.row.below' (below1 w1 (.cells #[.int .i64 p, .int .i64 pw, .int .i64 g, .int .i64 D, .int .i64 C, .int .i64 N] LT)))
  clear hcaD hoaD hoD hcpD
  have B2 := Lib.hid (hb1.alloc hb1.size (.cells #[.int .i64 p, .int .i64 pw, .int .i64 g, .int .i64 D, .int .i64 C, .int .i64 N] LT))
  have X2 := Lib.hid (LB.new w1 p pw g D C N)
  obtain ⟨X, hX⟩ : ∃ X, X = w1.heap.size := ⟨_, rfl⟩
  rw [← hX] at X2
  clear hb1
  go_wp2_with fail
  rw [← hX]
  clear hX
  generalize w1.alloc (.cells #[.int .i64 p, .int .i64 pw, .int .i64 g, .int .i64 D, .int .i64 C, .int .i64 N] LT) = w2 at *
  have k0 := X2.out.c0
  have k1 := X2.out.c1
  have k2 := X2.out.c2
  have k3 := X2.out.c3
  have k4 := X2.out.c4
  have k5 := X2.out.c5
  have XA := Lib.hid X2.out
  have BA := Lib.hid B2.out
  have RDA := Lib.hid RD.out
  go_wp2_with fail
  refine (specEncodeStreamO_any p pw g D C N _ RD.out CPD.out).mono ?_
  rintro e w3 ⟨vs, rfl, hb3, hoS⟩
  have W3 := Lib.hid hb3
  have B3 := Lib.hid (B2.out.trans (hb3.mono B2.out.size))
  have X3 := Lib.hid (X2.out.below hb3 X2.out.lt)
  have RD' := Lib.hid (RD.out.below' hb3)
  clear RD k0 k1 k2 k3 k4 k5 hb3 B2 X2
  have RD := RD'
  clear RD'
  have k0 := X3.out.c0
  have k1 := X3.out.c1
  have k2 := X3.out.c2
  have k3 := X3.out.c3
  have k4 := X3.out.c4
  have k5 := X3.out.c5
  by_cases hcd : esC p pw g D C N zD = 0 ∧ ¬ (120 : Int) < (zD.length : Int)
  rotate_left
  · have HCD := Lib.hid hcd
    have HEQ := Lib.hid (show ∀ y : Int, (y == y) = true from fun y => by simp)
    have HIE := Lib.hid (fun W RR => implEncodeStream_any p pw g D C N W (a := aD) (m := zD.length) (cap := capD) (zs := zD) RR CPD.out)
    generalize esC p pw g D C N zD = cd at *
    have hee : (cd == cd) = true := by simp
    by_cases h0 : cd = 0
    · have hbg : (120 : Int) < (zD.length : Int) := Classical.byContradiction fun hn => HCD.out ⟨h0, hn⟩
      have hne : (cd != 0) = false := by simp [h0]
      clear hcd h0
      go_wp2_with fail
      refine (HIE.out _ RD.out).mono ?_
      rintro e w4 ⟨v4, rfl, hb4, -⟩
      go_wp2_with fail
      go_ret
      exact ⟨by first | rfl | simp, B3.out.trans (hb4.mono B3.out.size)⟩
    · have hne : (cd != 0) = true := by simp [h0]
      clear hcd h0
      go_wp2_with fail
      refine (HIE.out _ RD.out).mono ?_
      rintro e w4 ⟨v4, rfl, hb4, -⟩
      go_wp2_with fail
      go_ret
      exact ⟨by first | rfl | simp, B3.out.trans (hb4.mono B3.out.size)⟩
  obtain ⟨hcd, hbg⟩ := hcd
  obtain ⟨q, r, n, c, hl, htot, hzl, hsc, hxl, hblk⟩ := stream_plain hcd
  obtain ⟨hel1, hel2, hlay, -, -⟩ := esR_length hcd
  obtain ⟨-, hel3, hel4⟩ := sc_zero hsc
  have HBP := Lib.hid (fun (M fr : Nat) (hM : BstN (ordS q r n c) (c / 2) M) (hfr : fr + M ≤ (ordS q r n c).length) (s' : List Int) hsl hse hag => burst_plain hcd hl hzl hblk (M := M) (fr := fr) hM hfr (s' := s') hsl hse hag)
  rw [hcd]
  have HL := Lib.hid hl
  have HTOT := Lib.hid htot
  have HNIL := Lib.hid (show ∀ W : World, RowAt W none 0 [] from fun W => ⟨rfl, by simp, fun h => absurd h (Nat.lt_irrefl 0)⟩)
  have HLAY := Lib.hid hlay
  have HXL := Lib.hid hxl
  have HEL3 := Lib.hid hel3
  have HEL4 := Lib.hid (show VFels (ffOf p pw g) (esR p pw g D C N zD) from allB_iff.1 hel4)
  have HVB := Lib.hid (lay_ok hlay)
  have HLEN := Lib.hid (ordS_length q r n c (Nat.le_of_lt hl.rn))
  have hn16 := hl.n16
  have hc64 := hl.c64
  have hc1 := hl.c1
  have hn1 := hl.n1
  have hT15 : (ordS q r n c).length ≤ 1500 := by rw [ordS_length q r n c (Nat.le_of_lt hl.rn)]; have h3 : n * q = q * n := Nat.mul_comm _ _; omega
  obtain rfl : N = (n : Int) := hl.hN
  obtain rfl : C = (c : Int) := hl.hC
  clear hcd hl htot hzl hsc hxl hblk hlay hel1 hel2 hel3 hel4
  generalize esR p pw g D c n zD = x at *
  have k0 := X3.out.c0
  have k1 := X3.out.c1
  have k2 := X3.out.c2
  have k3 := X3.out.c3
  have k4 := X3.out.c4
  have k5 := X3.out.c5
  obtain ⟨T, hT⟩ : ∃ T, (ordS q r n c).length = T := ⟨_, rfl⟩
  have hT1 : 0 < T := by rw [← hT, HLEN.out]; have := Nat.mul_pos (show 0 < n by omega) (show 0 < c by omega); omega
  have HT := Lib.hid hT
  rw [hT] at HXL hT15 HBP
  clear hT
  obtain ⟨gS, cS, curS, rfl, hgS, hgS2, -, -, -⟩ := hoS.form (by rw [HXL.out]; omega)
  rw [HXL.out] at hoS ⊢
  have O3 := Lib.hid hoS
  clear hoS
  go_wp2_with fail
  refine (implBurstBound_any p pw g HLAY.out HL.out HTOT.out _).mono ?_
  rintro e w4 ⟨M, rfl, hb4, hM⟩
  have B4 := Lib.hid (B3.out.trans (hb4.mono B3.out.size))
  have X4 := Lib.hid (X3.out.below hb4 X3.out.lt)
  have O4 := Lib.hid (O3.out.below hb4)
  have hs4 := hb4.size
  have W4 := Lib.hid (W3.out.trans (hb4.mono W3.out.size))
  clear hb4 X3 B3 O3 RD k0 k1 k2 k3 k4 k5
  have k0 := X4.out.c0
  have k1 := X4.out.c1
  have k2 := X4.out.c2
  have k3 := X4.out.c3
  have k4 := X4.out.c4
  have k5 := X4.out.c5
  go_wp2_with fail
  refine (specBurstBound_any p pw g HLAY.out HL.out HTOT.out _).mono ?_
  rintro e w5 ⟨M2, rfl, hb5, hM2⟩
  obtain rfl : M = M2 := hM.uniq hM2
  have hMT : M ≤ T := by have := hM.le; rw [HT.out] at this; exact this
  have HMB := Lib.hid hM
  have B5 := Lib.hid (B4.out.trans (hb5.mono B4.out.size))
  have O5 := Lib.hid (O4.out.below hb5)
  have hs5 := hb5.size
  have W5 := Lib.hid (W4.out.trans (hb5.mono W4.out.size))
  clear hb5 X4 B4 O4 W4 k0 k1 k2 k3 k4 k5 hM hM2
  have hqM : ((M : Int) != (M : Int)) = false := by simp
  go_wp2_with fail
  refine (rollC_any (HR.out.below' B5.out) _).mono ?_
  rintro e w6 ⟨d, rfl, hd, hb6, i6, h6, hdice⟩
  have hgd : gS < d := by omega
  have O6 := Lib.hid (O5.out.below hb6)
  have D6 := Lib.hid hdice
  have W6 := Lib.hid (W5.out.trans (hb6.mono W5.out.size))
  have hw2 : w2.heap.size ≤ d := by have := W5.out.size; omega
  clear hb6 hdice B5 O5 W5
  have hsne : 0 < n0 → ∀ x, s0 = some x → x.block ≠ gS := fun h0 x hx => by
    obtain ⟨b, off, e, hbl, _⟩ := HR.out.at' h0
    rw [hx] at e
    cases e
    have := BA.out.size
    show b ≠ gS
    omega
  have y1 : -1000000 ≤ (T : Int) - (M : Int) ∧ (T : Int) - (M : Int) ≤ 1000000 := by omega
  have y2 : -1000000 ≤ (T : Int) - (M : Int) + 1 ∧ (T : Int) - (M : Int) + 1 ≤ 1000000 := by omega
  have hb1 : 1 ≤ (T : Int) - (M : Int) + 1 := by omega
  have hb2 : (T : Int) - (M : Int) + 1 ≤ 1000000000 := by omega
  have v1 : wrap64 ((T : Int) - (M : Int)) = (T : Int) - (M : Int) := (wraps y1).1
  have v2 : IntKind.i64.wrap ((T : Int) - (M : Int)) = (T : Int) - (M : Int) := (wraps y1).2
  have v3 : wrap64 ((T : Int) - (M : Int) + 1) = (T : Int) - (M : Int) + 1 := (wraps y2).1
  have v4 : IntKind.i64.wrap ((T : Int) - (M : Int) + 1) = (T : Int) - (M : Int) + 1 := (wraps y2).2
  clear y1 y2
  go_wp2_with fail
  refine (belowC_any D6.out ((T : Int) - (M : Int) + 1) hb1 hb2).mono ?_
  rintro e w7 ⟨fr0, rfl, hr0, hr1, hdr, i7, h7, hD7⟩
  clear v1 v2 v3 v4 hb1 hb2
  obtain ⟨fr, rfl⟩ : ∃ fr : Nat, fr0 = (fr : Int) := Int.eq_ofNat_of_zero_le hr0
  have hfr : fr + M ≤ T := by omega
  have O7 := Lib.hid (O6.out.drn hdr (by simp [Value.ownBlock]; omega))
  have D7 := Lib.hid hD7
  have W7 := Lib.hid (W6.out.trans (hdr.below hw2 W6.out.size))
  clear hr0 hr1 hdr hD7 O6 D6 W6
  obtain ⟨q0, r0, n0', c0', -, -, -, hvB⟩ := HVB.out
  have hsz : sizeR p pw g = (ffOf p pw g).size := by unfold sizeR; rw [if_pos hvB]
  have HSZ := Lib.hid hsz
  have hz1 : 1 ≤ sizeR p pw g := by rw [hsz]; have := (ffOf_ok hvB).lo; omega
  have hz2 : sizeR p pw g ≤ 1000000000 := by rw [hsz]; have := (ffOf_ok hvB).hi; omega
  clear hsz hvB
  go_wp2_with fail
  go_loopw [15] (fun t wr => ∃ (i : Nat) (xs : List Int) (di : Nat) (dh : Int), fr ≤ i ∧ i ≤ fr + M ∧ t = .int .i64 i ∧ xs.length = T ∧ Hid (VFels (ffOf p pw g) xs) ∧ Hid (∀ j, (j < fr ∨ i ≤ j) → gi xs j = gi x j) ∧ Hid (OwnL wr w2.heap.size (.slice (some ⟨gS, 0, none⟩) T cS) xs) ∧ Hid (DiceAt wr d s0 n0 cap0 z0 di dh) ∧ Hid (Below w2.heap.size w2 wr)) (fun t _ => fr + M - (intOf t).toNat)
  case atStart => exact ⟨fr, x, i7, h7, by omega, by omega, rfl, HXL.out, HEL4, Lib.hid (fun _ _ => rfl), O7, D7, W7⟩
  case round =>
    clear O7 D7 W7
    obtain ⟨i, xs, di, dh, hi1, hi2, rfl, hxl, hel, hag, ho, hD, hB⟩ := hrel
    have HZL := Lib.hid hxl
    have y1 : -1000000 ≤ (fr : Int) + (M : Int) ∧ (fr : Int) + (M : Int) ≤ 1000000 := by omega
    by_cases hlt : i < fr + M
    · have hli : (i : Int) < (fr : Int) + (M : Int) := by omega
      have y2 : -1000000 ≤ (i : Int) + 1 ∧ (i : Int) + 1 ≤ 1000000 := by omega
      have hx := XA.out.below hB.out XA.out.lt
      have k0 := hx.c0
      have k1 := hx.c1
      have k2 := hx.c2
      have hiT : i < T := by omega
      have hiTI : (i : Int) < (T : Int) := by omega
      have hneg : (Value.slice (some ⟨gS, 0, none⟩) T cS).ownBlock ≠ some d := by simp [Value.ownBlock]; omega
      have v1 : wrap64 ((fr : Int) + (M : Int)) = (fr : Int) + (M : Int) := (wraps y1).1
      have v2 : IntKind.i64.wrap ((fr : Int) + (M : Int)) = (fr : Int) + (M : Int) := (wraps y1).2
      clear hxl y1
      go_wp2_with fail
      refine (specFieldSize_any p pw g _).mono ?_
      rintro e w8 ⟨rfl, hb8⟩
      have O8 := Lib.hid (ho.out.below hb8)
      have D8 := Lib.hid (hD.out.below hb8)
      have B8 := Lib.hid (hB.out.trans (hb8.mono hB.out.size))
      clear hb8 ho hD hB hx k0 k1 k2
      go_wp2_with fail
      refine (belowC_any D8.out (sizeR p pw g) hz1 hz2).mono ?_
      rintro e w9 ⟨y, rfl, hy0, hy1, hdr9, di9, dh9, hD9⟩
      have O9 := Lib.hid (O8.out.drn hdr9 hneg)
      have B9 := Lib.hid (B8.out.trans (hdr9.below hw2 B8.out.size))
      clear hdr9 O8 D8 B8
      obtain ⟨g1, cp1, cur, e1, -, hg2, hg3, -, hoa⟩ := O9.out.form (by rw [HZL.out]; exact hT1)
      simp only [Value.slice.injEq, Option.some.injEq, Addr.mk.injEq, and_true] at e1
      obtain ⟨rfl, -, rfl⟩ := e1
      have fz9 : w9.frozen? ⟨gS, i, none⟩ = false := by unfold World.frozen?; rw [hg3]; simp
      obtain ⟨b', o', e2, -, hcs⟩ := hoa.row.at' (by rw [HZL.out]; exact hT1)
      cases e2
      have hcell := hcs i (by rw [HZL.out]; exact hiT)
      rw [Nat.zero_add] at hcell
      have OF := Lib.hid (O9.out.set (k := i) (by rw [HZL.out]; exact hiT) y)
      have DF := Lib.hid (hD9.other (o := i) (Nat.ne_of_gt hgd) hsne (.int .i64 y))
      have BF := Lib.hid (B9.out.setCell (p := ⟨gS, i, none⟩) hgS (.int .i64 y))
      have HEL' := Lib.hid (VFels_set hel.out i (y := y) (show (ffOf p pw g).el y by rw [HSZ.out] at hy1; exact ⟨hy0, hy1⟩))
      have HAG' := Lib.hid (show ∀ j, (j < fr ∨ i + 1 ≤ j) → gi (xs.set i y) j = gi x j from fun j hj => by rw [gi_set_ne _ _ _ _ (by omega)]; exact hag.out j (by omega))
      clear hcs hoa hg3 hg2 hD9 O9 B9 hag hel
      have v3 : wrap64 ((i : Int) + 1) = (i : Int) + 1 := (wraps y2).1
      have v4 : IntKind.i64.wrap ((i : Int) + 1) = (i : Int) + 1 := (wraps y2).2
      clear y2
      go_wp2_with fail
      clear v1 v2 v3 v4
      go_roundw
      case rel => exact ⟨i + 1, xs.set i y, di9, dh9, by omega, by omega, by go_num, by rw [List.length_set]; exact HZL.out, HEL', HAG', OF, DF, BF⟩
      case measure => simp [intOf]; omega
    · have hieq : i = fr + M := by omega
      have hli : ¬ (i : Int) < (fr : Int) + (M : Int) := by omega
      obtain ⟨e1, e2, e3⟩ := HBP.out M fr HMB.out hfr xs (by rw [HZL.out, ← HXL.out]; exact HEL3.out) (allB_iff.2 hel.out) (fun j hj hjj => hag.out j (by omega))
      have HE1 := Lib.hid e1
      have HE2 := Lib.hid e2
      have HE3 := Lib.hid e3
      have hx := XA.out.below hB.out XA.out.lt
      have k0 := hx.c0
      have k1 := hx.c1
      have k2 := hx.c2
      have k3 := hx.c3
      have k4 := hx.c4
      have k5 := hx.c5
      have RSr := Lib.hid ho.out.rowF
      have RDr := Lib.hid (RDA.out.below' hB.out)
      have BW := Lib.hid (BA.out.trans (hB.out.mono BA.out.size))
      have v1 : wrap64 ((fr : Int) + (M : Int)) = (fr : Int) + (M : Int) := (wraps y1).1
      have v2 : IntKind.i64.wrap ((fr : Int) + (M : Int)) = (fr : Int) + (M : Int) := (wraps y1).2
      clear hxl y1 e1 e2 e3 hieq hx ho hD hB
      go_wp2_with fail
      refine (implDecodeStreamO_any p pw g D c n _ RSr.out (HNIL.out _)).mono ?_
      rintro e w10 ⟨v10, rfl, hb10, hoV⟩
      rw [HE1.out]
      rw [HE2.out] at hoV
      have HE3 := HE3.out
      generalize dsM p pw g D c n xs [] = nn at *
      have RD10 := Lib.hid (RDr.out.below' hb10)
      have B10 := Lib.hid (BW.out.trans (hb10.mono BW.out.size))
      obtain ⟨aV, capV, rfl, -, -, hoV2⟩ := hoV.cap
      have RV := Lib.hid hoV2.row
      clear hb10 hoV hoV2 k0 k1 k2 k3 k4 k5 v1 v2
      go_wp2_with fail
      refine (likeInts_any RV.out RD10.out).mono ?_
      rintro e w11 ⟨rfl, hb11⟩
      simp only [decide_true]
      go_wp2_with fail
      go_ret
      exact ⟨by first | rfl | simp, B10.out.trans (hb11.mono B10.out.size)⟩
end Go.Proofs.Ytfhkkpfiflgofaa
