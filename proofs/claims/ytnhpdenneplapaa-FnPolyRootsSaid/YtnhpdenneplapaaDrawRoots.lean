/-
  What a law of polynomials draws.
-/
import Derived.Test.YtnhpdenneplapaaDraw5a
import Derived.Test.YtnhpdenneplapaaSFs
namespace Go.Proofs.Ytnhpdenneplapaa
open Go.RowKit
set_option linter.unusedVariables false

set_option maxHeartbeats 4000000 in
theorem DrawPolyRoots_any {w : World} {c : Option Addr} {n cap : Nat} {bs : List Int} (hr : RowB w c n bs) :
    Calls Try.prog 16 #[.slice c n cap] w fun e w' => ∃ p pw g v, e = .returned (.tuple #[fV p pw g, v]) ∧ Below w.heap.size w w' ∧ ∃ zs, OwnL w' w.heap.size v zs ∧ zs.length ≤ 1000 := by
  have B0 := Lib.hid (below1 w (.cells #[.int .i64 0, .int .i64 0, .int .i64 0] FTa))
  have HR := Lib.hid (hr.below' B0.out)
  have F0 := Lib.hid (FB.new w 0 0 0)
  have HRES := Lib.hid (show Try.f16.results = #[.cell 2 FTa, .tmp 3] by kernel_rfl)
  clear hr
  go_enter Try.func16, Try.ntmps16
  go_wp2_with fail
  generalize w.alloc (.cells #[.int .i64 0, .int .i64 0, .int .i64 0] FTa) = w1 at *
  refine (l01From_any HR.out).mono ?_
  rintro e w2 ⟨s, rfl, hs, hb2, hsrc⟩
  have F2 := Lib.hid (F0.out.below hb2 F0.out.lt)
  have B2 := Lib.hid (B0.out.trans (hb2.mono B0.out.size))
  have hR : w.heap.size < s := Nat.lt_of_lt_of_le F0.out.lt hs
  have S2 := Lib.hid hsrc
  clear hb2 hsrc F0 B0 HR hs
  go_wp2_with fail
  refine (l02DrawAny_any S2.out).mono ?_
  rintro e w3 ⟨p, pw, g, rfl, hd, hs3⟩
  have T4 := Lib.hid (show DSt w (w3.alloc (.cells #[.int .i64 p, .int .i64 pw, .int .i64 g] FTa)) w.heap.size w3.heap.size s p pw g from
    ⟨(F2.out.dr hd (by omega)).below (below1 w3 _) (F2.out.dr hd (by omega)).lt, FB.new w3 p pw g, hs3.alloc _, (B2.out.trans (hd.below (by omega) B2.out.size)).alloc (Nat.le_trans B2.out.size hd.size) _, rfl, hR, hs3.lt⟩)
  obtain ⟨X, hX⟩ : ∃ X, X = w3.heap.size := ⟨_, rfl⟩
  rw [← hX] at T4
  clear hd hs3 F2 B2 S2
  go_wp2_with fail
  rw [← hX]
  clear hX
  generalize w3.alloc (.cells #[.int .i64 p, .int .i64 pw, .int .i64 g] FTa) = w4 at *
  have hXK := T4.out.fld.lt
  have hsX := T4.out.sx
  obtain ⟨K, hK⟩ : ∃ K, K = w4.heap.size := ⟨_, rfl⟩
  have hK4 : K ≤ w4.heap.size := Nat.le_of_eq hK
  rw [← hK] at hXK
  clear hK
  have c0 := T4.out.fld.c0
  have c1 := T4.out.fld.c1
  have c2 := T4.out.fld.c2
  go_wp2_with fail
  refine (isField_any p pw g _).mono ?_
  rintro e w6 ⟨rfl, hb6⟩
  have T6 := Lib.hid (T4.out.below hb6)
  have hK6 : K ≤ w6.heap.size := Nat.le_trans hK4 hb6.size
  clear hb6 T4 c0 c1 c2
  have c0 := T6.out.fld.c0
  have c1 := T6.out.fld.c1
  have c2 := T6.out.fld.c2
  cases hv : validB p pw g with
  | false =>
    clear hv
    have hXR : X ≠ w.heap.size := by have := T6.out.r0; have := T6.out.rs; omega
    have hRK : w.heap.size < K := by have := T6.out.r0; have := T6.out.rs; omega
    have hKw : w.heap.size ≤ K := by omega
    have TD := Lib.hid (T6.out.below (Drew.below (drew1 w6) _))
    go_wp2_with fail
    go_region_held3 (fun w' => w'.cell? ⟨X, 0, none⟩ = some (.int .i64 p) ∧ w'.cell? ⟨X, 1, none⟩ = some (.int .i64 pw) ∧ w'.cell? ⟨X, 2, none⟩ = some (.int .i64 g))
      (first | go_keep | ((try (dsimp only)); go_split_ands; (repeat' apply And.intro); all_goals (first | assumption | exact set3_cell hXR (by assumption))))
      (first | (go_at_call 67; refine (l03Draw_any TD.out.src p pw g 5 (by omega) (by omega)).mono ?_; rintro e w5 ⟨vz, rfl, hd5, hs5, zz, hoz, hlz⟩; have T5 := TD.out.drS hd5 hs5; have k0 := T5.fld.c0; have k1 := T5.fld.c1; have k2 := T5.fld.c2; have r0 := T5.res.c0; have r1 := T5.res.c1; have r2 := T5.res.c2; have f0 := T5.res.fz 0; have f1 := T5.res.fz 1; have f2 := T5.res.fz 2))
    have FF := Lib.hid (T5.res.set p pw g)
    have BF := Lib.hid T5.fin
    have Oz := Lib.hid (hoz.lower (C := K) (Nat.le_trans hK6 (Nat.le_refl _)))
    clear r0 r1 r2 f0 f1 f2 k0 k1 k2 T5 c0 c1 c2 hd5 hs5 hoz
    go_wp2_with fail
    (try simp only [Exit.inBlock, Exit.then])
    exact ret_cell2 HRES.out Try.underlying25 rfl (by kernel_rfl) rfl rfl FF.out.blk ⟨_, _, _, _, rfl, BF.out, _, (Oz.out.set3 (R := w.heap.size) hRK _ _ _).lower hKw, by omega⟩
  | true =>
    have HV := Lib.hid hv
    have hszb := (ffOf_ok hv).hi
    have hszl := (ffOf_ok hv).lo
    have HSZ := Lib.hid (fun W => l02Size_any p pw g W (ranged_of hv))
    obtain ⟨V, HSF⟩ : ∃ V : VF, SF V p pw g := ⟨_, SF.of hv⟩
    have hVs : V.F.size = (ffOf p pw g).size := by rw [HSF.hV]
    clear hv
    generalize (ffOf p pw g).size = z at *
    go_wp2_with fail
    refine (next_any T6.out.src 4 (by omega) (by omega)).mono ?_
    rintro e w7 ⟨q, rfl, hq, hd, hs⟩
    have T7 := Lib.hid (T6.out.drS hd hs)
    have hK7 : K ≤ w7.heap.size := Nat.le_trans hK6 hd.size
    clear hd hs T6 c0 c1 c2
    have c0 := T7.out.fld.c0
    have c1 := T7.out.fld.c1
    have c2 := T7.out.fld.c2
    by_cases hq0 : q = 0
    · subst hq0
      have hXR : X ≠ w.heap.size := by have := T7.out.r0; have := T7.out.rs; omega
      have hRK : w.heap.size < K := by have := T7.out.r0; have := T7.out.rs; omega
      have hKw : w.heap.size ≤ K := by omega
      have TD := Lib.hid (T7.out.below (Drew.below (drew1 w7) _))
      go_wp2_with fail
      go_region_held3 (fun w' => w'.cell? ⟨X, 0, none⟩ = some (.int .i64 p) ∧ w'.cell? ⟨X, 1, none⟩ = some (.int .i64 pw) ∧ w'.cell? ⟨X, 2, none⟩ = some (.int .i64 g))
        (first | go_keep | ((try (dsimp only)); go_split_ands; (repeat' apply And.intro); all_goals (first | assumption | exact set3_cell hXR (by assumption))))
        (first | (go_at_call 67; refine (l03Draw_any TD.out.src p pw g 5 (by omega) (by omega)).mono ?_; rintro e w5 ⟨vz, rfl, hd5, hs5, zz, hoz, hlz⟩; have T5 := TD.out.drS hd5 hs5; have k0 := T5.fld.c0; have k1 := T5.fld.c1; have k2 := T5.fld.c2; have r0 := T5.res.c0; have r1 := T5.res.c1; have r2 := T5.res.c2; have f0 := T5.res.fz 0; have f1 := T5.res.fz 1; have f2 := T5.res.fz 2))
      have FF := Lib.hid (T5.res.set p pw g)
      have BF := Lib.hid T5.fin
      have Oz := Lib.hid (hoz.lower (C := K) (Nat.le_trans hK7 (Nat.le_refl _)))
      clear r0 r1 r2 f0 f1 f2 k0 k1 k2 T5 c0 c1 c2 hd5 hs5 hoz
      go_wp2_with fail
      (try simp only [Exit.inBlock, Exit.then])
      exact ret_cell2 HRES.out Try.underlying25 rfl (by kernel_rfl) rfl rfl FF.out.blk ⟨_, _, _, _, rfl, BF.out, _, (Oz.out.set3 (R := w.heap.size) hRK _ _ _).lower hKw, by omega⟩
    · have qb : ((q : Int) == 0) = false := by simp; omega
      have O8 := Lib.hid (OwnL.lit w7 K hK7 [1] (by simp))
      have T8 := Lib.hid (T7.out.below ((Below.refl _ _).alloc (Nat.le_refl _) (.cells #[.int .i64 1] 2)))
      have hK8 : K ≤ (w7.alloc (.cells #[.int .i64 1] 2)).heap.size := by simp; omega
      clear T7 c0 c1 c2
      go_wp2_with fail
      obtain ⟨v8, hv8⟩ : ∃ v, v = Value.slice (some ⟨w7.heap.size, 0, none⟩) 1 1 := ⟨_, rfl⟩
      have O8 := Lib.hid (show OwnL (w7.alloc (.cells #[.int .i64 1] 2)) K v8 [1] by rw [hv8]; exact O8.out)
      rw [← hv8]
      clear hv8
      generalize w7.alloc (.cells #[.int .i64 1] 2) = w8 at *
      refine (next_any T8.out.src 5 (by omega) (by omega)).mono ?_
      rintro e w9 ⟨n9, rfl, hn9, hd, hs⟩
      have T9 := Lib.hid (T8.out.drS hd hs)
      have hK9 : K ≤ w9.heap.size := Nat.le_trans hK8 hd.size
      have O9 := Lib.hid (O8.out.dr hd (by omega))
      clear hd hs T8
      have HONE := Lib.hid (show VF.els V [1] from VF.els_cons.2 ⟨FF.one_el V.ok, VF.els_nil⟩)
      go_wp2_with fail
      go_loopw [6, 7] (fun a t wr => ∃ (k : Nat) (zs : List Int), k ≤ 4 ∧ t = .int .i64 k ∧ Hid (zs.length + 2 * k ≤ 100) ∧ Hid (VF.els V zs) ∧ Hid (OwnL wr K a zs) ∧ Hid (DSt w wr w.heap.size X s p pw g) ∧ Hid (K ≤ wr.heap.size)) (fun _ t _ => (intOf t).toNat)
      case atStart => exact ⟨n9, [1], by omega, rfl, Lib.hid (by simp; omega), HONE, O9, T9, Lib.hid hK9⟩
      case round =>
        clear O9 T9 hK9
        obtain ⟨k, zs, hk, rfl, hlen, hel, ho, ht, hkk⟩ := hrel
        obtain ⟨a, cp, rfl, hcp, hca, hoa⟩ := ho.out.cap
        have HRA := Lib.hid hoa.row
        clear hca hoa
        have c0 := ht.out.fld.c0
        have c1 := ht.out.fld.c1
        have c2 := ht.out.fld.c2
        by_cases hk0 : 0 < k
        · have hk1 : (0 : Int) < (k : Int) := by omega
          have hKX := hXK
          have hln := hlen.out
          have TD := Lib.hid (ht.out.below (Drew.below (drew1 wr) _))
          have OD := Lib.hid (ho.out.below (Drew.below (drew1 wr) _))
          go_wp2_with fail
          go_region_held3 (fun w' => w'.cell? ⟨X, 0, none⟩ = some (.int .i64 p) ∧ w'.cell? ⟨X, 1, none⟩ = some (.int .i64 pw) ∧ w'.cell? ⟨X, 2, none⟩ = some (.int .i64 g))
            (first | go_keep | ((try (dsimp only)); go_split_ands; (repeat' apply And.intro); all_goals (first | assumption | exact keep_cell hb5 (by assumption) | exact keep_cell hb8 (by assumption))))
            (first
              | (go_at_call 69; refine (HSZ.out _).mono ?_; rintro e w5 ⟨rfl, hb5⟩)
              | (go_at_call 66; refine (l01Next_any (TD.out.below hb5).src z (by omega)).mono ?_; rintro e w6 ⟨x, rfl, hx, hd6, hs6⟩; have T6 := (TD.out.below hb5).drS hd6 hs6; have O6 := (OD.out.below hb5).dr hd6 (show s < K by omega); have q0 := T6.fld.c0; have q1 := T6.fld.c1; have q2 := T6.fld.c2)
              | (go_at_call 68; refine (HSF.lmul (O6.rowOf.below' ((Below.refl _ _).alloc (Nat.le_refl _) (.cells #[.int .i64 x, .int .i64 1] 2))) (by omega) (row_two w6 x 1 2 _ rfl) (by omega) hel.out (VF.els_cons.2 ⟨by show 0 ≤ x ∧ x < V.F.size; have := hx.2 (by omega); omega, VF.els_cons.2 ⟨FF.one_el V.ok, VF.els_nil⟩⟩)).mono ?_; rintro e w8 ⟨v8, rfl, hb8, ho8⟩))
          have T8 := Lib.hid ((T6.below ((Below.refl _ _).alloc (Nat.le_refl _) (.cells #[.int .i64 x, .int .i64 1] 2))).below hb8)
          have hK8 : K ≤ w8.heap.size := by
            have h1 := hb8.size; have h2 := hb5.size; have h3 := hd6.size; have h4 := hkk.out
            have h5 : wr.drew.heap.size = wr.heap.size := rfl
            simp at h1; omega
          have O8 := Lib.hid (ho8.lower (C := K) (by
            have h2 := hb5.size; have h3 := hd6.size; have h4 := hkk.out
            have h5 : wr.drew.heap.size = wr.heap.size := rfl
            simp; omega))
          have hel8 := Lib.hid (VF.lst_isP ((VF.ps_poly (V := V) zs).mul (VF.ps_poly (V := V) [x, 1]))).els
          have hl8 := Lib.hid (VF.lst_mul_len (V := V) zs [x, 1])
          generalize VF.lst V (VF.ps V zs * VF.ps V [x, 1]) = ys at *
          have e1 : (k : Int) - 1 = ((k - 1 : Nat) : Int) := by omega
          clear ho8 hb8 hb5 hd6 hs6 T6 O6 TD OD q0 q1 q2 c0 c1 c2
          go_wp2_with fail
          go_roundw
          case rel => exact ⟨k - 1, ys, by omega, rfl, Lib.hid (by have := hl8.out; simp at this; omega), Lib.hid hel8, O8, T8, Lib.hid hK8⟩
          case measure => simp [intOf]; omega
        · obtain rfl : k = 0 := by omega
          have hl2 : zs.length ≤ 1000 := by have := hlen.out; omega
          have hRK : w.heap.size < K := by have := ht.out.r0; have := ht.out.rs; omega
          have hKw : w.heap.size ≤ K := by omega
          have r0 := ht.out.res.c0
          have r1 := ht.out.res.c1
          have r2 := ht.out.res.c2
          have f0 := ht.out.res.fz 0
          have f1 := ht.out.res.fz 1
          have f2 := ht.out.res.fz 2
          have FF := Lib.hid (ht.out.res.set p pw g)
          have BF := Lib.hid ht.out.fin
          go_wp2_with fail
          (try simp only [Exit.inBlock, Exit.then])
          exact ret_cell2 HRES.out Try.underlying25 rfl (by kernel_rfl) rfl rfl FF.out.blk ⟨_, _, _, _, rfl, BF.out, _, (ho.out.set3 (R := w.heap.size) hRK _ _ _).lower hKw, hl2⟩
end Go.Proofs.Ytnhpdenneplapaa
