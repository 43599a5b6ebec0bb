/-
  What a law of polynomials draws.
-/
import Derived.Test.YtnhpdenneplapaaDraw5a
import Derived.Test.YtnhpdenneplapaaSFs
namespace Go.Proofs.Ytnhpdenneplapaa
open Go.RowKit
set_option linter.unusedVariables false

set_option maxHeartbeats 4000000 in
set_option maxRecDepth 100000 in
theorem DrawPolyGcd_any {w : World} {c : Option Addr} {n cap : Nat} {bs : List Int} (hr : RowB w c n bs) :
    Calls Try.prog 41 #[.slice c n cap] w fun e w' => ∃ p pw g v v2, e = .returned (.tuple #[fV p pw g, v, v2]) ∧ Below w.heap.size w w' ∧ ∃ zs zs2, OwnL w' w.heap.size v zs ∧ OwnL w' w.heap.size v2 zs2 ∧ zs.length ≤ 1000 ∧ zs2.length ≤ 1000 := by
  have B0 := Lib.hid (below1 w (.cells #[.int .i64 0, .int .i64 0, .int .i64 0] FTa))
  have HR := Lib.hid (hr.below' B0.out)
  have F0 := Lib.hid (FB.new w 0 0 0)
  have HRES := Lib.hid (show Try.f41.results = #[.cell 2 FTa, .tmp 3, .tmp 4] by kernel_rfl)
  clear hr
  go_enter Try.func41, Try.ntmps41
  go_wp2_with fail
  generalize w.alloc (.cells #[.int .i64 0, .int .i64 0, .int .i64 0] FTa) = w1 at *
  refine (l01From_any HR.out).mono ?_
  rintro e w2 ⟨s, rfl, hs, hb2, hsrc⟩
  have F2 := Lib.hid (F0.out.below hb2 F0.out.lt)
  have B2 := Lib.hid (B0.out.trans (hb2.mono B0.out.size))
  have hR : w.heap.size < s := Nat.lt_of_lt_of_le F0.out.lt hs
  have S2 := Lib.hid hsrc
  clear hb2 hsrc F0 B0 HR hs
  go_wp2_with fail
  refine (l02DrawAny_any S2.out).mono ?_
  rintro e w3 ⟨p, pw, g, rfl, hd, hs3⟩
  have T4 := Lib.hid (show DSt w (w3.alloc (.cells #[.int .i64 p, .int .i64 pw, .int .i64 g] FTa)) w.heap.size w3.heap.size s p pw g from
    ⟨(F2.out.dr hd (by omega)).below (below1 w3 _) (F2.out.dr hd (by omega)).lt, FB.new w3 p pw g, hs3.alloc _, (B2.out.trans (hd.below (by omega) B2.out.size)).alloc (Nat.le_trans B2.out.size hd.size) _, rfl, hR, hs3.lt⟩)
  obtain ⟨X, hX⟩ : ∃ X, X = w3.heap.size := ⟨_, rfl⟩
  rw [← hX] at T4
  clear hd hs3 F2 B2 S2
  go_wp2_with fail
  rw [← hX]
  clear hX
  generalize w3.alloc (.cells #[.int .i64 p, .int .i64 pw, .int .i64 g] FTa) = w4 at *
  have hXK := T4.out.fld.lt
  have hsX := T4.out.sx
  obtain ⟨K, hK⟩ : ∃ K, K = w4.heap.size := ⟨_, rfl⟩
  have hK4 : K ≤ w4.heap.size := Nat.le_of_eq hK
  rw [← hK] at hXK
  clear hK
  have c0 := T4.out.fld.c0
  have c1 := T4.out.fld.c1
  have c2 := T4.out.fld.c2
  go_wp2_with fail
  refine (l03Draw_any T4.out.src p pw g 4 (by omega) (by omega)).mono ?_
  rintro e w6 ⟨vzP, rfl, hd, hs, zP, ho, hlP⟩
  have T6 := Lib.hid (T4.out.drS hd hs)
  have hK6 : K ≤ w6.heap.size := Nat.le_trans hK4 hd.size
  have OP := Lib.hid (ho.lower (C := K) hK4)
  clear hd hs ho T4 c0 c1 c2
  have c0 := T6.out.fld.c0
  have c1 := T6.out.fld.c1
  have c2 := T6.out.fld.c2
  go_wp2_with fail
  refine (l03Draw_any T6.out.src p pw g 4 (by omega) (by omega)).mono ?_
  rintro e w7 ⟨vzQ, rfl, hd, hs, zQ, ho, hlQ⟩
  have T7 := Lib.hid (T6.out.drS hd hs)
  have hK7 : K ≤ w7.heap.size := Nat.le_trans hK6 hd.size
  have OQ := Lib.hid (ho.lower (C := K) hK6)
  have OP := Lib.hid (OP.out.dr hd (by omega))
  clear hd hs ho T6 c0 c1 c2
  have c0 := T7.out.fld.c0
  have c1 := T7.out.fld.c1
  have c2 := T7.out.fld.c2
  go_wp2_with fail
  refine (l03Draw_any T7.out.src p pw g 3 (by omega) (by omega)).mono ?_
  rintro e w8 ⟨vzC, rfl, hd, hs, zC, ho, hlC⟩
  have T8 := Lib.hid (T7.out.drS hd hs)
  have hK8 : K ≤ w8.heap.size := Nat.le_trans hK7 hd.size
  have OC := Lib.hid (ho.lower (C := K) hK7)
  have OP := Lib.hid (OP.out.dr hd (by omega))
  have OQ := Lib.hid (OQ.out.dr hd (by omega))
  clear hd hs ho T7 c0 c1 c2
  have c0 := T8.out.fld.c0
  have c1 := T8.out.fld.c1
  have c2 := T8.out.fld.c2
  go_wp2_with fail
  refine (isField_any p pw g _).mono ?_
  rintro e w9 ⟨rfl, hb9⟩
  have T9 := Lib.hid (T8.out.below hb9)
  have hK9 : K ≤ w9.heap.size := Nat.le_trans hK8 hb9.size
  have OP := Lib.hid (OP.out.below hb9)
  have OQ := Lib.hid (OQ.out.below hb9)
  have OC := Lib.hid (OC.out.below hb9)
  clear hb9 T8 c0 c1 c2
  have c0 := T9.out.fld.c0
  have c1 := T9.out.fld.c1
  have c2 := T9.out.fld.c2
  obtain ⟨aP, cpP, rfl, -, -, -⟩ := OP.out.cap
  obtain ⟨aQ, cpQ, rfl, -, -, -⟩ := OQ.out.cap
  obtain ⟨aC, cpC, rfl, -, -, -⟩ := OC.out.cap
  cases hv : validB p pw g with
  | false =>
    clear hv
    have hRK : w.heap.size < K := by have := T9.out.r0; have := T9.out.rs; omega
    have hKw : w.heap.size ≤ K := by omega
    have r0 := T9.out.res.c0
    have r1 := T9.out.res.c1
    have r2 := T9.out.res.c2
    have f0 := T9.out.res.fz 0
    have f1 := T9.out.res.fz 1
    have f2 := T9.out.res.fz 2
    have FF := Lib.hid (T9.out.res.set p pw g)
    have BF := Lib.hid T9.out.fin
    go_wp2_with fail
    (try simp only [Exit.inBlock, Exit.then])
    exact ret_cell3 HRES.out Try.underlying25 rfl (by kernel_rfl) rfl rfl FF.out.blk ⟨_, _, _, _, _, rfl, BF.out, _, _, (OP.out.set3 (R := w.heap.size) hRK _ _ _).lower hKw, (OQ.out.set3 (R := w.heap.size) hRK _ _ _).lower hKw, by omega, by omega⟩
  | true =>
    have HV := Lib.hid hv
    obtain ⟨V, HSF⟩ : ∃ V : VF, SF V p pw g := ⟨_, SF.of hv⟩
    clear hv
    go_wp2_with fail
    refine (l03Is_any p pw g HV.out _ OP.out.rowOf).mono ?_
    rintro e w10 ⟨rfl, hb10⟩
    have T10 := Lib.hid (T9.out.below hb10)
    have hK10 : K ≤ w10.heap.size := Nat.le_trans hK9 hb10.size
    have OP := Lib.hid (OP.out.below hb10)
    have OQ := Lib.hid (OQ.out.below hb10)
    have OC := Lib.hid (OC.out.below hb10)
    clear hb10 T9 c0 c1 c2
    have c0 := T10.out.fld.c0
    have c1 := T10.out.fld.c1
    have c2 := T10.out.fld.c2
    cases hP : polyB (ffOf p pw g) zP with
    | false =>
      clear hP
      have hRK : w.heap.size < K := by have := T10.out.r0; have := T10.out.rs; omega
      have hKw : w.heap.size ≤ K := by omega
      have r0 := T10.out.res.c0
      have r1 := T10.out.res.c1
      have r2 := T10.out.res.c2
      have f0 := T10.out.res.fz 0
      have f1 := T10.out.res.fz 1
      have f2 := T10.out.res.fz 2
      have FF := Lib.hid (T10.out.res.set p pw g)
      have BF := Lib.hid T10.out.fin
      go_wp2_with fail
      (try simp only [Exit.inBlock, Exit.then])
      exact ret_cell3 HRES.out Try.underlying25 rfl (by kernel_rfl) rfl rfl FF.out.blk ⟨_, _, _, _, _, rfl, BF.out, _, _, (OP.out.set3 (R := w.heap.size) hRK _ _ _).lower hKw, (OQ.out.set3 (R := w.heap.size) hRK _ _ _).lower hKw, by omega, by omega⟩
    | true =>
      have HEP := Lib.hid (show VF.els V zP from fun z hz => by rw [HSF.hV]; exact (polyB_iff hP).2.1 z hz)
      clear hP
      go_wp2_with fail
      refine (l03Is_any p pw g HV.out _ OQ.out.rowOf).mono ?_
      rintro e w11 ⟨rfl, hb11⟩
      have T11 := Lib.hid (T10.out.below hb11)
      have hK11 : K ≤ w11.heap.size := Nat.le_trans hK10 hb11.size
      have OP := Lib.hid (OP.out.below hb11)
      have OQ := Lib.hid (OQ.out.below hb11)
      have OC := Lib.hid (OC.out.below hb11)
      clear hb11 T10 c0 c1 c2
      have c0 := T11.out.fld.c0
      have c1 := T11.out.fld.c1
      have c2 := T11.out.fld.c2
      cases hQ : polyB (ffOf p pw g) zQ with
      | false =>
        clear hQ
        have hRK : w.heap.size < K := by have := T11.out.r0; have := T11.out.rs; omega
        have hKw : w.heap.size ≤ K := by omega
        have r0 := T11.out.res.c0
        have r1 := T11.out.res.c1
        have r2 := T11.out.res.c2
        have f0 := T11.out.res.fz 0
        have f1 := T11.out.res.fz 1
        have f2 := T11.out.res.fz 2
        have FF := Lib.hid (T11.out.res.set p pw g)
        have BF := Lib.hid T11.out.fin
        go_wp2_with fail
        (try simp only [Exit.inBlock, Exit.then])
        exact ret_cell3 HRES.out Try.underlying25 rfl (by kernel_rfl) rfl rfl FF.out.blk ⟨_, _, _, _, _, rfl, BF.out, _, _, (OP.out.set3 (R := w.heap.size) hRK _ _ _).lower hKw, (OQ.out.set3 (R := w.heap.size) hRK _ _ _).lower hKw, by omega, by omega⟩
      | true =>
        have HEQ := Lib.hid (show VF.els V zQ from fun z hz => by rw [HSF.hV]; exact (polyB_iff hQ).2.1 z hz)
        clear hQ
        go_wp2_with fail
        refine (l03Is_any p pw g HV.out _ OC.out.rowOf).mono ?_
        rintro e w12 ⟨rfl, hb12⟩
        have T12 := Lib.hid (T11.out.below hb12)
        have hK12 : K ≤ w12.heap.size := Nat.le_trans hK11 hb12.size
        have OP := Lib.hid (OP.out.below hb12)
        have OQ := Lib.hid (OQ.out.below hb12)
        have OC := Lib.hid (OC.out.below hb12)
        clear hb12 T11 c0 c1 c2
        have c0 := T12.out.fld.c0
        have c1 := T12.out.fld.c1
        have c2 := T12.out.fld.c2
        cases hC : polyB (ffOf p pw g) zC with
        | false =>
          clear hC
          have hRK : w.heap.size < K := by have := T12.out.r0; have := T12.out.rs; omega
          have hKw : w.heap.size ≤ K := by omega
          have r0 := T12.out.res.c0
          have r1 := T12.out.res.c1
          have r2 := T12.out.res.c2
          have f0 := T12.out.res.fz 0
          have f1 := T12.out.res.fz 1
          have f2 := T12.out.res.fz 2
          have FF := Lib.hid (T12.out.res.set p pw g)
          have BF := Lib.hid T12.out.fin
          go_wp2_with fail
          (try simp only [Exit.inBlock, Exit.then])
          exact ret_cell3 HRES.out Try.underlying25 rfl (by kernel_rfl) rfl rfl FF.out.blk ⟨_, _, _, _, _, rfl, BF.out, _, _, (OP.out.set3 (R := w.heap.size) hRK _ _ _).lower hKw, (OQ.out.set3 (R := w.heap.size) hRK _ _ _).lower hKw, by omega, by omega⟩
        | true =>
          have HEC := Lib.hid (show VF.els V zC from fun z hz => by rw [HSF.hV]; exact (polyB_iff hC).2.1 z hz)
          clear hC
          have hXR : X ≠ w.heap.size := by have := T12.out.r0; have := T12.out.rs; omega
          have hRK : w.heap.size < K := by have := T12.out.r0; have := T12.out.rs; omega
          have hKw : w.heap.size ≤ K := by omega
          have TD := Lib.hid (T12.out.below (Drew.below (drew1 w12) _))
          have ODP := Lib.hid (OP.out.below (Drew.below (drew1 w12) _))
          have ODQ := Lib.hid (OQ.out.below (Drew.below (drew1 w12) _))
          have ODC := Lib.hid (OC.out.below (Drew.below (drew1 w12) _))
          go_wp2_with fail
          go_region_held3 (fun w' => w'.cell? ⟨X, 0, none⟩ = some (.int .i64 p) ∧ w'.cell? ⟨X, 1, none⟩ = some (.int .i64 pw) ∧ w'.cell? ⟨X, 2, none⟩ = some (.int .i64 g))
            (first | go_keep | ((try (dsimp only)); go_split_ands; (repeat' apply And.intro); all_goals (first | assumption | exact keep_cell hb5 (by assumption) | exact keep_cell hb6 (by assumption) | exact set3_cell hXR (by assumption))))
            (first
              | (go_at_call 68; refine (HSF.lmul (ODQ.out.below hb5).rowOf (by omega) (ODC.out.below hb5).rowOf (by omega) HEQ.out HEC.out).mono ?_; rintro e w6 ⟨v6, rfl, hb6, ho6⟩; have T6 := (TD.out.below hb5).below hb6; have r0 := T6.res.c0; have r1 := T6.res.c1; have r2 := T6.res.c2; have f0 := T6.res.fz 0; have f1 := T6.res.fz 1; have f2 := T6.res.fz 2)
              | (go_at_call 68; refine (HSF.lmul ODP.out.rowOf (by omega) ODC.out.rowOf (by omega) HEP.out HEC.out).mono ?_; rintro e w5 ⟨v5, rfl, hb5, ho5⟩))
          have FF := Lib.hid (T6.res.set p pw g)
          have BF := Lib.hid T6.fin
          have hz5 : K ≤ w12.drew.heap.size := hK12
          have O5 := Lib.hid ((ho5.below hb6).lower (C := K) hz5)
          have O6 := Lib.hid (ho6.lower (C := K) (Nat.le_trans hz5 hb5.size))
          have hl5 := VF.lst_mul_len (V := V) zP zC
          have hl6 := VF.lst_mul_len (V := V) zQ zC
          clear r0 r1 r2 f0 f1 f2 T6 c0 c1 c2 hb5 hb6 ho5 ho6
          go_wp2_with fail
          (try simp only [Exit.inBlock, Exit.then])
          exact ret_cell3 HRES.out Try.underlying25 rfl (by kernel_rfl) rfl rfl FF.out.blk ⟨_, _, _, _, _, rfl, BF.out, _, _, (O5.out.set3 (R := w.heap.size) hRK _ _ _).lower hKw, (O6.out.set3 (R := w.heap.size) hRK _ _ _).lower hKw, by omega, by omega⟩
end Go.Proofs.Ytnhpdenneplapaa
