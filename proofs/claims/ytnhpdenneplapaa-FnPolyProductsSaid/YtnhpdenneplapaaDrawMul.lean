/-
  What a law of polynomials draws.
-/
import Derived.Test.YtnhpdenneplapaaDraw5a
namespace Go.Proofs.Ytnhpdenneplapaa
open Go.RowKit
set_option linter.unusedVariables false

set_option maxHeartbeats 4000000 in
theorem DrawPolyMul_any {w : World} {c : Option Addr} {n cap : Nat} {bs : List Int} (hr : RowB w c n bs) :
    Calls Try.prog 44 #[.slice c n cap] w fun e w' => ∃ p pw g v v2, e = .returned (.tuple #[fV p pw g, v, v2]) ∧ Below w.heap.size w w' ∧ ∃ zs zs2, OwnL w' w.heap.size v zs ∧ OwnL w' w.heap.size v2 zs2 ∧ zs.length ≤ 1000 ∧ zs2.length ≤ 1000 := by
  have B0 := Lib.hid (below1 w (.cells #[.int .i64 0, .int .i64 0, .int .i64 0] FTa))
  have HR := Lib.hid (hr.below' B0.out)
  have F0 := Lib.hid (FB.new w 0 0 0)
  have HRES := Lib.hid (show Try.f44.results = #[.cell 2 FTa, .tmp 3, .tmp 4] by kernel_rfl)
  clear hr
  go_enter Try.func44, Try.ntmps44
  go_wp2_with fail
  generalize w.alloc (.cells #[.int .i64 0, .int .i64 0, .int .i64 0] FTa) = w1 at *
  refine (l01From_any HR.out).mono ?_
  rintro e w2 ⟨s, rfl, hs, hb2, hsrc⟩
  have F2 := Lib.hid (F0.out.below hb2 F0.out.lt)
  have B2 := Lib.hid (B0.out.trans (hb2.mono B0.out.size))
  have hR : w.heap.size < s := Nat.lt_of_lt_of_le F0.out.lt hs
  have S2 := Lib.hid hsrc
  clear hb2 hsrc F0 B0 HR hs
  go_wp2_with fail
  refine (l02DrawAny_any S2.out).mono ?_
  rintro e w3 ⟨p, pw, g, rfl, hd, hs3⟩
  have T4 := Lib.hid (show DSt w (w3.alloc (.cells #[.int .i64 p, .int .i64 pw, .int .i64 g] FTa)) w.heap.size w3.heap.size s p pw g from
    ⟨(F2.out.dr hd (by omega)).below (below1 w3 _) (F2.out.dr hd (by omega)).lt, FB.new w3 p pw g, hs3.alloc _, (B2.out.trans (hd.below (by omega) B2.out.size)).alloc (Nat.le_trans B2.out.size hd.size) _, rfl, hR, hs3.lt⟩)
  obtain ⟨X, hX⟩ : ∃ X, X = w3.heap.size := ⟨_, rfl⟩
  rw [← hX] at T4
  clear hd hs3 F2 B2 S2
  go_wp2_with fail
  rw [← hX]
  clear hX
  generalize w3.alloc (.cells #[.int .i64 p, .int .i64 pw, .int .i64 g] FTa) = w4 at *
  have hXK := T4.out.fld.lt
  have hsX := T4.out.sx
  obtain ⟨K, hK⟩ : ∃ K, K = w4.heap.size := ⟨_, rfl⟩
  have hK4 : K ≤ w4.heap.size := Nat.le_of_eq hK
  rw [← hK] at hXK
  clear hK
  have c0 := T4.out.fld.c0
  have c1 := T4.out.fld.c1
  have c2 := T4.out.fld.c2
  go_wp2_with fail
  refine (l03Draw_any T4.out.src p pw g 6 (by omega) (by omega)).mono ?_
  rintro e w6 ⟨vzs, rfl, hd, hs, zs, ho, hlzs⟩
  have T6 := Lib.hid (T4.out.drS hd hs)
  have hK6 : K ≤ w6.heap.size := Nat.le_trans hK4 hd.size
  have Ozs := Lib.hid (ho.lower (C := K) hK4)
  clear hd hs ho T4 c0 c1 c2
  go_wp2_with fail
  refine (next_any T6.out.src 40 (by omega) (by omega)).mono ?_
  rintro e w7 ⟨q, rfl, hq, hd, hs⟩
  have T7 := Lib.hid (T6.out.drS hd hs)
  have hK7 : K ≤ w7.heap.size := Nat.le_trans hK6 hd.size
  have Ozs := Lib.hid (Ozs.out.dr hd (by omega))
  clear hd hs T6
  have c0 := T7.out.fld.c0
  have c1 := T7.out.fld.c1
  have c2 := T7.out.fld.c2
  by_cases hq0 : q = 0
  · subst hq0
    go_wp2_with fail
    refine (next_any T7.out.src 3 (by omega) (by omega)).mono ?_
    rintro e w8 ⟨q2, rfl, hq2, hd, hs⟩
    have T8 := Lib.hid (T7.out.drS hd hs)
    have hK8 : K ≤ w8.heap.size := Nat.le_trans hK7 hd.size
    have Ozs := Lib.hid (Ozs.out.dr hd (by omega))
    clear hd hs T7 c0 c1 c2
    obtain ⟨M, N, hN, e3, hNM, hM⟩ : ∃ M N : Nat, (512 : Int) - (q2 : Int) = (M : Int) ∧ (M : Int) - 1 = (N : Int) ∧ N < M ∧ M ≤ 600 := ⟨512 - q2, 511 - q2, by omega, by omega, by omega, by omega⟩
    have hmk := fun w => run_make_ints w 26 Try.underlying26 (M : Int) (by omega) (by omega)
    rw [Int.toNat_natCast] at hmk
    have Oz := OwnL.zeros w8 K hK8 M (by omega)
    obtain ⟨g0, cp, cur, e0, hg1, hg2, hg3, -, hoa⟩ := Oz.form (by simp; omega)
    have e1 : g0 = w8.heap.size := by simp at e0; omega
    subst e1
    have fzz : (w8.alloc (.cells (madeCells #[.int .i64 0] M) 2)).frozen? ⟨w8.heap.size, N, none⟩ = false := by unfold World.frozen?; rw [hg3]; simp
    obtain ⟨b', o', e2, _, hcs⟩ := hoa.row.at' (by simp; omega)
    obtain ⟨rfl, rfl⟩ : w8.heap.size = b' ∧ o' = 0 := by simp at e2; omega
    have hcell := hcs N (by simpa using hNM)
    rw [Nat.zero_add] at hcell
    have OZ := Lib.hid (Oz.set (k := N) (by simpa using hNM) 1)
    have hzl : ((List.replicate M (0 : Int)).set N 1).length ≤ 1000 := by simp; omega
    have T9 := Lib.hid ((T8.out.below ((Below.refl _ _).alloc (Nat.le_refl _) (.cells (madeCells #[.int .i64 0] M) 2))).lo (K := K) hXK ((Below.refl K _).setCell (p := ⟨w8.heap.size, N, none⟩) hK8 (.int .i64 1)))
    have hne := fun k hk => Nat.ne_of_lt ((Ozs.out.2.lt k hk).2)
    have Ozs := Lib.hid ((Ozs.out.below ((Below.refl _ _).alloc (Nat.le_refl _) (.cells (madeCells #[.int .i64 0] M) 2))))
    have Ozs := Lib.hid (Ozs.out.other (j := N) (x := .int .i64 1) hne)
    have HGI := Lib.hid (show gi (List.replicate M 0) N = 0 from by unfold gi; simp [hNM])
    rw [HGI.out] at hcell
    clear hoa hg3 hcs e0 Oz e2 hne
    have hW : (w8.alloc (.cells (madeCells #[.int .i64 0] M) 2)).setCell ⟨w8.heap.size, N, none⟩ (.int .i64 1) = w8.alloc (.cells ((madeCells #[.int .i64 0] M).setIfInBounds N (.int .i64 1)) 2) := by first | simp [go_sem] | simp
    rw [hW] at OZ T9 Ozs
    clear hW
    have c0 := T9.out.fld.c0
    have c1 := T9.out.fld.c1
    have c2 := T9.out.fld.c2
    have hRK : w.heap.size < K := by have := T9.out.r0; have := T9.out.rs; omega
    have hKw : w.heap.size ≤ K := by omega
    have r0 := T9.out.res.c0
    have r1 := T9.out.res.c1
    have r2 := T9.out.res.c2
    have f0 := T9.out.res.fz 0
    have f1 := T9.out.res.fz 1
    have f2 := T9.out.res.fz 2
    have FF := Lib.hid (T9.out.res.set p pw g)
    have BF := Lib.hid T9.out.fin
    go_wp2_with fail
    (try simp only [Exit.inBlock, Exit.then])
    exact ret_cell3 HRES.out Try.underlying25 rfl (by kernel_rfl) rfl rfl FF.out.blk ⟨_, _, _, _, _, rfl, BF.out, _, _, (Ozs.out.set3 (R := w.heap.size) hRK _ _ _).lower hKw, (OZ.out.set3 (R := w.heap.size) hRK _ _ _).lower hKw, by omega, hzl⟩
  · have qb : ((q : Int) == 0) = false := by simp; omega
    have hXR : X ≠ w.heap.size := by have := T7.out.r0; have := T7.out.rs; omega
    have hRK : w.heap.size < K := by have := T7.out.r0; have := T7.out.rs; omega
    have hKw : w.heap.size ≤ K := by omega
    have TD := Lib.hid (T7.out.below (Drew.below (drew1 w7) _))
    have Ozs := Lib.hid (Ozs.out.below (Drew.below (drew1 w7) _))
    go_wp2_with fail
    go_region_held3 (fun w' => w'.cell? ⟨X, 0, none⟩ = some (.int .i64 p) ∧ w'.cell? ⟨X, 1, none⟩ = some (.int .i64 pw) ∧ w'.cell? ⟨X, 2, none⟩ = some (.int .i64 g))
      (first | go_keep | ((try (dsimp only)); go_split_ands; (repeat' apply And.intro); all_goals (first | assumption | exact set3_cell hXR (by assumption))))
      (first | (go_at_call 67; refine (l03Draw_any TD.out.src p pw g 6 (by omega) (by omega)).mono ?_; rintro e w5 ⟨vz, rfl, hd5, hs5, zz, hoz, hlz⟩; have T5 := TD.out.drS hd5 hs5; have k0 := T5.fld.c0; have k1 := T5.fld.c1; have k2 := T5.fld.c2; have r0 := T5.res.c0; have r1 := T5.res.c1; have r2 := T5.res.c2; have f0 := T5.res.fz 0; have f1 := T5.res.fz 1; have f2 := T5.res.fz 2))
    have FF := Lib.hid (T5.res.set p pw g)
    have BF := Lib.hid T5.fin
    have Ozs := Lib.hid (Ozs.out.dr hd5 (by omega))
    have Oz := Lib.hid (hoz.lower (C := K) (Nat.le_trans hK7 (Nat.le_refl _)))
    clear r0 r1 r2 f0 f1 f2 k0 k1 k2 T5 c0 c1 c2 hd5 hs5 hoz
    go_wp2_with fail
    (try simp only [Exit.inBlock, Exit.then])
    exact ret_cell3 HRES.out Try.underlying25 rfl (by kernel_rfl) rfl rfl FF.out.blk ⟨_, _, _, _, _, rfl, BF.out, _, _, (Ozs.out.set3 (R := w.heap.size) hRK _ _ _).lower hKw, (Oz.out.set3 (R := w.heap.size) hRK _ _ _).lower hKw, by omega, by omega⟩
end Go.Proofs.Ytnhpdenneplapaa
