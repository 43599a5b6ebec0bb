/-
  What a law of polynomials draws.
-/
import Derived.Test.YtnhpdenneplapaaDraw5a
namespace Go.Proofs.Ytnhpdenneplapaa
open Go.RowKit
set_option linter.unusedVariables false

set_option maxHeartbeats 4000000 in
theorem DrawPolyDiv_any {w : World} {c : Option Addr} {n cap : Nat} {bs : List Int} (hr : RowB w c n bs) :
    Calls Try.prog 35 #[.slice c n cap] w fun e w' => ∃ p pw g v v2, e = .returned (.tuple #[fV p pw g, v, v2]) ∧ Below w.heap.size w w' ∧ ∃ zs zs2, OwnL w' w.heap.size v zs ∧ OwnL w' w.heap.size v2 zs2 ∧ zs.length ≤ 1000 ∧ zs2.length ≤ 1000 := by
  have B0 := Lib.hid (below1 w (.cells #[.int .i64 0, .int .i64 0, .int .i64 0] FTa))
  have HR := Lib.hid (hr.below' B0.out)
  have F0 := Lib.hid (FB.new w 0 0 0)
  have HRES := Lib.hid (show Try.f35.results = #[.cell 2 FTa, .tmp 3, .tmp 4] by kernel_rfl)
  clear hr
  go_enter Try.func35, Try.ntmps35
  go_wp2_with fail
  generalize w.alloc (.cells #[.int .i64 0, .int .i64 0, .int .i64 0] FTa) = w1 at *
  refine (l01From_any HR.out).mono ?_
  rintro e w2 ⟨s, rfl, hs, hb2, hsrc⟩
  have F2 := Lib.hid (F0.out.below hb2 F0.out.lt)
  have B2 := Lib.hid (B0.out.trans (hb2.mono B0.out.size))
  have hR : w.heap.size < s := Nat.lt_of_lt_of_le F0.out.lt hs
  have S2 := Lib.hid hsrc
  clear hb2 hsrc F0 B0 HR hs
  go_wp2_with fail
  refine (l02DrawAny_any S2.out).mono ?_
  rintro e w3 ⟨p, pw, g, rfl, hd, hs3⟩
  have T4 := Lib.hid (show DSt w (w3.alloc (.cells #[.int .i64 p, .int .i64 pw, .int .i64 g] FTa)) w.heap.size w3.heap.size s p pw g from
    ⟨(F2.out.dr hd (by omega)).below (below1 w3 _) (F2.out.dr hd (by omega)).lt, FB.new w3 p pw g, hs3.alloc _, (B2.out.trans (hd.below (by omega) B2.out.size)).alloc (Nat.le_trans B2.out.size hd.size) _, rfl, hR, hs3.lt⟩)
  obtain ⟨X, hX⟩ : ∃ X, X = w3.heap.size := ⟨_, rfl⟩
  rw [← hX] at T4
  clear hd hs3 F2 B2 S2
  go_wp2_with fail
  rw [← hX]
  clear hX
  generalize w3.alloc (.cells #[.int .i64 p, .int .i64 pw, .int .i64 g] FTa) = w4 at *
  have hXK := T4.out.fld.lt
  have hsX := T4.out.sx
  obtain ⟨K, hK⟩ : ∃ K, K = w4.heap.size := ⟨_, rfl⟩
  have hK4 : K ≤ w4.heap.size := Nat.le_of_eq hK
  rw [← hK] at hXK
  clear hK
  have c0 := T4.out.fld.c0
  have c1 := T4.out.fld.c1
  have c2 := T4.out.fld.c2
  go_wp2_with fail
  refine (l03Draw_any T4.out.src p pw g 9 (by omega) (by omega)).mono ?_
  rintro e w6 ⟨vzs, rfl, hd, hs, zs, ho, hlzs⟩
  have T6 := Lib.hid (T4.out.drS hd hs)
  have hK6 : K ≤ w6.heap.size := Nat.le_trans hK4 hd.size
  have Ozs := Lib.hid (ho.lower (C := K) hK4)
  clear hd hs ho T4 c0 c1 c2
  have c0 := T6.out.fld.c0
  have c1 := T6.out.fld.c1
  have c2 := T6.out.fld.c2
  have hXR : X ≠ w.heap.size := by have := T6.out.r0; have := T6.out.rs; omega
  have hRK : w.heap.size < K := by have := T6.out.r0; have := T6.out.rs; omega
  have hKw : w.heap.size ≤ K := by omega
  have TD := Lib.hid (T6.out.below (Drew.below (drew1 w6) _))
  have Ozs := Lib.hid (Ozs.out.below (Drew.below (drew1 w6) _))
  go_wp2_with fail
  go_region_held3 (fun w' => w'.cell? ⟨X, 0, none⟩ = some (.int .i64 p) ∧ w'.cell? ⟨X, 1, none⟩ = some (.int .i64 pw) ∧ w'.cell? ⟨X, 2, none⟩ = some (.int .i64 g))
    (first | go_keep | ((try (dsimp only)); go_split_ands; (repeat' apply And.intro); all_goals (first | assumption | exact set3_cell hXR (by assumption))))
    (first | (go_at_call 67; refine (l03Draw_any TD.out.src p pw g 4 (by omega) (by omega)).mono ?_; rintro e w5 ⟨vz, rfl, hd5, hs5, zz, hoz, hlz⟩; have T5 := TD.out.drS hd5 hs5; have k0 := T5.fld.c0; have k1 := T5.fld.c1; have k2 := T5.fld.c2; have r0 := T5.res.c0; have r1 := T5.res.c1; have r2 := T5.res.c2; have f0 := T5.res.fz 0; have f1 := T5.res.fz 1; have f2 := T5.res.fz 2))
  have FF := Lib.hid (T5.res.set p pw g)
  have BF := Lib.hid T5.fin
  have Ozs := Lib.hid (Ozs.out.dr hd5 (by omega))
  have Oz := Lib.hid (hoz.lower (C := K) (Nat.le_trans hK6 (Nat.le_refl _)))
  clear r0 r1 r2 f0 f1 f2 k0 k1 k2 T5 c0 c1 c2 hd5 hs5 hoz
  go_wp2_with fail
  (try simp only [Exit.inBlock, Exit.then])
  exact ret_cell3 HRES.out Try.underlying25 rfl (by kernel_rfl) rfl rfl FF.out.blk ⟨_, _, _, _, _, rfl, BF.out, _, _, (Ozs.out.set3 (R := w.heap.size) hRK _ _ _).lower hKw, (Oz.out.set3 (R := w.heap.size) hRK _ _ _).lower hKw, by omega, by omega⟩
end Go.Proofs.Ytnhpdenneplapaa
