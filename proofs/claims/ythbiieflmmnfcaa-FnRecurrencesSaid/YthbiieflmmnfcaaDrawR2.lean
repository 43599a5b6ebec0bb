/-
  What the law of recurrences draws.
-/
import Derived.Test.YthbiieflmmnfcaaDrawR
namespace Go.Proofs.Ythbiieflmmnfcaa
open Go.RowKit
set_option linter.unusedVariables false

set_option maxHeartbeats 8000000 in
set_option maxRecDepth 100000 in
theorem DrawContinueSequence_any {w : World} {c0 : Option Addr} {n0 cap0 : Nat} {bs : List Int} (hr : RowB w c0 n0 bs) :
    Calls Try.prog 37 #[.slice c0 n0 cap0] w fun e w' => ∃ p pw g x v, e = .returned (.tuple #[fV p pw g, v, .int .i64 x]) ∧ Below w.heap.size w w' ∧ ∃ zs, OwnL w' w.heap.size v zs ∧ zs.length ≤ 1000 := by
  have B0 := Lib.hid (below1 w (.cells #[.int .i64 0, .int .i64 0, .int .i64 0] FTa))
  have HR := Lib.hid (hr.below' B0.out)
  have F0 := Lib.hid (FB.new w 0 0 0)
  have HRES := Lib.hid (show Try.f37.results = #[.cell 2 FTa, .tmp 3, .tmp 4] by kernel_rfl)
  clear hr
  go_enter Try.func37, Try.ntmps37
  go_wp2_with fail
  generalize w.alloc (.cells #[.int .i64 0, .int .i64 0, .int .i64 0] FTa) = w1 at *
  refine (l01From_any HR.out).mono ?_
  rintro e w2 ⟨s, rfl, hs, hb2, hsrc⟩
  have F2 := Lib.hid (F0.out.below hb2 F0.out.lt)
  have B2 := Lib.hid (B0.out.trans (hb2.mono B0.out.size))
  have hR : w.heap.size < s := Nat.lt_of_lt_of_le F0.out.lt hs
  have hRK : w.heap.size < w2.heap.size := F2.out.lt
  have hs2 : s < w2.heap.size := hsrc.lt
  have S2 := Lib.hid hsrc
  clear hb2 hsrc F0 B0 HR hs
  go_wp2_with fail
  refine (l06Draw_any S2.out).mono ?_
  rintro e w3 ⟨p, pw, g, v, rfl, hd, hs3, zs, ho, hlz⟩
  have hz3 := hd.size
  have T4 := Lib.hid (show DSt w (w3.alloc (.cells #[.int .i64 p, .int .i64 pw, .int .i64 g] FTa)) w.heap.size w3.heap.size s p pw g from
    ⟨(F2.out.dr hd (by omega)).below (below1 w3 _) (F2.out.dr hd (by omega)).lt, FB.new w3 p pw g, hs3.alloc _, (B2.out.trans (hd.below (by omega) B2.out.size)).alloc (Nat.le_trans B2.out.size hd.size) _, rfl, hR, hs3.lt⟩)
  have O4 := Lib.hid (ho.below (below1 w3 (.cells #[.int .i64 p, .int .i64 pw, .int .i64 g] FTa)))
  obtain ⟨X, hX⟩ : ∃ X, X = w3.heap.size := ⟨_, rfl⟩
  have hRX : w.heap.size < X := by omega
  rw [← hX] at T4
  clear hd hs3 F2 B2 S2 ho
  go_wp2_with fail
  rw [← hX]
  clear hX
  generalize w3.alloc (.cells #[.int .i64 p, .int .i64 pw, .int .i64 g] FTa) = w4 at *
  have hXR : X ≠ w.heap.size := by omega
  have TD := Lib.hid (T4.out.below (Drew.below (drew1 w4) _))
  have OD := Lib.hid (O4.out.below (Drew.below (drew1 w4) _))
  clear T4 O4
  have x0 := TD.out.fld.c0
  have x1 := TD.out.fld.c1
  have x2 := TD.out.fld.c2
  go_wp2_with fail
  refine wp_region_lastW (S := (fun w' => w'.cell? ⟨X, 0, none⟩ = some (.int .i64 p) ∧ w'.cell? ⟨X, 1, none⟩ = some (.int .i64 pw) ∧ w'.cell? ⟨X, 2, none⟩ = some (.int .i64 g))) 15 (by kernel_rfl) rfl (by kernel_rfl) ?_ (fun hHeld => ?_)
  · (try dsimp only); exact ⟨x0, x1, x2⟩
  simp only [List.take_succ_cons, List.take_zero]
  refine wpAnyH_take (i := 0) (oi := _) (v := ?_) rfl (by kernel_rfl) (by kernel_rfl) (by kernel_rfl) (fun _ _ _ h => h) (Or.inl ⟨by rfl, ?_⟩) hHeld ?_
  rotate_left
  · intro w0 hSw; (try dsimp only at hSw); go_simp; (try with_reducible rfl)
  (try dsimp only [Act.put, List.setIfInBounds_toArray, List.set_cons_zero, List.set_cons_succ])
  refine wpAnyH_take (i := 1) (oi := _) (v := ?_) rfl (by kernel_rfl) (by kernel_rfl) (by kernel_rfl) (fun _ _ _ h => h) (Or.inl ⟨by rfl, ?_⟩) hHeld ?_
  rotate_left
  · intro w0 hSw; (try dsimp only at hSw); go_simp; (try with_reducible rfl)
  (try dsimp only [Act.put, List.setIfInBounds_toArray, List.set_cons_zero, List.set_cons_succ])
  refine wpAnyH_take (i := 2) (oi := _) (v := ?_) rfl (by kernel_rfl) (by kernel_rfl) (by kernel_rfl) (fun _ _ _ h => h) (Or.inl ⟨by rfl, ?_⟩) hHeld ?_
  rotate_left
  · intro w0 hSw; (try dsimp only at hSw); go_simp; (try with_reducible rfl)
  (try dsimp only [Act.put, List.setIfInBounds_toArray, List.set_cons_zero, List.set_cons_succ])
  refine wpAnyH_take (i := 4) (oi := _) (v := ?_) rfl (by kernel_rfl) (by kernel_rfl) (by kernel_rfl) (fun _ _ _ h => h) (Or.inl ⟨by rfl, ?_⟩) hHeld ?_
  rotate_left
  · intro w0 hSw; (try dsimp only at hSw); go_simp; (try with_reducible rfl)
  (try dsimp only [Act.put, List.setIfInBounds_toArray, List.set_cons_zero, List.set_cons_succ])
  refine wpAnyH_take (i := 8) (oi := _) (v := ?_) rfl (by kernel_rfl) (by kernel_rfl) (by kernel_rfl) (fun _ _ _ h => h) (Or.inl ⟨by rfl, ?_⟩) hHeld ?_
  rotate_left
  · intro w0 hSw; (try dsimp only at hSw); go_simp; (try with_reducible rfl)
  (try dsimp only [Act.put, List.setIfInBounds_toArray, List.set_cons_zero, List.set_cons_succ])
  refine wpAnyH_ready (rs := [3]) (by kernel_rfl) (by simp) ?_
  refine AllReadyH.cons (o := _) rfl (fun K hK => ?_) AllReadyH.nil
  go_simp
  refine (l01Next_any TD.out.src 6 (by omega)).mono ?_
  rintro e w5 ⟨q5, rfl, hq5, hd5, hs5⟩
  have T5 := TD.out.drS hd5 hs5
  go_wp2_with fail
  refine hK.out _ _ ?_ (fun hHeld => ?_)
  · (try dsimp only); exact ⟨T5.fld.c0, T5.fld.c1, T5.fld.c2⟩
  clear hK K
  (try dsimp only [Act.put, List.setIfInBounds_toArray, List.set_cons_zero, List.set_cons_succ])
  refine wpAnyH_ready (rs := [5]) (by kernel_rfl) (by simp) ?_
  refine AllReadyH.cons (o := _) rfl (fun K hK => ?_) AllReadyH.nil
  go_simp
  refine (l01Next_any T5.src 30 (by omega)).mono ?_
  rintro e w6 ⟨q6, rfl, hq6, hd6, hs6⟩
  have T6 := T5.drS hd6 hs6
  go_wp2_with fail
  refine hK.out _ _ ?_ (fun hHeld => ?_)
  · (try dsimp only); exact ⟨T6.fld.c0, T6.fld.c1, T6.fld.c2⟩
  clear hK K
  (try dsimp only [Act.put, List.setIfInBounds_toArray, List.set_cons_zero, List.set_cons_succ])
  refine wpAnyH_take (i := 6) (oi := _) (v := ?_) rfl (by kernel_rfl) (by kernel_rfl) (by kernel_rfl) (fun _ _ _ h => h) (Or.inl ⟨by rfl, ?_⟩) hHeld ?_
  rotate_left
  · intro w0 hSw; (try dsimp only at hSw); go_simp; (try with_reducible rfl)
  (try dsimp only [Act.put, List.setIfInBounds_toArray, List.set_cons_zero, List.set_cons_succ])
  refine wpAnyH_take (i := 7) (oi := _) (v := ?_) rfl (by kernel_rfl) (by kernel_rfl) (by kernel_rfl) (fun _ _ _ h => h) (Or.inl ⟨by rfl, ?_⟩) hHeld ?_
  rotate_left
  · intro w0 hSw; (try dsimp only at hSw); go_simp; (try with_reducible rfl)
  (try dsimp only [Act.put, List.setIfInBounds_toArray, List.set_cons_zero, List.set_cons_succ])
  refine wpAnyH_ready (rs := [9]) (by kernel_rfl) (by simp) ?_
  refine AllReadyH.cons (o := _) rfl (fun K hK => ?_) AllReadyH.nil
  go_simp
  refine (l01Next_any T6.src 30 (by omega)).mono ?_
  rintro e w7 ⟨q7, rfl, hq7, hd7, hs7⟩
  have T7 := T6.drS hd7 hs7
  have r0 := T7.res.c0
  have r1 := T7.res.c1
  have r2 := T7.res.c2
  have f0 := T7.res.fz 0
  have f1 := T7.res.fz 1
  have f2 := T7.res.fz 2
  go_wp2_with fail
  refine hK.out _ _ ?_ (fun hHeld => ?_)
  · (try dsimp only); exact ⟨T7.fld.c0, T7.fld.c1, T7.fld.c2⟩
  clear hK K
  (try dsimp only [Act.put, List.setIfInBounds_toArray, List.set_cons_zero, List.set_cons_succ])
  refine wpAnyH_take (i := 10) (oi := _) (v := ?_) rfl (by kernel_rfl) (by kernel_rfl) (by kernel_rfl) (fun _ _ _ h => h) (Or.inl ⟨by rfl, ?_⟩) hHeld ?_
  rotate_left
  · intro w0 hSw; (try dsimp only at hSw); go_simp; (try with_reducible rfl)
  (try dsimp only [Act.put, List.setIfInBounds_toArray, List.set_cons_zero, List.set_cons_succ])
  refine wpAnyH_take (i := 11) (oi := _) (v := ?_) rfl (by kernel_rfl) (by kernel_rfl) (by kernel_rfl) (fun _ _ _ h => h) (Or.inl ⟨by rfl, ?_⟩) hHeld ?_
  rotate_left
  · intro w0 hSw; (try dsimp only at hSw); go_simp; (try with_reducible rfl)
  (try dsimp only [Act.put, List.setIfInBounds_toArray, List.set_cons_zero, List.set_cons_succ])
  refine wpAnyH_take (i := 12) (oi := _) (v := ?_) rfl (by kernel_rfl) (by kernel_rfl) (by kernel_rfl) (fun _ _ _ h => h) (Or.inl ⟨by rfl, ?_⟩) hHeld ?_
  rotate_left
  · intro w0 hSw; (try dsimp only at hSw); go_simp; (try with_reducible rfl)
  (try dsimp only [Act.put, List.setIfInBounds_toArray, List.set_cons_zero, List.set_cons_succ])
  refine wpAnyH_ready (rs := [13]) (by kernel_rfl) (by simp) ?_
  refine AllReadyH.cons (o := _) rfl (fun K hK => ?_) AllReadyH.nil
  go_simp
  go_wp2_with fail
  refine hK.out _ _ ?_ (fun hHeld => ?_)
  · (try dsimp only); exact ⟨set3_cell hXR hHeld.1, set3_cell hXR hHeld.2.1, set3_cell hXR hHeld.2.2⟩
  clear hK K
  (try dsimp only [Act.put, List.setIfInBounds_toArray, List.set_cons_zero, List.set_cons_succ])
  refine wpAnyH_take (i := 14) (oi := _) (v := ?_) rfl (by kernel_rfl) (by kernel_rfl) (by kernel_rfl) (fun _ _ _ h => h) (Or.inl ⟨by rfl, ?_⟩) hHeld ?_
  rotate_left
  · intro w0 hSw; (try dsimp only at hSw); go_simp; (try with_reducible rfl)
  (try dsimp only [Act.put, List.setIfInBounds_toArray, List.set_cons_zero, List.set_cons_succ])
  refine wpAnyH_done (by kernel_rfl) (lastQ_normalW ?_) _
  have O7 := Lib.hid (((OD.out.dr hd5 hs2).dr hd6 hs2).dr hd7 hs2)
  have FF := Lib.hid (T7.res.set p pw g)
  have BF := Lib.hid T7.fin
  have OaF := Lib.hid ((O7.out.set3 (R := w.heap.size) hRK (.int .i64 p) (.int .i64 pw) (.int .i64 g)).lower (C := w.heap.size) (Nat.le_of_lt hRK))
  go_wp2_with fail
  (try simp only [Exit.inBlock, Exit.then])
  exact ret_cell3 HRES.out Try.underlying29 rfl (by kernel_rfl) rfl rfl FF.out.blk ⟨_, _, _, _, _, rfl, BF.out, _, OaF.out, hlz⟩
end Go.Proofs.Ythbiieflmmnfcaa
