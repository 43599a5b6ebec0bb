/-
  What the laws of codes draw.
-/
import Derived.Test.YthbiieflmmnfcaaDraw
namespace Go.Proofs.Ythbiieflmmnfcaa
open Go.RowKit
set_option linter.unusedVariables false

set_option maxHeartbeats 8000000 in
set_option maxRecDepth 100000 in
theorem DrawEncodeWord_any {w : World} {c0 : Option Addr} {n0 cap0 : Nat} {bs : List Int} (hr : RowB w c0 n0 bs) :
    Calls Try.prog 23 #[.slice c0 n0 cap0] w fun e w' => ∃ p pw g l c v, e = .returned (.tuple #[cV p pw g l c, v]) ∧ Below w.heap.size w w' ∧ ∃ zs, OwnL w' w.heap.size v zs ∧ zs.length ≤ 1000 := by
  have B0 := Lib.hid (below1 w (.cells #[.int .i64 0, .int .i64 0, .int .i64 0, .int .i64 0, .int .i64 0] CT))
  have HR := Lib.hid (hr.below' B0.out)
  have F0 := Lib.hid (CB.new w 0 0 0 0 0)
  have HRES := Lib.hid (show Try.f23.results = #[.cell 2 CT, .tmp 3] by kernel_rfl)
  clear hr
  go_enter Try.func23, Try.ntmps23
  go_wp2_with fail
  generalize w.alloc (.cells #[.int .i64 0, .int .i64 0, .int .i64 0, .int .i64 0, .int .i64 0] CT) = w1 at *
  refine (l01From_any HR.out).mono ?_
  rintro e w2 ⟨s, rfl, hs, hb2, hsrc⟩
  have F2 := Lib.hid (F0.out.below hb2 F0.out.lt)
  have B2 := Lib.hid (B0.out.trans (hb2.mono B0.out.size))
  have hR : w.heap.size < s := Nat.lt_of_lt_of_le F0.out.lt hs
  have S2 := Lib.hid hsrc
  clear hb2 hsrc F0 B0 HR hs
  go_wp2_with fail
  refine (l04DrawAny_any S2.out).mono ?_
  rintro e w3 ⟨p, pw, g, l, c, rfl, hl1, hl2, hc1, hc2, hd, hs3⟩
  have T4 := Lib.hid (show CSt w (w3.alloc (.cells #[.int .i64 p, .int .i64 pw, .int .i64 g, .int .i64 l, .int .i64 c] CT)) w.heap.size w3.heap.size s p pw g l c from
    ⟨(F2.out.dr hd (by omega)).below (below1 w3 _) (F2.out.dr hd (by omega)).lt, CB.new w3 p pw g l c, hs3.alloc _, (B2.out.trans (hd.below (by omega) B2.out.size)).alloc (Nat.le_trans B2.out.size hd.size) _, rfl, hR, hs3.lt⟩)
  obtain ⟨X, hX⟩ : ∃ X, X = w3.heap.size := ⟨_, rfl⟩
  rw [← hX] at T4
  clear hd hs3 F2 B2 S2
  go_wp2_with fail
  rw [← hX]
  clear hX
  generalize w3.alloc (.cells #[.int .i64 p, .int .i64 pw, .int .i64 g, .int .i64 l, .int .i64 c] CT) = w4 at *
  have hsX := T4.out.sx
  have hXR : X ≠ w.heap.size := by omega
  have hK4 : w.heap.size < w4.heap.size := by have := T4.out.res.lt; exact this
  have hsw4 : s < w4.heap.size := T4.out.src.lt
  have x0 := T4.out.fld.c0
  have x1 := T4.out.fld.c1
  have x2 := T4.out.fld.c2
  have x3 := T4.out.fld.c3
  have x4 := T4.out.fld.c4
  have TD := Lib.hid (T4.out.below (Drew.below (drew1 w4) _))
  have hRK : w.heap.size < w4.heap.size := hK4
  clear T4
  go_wp2_with fail
  refine wp_region_last (S := (fun w' => w'.cell? ⟨X, 0, none⟩ = some (.int .i64 p) ∧ w'.cell? ⟨X, 1, none⟩ = some (.int .i64 pw) ∧ w'.cell? ⟨X, 2, none⟩ = some (.int .i64 g) ∧ w'.cell? ⟨X, 3, none⟩ = some (.int .i64 l) ∧ w'.cell? ⟨X, 4, none⟩ = some (.int .i64 c))) 5 (by kernel_rfl) rfl (by kernel_rfl) ?_ (fun hHeld => ?_)
  · (try dsimp only); exact ⟨x0, x1, x2, x3, x4⟩
  simp only [List.take_succ_cons, List.take_zero]
  refine wpAnyH_take (i := 0) (oi := _) (v := ?_) rfl (by kernel_rfl) (by kernel_rfl) (by kernel_rfl) (fun _ _ _ h => h) (Or.inl ⟨by rfl, ?_⟩) hHeld ?_
  rotate_left
  · intro w0 hSw; (try dsimp only at hSw); go_simp; (try with_reducible rfl)
  (try dsimp only [Act.put, List.setIfInBounds_toArray, List.set_cons_zero, List.set_cons_succ])
  refine wpAnyH_take (i := 1) (oi := _) (v := ?_) rfl (by kernel_rfl) (by kernel_rfl) (by kernel_rfl) (fun _ _ _ h => h) (Or.inl ⟨by rfl, ?_⟩) hHeld ?_
  rotate_left
  · intro w0 hSw; (try dsimp only at hSw); go_simp; (try with_reducible rfl)
  (try dsimp only [Act.put, List.setIfInBounds_toArray, List.set_cons_zero, List.set_cons_succ])
  refine wpAnyH_take (i := 2) (oi := _) (v := ?_) rfl (by kernel_rfl) (by kernel_rfl) (by kernel_rfl) (fun _ _ _ h => h) (Or.inl ⟨by rfl, ?_⟩) hHeld ?_
  rotate_left
  · intro w0 hSw; (try dsimp only at hSw); go_simp; (try with_reducible rfl)
  (try dsimp only [Act.put, List.setIfInBounds_toArray, List.set_cons_zero, List.set_cons_succ])
  refine wpAnyH_ready (rs := [3]) (by kernel_rfl) (by simp) ?_
  refine AllReadyH.cons (o := _) rfl (fun K hK => ?_) AllReadyH.nil
  go_simp
  refine (l04DrawMessage_any TD.out.src p pw g l c hl1 hl2 hc1 hc2).mono ?_
  rintro e w5 ⟨v5, rfl, hd5, hs5, z5, ho5, hl5⟩
  have T5 := TD.out.drS hd5 hs5
  have r0 := T5.res.c0
  have r1 := T5.res.c1
  have r2 := T5.res.c2
  have r3 := T5.res.c3
  have r4 := T5.res.c4
  have f0 := T5.res.fz 0
  have f1 := T5.res.fz 1
  have f2 := T5.res.fz 2
  have f3 := T5.res.fz 3
  have f4 := T5.res.fz 4
  go_wp2_with fail
  refine hK.out _ _ ?_ (fun hHeld => ?_)
  · (try dsimp only); exact ⟨T5.fld.c0, T5.fld.c1, T5.fld.c2, T5.fld.c3, T5.fld.c4⟩
  clear hK K
  (try dsimp only [Act.put, List.setIfInBounds_toArray, List.set_cons_zero, List.set_cons_succ])
  refine wpAnyH_ready (rs := [4]) (by kernel_rfl) (by simp) ?_
  refine AllReadyH.cons (o := _) rfl (fun K hK => ?_) AllReadyH.nil
  go_simp
  go_wp2_with fail
  refine hK.out _ _ ?_ (fun hHeld => ?_)
  · (try dsimp only); exact ⟨set5_cell hXR hHeld.1, set5_cell hXR hHeld.2.1, set5_cell hXR hHeld.2.2.1, set5_cell hXR hHeld.2.2.2.1, set5_cell hXR hHeld.2.2.2.2⟩
  clear hK K
  (try dsimp only [Act.put, List.setIfInBounds_toArray, List.set_cons_zero, List.set_cons_succ])
  refine wpAnyH_done (by kernel_rfl) (lastQ_normal ?_) _
  have Om := Lib.hid (ho5.lower (C := w4.heap.size) (Nat.le_refl _))
  have FF := Lib.hid (T5.res.set p pw g l c)
  have BF := Lib.hid (setC_below (B := w.heap.size) (p := p) (pw := pw) (g := g) (l := l) (c := c) T5.bel (Nat.le_refl _))
  have OmF := Lib.hid ((setC_own (B := w.heap.size) (p := p) (pw := pw) (g := g) (l := l) (c := c) Om.out hRK).lower (C := w.heap.size) (Nat.le_of_lt hRK))
  go_wp2_with fail
  (try simp only [Exit.inBlock, Exit.then])
  exact ret_cell2 HRES.out Try.underlying40 rfl (by kernel_rfl) rfl rfl FF.out.blk ⟨_, _, _, _, _, _, rfl, BF.out, _, OmF.out, by omega⟩
end Go.Proofs.Ythbiieflmmnfcaa
