/-
  More walks of the draws of codes.
-/
import Derived.Test.YthbiieflmmnfcaaDrawC
import Derived.Test.YthbiieflmmnfcaaPeel
import Derived.Test.YthbiieflmmnfcaaField2
namespace Go.Proofs.Ythbiieflmmnfcaa
open Go.RowKit
set_option linter.unusedVariables false

theorem row_lit (W : World) (xs : List Int) (t : TypeId) (h : xs.length ≤ 1000) {k : Nat} (hk : k < xs.length) : (W.alloc (.cells (xs.map (Value.int .i64)).toArray t)).cell? ⟨W.heap.size, k, none⟩ = some (.int .i64 (gi xs k)) := by
  obtain ⟨b, off, e, _, hc⟩ := (row_new W xs t h).at' (by omega)
  cases e
  have := hc k hk
  rw [Nat.zero_add] at this
  exact this
set_option maxHeartbeats 8000000 in
set_option maxRecDepth 100000 in
theorem l04DrawAny_any {w : World} {s : Nat} (hs : Src w s) :
    Calls Try.prog 82 #[.pointer (some ⟨s, 0, none⟩)] w fun e w' => ∃ p pw g l c, e = .returned (cV p pw g l c) ∧ -2000 ≤ l ∧ l ≤ 2000 ∧ -2000 ≤ c ∧ c ≤ 2000 ∧ Dr s w w' ∧ Src w' s := by
  have F0 := Lib.hid (CB.new w 0 0 0 0 0)
  have B0 := Lib.hid (below1 w (.cells #[.int .i64 0, .int .i64 0, .int .i64 0, .int .i64 0, .int .i64 0] CT))
  have hsz := hs.lt
  have HS := Lib.hid (hs.below B0.out)
  have D0 := Lib.hid (Dr.of (s := s) B0.out)
  have HRES := Lib.hid (show Try.f82.results = #[.cell 2 CT] by kernel_rfl)
  clear hs B0
  go_enter Try.func82, Try.ntmps82
  go_wp2_with fail
  generalize w.alloc (.cells #[.int .i64 0, .int .i64 0, .int .i64 0, .int .i64 0, .int .i64 0] CT) = w1 at *
  refine (l04Draw_any HS.out).mono ?_
  rintro e w2 ⟨p, pw, g, l, c, rfl, hv, hl1, hl2, hc1, hc2, hd, hs2⟩
  have HF3 := Lib.hid ((F0.out.dr hd (by omega)).below (below1 w2 (.cells #[.int .i64 p, .int .i64 pw, .int .i64 g, .int .i64 l, .int .i64 c] CT)) (F0.out.dr hd (by omega)).lt)
  have HD3 := Lib.hid ((D0.out.trans hd).alloc (.cells #[.int .i64 p, .int .i64 pw, .int .i64 g, .int .i64 l, .int .i64 c] CT))
  have HS3 := Lib.hid (hs2.alloc (.cells #[.int .i64 p, .int .i64 pw, .int .i64 g, .int .i64 l, .int .i64 c] CT))
  have HX3 := Lib.hid (CB.new w2 p pw g l c)
  have hx2 : w.heap.size < w2.heap.size := (F0.out.dr hd (by omega)).lt
  obtain ⟨X, hX⟩ : ∃ X, X = w2.heap.size := ⟨_, rfl⟩
  rw [← hX] at HX3 hx2
  have HV := Lib.hid hv
  clear hv hd hs2 F0 HS D0
  go_wp2_with fail
  rw [← hX]
  clear hX
  generalize w2.alloc (.cells #[.int .i64 p, .int .i64 pw, .int .i64 g, .int .i64 l, .int .i64 c] CT) = w3 at *
  refine (next_any HS3.out 30 (by omega) (by omega)).mono ?_
  rintro e w4 ⟨k, rfl, hk, hd, hs4⟩
  have HF4 := Lib.hid (HF3.out.dr hd (by omega))
  have HD4 := Lib.hid (HD3.out.trans hd)
  have HX4 := Lib.hid (HX3.out.dr hd (by omega))
  have HS4 := Lib.hid hs4
  clear hd hs4 HF3 HD3 HS3 HX3
  rcases (show k = 0 ∨ k = 1 ∨ k = 2 ∨ 3 ≤ k by omega) with rfl | rfl | rfl | hk4
  · go_wp2_with fail
    refine (l02DrawAny_any HS4.out).mono ?_
    rintro e w5 ⟨p', pw', g', rfl, hd, hs5⟩
    have HF5 := Lib.hid (HF4.out.dr hd (by omega))
    have HD5 := Lib.hid (HD4.out.trans hd)
    have HX5 := Lib.hid (HX4.out.dr hd (by omega))
    have HS5 := Lib.hid hs5
    clear hd hs5 HF4 HD4 HS4 HX4
    have HFs := Lib.hid (((HF5.out.other (C := X) (o := 0) (by omega) (.int .i64 p')).other (C := X) (o := 1) (by omega) (.int .i64 pw')).other (C := X) (o := 2) (by omega) (.int .i64 g'))
    have HXs := Lib.hid (HX5.out.setF p' pw' g')
    have HSs := Lib.hid (((HS5.out.other (show s < X by omega) 0 (.int .i64 p')).other (show s < X by omega) 1 (.int .i64 pw')).other (show s < X by omega) 2 (.int .i64 g'))
    have HDs := Lib.hid (((HD5.out.setNew (B := X) (by omega) 0 (.int .i64 p')).setNew (B := X) (by omega) 1 (.int .i64 pw')).setNew (B := X) (by omega) 2 (.int .i64 g'))
    have y0 := HX5.out.c0
    have y1 := HX5.out.c1
    have y2 := HX5.out.c2
    have g0 := HX5.out.fz 0
    have g1 := HX5.out.fz 1
    have g2 := HX5.out.fz 2
    have r0 := HFs.out.c0
    have r1 := HFs.out.c1
    have r2 := HFs.out.c2
    have r3 := HFs.out.c3
    have r4 := HFs.out.c4
    have f0 := HFs.out.fz 0
    have f1 := HFs.out.fz 1
    have f2 := HFs.out.fz 2
    have f3 := HFs.out.fz 3
    have f4 := HFs.out.fz 4
    have x0 := HXs.out.c0
    have x1 := HXs.out.c1
    have x2 := HXs.out.c2
    have x3 := HXs.out.c3
    have x4 := HXs.out.c4
    have HFF := Lib.hid (HFs.out.set (p') (pw') (g') (l) (c))
    have HSF := Lib.hid (setC_src (B := w.heap.size) (p := p') (pw := pw') (g := g') (l := l) (c := c) HSs.out hsz)
    have HDF := Lib.hid (setC_dr (B := w.heap.size) (p := p') (pw := pw') (g := g') (l := l) (c := c) s HDs.out (Nat.le_refl _))
    go_wp2_with fail
    (try simp only [Exit.inBlock, Exit.then])
    exact ret_cell1 HRES.out Try.underlying40 rfl (by kernel_rfl) rfl rfl HFF.out.blk ⟨_, _, _, _, _, rfl, by omega, by omega, by omega, by omega, HDF.out, HSF.out⟩
  · have z3 := HX4.out.c3
    have QW := Lib.hid (show IntKind.i64.wrap (l - 1) = l - 1 from IntWalk.i64_in _ (by omega))
    have TF := Lib.hid (HF4.out.below (Drew.below (drew1 w4) _) HF4.out.lt)
    have TX := Lib.hid (HX4.out.below (Drew.below (drew1 w4) _) HX4.out.lt)
    have TS := Lib.hid (HS4.out.drew (drew1 w4))
    have TD := Lib.hid (HD4.out.drew (drew1 w4))
    have hXsz := TX.out.lt
    clear HF4 HX4 HS4 HD4
    go_wp2_with fail
    refine wp_region_last (S := (fun w' => w'.cell? ⟨X, 3, none⟩ = some (.int .i64 l))) 11 (by kernel_rfl) rfl (by kernel_rfl) ?_ (fun hHeld => ?_)
    · (try dsimp only); exact z3
    simp only [List.take_succ_cons, List.take_zero]
    refine wpAnyH_take (i := 0) (oi := _) (v := ?_) rfl (by kernel_rfl) (by kernel_rfl) (by kernel_rfl) (fun _ _ _ h => h) (Or.inl ⟨by rfl, ?_⟩) hHeld ?_
    rotate_left
    · intro w0 hSw; (try dsimp only at hSw); go_simp; (try with_reducible rfl)
    (try dsimp only [Act.put, List.setIfInBounds_toArray, List.set_cons_zero, List.set_cons_succ])
    refine wpAnyH_take (i := 1) (oi := _) (v := ?_) rfl (by kernel_rfl) (by kernel_rfl) (by kernel_rfl) (fun _ _ _ h => h) (Or.inl ⟨by rfl, ?_⟩) hHeld ?_
    rotate_left
    · intro w0 hSw; (try dsimp only at hSw); go_simp; (try with_reducible rfl)
    (try dsimp only [Act.put, List.setIfInBounds_toArray, List.set_cons_zero, List.set_cons_succ])
    refine wpAnyH_take (i := 2) (oi := _) (v := ?_) rfl (by kernel_rfl) (by kernel_rfl) (by kernel_rfl) (fun _ _ _ h => h) (Or.inl ⟨by rfl, ?_⟩) hHeld ?_
    rotate_left
    · intro w0 hSw; (try dsimp only at hSw); go_simp; (try with_reducible rfl)
    (try dsimp only [Act.put, List.setIfInBounds_toArray, List.set_cons_zero, List.set_cons_succ])
    refine wpAnyH_take (i := 3) (oi := _) (v := ?_) rfl (by kernel_rfl) (by kernel_rfl) (by kernel_rfl) (fun _ _ _ h => h) (Or.inl ⟨by rfl, ?_⟩) hHeld ?_
    rotate_left
    · intro w0 hSw; (try dsimp only at hSw); go_simp; (try with_reducible rfl)
    (try dsimp only [Act.put, List.setIfInBounds_toArray, List.set_cons_zero, List.set_cons_succ])
    refine wpAnyH_take (i := 4) (oi := _) (v := ?_) rfl (by kernel_rfl) (by kernel_rfl) (by kernel_rfl) (fun _ _ _ h => h) (Or.inl ⟨by rfl, ?_⟩) hHeld ?_
    rotate_left
    · intro w0 hSw; (try dsimp only at hSw); go_simp; (try with_reducible rfl)
    (try dsimp only [Act.put, List.setIfInBounds_toArray, List.set_cons_zero, List.set_cons_succ])
    refine wpAnyH_take (i := 6) (oi := _) (v := ?_) rfl (by kernel_rfl) (by kernel_rfl) (by kernel_rfl) (fun _ _ _ h => h) (Or.inl ⟨by rfl, ?_⟩) hHeld ?_
    rotate_left
    · intro w0 hSw; (try dsimp only at hSw); go_simp; (try with_reducible rfl)
    (try dsimp only [Act.put, List.setIfInBounds_toArray, List.set_cons_zero, List.set_cons_succ])
    refine wpAnyH_ready (rs := [5, 7]) (by kernel_rfl) (by simp) ?_
    refine AllReadyH.cons (o := _) rfl (fun K hK => ?_) (AllReadyH.cons (o := _) rfl (fun K hK => ?_) AllReadyH.nil)
    · go_simp
      (try rw [QW.out])
      go_wp2_with fail
      refine hK.out _ _ ?_ (fun hHeld => ?_)
      · (try dsimp only); exact keep_cell ((Below.refl _ _).alloc (Nat.le_refl _) _) hHeld
      clear hK K
      (try dsimp only [Act.put, List.setIfInBounds_toArray, List.set_cons_zero, List.set_cons_succ])
      refine wpAnyH_ready (rs := [7]) (by kernel_rfl) (by simp) ?_
      refine AllReadyH.cons (o := _) rfl (fun K hK => ?_) AllReadyH.nil
      go_simp
      refine (pickN_any TS.out [0, l, l - 1, 65] 2 4 (by omega) (by omega) (by simp)).mono ?_
      rintro e w5 ⟨q, rfl, hq, hc, hd, hs5, hz5⟩
      have hcq : w5.cell? ⟨w4.heap.size, q, none⟩ = some (.int .i64 (gi [0, l, l - 1, 65] q)) := hc q (by simpa using hq)
      have hq4 : (q : Int) < 4 := by omega
      have hS5 := hd.cell TX.out.c3 (show X ≠ s by omega)
      go_wp2_with fail
      refine hK.out _ _ ?_ (fun hHeld => ?_)
      · (try dsimp only); exact hS5
      clear hK K
      (try dsimp only [Act.put, List.setIfInBounds_toArray, List.set_cons_zero, List.set_cons_succ])
      refine wpAnyH_ready (rs := [8]) (by kernel_rfl) (by simp) ?_
      refine AllReadyH.cons (o := _) rfl (fun K hK => ?_) AllReadyH.nil
      go_simp
      go_wp2_with fail
      refine hK.out _ _ ?_ (fun hHeld => ?_)
      · (try dsimp only); exact hHeld
      clear hK K
      (try dsimp only [Act.put, List.setIfInBounds_toArray, List.set_cons_zero, List.set_cons_succ])
      refine wpAnyH_ready (rs := [9]) (by kernel_rfl) (by simp) ?_
      refine AllReadyH.cons (o := _) rfl (fun K hK => ?_) AllReadyH.nil
      go_simp
      go_wp2_with fail
      refine hK.out _ _ ?_ (fun hHeld => ?_)
      · (try dsimp only); exact hHeld
      clear hK K
      (try dsimp only [Act.put, List.setIfInBounds_toArray, List.set_cons_zero, List.set_cons_succ])
      refine wpAnyH_take (i := 10) (oi := _) (v := ?_) rfl (by kernel_rfl) (by kernel_rfl) (by kernel_rfl) (fun _ _ _ h => h) (Or.inl ⟨by rfl, ?_⟩) hHeld ?_
      rotate_left
      · intro w0 hSw; (try dsimp only at hSw); go_simp; (try with_reducible rfl)
      (try dsimp only [Act.put, List.setIfInBounds_toArray, List.set_cons_zero, List.set_cons_succ])
      refine wpAnyH_done (by kernel_rfl) (lastQ_normal ?_) _
      have HF5 := Lib.hid (TF.out.dr hd (by omega))
      have HD5 := Lib.hid (TD.out.trans hd)
      have HX5 := Lib.hid (TX.out.dr hd (by omega))
      have HS5 := Lib.hid hs5
      have hzb : -2000 ≤ gi [0, l, l - 1, 65] q ∧ gi [0, l, l - 1, 65] q ≤ 2000 := by
        have hz : ∀ z ∈ [0, l, l - 1, 65], -2000 ≤ z ∧ z ≤ 2000 := by simp; omega
        exact hz _ (gi_in (by simpa using hq))
      generalize gi [0, l, l - 1, 65] q = z at *
      have HFs := Lib.hid (HF5.out.other (show w.heap.size ≠ X by omega) (C := X) (o := 4) (.int .i64 (z)))
      have HXs := Lib.hid (HX5.out.set4 (z))
      have HSs := Lib.hid (HS5.out.other (show s < X by omega) 4 (.int .i64 (z)))
      have HDs := Lib.hid (HD5.out.setNew (B := X) (by omega) 4 (.int .i64 (z)))
      have y4 := HX5.out.c4
      have g4 := HX5.out.fz 4
      have r0 := HFs.out.c0
      have r1 := HFs.out.c1
      have r2 := HFs.out.c2
      have r3 := HFs.out.c3
      have r4 := HFs.out.c4
      have f0 := HFs.out.fz 0
      have f1 := HFs.out.fz 1
      have f2 := HFs.out.fz 2
      have f3 := HFs.out.fz 3
      have f4 := HFs.out.fz 4
      have x0 := HXs.out.c0
      have x1 := HXs.out.c1
      have x2 := HXs.out.c2
      have x3 := HXs.out.c3
      have x4 := HXs.out.c4
      have HFF := Lib.hid (HFs.out.set (p) (pw) (g) (l) (z))
      have HSF := Lib.hid (setC_src (B := w.heap.size) (p := p) (pw := pw) (g := g) (l := l) (c := z) HSs.out hsz)
      have HDF := Lib.hid (setC_dr (B := w.heap.size) (p := p) (pw := pw) (g := g) (l := l) (c := z) s HDs.out (Nat.le_refl _))
      go_wp2_with fail
      (try simp only [Exit.inBlock, Exit.then])
      exact ret_cell1 HRES.out Try.underlying40 rfl (by kernel_rfl) rfl rfl HFF.out.blk ⟨_, _, _, _, _, rfl, by omega, by omega, by omega, by omega, HDF.out, HSF.out⟩
    · go_simp
      refine (next_any TS.out 4 (by omega) (by omega)).mono ?_
      rintro e w5 ⟨q, rfl, hq, hd, hs5⟩
      have hS5 := hd.cell TX.out.c3 (show X ≠ s by omega)
      go_wp2_with fail
      refine hK.out _ _ ?_ (fun hHeld => ?_)
      · (try dsimp only); exact hS5
      clear hK K
      (try dsimp only [Act.put, List.setIfInBounds_toArray, List.set_cons_zero, List.set_cons_succ])
      refine wpAnyH_ready (rs := [5]) (by kernel_rfl) (by simp) ?_
      refine AllReadyH.cons (o := _) rfl (fun K hK => ?_) AllReadyH.nil
      go_simp
      (try rw [QW.out])
      have hq4 : (q : Int) < 4 := by omega
      have hcq := row_lit w5 [0, l, l - 1, 65] 2 (by simp) (k := q) (by simpa using hq)
      simp only [List.map_cons, List.map_nil] at hcq
      go_wp2_with fail
      refine hK.out _ _ ?_ (fun hHeld => ?_)
      · (try dsimp only); exact keep_cell ((Below.refl _ _).alloc (Nat.le_refl _) _) hHeld
      clear hK K
      (try dsimp only [Act.put, List.setIfInBounds_toArray, List.set_cons_zero, List.set_cons_succ])
      refine wpAnyH_ready (rs := [8]) (by kernel_rfl) (by simp) ?_
      refine AllReadyH.cons (o := _) rfl (fun K hK => ?_) AllReadyH.nil
      go_simp
      go_wp2_with fail
      refine hK.out _ _ ?_ (fun hHeld => ?_)
      · (try dsimp only); exact hHeld
      clear hK K
      (try dsimp only [Act.put, List.setIfInBounds_toArray, List.set_cons_zero, List.set_cons_succ])
      refine wpAnyH_ready (rs := [9]) (by kernel_rfl) (by simp) ?_
      refine AllReadyH.cons (o := _) rfl (fun K hK => ?_) AllReadyH.nil
      go_simp
      go_wp2_with fail
      refine hK.out _ _ ?_ (fun hHeld => ?_)
      · (try dsimp only); exact hHeld
      clear hK K
      (try dsimp only [Act.put, List.setIfInBounds_toArray, List.set_cons_zero, List.set_cons_succ])
      refine wpAnyH_take (i := 10) (oi := _) (v := ?_) rfl (by kernel_rfl) (by kernel_rfl) (by kernel_rfl) (fun _ _ _ h => h) (Or.inl ⟨by rfl, ?_⟩) hHeld ?_
      rotate_left
      · intro w0 hSw; (try dsimp only at hSw); go_simp; (try with_reducible rfl)
      (try dsimp only [Act.put, List.setIfInBounds_toArray, List.set_cons_zero, List.set_cons_succ])
      refine wpAnyH_done (by kernel_rfl) (lastQ_normal ?_) _
      have HF5' := (TF.out.dr hd (by omega))
      have HD5' := (TD.out.trans hd)
      have HX5' := (TX.out.dr hd (by omega))
      have HS5' := hs5
      have hA := (Below.refl w5.heap.size w5).alloc (Nat.le_refl _) (.cells #[.int .i64 0, .int .i64 l, .int .i64 (l - 1), .int .i64 65] 2)
      have HF5 := Lib.hid (HF5'.below hA HF5'.lt)
      have HX5 := Lib.hid (HX5'.below hA HX5'.lt)
      have HD5 := Lib.hid (HD5'.more hA)
      have HS5 := Lib.hid (HS5'.below hA)
      clear HF5' HX5' HD5' HS5' hA
      generalize w5.alloc (.cells #[.int .i64 0, .int .i64 l, .int .i64 (l - 1), .int .i64 65] 2) = w6 at *
      have hzb : -2000 ≤ gi [0, l, l - 1, 65] q ∧ gi [0, l, l - 1, 65] q ≤ 2000 := by
        have hz : ∀ z ∈ [0, l, l - 1, 65], -2000 ≤ z ∧ z ≤ 2000 := by simp; omega
        exact hz _ (gi_in (by simpa using hq))
      generalize gi [0, l, l - 1, 65] q = z at *
      have HFs := Lib.hid (HF5.out.other (show w.heap.size ≠ X by omega) (C := X) (o := 4) (.int .i64 (z)))
      have HXs := Lib.hid (HX5.out.set4 (z))
      have HSs := Lib.hid (HS5.out.other (show s < X by omega) 4 (.int .i64 (z)))
      have HDs := Lib.hid (HD5.out.setNew (B := X) (by omega) 4 (.int .i64 (z)))
      have y4 := HX5.out.c4
      have g4 := HX5.out.fz 4
      have r0 := HFs.out.c0
      have r1 := HFs.out.c1
      have r2 := HFs.out.c2
      have r3 := HFs.out.c3
      have r4 := HFs.out.c4
      have f0 := HFs.out.fz 0
      have f1 := HFs.out.fz 1
      have f2 := HFs.out.fz 2
      have f3 := HFs.out.fz 3
      have f4 := HFs.out.fz 4
      have x0 := HXs.out.c0
      have x1 := HXs.out.c1
      have x2 := HXs.out.c2
      have x3 := HXs.out.c3
      have x4 := HXs.out.c4
      have HFF := Lib.hid (HFs.out.set (p) (pw) (g) (l) (z))
      have HSF := Lib.hid (setC_src (B := w.heap.size) (p := p) (pw := pw) (g := g) (l := l) (c := z) HSs.out hsz)
      have HDF := Lib.hid (setC_dr (B := w.heap.size) (p := p) (pw := pw) (g := g) (l := l) (c := z) s HDs.out (Nat.le_refl _))
      go_wp2_with fail
      (try simp only [Exit.inBlock, Exit.then])
      exact ret_cell1 HRES.out Try.underlying40 rfl (by kernel_rfl) rfl rfl HFF.out.blk ⟨_, _, _, _, _, rfl, by omega, by omega, by omega, by omega, HDF.out, HSF.out⟩
  · have y0 := HX4.out.c0
    have y1 := HX4.out.c1
    have y2 := HX4.out.c2
    have y4 := HX4.out.c4
    have hszb := (ffOf_ok HV.out).hi
    have hszl := (ffOf_ok HV.out).lo
    have HSZ := Lib.hid (fun W => l02Size_any p pw g W (ranged_of HV.out))
    generalize (ffOf p pw g).size = z0 at *
    have QW := Lib.hid (show IntKind.i64.wrap (z0 - 1) = z0 - 1 from IntWalk.i64_in _ (by omega))
    have TF0 := Lib.hid (HF4.out.below (Drew.below (drew1 w4) _) HF4.out.lt)
    have TX0 := Lib.hid (HX4.out.below (Drew.below (drew1 w4) _) HX4.out.lt)
    have TS0 := Lib.hid (HS4.out.drew (drew1 w4))
    have TD0 := Lib.hid (HD4.out.drew (drew1 w4))
    have hXsz : X < w4.heap.size := HX4.out.lt
    clear HF4 HX4 HS4 HD4
    go_wp2_with fail
    refine wp_region_last (S := (fun w' => w'.cell? ⟨X, 0, none⟩ = some (.int .i64 p) ∧ w'.cell? ⟨X, 1, none⟩ = some (.int .i64 pw) ∧ w'.cell? ⟨X, 2, none⟩ = some (.int .i64 g) ∧ w'.cell? ⟨X, 4, none⟩ = some (.int .i64 c))) 15 (by kernel_rfl) rfl (by kernel_rfl) ?_ (fun hHeld => ?_)
    · (try dsimp only); exact ⟨y0, y1, y2, y4⟩
    simp only [List.take_succ_cons, List.take_zero]
    refine wpAnyH_take (i := 0) (oi := _) (v := ?_) rfl (by kernel_rfl) (by kernel_rfl) (by kernel_rfl) (fun _ _ _ h => h) (Or.inl ⟨by rfl, ?_⟩) hHeld ?_
    rotate_left
    · intro w0 hSw; (try dsimp only at hSw); go_simp; (try with_reducible rfl)
    (try dsimp only [Act.put, List.setIfInBounds_toArray, List.set_cons_zero, List.set_cons_succ])
    refine wpAnyH_take (i := 1) (oi := _) (v := ?_) rfl (by kernel_rfl) (by kernel_rfl) (by kernel_rfl) (fun _ _ _ h => h) (Or.inl ⟨by rfl, ?_⟩) hHeld ?_
    rotate_left
    · intro w0 hSw; (try dsimp only at hSw); go_simp; (try with_reducible rfl)
    (try dsimp only [Act.put, List.setIfInBounds_toArray, List.set_cons_zero, List.set_cons_succ])
    refine wpAnyH_take (i := 3) (oi := _) (v := ?_) rfl (by kernel_rfl) (by kernel_rfl) (by kernel_rfl) (fun _ _ _ h => h) (Or.inl ⟨by rfl, ?_⟩) hHeld ?_
    rotate_left
    · intro w0 hSw; (try dsimp only at hSw); go_simp; (try with_reducible rfl)
    (try dsimp only [Act.put, List.setIfInBounds_toArray, List.set_cons_zero, List.set_cons_succ])
    refine wpAnyH_take (i := 4) (oi := _) (v := ?_) rfl (by kernel_rfl) (by kernel_rfl) (by kernel_rfl) (fun _ _ _ h => h) (Or.inl ⟨by rfl, ?_⟩) hHeld ?_
    rotate_left
    · intro w0 hSw; (try dsimp only at hSw); go_simp; (try with_reducible rfl)
    (try dsimp only [Act.put, List.setIfInBounds_toArray, List.set_cons_zero, List.set_cons_succ])
    refine wpAnyH_take (i := 7) (oi := _) (v := ?_) rfl (by kernel_rfl) (by kernel_rfl) (by kernel_rfl) (fun _ _ _ h => h) (Or.inl ⟨by rfl, ?_⟩) hHeld ?_
    rotate_left
    · intro w0 hSw; (try dsimp only at hSw); go_simp; (try with_reducible rfl)
    (try dsimp only [Act.put, List.setIfInBounds_toArray, List.set_cons_zero, List.set_cons_succ])
    refine wpAnyH_take (i := 8) (oi := _) (v := ?_) rfl (by kernel_rfl) (by kernel_rfl) (by kernel_rfl) (fun _ _ _ h => h) (Or.inl ⟨by rfl, ?_⟩) hHeld ?_
    rotate_left
    · intro w0 hSw; (try dsimp only at hSw); go_simp; (try with_reducible rfl)
    (try dsimp only [Act.put, List.setIfInBounds_toArray, List.set_cons_zero, List.set_cons_succ])
    refine wpAnyH_take (i := 10) (oi := _) (v := ?_) rfl (by kernel_rfl) (by kernel_rfl) (by kernel_rfl) (fun _ _ _ h => h) (Or.inl ⟨by rfl, ?_⟩) hHeld ?_
    rotate_left
    · intro w0 hSw; (try dsimp only at hSw); go_simp; (try with_reducible rfl)
    (try dsimp only [Act.put, List.setIfInBounds_toArray, List.set_cons_zero, List.set_cons_succ])
    refine wpAnyH_ready (rs := [2]) (by kernel_rfl) (by simp) ?_
    refine AllReadyH.cons (o := _) rfl (fun K hK => ?_) AllReadyH.nil
    go_simp
    refine (HSZ.out _).mono ?_
    rintro e wA ⟨rfl, hbA⟩
    go_wp2_with fail
    refine hK.out _ _ ?_ (fun hHeld => ?_)
    · (try dsimp only); exact ⟨keep_cell hbA hHeld.1, keep_cell hbA hHeld.2.1, keep_cell hbA hHeld.2.2.1, keep_cell hbA hHeld.2.2.2⟩
    clear hK K
    (try dsimp only [Act.put, List.setIfInBounds_toArray, List.set_cons_zero, List.set_cons_succ])
    refine wpAnyH_ready (rs := [5]) (by kernel_rfl) (by simp) ?_
    refine AllReadyH.cons (o := _) rfl (fun K hK => ?_) AllReadyH.nil
    go_simp
    refine (HSZ.out _).mono ?_
    rintro e wB ⟨rfl, hbB⟩
    have TF := Lib.hid ((TF0.out.below hbA TF0.out.lt).below hbB (TF0.out.below hbA TF0.out.lt).lt)
    have TX := Lib.hid ((TX0.out.below hbA TX0.out.lt).below hbB (TX0.out.below hbA TX0.out.lt).lt)
    have TS := Lib.hid ((TS0.out.below hbA).below hbB)
    have TD := Lib.hid ((TD0.out.more hbA).more hbB)
    have hXB := TX.out.lt
    go_wp2_with fail
    refine hK.out _ _ ?_ (fun hHeld => ?_)
    · (try dsimp only); exact ⟨keep_cell hbB hHeld.1, keep_cell hbB hHeld.2.1, keep_cell hbB hHeld.2.2.1, keep_cell hbB hHeld.2.2.2⟩
    clear hK K
    (try dsimp only [Act.put, List.setIfInBounds_toArray, List.set_cons_zero, List.set_cons_succ])
    refine wpAnyH_take (i := 6) (oi := _) (v := ?_) rfl (by kernel_rfl) (by kernel_rfl) (by kernel_rfl) (fun _ _ _ h => h) (Or.inl ⟨by rfl, ?_⟩) hHeld ?_
    rotate_left
    · intro w0 hSw; (try dsimp only at hSw); go_simp; (try with_reducible rfl)
    (try dsimp only [Act.put, List.setIfInBounds_toArray, List.set_cons_zero, List.set_cons_succ])
    refine wpAnyH_ready (rs := [9, 11]) (by kernel_rfl) (by simp) ?_
    refine AllReadyH.cons (o := _) rfl (fun K hK => ?_) (AllReadyH.cons (o := _) rfl (fun K hK => ?_) AllReadyH.nil)
    · go_simp
      (try rw [QW.out])
      go_wp2_with fail
      refine hK.out _ _ ?_ (fun hHeld => ?_)
      · (try dsimp only); exact ⟨keep_cell ((Below.refl _ _).alloc (Nat.le_refl _) _) hHeld.1, keep_cell ((Below.refl _ _).alloc (Nat.le_refl _) _) hHeld.2.1, keep_cell ((Below.refl _ _).alloc (Nat.le_refl _) _) hHeld.2.2.1, keep_cell ((Below.refl _ _).alloc (Nat.le_refl _) _) hHeld.2.2.2⟩
      clear hK K
      (try dsimp only [Act.put, List.setIfInBounds_toArray, List.set_cons_zero, List.set_cons_succ])
      refine wpAnyH_ready (rs := [11]) (by kernel_rfl) (by simp) ?_
      refine AllReadyH.cons (o := _) rfl (fun K hK => ?_) AllReadyH.nil
      go_simp
      refine (pickN_any TS.out [z0, z0 - 1, c] 2 3 (by omega) (by omega) (by simp)).mono ?_
      rintro e w5 ⟨q, rfl, hq, hc, hd, hs5, hz5⟩
      have hcq := hc q (by simpa using hq)
      have hq4 : (q : Int) < 3 := by omega
      have hT := TX.out.dr hd (show X ≠ s by omega)
      go_wp2_with fail
      refine hK.out _ _ ?_ (fun hHeld => ?_)
      · (try dsimp only); exact ⟨hT.c0, hT.c1, hT.c2, hT.c4⟩
      clear hK K
      (try dsimp only [Act.put, List.setIfInBounds_toArray, List.set_cons_zero, List.set_cons_succ])
      refine wpAnyH_ready (rs := [12]) (by kernel_rfl) (by simp) ?_
      refine AllReadyH.cons (o := _) rfl (fun K hK => ?_) AllReadyH.nil
      go_simp
      go_wp2_with fail
      refine hK.out _ _ ?_ (fun hHeld => ?_)
      · (try dsimp only); exact hHeld
      clear hK K
      (try dsimp only [Act.put, List.setIfInBounds_toArray, List.set_cons_zero, List.set_cons_succ])
      refine wpAnyH_ready (rs := [13]) (by kernel_rfl) (by simp) ?_
      refine AllReadyH.cons (o := _) rfl (fun K hK => ?_) AllReadyH.nil
      go_simp
      go_wp2_with fail
      refine hK.out _ _ ?_ (fun hHeld => ?_)
      · (try dsimp only); exact hHeld
      clear hK K
      (try dsimp only [Act.put, List.setIfInBounds_toArray, List.set_cons_zero, List.set_cons_succ])
      refine wpAnyH_take (i := 14) (oi := _) (v := ?_) rfl (by kernel_rfl) (by kernel_rfl) (by kernel_rfl) (fun _ _ _ h => h) (Or.inl ⟨by rfl, ?_⟩) hHeld ?_
      rotate_left
      · intro w0 hSw; (try dsimp only at hSw); go_simp; (try with_reducible rfl)
      (try dsimp only [Act.put, List.setIfInBounds_toArray, List.set_cons_zero, List.set_cons_succ])
      refine wpAnyH_done (by kernel_rfl) (lastQ_normal ?_) _
      have HF5 := Lib.hid (TF.out.dr hd (by omega))
      have HD5 := Lib.hid (TD.out.trans hd)
      have HX5 := Lib.hid (TX.out.dr hd (by omega))
      have HS5 := Lib.hid hs5
      have hzb : -2000 ≤ gi [z0, z0 - 1, c] q ∧ gi [z0, z0 - 1, c] q ≤ 2000 := by
        have hz : ∀ z ∈ [z0, z0 - 1, c], -2000 ≤ z ∧ z ≤ 2000 := by simp; omega
        exact hz _ (gi_in (by simpa using hq))
      generalize gi [z0, z0 - 1, c] q = z at *
      have HFs := Lib.hid (HF5.out.other (show w.heap.size ≠ X by omega) (C := X) (o := 3) (.int .i64 (z)))
      have HXs := Lib.hid (HX5.out.set3 (z))
      have HSs := Lib.hid (HS5.out.other (show s < X by omega) 3 (.int .i64 (z)))
      have HDs := Lib.hid (HD5.out.setNew (B := X) (by omega) 3 (.int .i64 (z)))
      have y3 := HX5.out.c3
      have g3 := HX5.out.fz 3
      have r0 := HFs.out.c0
      have r1 := HFs.out.c1
      have r2 := HFs.out.c2
      have r3 := HFs.out.c3
      have r4 := HFs.out.c4
      have f0 := HFs.out.fz 0
      have f1 := HFs.out.fz 1
      have f2 := HFs.out.fz 2
      have f3 := HFs.out.fz 3
      have f4 := HFs.out.fz 4
      have x0 := HXs.out.c0
      have x1 := HXs.out.c1
      have x2 := HXs.out.c2
      have x3 := HXs.out.c3
      have x4 := HXs.out.c4
      have HFF := Lib.hid (HFs.out.set (p) (pw) (g) (z) (c))
      have HSF := Lib.hid (setC_src (B := w.heap.size) (p := p) (pw := pw) (g := g) (l := z) (c := c) HSs.out hsz)
      have HDF := Lib.hid (setC_dr (B := w.heap.size) (p := p) (pw := pw) (g := g) (l := z) (c := c) s HDs.out (Nat.le_refl _))
      go_wp2_with fail
      (try simp only [Exit.inBlock, Exit.then])
      exact ret_cell1 HRES.out Try.underlying40 rfl (by kernel_rfl) rfl rfl HFF.out.blk ⟨_, _, _, _, _, rfl, by omega, by omega, by omega, by omega, HDF.out, HSF.out⟩
    · go_simp
      refine (next_any TS.out 3 (by omega) (by omega)).mono ?_
      rintro e w5 ⟨q, rfl, hq, hd, hs5⟩
      have hT := TX.out.dr hd (show X ≠ s by omega)
      go_wp2_with fail
      refine hK.out _ _ ?_ (fun hHeld => ?_)
      · (try dsimp only); exact ⟨hT.c0, hT.c1, hT.c2, hT.c4⟩
      clear hK K
      (try dsimp only [Act.put, List.setIfInBounds_toArray, List.set_cons_zero, List.set_cons_succ])
      refine wpAnyH_ready (rs := [9]) (by kernel_rfl) (by simp) ?_
      refine AllReadyH.cons (o := _) rfl (fun K hK => ?_) AllReadyH.nil
      go_simp
      (try rw [QW.out])
      have hq4 : (q : Int) < 3 := by omega
      have hcq := row_lit w5 [z0, z0 - 1, c] 2 (by simp) (k := q) (by simpa using hq)
      simp only [List.map_cons, List.map_nil] at hcq
      go_wp2_with fail
      refine hK.out _ _ ?_ (fun hHeld => ?_)
      · (try dsimp only); exact ⟨keep_cell ((Below.refl _ _).alloc (Nat.le_refl _) _) hHeld.1, keep_cell ((Below.refl _ _).alloc (Nat.le_refl _) _) hHeld.2.1, keep_cell ((Below.refl _ _).alloc (Nat.le_refl _) _) hHeld.2.2.1, keep_cell ((Below.refl _ _).alloc (Nat.le_refl _) _) hHeld.2.2.2⟩
      clear hK K
      (try dsimp only [Act.put, List.setIfInBounds_toArray, List.set_cons_zero, List.set_cons_succ])
      refine wpAnyH_ready (rs := [12]) (by kernel_rfl) (by simp) ?_
      refine AllReadyH.cons (o := _) rfl (fun K hK => ?_) AllReadyH.nil
      go_simp
      go_wp2_with fail
      refine hK.out _ _ ?_ (fun hHeld => ?_)
      · (try dsimp only); exact hHeld
      clear hK K
      (try dsimp only [Act.put, List.setIfInBounds_toArray, List.set_cons_zero, List.set_cons_succ])
      refine wpAnyH_ready (rs := [13]) (by kernel_rfl) (by simp) ?_
      refine AllReadyH.cons (o := _) rfl (fun K hK => ?_) AllReadyH.nil
      go_simp
      go_wp2_with fail
      refine hK.out _ _ ?_ (fun hHeld => ?_)
      · (try dsimp only); exact hHeld
      clear hK K
      (try dsimp only [Act.put, List.setIfInBounds_toArray, List.set_cons_zero, List.set_cons_succ])
      refine wpAnyH_take (i := 14) (oi := _) (v := ?_) rfl (by kernel_rfl) (by kernel_rfl) (by kernel_rfl) (fun _ _ _ h => h) (Or.inl ⟨by rfl, ?_⟩) hHeld ?_
      rotate_left
      · intro w0 hSw; (try dsimp only at hSw); go_simp; (try with_reducible rfl)
      (try dsimp only [Act.put, List.setIfInBounds_toArray, List.set_cons_zero, List.set_cons_succ])
      refine wpAnyH_done (by kernel_rfl) (lastQ_normal ?_) _
      have HF5' := (TF.out.dr hd (by omega))
      have HD5' := (TD.out.trans hd)
      have HX5' := (TX.out.dr hd (by omega))
      have HS5' := hs5
      have hA := (Below.refl w5.heap.size w5).alloc (Nat.le_refl _) (.cells #[.int .i64 z0, .int .i64 (z0 - 1), .int .i64 c] 2)
      have HF5 := Lib.hid (HF5'.below hA HF5'.lt)
      have HX5 := Lib.hid (HX5'.below hA HX5'.lt)
      have HD5 := Lib.hid (HD5'.more hA)
      have HS5 := Lib.hid (HS5'.below hA)
      clear HF5' HX5' HD5' HS5' hA
      generalize w5.alloc (.cells #[.int .i64 z0, .int .i64 (z0 - 1), .int .i64 c] 2) = w6 at *
      have hzb : -2000 ≤ gi [z0, z0 - 1, c] q ∧ gi [z0, z0 - 1, c] q ≤ 2000 := by
        have hz : ∀ z ∈ [z0, z0 - 1, c], -2000 ≤ z ∧ z ≤ 2000 := by simp; omega
        exact hz _ (gi_in (by simpa using hq))
      generalize gi [z0, z0 - 1, c] q = z at *
      have HFs := Lib.hid (HF5.out.other (show w.heap.size ≠ X by omega) (C := X) (o := 3) (.int .i64 (z)))
      have HXs := Lib.hid (HX5.out.set3 (z))
      have HSs := Lib.hid (HS5.out.other (show s < X by omega) 3 (.int .i64 (z)))
      have HDs := Lib.hid (HD5.out.setNew (B := X) (by omega) 3 (.int .i64 (z)))
      have y3 := HX5.out.c3
      have g3 := HX5.out.fz 3
      have r0 := HFs.out.c0
      have r1 := HFs.out.c1
      have r2 := HFs.out.c2
      have r3 := HFs.out.c3
      have r4 := HFs.out.c4
      have f0 := HFs.out.fz 0
      have f1 := HFs.out.fz 1
      have f2 := HFs.out.fz 2
      have f3 := HFs.out.fz 3
      have f4 := HFs.out.fz 4
      have x0 := HXs.out.c0
      have x1 := HXs.out.c1
      have x2 := HXs.out.c2
      have x3 := HXs.out.c3
      have x4 := HXs.out.c4
      have HFF := Lib.hid (HFs.out.set (p) (pw) (g) (z) (c))
      have HSF := Lib.hid (setC_src (B := w.heap.size) (p := p) (pw := pw) (g := g) (l := z) (c := c) HSs.out hsz)
      have HDF := Lib.hid (setC_dr (B := w.heap.size) (p := p) (pw := pw) (g := g) (l := z) (c := c) s HDs.out (Nat.le_refl _))
      go_wp2_with fail
      (try simp only [Exit.inBlock, Exit.then])
      exact ret_cell1 HRES.out Try.underlying40 rfl (by kernel_rfl) rfl rfl HFF.out.blk ⟨_, _, _, _, _, rfl, by omega, by omega, by omega, by omega, HDF.out, HSF.out⟩
  · have q0 : ((k : Int) == 0) = false := by simp; omega
    have q1 : ((k : Int) == 1) = false := by simp; omega
    have q2 : ((k : Int) == 2) = false := by simp; omega
    have r0 := HF4.out.c0
    have r1 := HF4.out.c1
    have r2 := HF4.out.c2
    have r3 := HF4.out.c3
    have r4 := HF4.out.c4
    have f0 := HF4.out.fz 0
    have f1 := HF4.out.fz 1
    have f2 := HF4.out.fz 2
    have f3 := HF4.out.fz 3
    have f4 := HF4.out.fz 4
    have x0 := HX4.out.c0
    have x1 := HX4.out.c1
    have x2 := HX4.out.c2
    have x3 := HX4.out.c3
    have x4 := HX4.out.c4
    have HFF := Lib.hid (HF4.out.set (p) (pw) (g) (l) (c))
    have HSF := Lib.hid (setC_src (B := w.heap.size) (p := p) (pw := pw) (g := g) (l := l) (c := c) HS4.out hsz)
    have HDF := Lib.hid (setC_dr (B := w.heap.size) (p := p) (pw := pw) (g := g) (l := l) (c := c) s HD4.out (Nat.le_refl _))
    go_wp2_with fail
    (try simp only [Exit.inBlock, Exit.then])
    exact ret_cell1 HRES.out Try.underlying40 rfl (by kernel_rfl) rfl rfl HFF.out.blk ⟨_, _, _, _, _, rfl, by omega, by omega, by omega, by omega, HDF.out, HSF.out⟩
end Go.Proofs.Ythbiieflmmnfcaa
