/-
  The walks of the draws of elements; what the laws of fields draw.
-/
import Derived.Test.YtenlaoadclfmaaaDraw2
namespace Go.Proofs.Ytenlaoadclfmaaa
open Go.RowKit
set_option linter.unusedVariables false

theorem set3_cell {w : World} {R X o : Nat} {v v0 v1 v2 : Value} (hn : X ≠ R) (h : w.cell? ⟨X, o, none⟩ = some v) : (((w.setCell ⟨R, 0, none⟩ v0).setCell ⟨R, 1, none⟩ v1).setCell ⟨R, 2, none⟩ v2).cell? ⟨X, o, none⟩ = some v :=
  ((((Dr.refl R w).trans (.set R 0 w v0)).trans (.set R 1 _ v1)).trans (.set R 2 _ v2)).cell h hn
set_option maxHeartbeats 1000000 in
theorem l02DrawElement_any {w : World} {s : Nat} (hs : Src w s) (p pw g : Int) :
    Calls Try.prog 70 #[.pointer (some ⟨s, 0, none⟩), fV p pw g] w fun e w' => ∃ r, e = .returned (.int .i64 r) ∧ Dr s w w' ∧ Src w' s := by
  have B0 := Lib.hid (below1 w (.cells #[.int .i64 p, .int .i64 pw, .int .i64 g] FTa))
  have hsz := hs.lt
  have HS := Lib.hid (hs.below B0.out)
  have D0 := Lib.hid (Dr.of (s := s) B0.out)
  have F0 := FB.new w p pw g
  have c0 := F0.c0
  have c1 := F0.c1
  have c2 := F0.c2
  have hl0 := F0.lt
  have F0 := Lib.hid F0
  clear hs B0
  go_enter Try.func70, Try.ntmps70
  go_wp2_with fail
  generalize w.alloc (.cells #[.int .i64 p, .int .i64 pw, .int .i64 g] FTa) = w1 at *
  refine (isField_any p pw g w1).mono ?_
  rintro e w2 ⟨rfl, hb2⟩
  have HS2 := Lib.hid (HS.out.below hb2)
  have D2 := Lib.hid (D0.out.more hb2)
  have F2 := F0.out.below hb2 hl0
  have c0 := F2.c0
  have c1 := F2.c1
  have c2 := F2.c2
  clear F0 HS D0 hb2 F2
  cases hv : validB p pw g with
  | true =>
    have hszb := (ffOf_ok hv).hi
    have hszl := (ffOf_ok hv).lo
    have HSZ := Lib.hid (fun W => l02Size_any p pw g W (ranged_of hv))
    clear hv
    generalize (ffOf p pw g).size = z at *
    go_wp2_with fail
    refine (HSZ.out _).mono ?_
    rintro e w3 ⟨rfl, hb3⟩
    have HS3 := Lib.hid (HS2.out.below hb3)
    have D3 := Lib.hid (D2.out.more hb3)
    clear hb3 HS2 D2
    go_wp2_with fail
    refine (next_any HS3.out 24 (by omega) (by omega)).mono ?_
    rintro e w4 ⟨k, rfl, hk, hd, hs4⟩
    have HS4 := Lib.hid hs4
    have D4 := Lib.hid (D3.out.trans hd)
    clear hd hs4 HS3 D3
    by_cases hk0 : k = 0
    · subst hk0
      go_wp2_with fail
      refine (pickN_any HS4.out [-1, z, z - 1, 0] 2 4 (by omega) (by omega) (by simp)).mono ?_
      rintro e w5 ⟨q, rfl, hq, hc, hd, hs5, hz5⟩
      have hcq := hc q (by simpa using hq)
      have HS5 := Lib.hid hs5
      have D5 := Lib.hid (D4.out.trans hd)
      clear hc hd hs5
      generalize gi [-1, z, z - 1, 0] q = y at *
      go_wp2_with fail
      go_ret
      exact ⟨_, rfl, D5.out, HS5.out⟩
    · have hkb : ((k : Int) == 0) = false := by simp; omega
      go_wp2_with fail
      refine (l01Next_any HS4.out z (by omega)).mono ?_
      rintro e w5 ⟨r, rfl, _, hd, hs5⟩
      have HS5 := Lib.hid hs5
      have D5 := Lib.hid (D4.out.trans hd)
      clear hd hs5
      go_wp2_with fail
      go_ret
      exact ⟨_, rfl, D5.out, HS5.out⟩
  | false =>
    clear hv
    go_wp2_with fail
    refine (next_any HS2.out 24 (by omega) (by omega)).mono ?_
    rintro e w4 ⟨k, rfl, hk, hd, hs4⟩
    have HS4 := Lib.hid hs4
    have D4 := Lib.hid (D2.out.trans hd)
    clear hd hs4 HS2 D2
    by_cases hk0 : k = 0
    · subst hk0
      go_wp2_with fail
      refine (pickN_any HS4.out [-1, 8, 7, 0] 2 4 (by omega) (by omega) (by simp)).mono ?_
      rintro e w5 ⟨q, rfl, hq, hc, hd, hs5, hz5⟩
      have hcq := hc q (by simpa using hq)
      have HS5 := Lib.hid hs5
      have D5 := Lib.hid (D4.out.trans hd)
      clear hc hd hs5
      generalize gi [-1, 8, 7, 0] q = y at *
      go_wp2_with fail
      go_ret
      exact ⟨_, rfl, D5.out, HS5.out⟩
    · have hkb : ((k : Int) == 0) = false := by simp; omega
      go_wp2_with fail
      refine (l01Next_any HS4.out 8 (by omega)).mono ?_
      rintro e w5 ⟨r, rfl, _, hd, hs5⟩
      have HS5 := Lib.hid hs5
      have D5 := Lib.hid (D4.out.trans hd)
      clear hd hs5
      go_wp2_with fail
      go_ret
      exact ⟨_, rfl, D5.out, HS5.out⟩
set_option maxHeartbeats 2000000 in
theorem DrawFieldNeg_any {w : World} {c : Option Addr} {n cap : Nat} {bs : List Int} (hr : RowB w c n bs) :
    Calls Try.prog 80 #[.slice c n cap] w fun e w' => ∃ p pw g x, e = .returned (.tuple #[fV p pw g, .int .i64 x]) ∧ Below w.heap.size w w' := by
  have B0 := Lib.hid (below1 w (.cells #[.int .i64 0, .int .i64 0, .int .i64 0] FTa))
  have HR := Lib.hid (hr.below' B0.out)
  have F0 := Lib.hid (FB.new w 0 0 0)
  have HRES := Lib.hid (show Try.f80.results = #[.cell 2 FTa, .tmp 3] by kernel_rfl)
  clear hr
  go_enter Try.func80, Try.ntmps80
  go_wp2_with fail
  generalize w.alloc (.cells #[.int .i64 0, .int .i64 0, .int .i64 0] FTa) = w1 at *
  refine (l01From_any HR.out).mono ?_
  rintro e w2 ⟨s, rfl, hs, hb2, hsrc⟩
  have F2 := Lib.hid (F0.out.below hb2 F0.out.lt)
  have B2 := Lib.hid (B0.out.trans (hb2.mono B0.out.size))
  have hR : w.heap.size < s := Nat.lt_of_lt_of_le F0.out.lt hs
  have S2 := Lib.hid hsrc
  clear hb2 hsrc F0 B0 HR hs
  go_wp2_with fail
  refine (l02DrawAny_any S2.out).mono ?_
  rintro e w3 ⟨p, pw, g, rfl, hd, hs3⟩
  have F3 := Lib.hid ((F2.out.dr hd (by omega)).below (below1 w3 (.cells #[.int .i64 p, .int .i64 pw, .int .i64 g] FTa)) (F2.out.dr hd (by omega)).lt)
  have B3 := Lib.hid ((B2.out.trans (hd.below (by omega) B2.out.size)).alloc (Nat.le_trans B2.out.size hd.size) (.cells #[.int .i64 p, .int .i64 pw, .int .i64 g] FTa))
  have S3 := Lib.hid (hs3.alloc (.cells #[.int .i64 p, .int .i64 pw, .int .i64 g] FTa))
  have X3 := FB.new w3 p pw g
  obtain ⟨X, hX⟩ : ∃ X, X = w3.heap.size := ⟨_, rfl⟩
  have hXs : s < X := by rw [hX]; exact hs3.lt
  have hXR : X ≠ w.heap.size := by omega
  rw [← hX] at X3
  clear hd hs3 F2 B2 S2
  go_wp2_with fail
  rw [← hX]
  clear hX
  generalize w3.alloc (.cells #[.int .i64 p, .int .i64 pw, .int .i64 g] FTa) = w4 at *
  have c0 := X3.c0
  have c1 := X3.c1
  have c2 := X3.c2
  have HX := Lib.hid X3
  clear X3
  go_region_held3 (fun w' => w'.cell? ⟨X, 0, none⟩ = some (.int .i64 p) ∧ w'.cell? ⟨X, 1, none⟩ = some (.int .i64 pw) ∧ w'.cell? ⟨X, 2, none⟩ = some (.int .i64 g))
    (first | go_keep | ((try (dsimp only)); go_split_ands; (repeat' apply And.intro); all_goals (first | assumption | exact set3_cell hXR (by assumption))))
    (first | (go_at_call 70; refine (l02DrawElement_any (S3.out.below (Drew.below (drew1 _) _)) p pw g).mono ?_; rintro e w5 ⟨r, rfl, hd5, hs5⟩; have k0 := hd5.cell (HX.out.below (Drew.below (drew1 w4) _) HX.out.lt).c0 (show X ≠ s by omega); have k1 := hd5.cell (HX.out.below (Drew.below (drew1 w4) _) HX.out.lt).c1 (show X ≠ s by omega); have k2 := hd5.cell (HX.out.below (Drew.below (drew1 w4) _) HX.out.lt).c2 (show X ≠ s by omega); have F5 := ((F3.out.below (Drew.below (drew1 w4) _) F3.out.lt).dr hd5 (show w.heap.size ≠ s by omega)); have r0 := F5.c0; have r1 := F5.c1; have r2 := F5.c2; have f0 := F5.fz 0; have f1 := F5.fz 1; have f2 := F5.fz 2))
  have FF := Lib.hid (F5.set p pw g)
  have BF := Lib.hid (((((B3.out.trans (Drew.below (drew1 w4) _)).trans (hd5.below (B := w.heap.size) (by omega) (Nat.le_trans B3.out.size (Nat.le_refl _)))).setCell (p := ⟨w.heap.size, 0, none⟩) (Nat.le_refl _) (.int .i64 p)).setCell (p := ⟨w.heap.size, 1, none⟩) (Nat.le_refl _) (.int .i64 pw)).setCell (p := ⟨w.heap.size, 2, none⟩) (Nat.le_refl _) (.int .i64 g))
  clear r0 r1 r2 f0 f1 f2 k0 k1 k2 F5 c0 c1 c2
  go_wp2_with fail
  (try simp only [Exit.inBlock, Exit.then])
  exact ret_cell2 HRES.out Try.underlying27 rfl (by kernel_rfl) rfl rfl FF.out.blk ⟨_, _, _, _, rfl, BF.out⟩
set_option maxHeartbeats 2000000 in
theorem DrawFieldAdd_any {w : World} {c : Option Addr} {n cap : Nat} {bs : List Int} (hr : RowB w c n bs) :
    Calls Try.prog 28 #[.slice c n cap] w fun e w' => ∃ p pw g x y, e = .returned (.tuple #[fV p pw g, .int .i64 x, .int .i64 y]) ∧ Below w.heap.size w w' := by
  have B0 := Lib.hid (below1 w (.cells #[.int .i64 0, .int .i64 0, .int .i64 0] FTa))
  have HR := Lib.hid (hr.below' B0.out)
  have F0 := Lib.hid (FB.new w 0 0 0)
  have HRES := Lib.hid (show Try.f28.results = #[.cell 2 FTa, .tmp 3, .tmp 4] by kernel_rfl)
  clear hr
  go_enter Try.func28, Try.ntmps28
  go_wp2_with fail
  generalize w.alloc (.cells #[.int .i64 0, .int .i64 0, .int .i64 0] FTa) = w1 at *
  refine (l01From_any HR.out).mono ?_
  rintro e w2 ⟨s, rfl, hs, hb2, hsrc⟩
  have F2 := Lib.hid (F0.out.below hb2 F0.out.lt)
  have B2 := Lib.hid (B0.out.trans (hb2.mono B0.out.size))
  have hR : w.heap.size < s := Nat.lt_of_lt_of_le F0.out.lt hs
  have S2 := Lib.hid hsrc
  clear hb2 hsrc F0 B0 HR hs
  go_wp2_with fail
  refine (l02DrawAny_any S2.out).mono ?_
  rintro e w3 ⟨p, pw, g, rfl, hd, hs3⟩
  have F3 := Lib.hid ((F2.out.dr hd (by omega)).below (below1 w3 (.cells #[.int .i64 p, .int .i64 pw, .int .i64 g] FTa)) (F2.out.dr hd (by omega)).lt)
  have B3 := Lib.hid ((B2.out.trans (hd.below (by omega) B2.out.size)).alloc (Nat.le_trans B2.out.size hd.size) (.cells #[.int .i64 p, .int .i64 pw, .int .i64 g] FTa))
  have S3 := Lib.hid (hs3.alloc (.cells #[.int .i64 p, .int .i64 pw, .int .i64 g] FTa))
  have X3 := FB.new w3 p pw g
  obtain ⟨X, hX⟩ : ∃ X, X = w3.heap.size := ⟨_, rfl⟩
  have hXs : s < X := by rw [hX]; exact hs3.lt
  have hXR : X ≠ w.heap.size := by omega
  rw [← hX] at X3
  clear hd hs3 F2 B2 S2
  go_wp2_with fail
  rw [← hX]
  clear hX
  generalize w3.alloc (.cells #[.int .i64 p, .int .i64 pw, .int .i64 g] FTa) = w4 at *
  have c0 := X3.c0
  have c1 := X3.c1
  have c2 := X3.c2
  have HX := Lib.hid X3
  clear X3
  go_wp2_with fail
  refine (l02DrawElement_any S3.out p pw g).mono ?_
  rintro e w4' ⟨r', rfl, hd4, hs4⟩
  clear c0 c1 c2
  have HXn := Lib.hid (HX.out.dr hd4 (show X ≠ s by omega))
  have F3n := Lib.hid (F3.out.dr hd4 (show w.heap.size ≠ s by omega))
  have B3n := Lib.hid (B3.out.trans (hd4.below (B := w.heap.size) (by omega) B3.out.size))
  have S3n := Lib.hid hs4
  have c0 := HXn.out.c0
  have c1 := HXn.out.c1
  have c2 := HXn.out.c2
  clear hd4 hs4 HX F3 B3 S3
  obtain ⟨HX, F3, B3, S3⟩ := show _ ∧ _ ∧ _ ∧ _ from ⟨HXn, F3n, B3n, S3n⟩
  clear HXn F3n B3n S3n
  clear w4
  rename World => w4
  go_wp2_with fail
  go_region_held3 (fun w' => w'.cell? ⟨X, 0, none⟩ = some (.int .i64 p) ∧ w'.cell? ⟨X, 1, none⟩ = some (.int .i64 pw) ∧ w'.cell? ⟨X, 2, none⟩ = some (.int .i64 g))
    (first | go_keep | ((try (dsimp only)); go_split_ands; (repeat' apply And.intro); all_goals (first | assumption | exact set3_cell hXR (by assumption))))
    (first | (go_at_call 70; refine (l02DrawElement_any (S3.out.below (Drew.below (drew1 _) _)) p pw g).mono ?_; rintro e w5 ⟨r, rfl, hd5, hs5⟩; have k0 := hd5.cell (HX.out.below (Drew.below (drew1 w4) _) HX.out.lt).c0 (show X ≠ s by omega); have k1 := hd5.cell (HX.out.below (Drew.below (drew1 w4) _) HX.out.lt).c1 (show X ≠ s by omega); have k2 := hd5.cell (HX.out.below (Drew.below (drew1 w4) _) HX.out.lt).c2 (show X ≠ s by omega); have F5 := ((F3.out.below (Drew.below (drew1 w4) _) F3.out.lt).dr hd5 (show w.heap.size ≠ s by omega)); have r0 := F5.c0; have r1 := F5.c1; have r2 := F5.c2; have f0 := F5.fz 0; have f1 := F5.fz 1; have f2 := F5.fz 2))
  have FF := Lib.hid (F5.set p pw g)
  have BF := Lib.hid (((((B3.out.trans (Drew.below (drew1 w4) _)).trans (hd5.below (B := w.heap.size) (by omega) (Nat.le_trans B3.out.size (Nat.le_refl _)))).setCell (p := ⟨w.heap.size, 0, none⟩) (Nat.le_refl _) (.int .i64 p)).setCell (p := ⟨w.heap.size, 1, none⟩) (Nat.le_refl _) (.int .i64 pw)).setCell (p := ⟨w.heap.size, 2, none⟩) (Nat.le_refl _) (.int .i64 g))
  clear r0 r1 r2 f0 f1 f2 k0 k1 k2 F5 c0 c1 c2
  go_wp2_with fail
  (try simp only [Exit.inBlock, Exit.then])
  exact ret_cell3 HRES.out Try.underlying27 rfl (by kernel_rfl) rfl rfl FF.out.blk ⟨_, _, _, _, _, rfl, BF.out⟩
theorem DrawFieldInv_any {w : World} {c : Option Addr} {n cap : Nat} {bs : List Int} (hr : RowB w c n bs) :
    Calls Try.prog 39 #[.slice c n cap] w fun e w' => ∃ p pw g x, e = .returned (.tuple #[fV p pw g, .int .i64 x]) ∧ Below w.heap.size w w' := by
  have B0 := Lib.hid (below1 w (.cells #[.int .i64 0, .int .i64 0, .int .i64 0] FTa))
  have HR := Lib.hid (hr.below' B0.out)
  have F0 := Lib.hid (FB.new w 0 0 0)
  have HRES := Lib.hid (show Try.f39.results = #[.cell 2 FTa, .tmp 3] by kernel_rfl)
  clear hr
  go_enter Try.func39, Try.ntmps39
  go_wp2_with fail
  generalize w.alloc (.cells #[.int .i64 0, .int .i64 0, .int .i64 0] FTa) = w1 at *
  refine (DrawFieldNeg_any HR.out).mono ?_
  rintro e w2 ⟨p, pw, g, x, rfl, hb2⟩
  have F2 := F0.out.below hb2 F0.out.lt
  have r0 := F2.c0
  have r1 := F2.c1
  have r2 := F2.c2
  have f0 := F2.fz 0
  have f1 := F2.fz 1
  have f2 := F2.fz 2
  have FF := Lib.hid (F2.set p pw g)
  have BF := Lib.hid ((((B0.out.trans (hb2.mono B0.out.size)).setCell (p := ⟨w.heap.size, 0, none⟩) (Nat.le_refl _) (.int .i64 p)).setCell (p := ⟨w.heap.size, 1, none⟩) (Nat.le_refl _) (.int .i64 pw)).setCell (p := ⟨w.heap.size, 2, none⟩) (Nat.le_refl _) (.int .i64 g))
  clear F2 hb2
  go_wp2_with fail
  (try simp only [Exit.inBlock, Exit.then])
  exact ret_cell2 HRES.out Try.underlying27 rfl (by kernel_rfl) rfl rfl FF.out.blk ⟨_, _, _, _, rfl, BF.out⟩
end Go.Proofs.Ytenlaoadclfmaaa
