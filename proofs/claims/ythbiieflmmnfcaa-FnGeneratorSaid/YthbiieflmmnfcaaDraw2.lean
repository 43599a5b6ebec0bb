/-
  The walks of the draws of fields and elements.
-/
import Derived.Test.YthbiieflmmnfcaaDraw
import Derived.Test.YthbiieflmmnfcaaField2
namespace Go.Proofs.Ythbiieflmmnfcaa
open Go.RowKit
set_option linter.unusedVariables false

theorem FB.dr {s : Nat} {w w' : World} {B : Nat} {p pw g : Int} (h : FB w B p pw g) (hd : Dr s w w') (hn : B ≠ s) : FB w' B p pw g := ⟨(hd.block B h.lt hn).trans h.blk⟩
theorem gi_in {l : List Int} {k : Nat} (h : k < l.length) : gi l k ∈ l := by
  unfold gi; rw [List.getD_eq_getElem?_getD, List.getElem?_eq_getElem h]; exact List.getElem_mem h
/-- What is drawn is a list of numbers. -/
theorem row_new (W : World) (xs : List Int) (t : TypeId) (h : xs.length ≤ 1000) : RowAt (W.alloc (.cells (xs.map (Value.int .i64)).toArray t)) (some ⟨W.heap.size, 0, none⟩) xs.length xs :=
  ⟨rfl, by omega, fun _ => ⟨_, 0, rfl, by simp, fun j hj => by
    unfold World.cell?; rw [heap_new]
    simp only [Option.isSome_none, Bool.false_eq_true, if_false]
    unfold gi
    simp [List.getElem?_map, List.getD_eq_getElem?_getD, hj]⟩⟩
/-- One of the numbers of a list that was just laid. -/
theorem pick_any {W : World} {s : Nat} (hs : Src W s) (xs : List Int) (t : TypeId) (h1 : 1 < xs.length) (h2 : xs.length ≤ 1000) :
    Calls Try.prog 94 #[.pointer (some ⟨s, 0, none⟩), .int .i64 (xs.length : Int)] (W.alloc (.cells (xs.map (Value.int .i64)).toArray t)) fun e w' => ∃ k : Nat, e = .returned (.int .i64 (k : Int)) ∧ k < xs.length ∧ gi xs k ∈ xs ∧
      w'.cell? ⟨W.heap.size, k, none⟩ = some (.int .i64 (gi xs k)) ∧ Dr s W w' ∧ Src w' s ∧ W.heap.size < w'.heap.size := by
  have hb := (Below.refl W.heap.size W).alloc (Nat.le_refl _) (.cells (xs.map (Value.int .i64)).toArray t)
  refine (l01Next_any (hs.below hb) _ (by omega)).mono ?_
  rintro e w2 ⟨r, rfl, hr, hd, hs2⟩
  obtain ⟨hr0, hr1⟩ := hr.2 (by omega)
  obtain ⟨k, rfl⟩ := Int.eq_ofNat_of_zero_le hr0
  have hk : k < xs.length := by omega
  have hlt := hs.lt
  have hrow := (row_new W xs t h2).dr hd (fun x hx => by cases hx; show W.heap.size ≠ s; omega)
  obtain ⟨b, off, e, _, hcell⟩ := hrow.at' (by omega)
  cases e
  have hc := hcell k hk
  rw [Nat.zero_add] at hc
  have := hd.size
  exact ⟨k, rfl, hk, gi_in hk, hc, (Dr.of hb).trans hd, hs2, by simp at this; omega⟩
set_option maxHeartbeats 1000000 in
theorem l02Draw_any {w : World} {s : Nat} (hs : Src w s) :
    Calls Try.prog 184 #[.pointer (some ⟨s, 0, none⟩)] w fun e w' => ∃ p pw g, e = .returned (fV p pw g) ∧ FldOk p pw g ∧ Dr s w w' ∧ Src w' s := by
  have F0 := Lib.hid (FB.new w 0 0 0)
  have B0 := Lib.hid (below1 w (.cells #[.int .i64 0, .int .i64 0, .int .i64 0] FTa))
  have hsz := hs.lt
  have hw1 : (w.alloc (.cells #[.int .i64 0, .int .i64 0, .int .i64 0] FTa)).heap.size = w.heap.size + 1 := by simp
  have HS := Lib.hid (hs.below B0.out)
  have D0 := Lib.hid (Dr.of (s := s) B0.out)
  have HRES := Lib.hid (show Try.f184.results = #[.cell 2 FTa] by kernel_rfl)
  clear hs B0
  go_enter Try.func184, Try.ntmps184
  go_wp2_with fail
  generalize w.alloc (.cells #[.int .i64 0, .int .i64 0, .int .i64 0] FTa) = w1 at *
  refine (pick_any HS.out [8, 16, 32, 64, 7, 11, 13, 17, 31, 256, 101, 3] 2 (by simp) (by simp)).mono ?_
  rintro e w2 ⟨k, rfl, hk, hgm, hc, hd, hs2, hz2⟩
  rw [hw1] at hc
  have hz : ∀ z ∈ [8, 16, 32, 64, 7, 11, 13, 17, 31, 256, 101, (3 : Int)], 3 ≤ z ∧ z ≤ 1021 := by decide
  have hzk := hz _ hgm
  have HF2 := Lib.hid (F0.out.dr hd (by omega))
  have HD2 := Lib.hid (D0.out.trans hd)
  have HS2 := Lib.hid hs2
  clear hz hd hs2 hgm F0 HS D0
  have hk : k < 12 := hk
  generalize gi [8, 16, 32, 64, 7, 11, 13, 17, 31, 256, 101, 3] k = z at *
  go_wp2_with fail
  refine (FieldOf_any z hzk.1 hzk.2 _).mono ?_
  rintro e w3 ⟨p, pw, g, cd, rfl, hb3, hfo, -⟩
  have HS3 := Lib.hid (HS2.out.below hb3)
  have HD3 := Lib.hid (HD2.out.more hb3)
  have HF3 := HF2.out.below hb3 HF2.out.lt
  have HFO := Lib.hid hfo
  have r0 := HF3.c0
  have r1 := HF3.c1
  have r2 := HF3.c2
  have f0 := HF3.fz 0
  have f1 := HF3.fz 1
  have f2 := HF3.fz 2
  have hl3 := HF3.lt
  have HF3 := Lib.hid HF3
  clear hb3 hfo HF2 HS2 HD2
  have HSF := Lib.hid (((((HS3.out.other (B := w.heap.size) hsz 0 (.int .i64 p)).other (B := w.heap.size) hsz 1 (.int .i64 pw)).other (B := w.heap.size) hsz 2 (.int .i64 g)).alloc (.cells #[.int .i64 p, .int .i64 pw, .int .i64 g] FTa)))
  have HDF := Lib.hid (((((HD3.out.setNew (B := w.heap.size) (Nat.le_refl _) 0 (.int .i64 p)).setNew (B := w.heap.size) (Nat.le_refl _) 1 (.int .i64 pw)).setNew (B := w.heap.size) (Nat.le_refl _) 2 (.int .i64 g)).alloc (.cells #[.int .i64 p, .int .i64 pw, .int .i64 g] FTa)))
  have HFF := Lib.hid ((HF3.out.set p pw g).below (below1 _ (.cells #[.int .i64 p, .int .i64 pw, .int .i64 g] FTa)) (HF3.out.set p pw g).lt)
  go_wp2_with fail
  (try simp only [Exit.inBlock, Exit.then])
  exact ret_cell1 HRES.out Try.underlying29 rfl (by kernel_rfl) rfl rfl HFF.out.blk ⟨_, _, _, rfl, HFO.out, HDF.out, HSF.out⟩
/-- A number below n, behind a list that was just laid. -/
theorem pickN_any {W : World} {s : Nat} (hs : Src W s) (xs : List Int) (t : TypeId) (n : Nat) (h1 : 1 < n) (hn : n ≤ 1000) (h2 : xs.length ≤ 1000) :
    Calls Try.prog 94 #[.pointer (some ⟨s, 0, none⟩), .int .i64 (n : Int)] (W.alloc (.cells (xs.map (Value.int .i64)).toArray t)) fun e w' => ∃ k : Nat, e = .returned (.int .i64 (k : Int)) ∧ k < n ∧
      (∀ j, j < xs.length → w'.cell? ⟨W.heap.size, j, none⟩ = some (.int .i64 (gi xs j))) ∧ Dr s W w' ∧ Src w' s ∧ W.heap.size < w'.heap.size := by
  have hb := (Below.refl W.heap.size W).alloc (Nat.le_refl _) (.cells (xs.map (Value.int .i64)).toArray t)
  refine (l01Next_any (hs.below hb) _ (by omega)).mono ?_
  rintro e w2 ⟨r, rfl, hr, hd, hs2⟩
  obtain ⟨hr0, hr1⟩ := hr.2 (by omega)
  obtain ⟨k, rfl⟩ := Int.eq_ofNat_of_zero_le hr0
  have hlt := hs.lt
  have hrow := (row_new W xs t h2).dr hd (fun x hx => by cases hx; show W.heap.size ≠ s; omega)
  have := hd.size
  refine ⟨k, rfl, by omega, fun j hj => ?_, (Dr.of hb).trans hd, hs2, by simp at this; omega⟩
  obtain ⟨b, off, e, _, hcell⟩ := hrow.at' (by omega)
  cases e
  have hc := hcell j hj
  rw [Nat.zero_add] at hc
  exact hc
/-- A number below n. -/
theorem next_any {W : World} {s : Nat} (hs : Src W s) (n : Nat) (h1 : 1 < n) (hn : n ≤ 100000) :
    Calls Try.prog 94 #[.pointer (some ⟨s, 0, none⟩), .int .i64 (n : Int)] W fun e w' => ∃ k : Nat, e = .returned (.int .i64 (k : Int)) ∧ k < n ∧ Dr s W w' ∧ Src w' s := by
  refine (l01Next_any hs _ (by omega)).mono ?_
  rintro e w2 ⟨r, rfl, hr, hd, hs2⟩
  obtain ⟨hr0, hr1⟩ := hr.2 (by omega)
  obtain ⟨k, rfl⟩ := Int.eq_ofNat_of_zero_le hr0
  exact ⟨k, rfl, by omega, hd, hs2⟩
theorem FldOk.bd {p pw g : Int} (h : FldOk p pw g) : 0 ≤ g ∧ g ≤ 2000 := by
  rcases h with h | ⟨_, _, rfl⟩
  · have hr := ranged_of h
    unfold validB at h; simp only [decide_eq_true_eq] at h
    rcases h with ⟨h1, h2, h3, h4, h5, h6, h7, _⟩ | ⟨h1, h2, h3, h4, h5, h6⟩
    · omega
    · rcases hr with ⟨e, _⟩ | ⟨a1, a2, a3, a4⟩
      · omega
      · have hhi : 2 ^ pw.toNat ≤ 2 ^ 8 := Nat.pow_le_pow_right (by omega) (by omega)
        omega
  · omega
set_option maxHeartbeats 1000000 in
theorem l02DrawAny_any {w : World} {s : Nat} (hs : Src w s) :
    Calls Try.prog 149 #[.pointer (some ⟨s, 0, none⟩)] w fun e w' => ∃ p pw g, e = .returned (fV p pw g) ∧ Dr s w w' ∧ Src w' s := by
  have F0 := Lib.hid (FB.new w 0 0 0)
  have B0 := Lib.hid (below1 w (.cells #[.int .i64 0, .int .i64 0, .int .i64 0] FTa))
  have hsz := hs.lt
  have HS := Lib.hid (hs.below B0.out)
  have D0 := Lib.hid (Dr.of (s := s) B0.out)
  have HRES := Lib.hid (show Try.f149.results = #[.cell 2 FTa] by kernel_rfl)
  clear hs B0
  go_enter Try.func149, Try.ntmps149
  go_wp2_with fail
  generalize w.alloc (.cells #[.int .i64 0, .int .i64 0, .int .i64 0] FTa) = w1 at *
  refine (l02Draw_any HS.out).mono ?_
  rintro e w2 ⟨p, pw, g, rfl, hfo, hd, hs2⟩
  have HF2 := Lib.hid ((F0.out.dr hd (by omega)).below (below1 w2 (.cells #[.int .i64 p, .int .i64 pw, .int .i64 g] FTa)) (F0.out.dr hd (by omega)).lt)
  have HD2 := Lib.hid ((D0.out.trans hd).alloc (.cells #[.int .i64 p, .int .i64 pw, .int .i64 g] FTa))
  have HS2 := Lib.hid (hs2.alloc (.cells #[.int .i64 p, .int .i64 pw, .int .i64 g] FTa))
  have HX2 := Lib.hid (FB.new w2 p pw g)
  have hx2 : w.heap.size < w2.heap.size := (F0.out.dr hd (by omega)).lt
  obtain ⟨X, hX⟩ : ∃ X, X = w2.heap.size := ⟨_, rfl⟩
  rw [← hX] at HX2 hx2
  have HFO := Lib.hid hfo
  clear hfo hd hs2 F0 HS D0
  go_wp2_with fail
  rw [← hX]
  clear hX
  generalize w2.alloc (.cells #[.int .i64 p, .int .i64 pw, .int .i64 g] FTa) = w3 at *
  refine (next_any HS2.out 20 (by omega) (by omega)).mono ?_
  rintro e w4 ⟨k, rfl, hk, hd, hs4⟩
  have HF4 := Lib.hid (HF2.out.dr hd (by omega))
  have HD4 := Lib.hid (HD2.out.trans hd)
  have HS4 := Lib.hid hs4
  have HX4 := Lib.hid (HX2.out.dr hd (by omega))
  clear hd hs4 HF2 HD2 HS2 HX2
  rcases (show k = 0 ∨ k = 1 ∨ k = 2 ∨ k = 3 ∨ 4 ≤ k by omega) with rfl | rfl | rfl | rfl | hk4
  · have hgb := HFO.out.bd
    have HFs := Lib.hid (HF4.out.other (show w.heap.size ≠ X by omega) (C := X) (o := 2) (.int .i64 (g + 1)))
    have HXs := Lib.hid (HX4.out.set2 (g + 1))
    have HSs := Lib.hid (HS4.out.other (show s < X by omega) 2 (.int .i64 (g + 1)))
    have HDs := Lib.hid (HD4.out.setNew (B := X) (by omega) 2 (.int .i64 (g + 1)))
    have y2 := HX4.out.c2
    have g2 := HX4.out.fz 2
    have r0 := HFs.out.c0
    have r1 := HFs.out.c1
    have r2 := HFs.out.c2
    have f0 := HFs.out.fz 0
    have f1 := HFs.out.fz 1
    have f2 := HFs.out.fz 2
    have x0 := HXs.out.c0
    have x1 := HXs.out.c1
    have x2 := HXs.out.c2
    have HFF := Lib.hid (HFs.out.set (p) (pw) (g + 1))
    have HSF := Lib.hid (((HSs.out.other (B := w.heap.size) hsz 0 (.int .i64 (p))).other (B := w.heap.size) hsz 1 (.int .i64 (pw))).other (B := w.heap.size) hsz 2 (.int .i64 (g + 1)))
    have HDF := Lib.hid (((HDs.out.setNew (B := w.heap.size) (Nat.le_refl _) 0 (.int .i64 (p))).setNew (B := w.heap.size) (Nat.le_refl _) 1 (.int .i64 (pw))).setNew (B := w.heap.size) (Nat.le_refl _) 2 (.int .i64 (g + 1)))
    go_wp2_with fail
    (try simp only [Exit.inBlock, Exit.then])
    exact ret_cell1 HRES.out Try.underlying29 rfl (by kernel_rfl) rfl rfl HFF.out.blk ⟨_, _, _, rfl, HDF.out, HSF.out⟩
  · go_wp2_with fail
    refine (pickN_any HS4.out [0, 1, 2, 9] 2 4 (by omega) (by omega) (by simp)).mono ?_
    rintro e w5 ⟨q, rfl, hq, hc, hd, hs5, hz5⟩
    have hcq := hc q (by simpa using hq)
    have HF5 := Lib.hid (HF4.out.dr hd (by omega))
    have HD5 := Lib.hid (HD4.out.trans hd)
    have HX5 := Lib.hid (HX4.out.dr hd (by omega))
    have HS5 := Lib.hid hs5
    clear hc hd hs5 HF4 HD4 HS4 HX4
    generalize gi [0, 1, 2, 9] q = z at *
    have HFs := Lib.hid (HF5.out.other (show w.heap.size ≠ X by omega) (C := X) (o := 1) (.int .i64 (z)))
    have HXs := Lib.hid (HX5.out.set1 (z))
    have HSs := Lib.hid (HS5.out.other (show s < X by omega) 1 (.int .i64 (z)))
    have HDs := Lib.hid (HD5.out.setNew (B := X) (by omega) 1 (.int .i64 (z)))
    have y1 := HX5.out.c1
    have g1 := HX5.out.fz 1
    have r0 := HFs.out.c0
    have r1 := HFs.out.c1
    have r2 := HFs.out.c2
    have f0 := HFs.out.fz 0
    have f1 := HFs.out.fz 1
    have f2 := HFs.out.fz 2
    have x0 := HXs.out.c0
    have x1 := HXs.out.c1
    have x2 := HXs.out.c2
    have HFF := Lib.hid (HFs.out.set (p) (z) (g))
    have HSF := Lib.hid (((HSs.out.other (B := w.heap.size) hsz 0 (.int .i64 (p))).other (B := w.heap.size) hsz 1 (.int .i64 (z))).other (B := w.heap.size) hsz 2 (.int .i64 (g)))
    have HDF := Lib.hid (((HDs.out.setNew (B := w.heap.size) (Nat.le_refl _) 0 (.int .i64 (p))).setNew (B := w.heap.size) (Nat.le_refl _) 1 (.int .i64 (z))).setNew (B := w.heap.size) (Nat.le_refl _) 2 (.int .i64 (g)))
    go_wp2_with fail
    (try simp only [Exit.inBlock, Exit.then])
    exact ret_cell1 HRES.out Try.underlying29 rfl (by kernel_rfl) rfl rfl HFF.out.blk ⟨_, _, _, rfl, HDF.out, HSF.out⟩
  · go_wp2_with fail
    refine (pickN_any HS4.out [1, 4, 9, 1021, 1031, -3] 2 6 (by omega) (by omega) (by simp)).mono ?_
    rintro e w5 ⟨q, rfl, hq, hc, hd, hs5, hz5⟩
    have hcq := hc q (by simpa using hq)
    have HF5 := Lib.hid (HF4.out.dr hd (by omega))
    have HD5 := Lib.hid (HD4.out.trans hd)
    have HX5 := Lib.hid (HX4.out.dr hd (by omega))
    have HS5 := Lib.hid hs5
    clear hc hd hs5 HF4 HD4 HS4 HX4
    generalize gi [1, 4, 9, 1021, 1031, -3] q = z at *
    have HFs := Lib.hid (HF5.out.other (show w.heap.size ≠ X by omega) (C := X) (o := 0) (.int .i64 (z)))
    have HXs := Lib.hid (HX5.out.set0 (z))
    have HSs := Lib.hid (HS5.out.other (show s < X by omega) 0 (.int .i64 (z)))
    have HDs := Lib.hid (HD5.out.setNew (B := X) (by omega) 0 (.int .i64 (z)))
    have y0 := HX5.out.c0
    have g0 := HX5.out.fz 0
    have r0 := HFs.out.c0
    have r1 := HFs.out.c1
    have r2 := HFs.out.c2
    have f0 := HFs.out.fz 0
    have f1 := HFs.out.fz 1
    have f2 := HFs.out.fz 2
    have x0 := HXs.out.c0
    have x1 := HXs.out.c1
    have x2 := HXs.out.c2
    have HFF := Lib.hid (HFs.out.set (z) (pw) (g))
    have HSF := Lib.hid (((HSs.out.other (B := w.heap.size) hsz 0 (.int .i64 (z))).other (B := w.heap.size) hsz 1 (.int .i64 (pw))).other (B := w.heap.size) hsz 2 (.int .i64 (g)))
    have HDF := Lib.hid (((HDs.out.setNew (B := w.heap.size) (Nat.le_refl _) 0 (.int .i64 (z))).setNew (B := w.heap.size) (Nat.le_refl _) 1 (.int .i64 (pw))).setNew (B := w.heap.size) (Nat.le_refl _) 2 (.int .i64 (g)))
    go_wp2_with fail
    (try simp only [Exit.inBlock, Exit.then])
    exact ret_cell1 HRES.out Try.underlying29 rfl (by kernel_rfl) rfl rfl HFF.out.blk ⟨_, _, _, rfl, HDF.out, HSF.out⟩
  · go_wp2_with fail
    refine (pickN_any HS4.out [1021, 1, 10, 2, 4, 31, 2, 4, 25, 7, 1, 5] 29 4 (by omega) (by omega) (by simp)).mono ?_
    rintro e w5 ⟨q, rfl, hq, hc, hd, hs5, hz5⟩
    have hc0 := hc (q * 3) (by simp; omega)
    have hc1 := hc (q * 3 + 1) (by simp; omega)
    have hc2 := hc (q * 3 + 2) (by simp; omega)
    have HF5 := Lib.hid (HF4.out.dr hd (by omega))
    have HD5 := Lib.hid (HD4.out.trans hd)
    have HS5 := Lib.hid hs5
    clear hc hd hs5 HF4 HD4 HS4 HX4
    generalize gi [1021, 1, 10, 2, 4, 31, 2, 4, 25, 7, 1, 5] (q * 3) = z0 at *
    generalize gi [1021, 1, 10, 2, 4, 31, 2, 4, 25, 7, 1, 5] (q * 3 + 1) = z1 at *
    generalize gi [1021, 1, 10, 2, 4, 31, 2, 4, 25, 7, 1, 5] (q * 3 + 2) = z2 at *
    have r0 := HF5.out.c0
    have r1 := HF5.out.c1
    have r2 := HF5.out.c2
    have f0 := HF5.out.fz 0
    have f1 := HF5.out.fz 1
    have f2 := HF5.out.fz 2
    have HFF := Lib.hid (HF5.out.set (z0) (z1) (z2))
    have HSF := Lib.hid (((HS5.out.other (B := w.heap.size) hsz 0 (.int .i64 (z0))).other (B := w.heap.size) hsz 1 (.int .i64 (z1))).other (B := w.heap.size) hsz 2 (.int .i64 (z2)))
    have HDF := Lib.hid (((HD5.out.setNew (B := w.heap.size) (Nat.le_refl _) 0 (.int .i64 (z0))).setNew (B := w.heap.size) (Nat.le_refl _) 1 (.int .i64 (z1))).setNew (B := w.heap.size) (Nat.le_refl _) 2 (.int .i64 (z2)))
    go_wp2_with fail
    (try simp only [Exit.inBlock, Exit.then])
    exact ret_cell1 HRES.out Try.underlying29 rfl (by kernel_rfl) rfl rfl HFF.out.blk ⟨_, _, _, rfl, HDF.out, HSF.out⟩
  · have r0 := HF4.out.c0
    have r1 := HF4.out.c1
    have r2 := HF4.out.c2
    have f0 := HF4.out.fz 0
    have f1 := HF4.out.fz 1
    have f2 := HF4.out.fz 2
    have x0 := HX4.out.c0
    have x1 := HX4.out.c1
    have x2 := HX4.out.c2
    have HFF := Lib.hid (HF4.out.set (p) (pw) (g))
    have HSF := Lib.hid (((HS4.out.other (B := w.heap.size) hsz 0 (.int .i64 (p))).other (B := w.heap.size) hsz 1 (.int .i64 (pw))).other (B := w.heap.size) hsz 2 (.int .i64 (g)))
    have HDF := Lib.hid (((HD4.out.setNew (B := w.heap.size) (Nat.le_refl _) 0 (.int .i64 (p))).setNew (B := w.heap.size) (Nat.le_refl _) 1 (.int .i64 (pw))).setNew (B := w.heap.size) (Nat.le_refl _) 2 (.int .i64 (g)))
    have q0 : ((k : Int) == 0) = false := by simp; omega
    have q1 : ((k : Int) == 1) = false := by simp; omega
    have q2 : ((k : Int) == 2) = false := by simp; omega
    have q3 : ((k : Int) == 3) = false := by simp; omega
    go_wp2_with fail
    (try simp only [Exit.inBlock, Exit.then])
    exact ret_cell1 HRES.out Try.underlying29 rfl (by kernel_rfl) rfl rfl HFF.out.blk ⟨_, _, _, rfl, HDF.out, HSF.out⟩
end Go.Proofs.Ythbiieflmmnfcaa
