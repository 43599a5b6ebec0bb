/-
  The parts DrawC5, DrawIx, DrawM, DrawN.
-/
import Derived.Test.YthbiieflmmnfcaaDraw
import Derived.Test.YthbiieflmmnfcaaEncW
import Derived.Test.YthbiieflmmnfcaaPeel
import Derived.Lib.MinMax
/-
  What the laws of codes draw.
-/
namespace Go.Proofs.Ythbiieflmmnfcaa
open Go.RowKit
set_option linter.unusedVariables false

set_option maxHeartbeats 8000000 in
set_option maxRecDepth 100000 in
theorem l04DrawWord_any {w : World} {s : Nat} (hs : Src w s) (p pw g l c ch : Int) (hl1 : -2000 ≤ l) (hl2 : l ≤ 2000) (hc1 : -2000 ≤ c) (hc2 : c ≤ 2000) (hch0 : 0 ≤ ch) (hch : ch ≤ 2000) :
    Calls Try.prog 106 #[.pointer (some ⟨s, 0, none⟩), cV p pw g l c, .int .i64 ch] w fun e w' => ∃ v, e = .returned v ∧ Dr s w w' ∧ Src w' s ∧ ∃ zs, OwnL w' w.heap.size v zs ∧ zs.length ≤ 1000 := by
  have hsz := hs.lt
  have F0 := Lib.hid (CB.new w p pw g l c)
  have B0 := below1 w (.cells #[.int .i64 p, .int .i64 pw, .int .i64 g, .int .i64 l, .int .i64 c] CT)
  have HS := Lib.hid (hs.below B0)
  have D0 := Lib.hid (Dr.of (s := s) B0)
  have hB1 : w.heap.size < (w.alloc (.cells #[.int .i64 p, .int .i64 pw, .int .i64 g, .int .i64 l, .int .i64 c] CT)).heap.size := F0.out.lt
  have x0 := F0.out.c0
  have x1 := F0.out.c1
  have x2 := F0.out.c2
  have x3 := F0.out.c3
  have x4 := F0.out.c4
  clear hs B0
  go_enter Try.func106, Try.ntmps106
  go_wp2_with fail
  generalize w.alloc (.cells #[.int .i64 p, .int .i64 pw, .int .i64 g, .int .i64 l, .int .i64 c] CT) = w1 at *
  refine (isCode_any p pw g l c w1).mono ?_
  rintro e w2 ⟨rfl, hb2⟩
  have S2 := Lib.hid (HS.out.below hb2)
  have D2 := Lib.hid (Dr.of (s := s) hb2)
  have F2 := Lib.hid (F0.out.below hb2 F0.out.lt)
  have hz2 := hb2.size
  clear x0 x1 x2 x3 x4 HS hb2 F0
  have x0 := F2.out.c0
  have x1 := F2.out.c1
  have x2 := F2.out.c2
  have x3 := F2.out.c3
  have x4 := F2.out.c4
  cases hv : validC p pw g l c with
  | false =>
    clear hv
    have HO := Lib.hid (OwnL.lit w2 w.heap.size (by omega) [1, 0, 2] (by simp))
    have HSF := Lib.hid (S2.out.alloc (.cells #[.int .i64 1, .int .i64 0, .int .i64 2] 2))
    have HDF := Lib.hid ((D0.out.trans D2.out).alloc (.cells #[.int .i64 1, .int .i64 0, .int .i64 2] 2))
    go_wp2_with fail
    go_ret
    exact ⟨_, rfl, HDF.out, HSF.out, _, HO.out, by simp⟩
  | true =>
    obtain ⟨hvB, -, -, -, hl255, -⟩ := validC_iff hv
    have hszb := (ffOf_ok hvB).hi
    have hszl := (ffOf_ok hvB).lo
    have HSZ := Lib.hid (fun W => l02Size_any p pw g W (ranged_of hvB))
    clear hv hvB
    go_wp2_with fail
    refine (l04DrawMessage_any S2.out p pw g l c hl1 hl2 hc1 hc2).mono ?_
    rintro e w3 ⟨vm, rfl, hd3, hs3, zm, hom, hlm⟩
    have S3 := Lib.hid hs3
    have D3 := Lib.hid (D2.out.trans hd3)
    have F3 := Lib.hid (F2.out.dr hd3 (by omega))
    have OM := Lib.hid (hom.lower (C := w1.heap.size) hz2)
    have hz3 := hd3.size
    clear hd3 hs3 hom x0 x1 x2 x3 x4 F2 D2 S2
    have x0 := F3.out.c0
    have x1 := F3.out.c1
    have x2 := F3.out.c2
    have x3 := F3.out.c3
    have x4 := F3.out.c4
    obtain ⟨am, cm, rfl, -, hcam, hoam⟩ := OM.out.cap
    go_wp2_with fail
    refine (specEncodeWordO_any p pw g l c _ hoam.row hcam).mono ?_
    rintro e w4 ⟨vo, rfl, hb4, hoo⟩
    have S4 := Lib.hid (S3.out.below hb4)
    have D4 := Lib.hid (D3.out.more hb4)
    have F4 := Lib.hid (F3.out.below hb4 F3.out.lt)
    have OM4 := Lib.hid (OM.out.below hb4)
    have OO4 := Lib.hid (hoo.lower (C := w1.heap.size) (by omega))
    clear hb4 hoo hcam hoam x0 x1 x2 x3 x4 F3 D3 S3 OM
    by_cases hcd : encC p pw g l c zm = 0
    rotate_left
    · have hne : (encC p pw g l c zm != 0) = true := by simp [hcd]
      have OF := Lib.hid (OM4.out.lower (C := w.heap.size) (by omega))
      have DF := Lib.hid (D0.out.trans D4.out)
      clear hcd
      go_wp2_with fail
      go_ret
      exact ⟨_, rfl, DF.out, S4.out, _, OF.out, by omega⟩
    have hne : (encC p pw g l c zm != 0) = false := by simp [hcd]
    obtain ⟨hel, hl0, -⟩ := encWR_length hcd
    have HCD := Lib.hid hcd
    clear hcd
    generalize (ffOf p pw g).size = z at *
    generalize encWR p pw g l c zm = zo at *
    generalize encC p pw g l c zm = cd at *
    obtain ⟨g0, co, cur0, rfl, hgo1, -, -, -, -⟩ := OO4.out.form (by omega)
    go_wp2_with fail
    refine (l01Next_any S4.out (ch + 1) (by omega)).mono ?_
    rintro e w5 ⟨r5, rfl, hr5, hd5, hs5⟩
    have hr5b : 0 ≤ r5 ∧ r5 ≤ 2000 := by
      by_cases h : ch + 1 ≤ 1
      · have := hr5.1 h; omega
      · have := hr5.2 (by omega); omega
    have S5 := Lib.hid hs5
    have D5 := Lib.hid (D4.out.trans hd5)
    have F5 := Lib.hid (F4.out.dr hd5 (by omega))
    have OO5 := Lib.hid (OO4.out.dr hd5 (by omega))
    clear hd5 hs5 F4 D4 S4 OO4 OM4 hr5
    go_wp2_with fail
    go_loopw [10] (fun t wr => ∃ (k : Int) (zs : List Int), 0 ≤ k ∧ k ≤ 2000 ∧ t = .int .i64 k ∧ zs.length = zo.length ∧ Hid (OwnL wr w1.heap.size (.slice (some ⟨g0, 0, none⟩) zo.length co) zs) ∧ Hid (CB wr w.heap.size p pw g l c) ∧ Hid (Dr s w1 wr) ∧ Hid (Src wr s)) (fun t _ => (intOf t).toNat)
    case atStart => exact ⟨r5, zo, hr5b.1, hr5b.2, rfl, rfl, OO5, F5, D5, S5⟩
    case round =>
      clear OO5 F5 D5 S5 hr5b
      obtain ⟨k, zs, hk1, hk2, rfl, hlen, ho, hf, hd, hsr⟩ := hrel
      have x0 := hf.out.c0
      have x1 := hf.out.c1
      have x2 := hf.out.c2
      have x3 := hf.out.c3
      by_cases hg : 0 < k
      · have TS := Lib.hid (hsr.out.drew (drew1 wr))
        have TF := Lib.hid (hf.out.below (Drew.below (drew1 wr) _) hf.out.lt)
        have TO := Lib.hid (ho.out.below (Drew.below (drew1 wr) _))
        have TD := Lib.hid (hd.out.drew (drew1 wr))
        have HEL := Lib.hid hel
        clear hsr hf ho hd hel
        go_wp2_with fail
        refine wp_region_last (S := (fun w' => w'.cell? ⟨w.heap.size, 0, none⟩ = some (.int .i64 p) ∧ w'.cell? ⟨w.heap.size, 1, none⟩ = some (.int .i64 pw) ∧ w'.cell? ⟨w.heap.size, 2, none⟩ = some (.int .i64 g) ∧ w'.cell? ⟨w.heap.size, 3, none⟩ = some (.int .i64 l))) 11 (by kernel_rfl) rfl (by kernel_rfl) ?_ (fun hHeld => ?_)
        · (try dsimp only); exact ⟨x0, x1, x2, x3⟩
        simp only [List.take_succ_cons, List.take_zero]
        refine wpAnyH_take (i := 0) (oi := _) (v := ?_) rfl (by kernel_rfl) (by kernel_rfl) (by kernel_rfl) (fun _ _ _ h => h) (Or.inl ⟨by rfl, ?_⟩) hHeld ?_
        rotate_left
        · intro w0 hSw; (try dsimp only at hSw); go_simp; (try with_reducible rfl)
        (try dsimp only [Act.put, List.setIfInBounds_toArray, List.set_cons_zero, List.set_cons_succ])
        refine wpAnyH_take (i := 1) (oi := _) (v := ?_) rfl (by kernel_rfl) (by kernel_rfl) (by kernel_rfl) (fun _ _ _ h => h) (Or.inl ⟨by rfl, ?_⟩) hHeld ?_
        rotate_left
        · intro w0 hSw; (try dsimp only at hSw); go_simp; (try with_reducible rfl)
        (try dsimp only [Act.put, List.setIfInBounds_toArray, List.set_cons_zero, List.set_cons_succ])
        refine wpAnyH_take (i := 2) (oi := _) (v := ?_) rfl (by kernel_rfl) (by kernel_rfl) (by kernel_rfl) (fun _ _ _ h => h) (Or.inl ⟨by rfl, ?_⟩) hHeld ?_
        rotate_left
        · intro w0 hSw; (try dsimp only at hSw); go_simp; (try with_reducible rfl)
        (try dsimp only [Act.put, List.setIfInBounds_toArray, List.set_cons_zero, List.set_cons_succ])
        refine wpAnyH_take (i := 3) (oi := _) (v := ?_) rfl (by kernel_rfl) (by kernel_rfl) (by kernel_rfl) (fun _ _ _ h => h) (Or.inl ⟨by rfl, ?_⟩) hHeld ?_
        rotate_left
        · intro w0 hSw; (try dsimp only at hSw); go_simp; (try with_reducible rfl)
        (try dsimp only [Act.put, List.setIfInBounds_toArray, List.set_cons_zero, List.set_cons_succ])
        refine wpAnyH_take (i := 5) (oi := _) (v := ?_) rfl (by kernel_rfl) (by kernel_rfl) (by kernel_rfl) (fun _ _ _ h => h) (Or.inl ⟨by rfl, ?_⟩) hHeld ?_
        rotate_left
        · intro w0 hSw; (try dsimp only at hSw); go_simp; (try with_reducible rfl)
        (try dsimp only [Act.put, List.setIfInBounds_toArray, List.set_cons_zero, List.set_cons_succ])
        refine wpAnyH_take (i := 6) (oi := _) (v := ?_) rfl (by kernel_rfl) (by kernel_rfl) (by kernel_rfl) (fun _ _ _ h => h) (Or.inl ⟨by rfl, ?_⟩) hHeld ?_
        rotate_left
        · intro w0 hSw; (try dsimp only at hSw); go_simp; (try with_reducible rfl)
        (try dsimp only [Act.put, List.setIfInBounds_toArray, List.set_cons_zero, List.set_cons_succ])
        refine wpAnyH_take (i := 7) (oi := _) (v := ?_) rfl (by kernel_rfl) (by kernel_rfl) (by kernel_rfl) (fun _ _ _ h => h) (Or.inl ⟨by rfl, ?_⟩) hHeld ?_
        rotate_left
        · intro w0 hSw; (try dsimp only at hSw); go_simp; (try with_reducible rfl)
        (try dsimp only [Act.put, List.setIfInBounds_toArray, List.set_cons_zero, List.set_cons_succ])
        refine wpAnyH_ready (rs := [4]) (by kernel_rfl) (by simp) ?_
        refine AllReadyH.cons (o := _) rfl (fun K hK => ?_) AllReadyH.nil
        go_simp
        refine (l01Next_any TS.out l (by omega)).mono ?_
        rintro e w7 ⟨q7, rfl, hq7, hd7, hs7⟩
        obtain ⟨hq0, hq1⟩ := hq7.2 (by omega)
        obtain ⟨q, rfl⟩ := Int.eq_ofNat_of_zero_le hq0
        have F7 := TF.out.dr hd7 (show w.heap.size ≠ s by omega)
        go_wp2_with fail
        refine hK.out _ _ ?_ (fun hHeld => ?_)
        · (try dsimp only); exact ⟨F7.c0, F7.c1, F7.c2, F7.c3⟩
        clear hK K
        (try dsimp only [Act.put, List.setIfInBounds_toArray, List.set_cons_zero, List.set_cons_succ])
        refine wpAnyH_ready (rs := [8]) (by kernel_rfl) (by simp) ?_
        refine AllReadyH.cons (o := _) rfl (fun K hK => ?_) AllReadyH.nil
        go_simp
        refine (HSZ.out _).mono ?_
        rintro e w8 ⟨rfl, hb8⟩
        have F8 := F7.below hb8 F7.lt
        go_wp2_with fail
        refine hK.out _ _ ?_ (fun hHeld => ?_)
        · (try dsimp only); exact ⟨F8.c0, F8.c1, F8.c2, F8.c3⟩
        clear hK K
        (try dsimp only [Act.put, List.setIfInBounds_toArray, List.set_cons_zero, List.set_cons_succ])
        refine wpAnyH_ready (rs := [9]) (by kernel_rfl) (by simp) ?_
        refine AllReadyH.cons (o := _) rfl (fun K hK => ?_) AllReadyH.nil
        go_simp
        refine (l01Next_any (hs7.below hb8) z (by omega)).mono ?_
        rintro e w9 ⟨x, rfl, hx9, hd9, hs9⟩
        have F9 := F8.dr hd9 (show w.heap.size ≠ s by omega)
        have O9 := ((TO.out.dr hd7 (show s < w1.heap.size by omega)).below hb8).dr hd9 (show s < w1.heap.size by omega)
        obtain ⟨g1, cp1, cur, e1, hg1, hg2, hg3, -, hoa⟩ := O9.form (by have := HEL.out; omega)
        simp only [Value.slice.injEq, Option.some.injEq, Addr.mk.injEq, and_true, true_and] at e1
        obtain ⟨rfl, -, rfl⟩ := e1
        have fzz : w9.frozen? ⟨g0, q, none⟩ = false := by unfold World.frozen?; rw [hg3]; simp
        obtain ⟨b', o', e2, _, hcs⟩ := hoa.row.at' (by have := HEL.out; omega)
        cases e2
        have hcell := hcs q (by have := HEL.out; omega)
        rw [Nat.zero_add] at hcell
        have hq4 : (q : Int) < (zo.length : Int) := by have := HEL.out; omega
        clear hg3 hcs hoa
        go_wp2_with fail
        refine hK.out _ _ ?_ (fun hHeld => ?_)
        · (try dsimp only); exact ⟨F9.c0, F9.c1, F9.c2, F9.c3⟩
        clear hK K
        (try dsimp only [Act.put, List.setIfInBounds_toArray, List.set_cons_zero, List.set_cons_succ])
        refine wpAnyH_ready (rs := [10]) (by kernel_rfl) (by simp) ?_
        refine AllReadyH.cons (o := _) rfl (fun K hK => ?_) AllReadyH.nil
        go_simp
        go_wp2_with fail
        refine hK.out _ _ ?_ (fun hHeld => ?_)
        · (try dsimp only); exact hHeld
        clear hK K
        (try dsimp only [Act.put, List.setIfInBounds_toArray, List.set_cons_zero, List.set_cons_succ])
        refine wpAnyH_done (by kernel_rfl) (lastQ_normal ?_) _
        have OF := Lib.hid ((O9.set (k := q) (by have := HEL.out; omega) x))
        have FFn := Lib.hid (F9.below ((Below.refl w1.heap.size w9).setCell (p := ⟨g0, q, none⟩) hgo1 (.int .i64 x)) hB1)
        have DFn := Lib.hid (((((TD.out.trans hd7).more hb8).trans hd9)).moreB ((Below.refl w1.heap.size w9).setCell (p := ⟨g0, q, none⟩) hgo1 (.int .i64 x)))
        have SFn := Lib.hid (hs9.other (B := g0) (by omega) q (.int .i64 x))
        clear hd7 hb8 hd9 hs7 hs9 O9 F9
        go_wp2_with fail
        go_roundw
        case rel => exact ⟨k - 1, zs.set q x, by omega, by omega, rfl, by simp; exact hlen, OF, FFn, DFn, SFn⟩
        case measure => simp [intOf]; omega
      · have hg' : k ≤ 0 := by omega
        go_wp2_with fail
        refine (next_any hsr.out 40 (by omega) (by omega)).mono ?_
        rintro e w6 ⟨q, rfl, hq, hd6, hs6⟩
        have O6 := Lib.hid (ho.out.dr hd6 (by omega))
        have D6 := Lib.hid (hd.out.trans hd6)
        have S6 := Lib.hid hs6
        have hl6 : zs.length ≤ 16777216 := by omega
        clear hd6 hs6 ho hf hd hsr x0 x1 x2 x3
        by_cases hq0 : q = 0
        · subst hq0
          go_wp2_with (at_builtin; refine append_one rfl _ _ _ rfl Try.underlying26 0 O6.out rfl _ rfl rfl hl6 ?_; intro v' w7 hown7 hb7)
          have O7 := Lib.hid (hown7.lower (C := w.heap.size) (by omega))
          have D7 := Lib.hid (D0.out.trans (D6.out.moreB hb7))
          have S7 := Lib.hid (S6.out.lo (by omega) hb7)
          clear hown7 hb7
          go_wp2_with fail
          go_ret
          exact ⟨_, rfl, D7.out, S7.out, _, O7.out, by simp; omega⟩
        · have q0 : ((q : Int) == 0) = false := by simp; omega
          have O7 := Lib.hid (O6.out.lower (C := w.heap.size) (by omega))
          have D7 := Lib.hid (D0.out.trans D6.out)
          go_wp2_with fail
          go_ret
          exact ⟨_, rfl, D7.out, S6.out, _, O7.out, by omega⟩
end Go.Proofs.Ythbiieflmmnfcaa
/-
  The walk of the draw of indices; what the law of locators draws.
-/
namespace Go.Proofs.Ythbiieflmmnfcaa
open Go.RowKit
set_option linter.unusedVariables false

set_option maxHeartbeats 8000000 in
set_option maxRecDepth 100000 in
theorem l05DrawIndices_any {w : World} {s : Nat} (hs : Src w s) (p pw g l c most : Int) (hl1 : -2000 ≤ l) (hl2 : l ≤ 2000) (hm0 : -3000 ≤ most) (hm1 : most ≤ 200) :
    Calls Try.prog 114 #[.pointer (some ⟨s, 0, none⟩), cV p pw g l c, .int .i64 most] w fun e w' => ∃ v, e = .returned v ∧ Dr s w w' ∧ Src w' s ∧ ∃ zs, OwnL w' w.heap.size v zs ∧ zs.length ≤ 1000 := by
  have hsz := hs.lt
  have F0 := Lib.hid (CB.new w p pw g l c)
  have B0 := below1 w (.cells #[.int .i64 p, .int .i64 pw, .int .i64 g, .int .i64 l, .int .i64 c] CT)
  have HS := Lib.hid (hs.below B0)
  have D0 := Lib.hid (Dr.of (s := s) B0)
  have hB1 : w.heap.size < (w.alloc (.cells #[.int .i64 p, .int .i64 pw, .int .i64 g, .int .i64 l, .int .i64 c] CT)).heap.size := F0.out.lt
  clear hs B0
  go_enter Try.func114, Try.ntmps114
  generalize hw1 : w.alloc (.cells #[.int .i64 p, .int .i64 pw, .int .i64 g, .int .i64 l, .int .i64 c] CT) = w1 at *
  have F3 := Lib.hid (F0.out.below (below1 w1 (.cells #[] 2)) F0.out.lt)
  have S3 := Lib.hid (HS.out.alloc (.cells #[] 2))
  have D3 := Lib.hid ((Dr.refl s w1).alloc (.cells #[] 2))
  have HO3 := Lib.hid (OwnL.empty w1 w1.heap.size (Nat.le_refl _) w1.heap.size rfl)
  go_wp2_with fail
  (try rw [hw1])
  clear hw1
  generalize w1.alloc (.cells #[] 2) = w3 at *
  refine (next_any S3.out 4 (by omega) (by omega)).mono ?_
  rintro e w4 ⟨at0, rfl, hat, hd, hs4⟩
  have O4 := Lib.hid (HO3.out.dr hd (by omega))
  have F4 := Lib.hid (F3.out.dr hd (by omega))
  have D4 := Lib.hid (D3.out.trans hd)
  have S4 := Lib.hid hs4
  clear hd hs4 HO3 F3 D3 S3 HS
  go_wp2_with fail
  refine (l01Next_any S4.out (most + 1) (by omega)).mono ?_
  rintro e w5 ⟨r5, rfl, hr5, hd, hs5⟩
  have hr5b : 0 ≤ r5 ∧ r5 ≤ 200 := by
    by_cases h : most + 1 ≤ 1
    · have := hr5.1 h; omega
    · have := hr5.2 (by omega); omega
  have O5 := Lib.hid (O4.out.dr hd (by omega))
  have F5 := Lib.hid (F4.out.dr hd (by omega))
  have D5 := Lib.hid (D4.out.trans hd)
  have S5 := Lib.hid hs5
  clear hd hs5 O4 F4 D4 S4 hr5
  go_wp2_with fail
  go_loopw [7, 8, 9] (fun a t u wr => ∃ (n x : Int) (zs : List Int), 0 ≤ n ∧ n ≤ 200 ∧ 0 ≤ x ∧ x ≤ 1000 - 4 * n ∧ u = .int .i64 n ∧ t = .int .i64 x ∧ Hid ((zs.length : Int) + n ≤ 200) ∧ Hid (OwnL wr w1.heap.size a zs) ∧ Hid (CB wr w.heap.size p pw g l c) ∧ Hid (Dr s w1 wr) ∧ Hid (Src wr s)) (fun _ _ u _ => (intOf u).toNat)
  case atStart => exact ⟨r5, at0, [], by omega, by omega, by omega, by omega, rfl, rfl, Lib.hid (by simp; omega), O5, F5, D5, S5⟩
  case round =>
    clear O5 F5 D5 S5 hr5b
    obtain ⟨n, x, zs, hn1, hn2, hx1, hx2, rfl, rfl, hlen, ho, hf, hd, hsr⟩ := hrel
    obtain ⟨a, cp, rfl, hcp, hca, hoa⟩ := ho.out.cap
    clear hca hoa
    have x3 := hf.out.c3
    have hl2 : zs.length ≤ 200 := by have := hlen.out; omega
    have hl6 : zs.length ≤ 16777216 := by omega
    by_cases hgo : 0 < n ∧ x < l
    · obtain ⟨hg1, hg2⟩ := hgo
      have HLN := Lib.hid hlen.out
      go_wp2_with (at_builtin; refine append_one rfl _ _ _ rfl Try.underlying26 x ho.out rfl _ rfl rfl hl6 ?_; intro v' w7 hown7 hb7)
      have O7 := Lib.hid hown7
      have F7 := Lib.hid (hf.out.below hb7 hB1)
      have D7 := Lib.hid (hd.out.moreB hb7)
      have S7 := Lib.hid (hsr.out.lo (by omega) hb7)
      clear hown7 hb7 ho hf hd hsr x3
      go_wp2_with fail
      refine (next_any S7.out 4 (by omega) (by omega)).mono ?_
      rintro e w8 ⟨q, rfl, hq, hd8, hs8⟩
      have O8 := Lib.hid (O7.out.dr hd8 (by omega))
      have F8 := Lib.hid (F7.out.dr hd8 (by omega))
      have D8 := Lib.hid (D7.out.trans hd8)
      have S8 := Lib.hid hs8
      clear hd8 hs8 O7 F7 D7 S7
      go_wp2_with fail
      go_roundw
      case rel => exact ⟨n - 1, x + 1 + q, zs ++ [x], by omega, by omega, by omega, by omega, rfl, rfl, Lib.hid (by have := HLN.out; simp; omega), O8, F8, D8, S8⟩
      case measure => simp [intOf]; omega
    · have hgs : n ≤ 0 ∨ (0 < n ∧ ¬ x < l) := by omega
      clear hgo
      rcases hgs with hg | ⟨hg, hg'⟩
      all_goals
        go_wp2_with fail
        refine (next_any hsr.out 40 (by omega) (by omega)).mono ?_
        rintro e w6 ⟨q, rfl, hq, hd6, hs6⟩
        have O6 := Lib.hid (ho.out.dr hd6 (by omega))
        have F6 := Lib.hid (hf.out.dr hd6 (by omega))
        have D6 := Lib.hid (hd.out.trans hd6)
        have S6 := Lib.hid hs6
        clear hd6 hs6 ho hf hd hsr x3
        have x3 := F6.out.c3
        rcases (show q = 0 ∨ q = 1 ∨ 2 ≤ q by omega) with rfl | rfl | hq2
        · go_wp2_with (at_builtin; refine append_one rfl _ _ _ rfl Try.underlying26 l O6.out rfl _ rfl rfl hl6 ?_; intro v' w7 hown7 hb7)
          have O7 := Lib.hid (hown7.lower (C := w.heap.size) (by omega))
          have D7 := Lib.hid (D0.out.trans (D6.out.moreB hb7))
          have S7 := Lib.hid (S6.out.lo (by omega) hb7)
          clear hown7 hb7
          go_wp2_with fail
          go_ret
          exact ⟨_, rfl, D7.out, S7.out, _, O7.out, by simp; omega⟩
        · go_wp2_with (at_builtin; refine append_one rfl _ _ _ rfl Try.underlying26 0 O6.out rfl _ rfl rfl hl6 ?_; intro v' w7 hown7 hb7)
          have O7 := Lib.hid (hown7.lower (C := w.heap.size) (by omega))
          have D7 := Lib.hid (D0.out.trans (D6.out.moreB hb7))
          have S7 := Lib.hid (S6.out.lo (by omega) hb7)
          clear hown7 hb7
          go_wp2_with fail
          go_ret
          exact ⟨_, rfl, D7.out, S7.out, _, O7.out, by simp; omega⟩
        · have q0 : ((q : Int) == 0) = false := by simp; omega
          have q1 : ((q : Int) == 1) = false := by simp; omega
          have O7 := Lib.hid (O6.out.lower (C := w.heap.size) (by omega))
          have D7 := Lib.hid (D0.out.trans D6.out)
          go_wp2_with fail
          go_ret
          exact ⟨_, rfl, D7.out, S6.out, _, O7.out, by omega⟩
end Go.Proofs.Ythbiieflmmnfcaa
/-
  The draw of damaged words; what the laws of correction draw.
-/
namespace Go.Proofs.Ythbiieflmmnfcaa
open Go.RowKit
set_option linter.unusedVariables false

/-- A state of a draw that is handed its source: R the result's code, X the code, s the source. -/
structure CSw (w0 W : World) (R X s : Nat) (p pw g l c : Int) : Prop where
  res : CB W R 0 0 0 0 0
  fld : CB W X p pw g l c
  src : Src W s
  dr : Dr s w0 W
  r0 : R = w0.heap.size
  sR : s < R
  rX : R < X
section
variable {w0 W W' : World} {R X s : Nat} {p pw g l c : Int}
theorem CSw.below (h : CSw w0 W R X s p pw g l c) (hb : Below W.heap.size W W') : CSw w0 W' R X s p pw g l c :=
  ⟨h.res.below hb h.res.lt, h.fld.below hb h.fld.lt, h.src.below hb, h.dr.more hb, h.r0, h.sR, h.rX⟩
theorem CSw.drS (h : CSw w0 W R X s p pw g l c) (hd : Dr s W W') (hs : Src W' s) : CSw w0 W' R X s p pw g l c := by
  have h1 := h.sR; have h2 := h.rX
  exact ⟨h.res.dr hd (by omega), h.fld.dr hd (by omega), hs, h.dr.trans hd, h.r0, h.sR, h.rX⟩
theorem CSw.set (h : CSw w0 W R X s p pw g l c) {b o : Nat} {v : Value} (hb : X < b) : CSw w0 (W.setCell ⟨b, o, none⟩ v) R X s p pw g l c := by
  have h1 := h.sR; have h2 := h.rX; have h3 := h.r0
  exact ⟨h.res.other (by omega) _, h.fld.other (by omega) _, h.src.other (by omega) _ _, h.dr.setNew (by omega) _ _, h.r0, h.sR, h.rX⟩
end
theorem wrap_le {x : Int} (h1 : -1000000 ≤ x) (h2 : x ≤ 1000000) : IntKind.i64.wrap x = x := IntWalk.i64_in _ (by omega)
theorem tdiv_bd {x : Int} (k : Int) (hk : 1 ≤ k) (h1 : -1000000 ≤ x) (h2 : x ≤ 1000000) : -1000000 ≤ x.tdiv k ∧ x.tdiv k ≤ 1000000 ∧ (0 ≤ x → 0 ≤ x.tdiv k ∧ x.tdiv k ≤ x) := by
  rcases Int.le_total 0 x with h | h
  · rw [Int.tdiv_eq_ediv_of_nonneg h]
    have h3 : 0 ≤ x / k := Int.ediv_nonneg h (by omega)
    have h4 : x / k ≤ x := Int.ediv_le_self _ h
    exact ⟨by omega, by omega, fun _ => ⟨h3, h4⟩⟩
  · have h5 : x.tdiv k = -((-x) / k) := by
      rw [← Int.tdiv_eq_ediv_of_nonneg (by omega), Int.neg_tdiv]; omega
    have h3 : 0 ≤ (-x) / k := Int.ediv_nonneg (by omega) (by omega)
    have h4 : (-x) / k ≤ -x := Int.ediv_le_self _ (by omega)
    refine ⟨by omega, by omega, fun h0 => ?_⟩
    have : x = 0 := by omega
    subst this
    simp
theorem tdiv2_le {x m : Int} (h : x ≤ 2 * m) (h0 : 0 ≤ m) : x.tdiv 2 ≤ m := by
  rcases Int.le_total 0 x with h1 | h1
  · rw [Int.tdiv_eq_ediv_of_nonneg h1]; omega
  · have h5 : x.tdiv 2 = -((-x) / 2) := by
      rw [← Int.tdiv_eq_ediv_of_nonneg (by omega), Int.neg_tdiv]; omega
    omega
set_option maxHeartbeats 8000000 in
set_option maxRecDepth 100000 in
theorem l05DrawWord_any {w : World} {s : Nat} (hs : Src w s) :
    Calls Try.prog 135 #[.pointer (some ⟨s, 0, none⟩)] w fun e w' => ∃ p pw g l c v v2, e = .returned (.tuple #[cV p pw g l c, v, v2]) ∧ -2000 ≤ l ∧ l ≤ 2000 ∧ -2000 ≤ c ∧ c ≤ 2000 ∧ Dr s w w' ∧ Src w' s ∧ ∃ zs zs2, OwnL w' w.heap.size v zs ∧ OwnL w' w.heap.size v2 zs2 ∧ zs.length ≤ 1000 ∧ zs2.length ≤ 1000 := by
  have hsz := hs.lt
  have F0 := Lib.hid (CB.new w 0 0 0 0 0)
  have B0 := below1 w (.cells #[.int .i64 0, .int .i64 0, .int .i64 0, .int .i64 0, .int .i64 0] CT)
  have S0 := Lib.hid (hs.below B0)
  have D0 := Lib.hid (Dr.of (s := s) B0)
  have HRES := Lib.hid (show Try.f135.results = #[.cell 2 CT, .tmp 3, .tmp 4] by kernel_rfl)
  clear hs B0
  go_enter Try.func135, Try.ntmps135
  go_wp2_with fail
  generalize w.alloc (.cells #[.int .i64 0, .int .i64 0, .int .i64 0, .int .i64 0, .int .i64 0] CT) = w1 at *
  refine (l04DrawAny_any S0.out).mono ?_
  rintro e w3 ⟨p, pw, g, l, c, rfl, hl1, hl2, hc1, hc2, hd, hs3⟩
  have hz3 : w.heap.size < w3.heap.size := Nat.lt_of_lt_of_le F0.out.lt hd.size
  have T4 := Lib.hid (show CSw w (w3.alloc (.cells #[.int .i64 p, .int .i64 pw, .int .i64 g, .int .i64 l, .int .i64 c] CT)) w.heap.size w3.heap.size s p pw g l c from
    ⟨(F0.out.dr hd (by omega)).below (below1 w3 _) (F0.out.dr hd (by omega)).lt, CB.new w3 p pw g l c, hs3.alloc _, (D0.out.trans hd).alloc _, rfl, hsz, hz3⟩)
  obtain ⟨X, hX⟩ : ∃ X, X = w3.heap.size := ⟨_, rfl⟩
  rw [← hX] at T4
  rw [← hX] at hz3
  clear hd hs3 F0 D0 S0
  have x2 := (CB.new w3 p pw g l c).c4
  rw [← hX] at x2
  go_wp2_with fail
  rw [← hX]
  clear hX x2
  generalize w3.alloc (.cells #[.int .i64 p, .int .i64 pw, .int .i64 g, .int .i64 l, .int .i64 c] CT) = w4 at *
  have x0 := T4.out.fld.c0
  have x1 := T4.out.fld.c1
  have x2 := T4.out.fld.c2
  have x3 := T4.out.fld.c3
  have x4 := T4.out.fld.c4
  have hX4 : X < w4.heap.size := T4.out.fld.lt
  go_wp2_with fail
  refine (l05DrawIndices_any T4.out.src p pw g l c (min c 5) hl1 hl2 (by omega) (by omega)).mono ?_
  rintro e w5 ⟨v5, rfl, hd5, hs5, zE, hoE, hlE⟩
  have T5 := Lib.hid (T4.out.drS hd5 hs5)
  obtain ⟨aE, cE, rfl, -, -, -⟩ := hoE.cap
  have hz5 := hd5.size
  obtain ⟨nE, hnE⟩ : ∃ nE, zE.length = nE := ⟨_, rfl⟩
  have OE := Lib.hid hoE
  rw [hnE] at OE hlE ⊢
  have HNE := Lib.hid hnE
  clear hd5 hs5 hoE T4 x0 x1 x2 x3 x4 hnE
  have x0 := T5.out.fld.c0
  have x1 := T5.out.fld.c1
  have x2 := T5.out.fld.c2
  have x3 := T5.out.fld.c3
  have x4 := T5.out.fld.c4
  have TD := Lib.hid (T5.out.below (Drew.below (drew1 w5) _))
  have OED := Lib.hid (OE.out.below (Drew.below (drew1 w5) _))
  clear T5 OE
  have e1 : IntKind.i64.wrap (c - (nE : Int)) = c - (nE : Int) := wrap_le (by omega) (by omega)
  go_wp2_with fail
  refine wp_region_lastW (S := (fun w' => w'.cell? ⟨X, 0, none⟩ = some (.int .i64 p) ∧ w'.cell? ⟨X, 1, none⟩ = some (.int .i64 pw) ∧ w'.cell? ⟨X, 2, none⟩ = some (.int .i64 g) ∧ w'.cell? ⟨X, 3, none⟩ = some (.int .i64 l) ∧ w'.cell? ⟨X, 4, none⟩ = some (.int .i64 c))) 14 (by kernel_rfl) rfl (by kernel_rfl) ?_ (fun hHeld => ?_)
  · (try dsimp only); exact ⟨x0, x1, x2, x3, x4⟩
  simp only [List.take_succ_cons, List.take_zero]
  refine wpAnyH_take (i := 0) (oi := _) (v := ?_) rfl (by kernel_rfl) (by kernel_rfl) (by kernel_rfl) (fun _ _ _ h => h) (Or.inl ⟨by rfl, ?_⟩) hHeld ?_
  rotate_left
  · intro w0 hSw; (try dsimp only at hSw); go_simp; (try with_reducible rfl)
  (try dsimp only [Act.put, List.setIfInBounds_toArray, List.set_cons_zero, List.set_cons_succ])
  refine wpAnyH_take (i := 1) (oi := _) (v := ?_) rfl (by kernel_rfl) (by kernel_rfl) (by kernel_rfl) (fun _ _ _ h => h) (Or.inl ⟨by rfl, ?_⟩) hHeld ?_
  rotate_left
  · intro w0 hSw; (try dsimp only at hSw); go_simp; (try with_reducible rfl)
  (try dsimp only [Act.put, List.setIfInBounds_toArray, List.set_cons_zero, List.set_cons_succ])
  refine wpAnyH_take (i := 2) (oi := _) (v := ?_) rfl (by kernel_rfl) (by kernel_rfl) (by kernel_rfl) (fun _ _ _ h => h) (Or.inl ⟨by rfl, ?_⟩) hHeld ?_
  rotate_left
  · intro w0 hSw; (try dsimp only at hSw); go_simp; (try with_reducible rfl)
  (try dsimp only [Act.put, List.setIfInBounds_toArray, List.set_cons_zero, List.set_cons_succ])
  refine wpAnyH_take (i := 3) (oi := _) (v := ?_) rfl (by kernel_rfl) (by kernel_rfl) (by kernel_rfl) (fun _ _ _ h => h) (Or.inl ⟨by rfl, ?_⟩) hHeld ?_
  rotate_left
  · intro w0 hSw; (try dsimp only at hSw); go_simp; (try with_reducible rfl)
  (try dsimp only [Act.put, List.setIfInBounds_toArray, List.set_cons_zero, List.set_cons_succ])
  refine wpAnyH_take (i := 4) (oi := _) (v := ?_) rfl (by kernel_rfl) (by kernel_rfl) (by kernel_rfl) (fun _ _ _ h => h) (Or.inl ⟨by rfl, ?_⟩) hHeld ?_
  rotate_left
  · intro w0 hSw; (try dsimp only at hSw); go_simp; (try with_reducible rfl)
  (try dsimp only [Act.put, List.setIfInBounds_toArray, List.set_cons_zero, List.set_cons_succ])
  refine wpAnyH_take (i := 5) (oi := _) (v := ?_) rfl (by kernel_rfl) (by kernel_rfl) (by kernel_rfl) (fun _ _ _ h => h) (Or.inl ⟨by rfl, ?_⟩) hHeld ?_
  rotate_left
  · intro w0 hSw; (try dsimp only at hSw); go_simp; (try with_reducible rfl)
  (try dsimp only [Act.put, List.setIfInBounds_toArray, List.set_cons_zero, List.set_cons_succ])
  refine wpAnyH_take (i := 6) (oi := _) (v := ?_) rfl (by kernel_rfl) (by kernel_rfl) (by kernel_rfl) (fun _ _ _ h => h) (Or.inl ⟨by rfl, ?_⟩) hHeld ?_
  rotate_left
  · intro w0 hSw; (try dsimp only at hSw); go_simp; (try with_reducible rfl)
  (try dsimp only [Act.put, List.setIfInBounds_toArray, List.set_cons_zero, List.set_cons_succ])
  refine wpAnyH_take (i := 7) (oi := _) (v := ?_) rfl (by kernel_rfl) (by kernel_rfl) (by kernel_rfl) (fun _ _ _ h => h) (Or.inl ⟨by rfl, ?_⟩) hHeld ?_
  rotate_left
  · intro w0 hSw; (try dsimp only at hSw); go_simp; (try with_reducible rfl)
  (try dsimp only [Act.put, List.setIfInBounds_toArray, List.set_cons_zero, List.set_cons_succ])
  refine wpAnyH_take (i := 8) (oi := _) (v := ?_) rfl (by kernel_rfl) (by kernel_rfl) (by kernel_rfl) (fun _ _ _ h => h) (Or.inl ⟨by rfl, ?_⟩) hHeld ?_
  rotate_left
  · intro w0 hSw; (try dsimp only at hSw); go_simp; (try with_reducible rfl)
  (try dsimp only [Act.put, List.setIfInBounds_toArray, List.set_cons_zero, List.set_cons_succ])
  refine wpAnyH_take (i := 9) (oi := _) (v := ?_) rfl (by kernel_rfl) (by kernel_rfl) (by kernel_rfl) (fun _ _ _ h => h) (Or.inl ⟨by rfl, ?_⟩) hHeld ?_
  rotate_left
  · intro w0 hSw; (try dsimp only at hSw); go_simp; (try with_reducible rfl)
  (try dsimp only [Act.put, List.setIfInBounds_toArray, List.set_cons_zero, List.set_cons_succ])
  refine wpAnyH_ready (rs := [10]) (by kernel_rfl) (by simp) ?_
  refine AllReadyH.cons (o := _) rfl (fun K hK => ?_) AllReadyH.nil
  go_simp
  refine (l01Next_any TD.out.src 5 (by omega)).mono ?_
  rintro e w6 ⟨q6, rfl, hq6, hd6, hs6⟩
  obtain ⟨hq0, hq1⟩ := hq6.2 (by omega)
  have T6 := TD.out.drS hd6 hs6
  go_wp2_with fail
  refine hK.out _ _ ?_ (fun hHeld => ?_)
  · (try dsimp only); exact ⟨T6.fld.c0, T6.fld.c1, T6.fld.c2, T6.fld.c3, T6.fld.c4⟩
  clear hK K
  (try dsimp only [Act.put, List.setIfInBounds_toArray, List.set_cons_zero, List.set_cons_succ])
  refine wpAnyH_take (i := 11) (oi := _) (v := ?_) rfl (by kernel_rfl) (by kernel_rfl) (by kernel_rfl) (fun _ _ _ h => h) (Or.inl ⟨by rfl, ?_⟩) hHeld ?_
  rotate_left
  · intro w0 hSw; (try dsimp only at hSw); go_simp; (try with_reducible rfl)
  (try dsimp only [Act.put, List.setIfInBounds_toArray, List.set_cons_zero, List.set_cons_succ])
  refine wpAnyH_take (i := 12) (oi := _) (v := ?_) rfl (by kernel_rfl) (by kernel_rfl) (by kernel_rfl) (fun _ _ _ h => h) (Or.inl ⟨by rfl, ?_⟩) hHeld ?_
  rotate_left
  · intro w0 hSw; (try dsimp only at hSw); go_simp; (try with_reducible rfl)
  (try dsimp only [Act.put, List.setIfInBounds_toArray, List.set_cons_zero, List.set_cons_succ])
  refine wpAnyH_ready (rs := [13]) (by kernel_rfl) (by simp) ?_
  refine AllReadyH.cons (o := _) rfl (fun K hK => ?_) AllReadyH.nil
  go_simp
  have t1 := tdiv_bd (x := c - (nE : Int)) 2 (by omega) (by omega) (by omega)
  have t0 := tdiv2_le (x := c - (nE : Int)) (m := 1500) (by omega) (by omega)
  have t2 := (tdiv_bd (x := q6) 4 (by omega) (by omega) (by omega)).2.2 hq0
  rw [wrap_le (x := (c - (nE : Int)).tdiv 2) (by omega) (by omega), wrap_le (x := q6.tdiv 4) (by omega) (by omega), wrap_le (x := max 0 ((c - (nE : Int)).tdiv 2) + q6.tdiv 4) (by omega) (by omega)]
  refine (l04DrawWord_any T6.src p pw g l c _ hl1 hl2 hc1 hc2 (by omega) (by omega)).mono ?_
  rintro e w7 ⟨v7, rfl, hd7, hs7, z7, ho7, hl7⟩
  have T7 := T6.drS hd7 hs7
  go_wp2_with fail
  refine hK.out _ _ ?_ (fun hHeld => ?_)
  · (try dsimp only); exact ⟨T7.fld.c0, T7.fld.c1, T7.fld.c2, T7.fld.c3, T7.fld.c4⟩
  clear hK K
  (try dsimp only [Act.put, List.setIfInBounds_toArray, List.set_cons_zero, List.set_cons_succ])
  refine wpAnyH_done (by kernel_rfl) (lastQ_normalW ?_) _
  have hz6 : w5.heap.size ≤ w6.heap.size := hd6.size
  have HE5 := OED.out.2.lt
  have HEM := Lib.hid (show ∀ k, (Value.slice aE nE cE).ownBlock = some k → k < w6.heap.size from fun k hk => by have := (HE5 k hk).2; simp at this; omega)
  have hsw4 : s < w4.heap.size := by omega
  have EF := Lib.hid ((OED.out.dr hd6 hsw4).dr hd7 hsw4)
  obtain ⟨aW, cW, rfl, -, -, -⟩ := ho7.cap
  obtain ⟨nW, hnW⟩ : ∃ nW, z7.length = nW := ⟨_, rfl⟩
  have OW := Lib.hid (show OwnL w7 w4.heap.size (.slice aW nW cW) z7 by rw [← hnW]; exact ho7.lower (by omega))
  have HWM := Lib.hid (show ∀ k, (Value.slice aW nW cW).ownBlock = some k → w6.heap.size ≤ k from fun k hk => by rw [← hnW] at hk; exact (ho7.2.lt k hk).1)
  rw [hnW] at hl7
  have HNW := Lib.hid hnW
  have T7 := Lib.hid T7
  rw [hnW]
  clear hd6 hs6 T6 hd7 hs7 ho7 HE5 TD OED hHeld x0 x1 x2 x3 x4 hnW hq6 t0 t1 t2
  go_wp2_with fail
  go_loopw [8] (fun t wr => ∃ (k : Nat) (zs : List Int), k ≤ nE ∧ t = .int .i64 k ∧ Hid (zs.length = nW) ∧ Hid (OwnL wr w4.heap.size (.slice aW nW cW) zs) ∧ Hid (OwnL wr w4.heap.size (.slice aE nE cE) zE) ∧ Hid (CSw w wr w.heap.size X s p pw g l c)) (fun t _ => nE - (intOf t).toNat)
  case atStart => exact ⟨0, z7, by omega, rfl, HNW, OW, EF, T7⟩
  case round =>
    clear OW EF T7 HNW
    obtain ⟨k, zs, hk, rfl, HLZ, ho, he, ht⟩ := hrel
    by_cases hlt : k < nE
    · have x0 := ht.out.fld.c0
      have x1 := ht.out.fld.c1
      have x2 := ht.out.fld.c2
      have x3 := ht.out.fld.c3
      have x4 := ht.out.fld.c4
      have hkI : (k : Int) < (nE : Int) := by omega
      go_wp2_with fail
      refine (isCode_any p pw g l c wr).mono ?_
      rintro e w8 ⟨rfl, hb8⟩
      have T8 := Lib.hid (ht.out.below hb8)
      have O8 := Lib.hid (ho.out.below hb8)
      have E8 := Lib.hid (he.out.below hb8)
      clear x0 x1 x2 x3 x4 hb8 ho he ht
      cases hv : validC p pw g l c with
      | false =>
        clear hv
        go_wp2_with fail
        go_roundw
        case rel => exact ⟨k + 1, zs, by omega, by go_num, HLZ, O8, E8, T8⟩
        case measure => simp [intOf]; omega
      | true =>
        obtain ⟨hvB, -, -, -, hl255, -⟩ := validC_iff hv
        have hszb := (ffOf_ok hvB).hi
        have hszl := (ffOf_ok hvB).lo
        have HSZ := Lib.hid (fun W => l02Size_any p pw g W (ranged_of hvB))
        obtain ⟨bE, oE, rfl, hbE, hcE⟩ := (E8.out.rowF).at' (by omega)
        have hce := hcE k hlt
        obtain ⟨x, hx⟩ : ∃ x, gi zE k = x := ⟨_, rfl⟩
        rw [hx] at hce
        have hbs : s < bE := by have := (E8.out.2.lt bE rfl).1; omega
        clear hv hvB hcE hx
        go_wp2_with fail
        refine (l01In_any _ _ _ _).mono ?_
        rintro e w9 ⟨rfl, rfl⟩
        cases hin : inR x 0 ((nW : Int) - 1) with
        | false =>
          clear hin
          go_wp2_with fail
          go_roundw
          case rel => exact ⟨k + 1, zs, by omega, by go_num, HLZ, O8, E8, T8⟩
          case measure => simp [intOf]; omega
        | true =>
          obtain ⟨hx0, hx1⟩ := inR_iff.1 hin
          obtain ⟨q, rfl⟩ := Int.eq_ofNat_of_zero_le hx0
          have hqW : q < nW := by omega
          have hqI : (q : Int) < (nW : Int) := by omega
          have TD := Lib.hid (T8.out.below (Drew.below (drew1 w8) _))
          have OD := Lib.hid (O8.out.below (Drew.below (drew1 w8) _))
          have ED := Lib.hid (E8.out.below (Drew.below (drew1 w8) _))
          have hced := keep_cell (Drew.below (drew1 w8) w8.heap.size) hce
          have x0 := TD.out.fld.c0
          have x1 := TD.out.fld.c1
          have x2 := TD.out.fld.c2
          generalize (ffOf p pw g).size = z at *
          clear hin hce
          go_wp2_with fail
          refine wp_region_lastW (S := (fun w' => w'.cell? ⟨X, 0, none⟩ = some (.int .i64 p) ∧ w'.cell? ⟨X, 1, none⟩ = some (.int .i64 pw) ∧ w'.cell? ⟨X, 2, none⟩ = some (.int .i64 g) ∧ w'.cell? ⟨bE, oE + k, none⟩ = some (.int .i64 (q : Int)))) 11 (by kernel_rfl) rfl (by kernel_rfl) ?_ (fun hHeld => ?_)
          · (try dsimp only); exact ⟨x0, x1, x2, hced⟩
          simp only [List.take_succ_cons, List.take_zero]
          refine wpAnyH_take (i := 0) (oi := _) (v := ?_) rfl (by kernel_rfl) (by kernel_rfl) (by kernel_rfl) (fun _ _ _ h => h) (Or.inl ⟨by rfl, ?_⟩) hHeld ?_
          rotate_left
          · intro w0 hSw; (try dsimp only at hSw); go_simp; (try with_reducible rfl)
          (try dsimp only [Act.put, List.setIfInBounds_toArray, List.set_cons_zero, List.set_cons_succ])
          refine wpAnyH_take (i := 1) (oi := _) (v := ?_) rfl (by kernel_rfl) (by kernel_rfl) (by kernel_rfl) (fun _ _ _ h => h) (Or.inl ⟨by rfl, ?_⟩) hHeld ?_
          rotate_left
          · intro w0 hSw; (try dsimp only at hSw); go_simp; (try with_reducible rfl)
          (try dsimp only [Act.put, List.setIfInBounds_toArray, List.set_cons_zero, List.set_cons_succ])
          refine wpAnyH_take (i := 2) (oi := _) (v := ?_) rfl (by kernel_rfl) (by kernel_rfl) (by kernel_rfl) (fun _ _ _ h => h) (Or.inl ⟨by rfl, ?_⟩) hHeld ?_
          rotate_left
          · intro w0 hSw; (try dsimp only at hSw); go_simp; (try with_reducible rfl)
          (try dsimp only [Act.put, List.setIfInBounds_toArray, List.set_cons_zero, List.set_cons_succ])
          refine wpAnyH_take (i := 3) (oi := _) (v := ?_) rfl (by kernel_rfl) (by kernel_rfl) (by kernel_rfl) (fun _ _ _ h => h) (Or.inl ⟨by rfl, ?_⟩) hHeld ?_
          rotate_left
          · intro w0 hSw; (try dsimp only at hSw); go_simp; (try with_reducible rfl)
          (try dsimp only [Act.put, List.setIfInBounds_toArray, List.set_cons_zero, List.set_cons_succ])
          refine wpAnyH_take (i := 4) (oi := _) (v := ?_) rfl (by kernel_rfl) (by kernel_rfl) (by kernel_rfl) (fun _ _ _ h => h) (Or.inl ⟨by rfl, ?_⟩) hHeld ?_
          rotate_left
          · intro w0 hSw; (try dsimp only at hSw); go_simp; (try with_reducible rfl)
          (try dsimp only [Act.put, List.setIfInBounds_toArray, List.set_cons_zero, List.set_cons_succ])
          refine wpAnyH_take (i := 5) (oi := _) (v := ?_) rfl (by kernel_rfl) (by kernel_rfl) (by kernel_rfl) (fun _ _ _ h => h) (Or.inl ⟨by rfl, ?_⟩) hHeld ?_
          rotate_left
          · intro w0 hSw; (try dsimp only at hSw); go_simp; (try with_reducible rfl)
          (try dsimp only [Act.put, List.setIfInBounds_toArray, List.set_cons_zero, List.set_cons_succ])
          refine wpAnyH_take (i := 6) (oi := _) (v := ?_) rfl (by kernel_rfl) (by kernel_rfl) (by kernel_rfl) (fun _ _ _ h => h) (Or.inl ⟨by rfl, ?_⟩) hHeld ?_
          rotate_left
          · intro w0 hSw; (try dsimp only at hSw); go_simp; (try with_reducible rfl)
          (try dsimp only [Act.put, List.setIfInBounds_toArray, List.set_cons_zero, List.set_cons_succ])
          refine wpAnyH_take (i := 7) (oi := _) (v := ?_) rfl (by kernel_rfl) (by kernel_rfl) (by kernel_rfl) (fun _ _ _ h => h) (Or.inl ⟨by rfl, ?_⟩) hHeld ?_
          rotate_left
          · intro w0 hSw; (try dsimp only at hSw); go_simp; (try with_reducible rfl)
          (try dsimp only [Act.put, List.setIfInBounds_toArray, List.set_cons_zero, List.set_cons_succ])
          refine wpAnyH_ready (rs := [8]) (by kernel_rfl) (by simp) ?_
          refine AllReadyH.cons (o := _) rfl (fun K hK => ?_) AllReadyH.nil
          go_simp
          refine (HSZ.out _).mono ?_
          rintro e wb ⟨rfl, hb8⟩
          have T8 := TD.out.below hb8
          go_wp2_with fail
          refine hK.out _ _ ?_ (fun hHeld => ?_)
          · (try dsimp only); exact ⟨T8.fld.c0, T8.fld.c1, T8.fld.c2, keep_cell hb8 hHeld.2.2.2⟩
          clear hK K
          (try dsimp only [Act.put, List.setIfInBounds_toArray, List.set_cons_zero, List.set_cons_succ])
          refine wpAnyH_ready (rs := [9]) (by kernel_rfl) (by simp) ?_
          refine AllReadyH.cons (o := _) rfl (fun K hK => ?_) AllReadyH.nil
          go_simp
          refine (l01Next_any T8.src z (by omega)).mono ?_
          rintro e wc ⟨x, rfl, hx9, hd9, hs9⟩
          have T9 := T8.drS hd9 hs9
          have O9 := (OD.out.below hb8).dr hd9 hsw4
          have E9 := (ED.out.below hb8).dr hd9 hsw4
          obtain ⟨g1, cp1, cur, e1, hg1, hg2, hg3, -, hoa⟩ := O9.form (by have := HLZ.out; omega)
          simp only [Value.slice.injEq] at e1
          obtain ⟨rfl, -, rfl⟩ := e1
          have fzz : wc.frozen? ⟨g1, q, none⟩ = false := by unfold World.frozen?; rw [hg3]; simp
          obtain ⟨b2, o2, e2, _, hcs2⟩ := hoa.row.at' (by have := HLZ.out; omega)
          cases e2
          have hcell2 := hcs2 q (by have := HLZ.out; omega)
          rw [Nat.zero_add] at hcell2
          clear hg3 hcs2 hoa
          go_wp2_with fail
          refine hK.out _ _ ?_ (fun hHeld => ?_)
          · (try dsimp only); exact ⟨T9.fld.c0, T9.fld.c1, T9.fld.c2, hd9.cell hHeld.2.2.2 (by omega)⟩
          clear hK K
          (try dsimp only [Act.put, List.setIfInBounds_toArray, List.set_cons_zero, List.set_cons_succ])
          refine wpAnyH_take (i := 10) (oi := _) (v := ?_) rfl (by kernel_rfl) (by kernel_rfl) (by kernel_rfl) (fun _ _ _ h => h) (Or.inl ⟨by rfl, ?_⟩) hHeld ?_
          rotate_left
          · intro w0 hSw; (try dsimp only at hSw); go_simp; (try with_reducible rfl)
          (try dsimp only [Act.put, List.setIfInBounds_toArray, List.set_cons_zero, List.set_cons_succ])
          refine wpAnyH_done (by kernel_rfl) (lastQ_normalW ?_) _
          have hgM : w6.heap.size ≤ g1 := HWM.out g1 rfl
          have hEg : bE < w6.heap.size := HEM.out bE rfl
          have OF := Lib.hid (O9.set (k := q) (by have := HLZ.out; omega) x)
          have EF := Lib.hid (E9.other (G := g1) (j := q) (x := .int .i64 x) (fun k hk => by simp only [Value.ownBlock, Option.some.injEq] at hk; omega))
          have TF := Lib.hid (T9.set (b := g1) (o := q) (v := .int .i64 x) (by omega))
          have HLF := Lib.hid (show (zs.set q x).length = nW by rw [List.length_set]; exact HLZ.out)
          clear hd9 hs9 O9 T9 T8 hb8 E9 TD OD ED hHeld x0 x1 x2 hced
          go_wp2_with fail
          go_roundw
          case rel => exact ⟨k + 1, zs.set q x, by omega, by go_num, HLF, OF, EF, TF⟩
          case measure => simp [intOf]; omega
    · obtain rfl : k = nE := by omega
      have x0 := ht.out.fld.c0
      have x1 := ht.out.fld.c1
      have x2 := ht.out.fld.c2
      have x3 := ht.out.fld.c3
      have x4 := ht.out.fld.c4
      have r0 := ht.out.res.c0
      have r1 := ht.out.res.c1
      have r2 := ht.out.res.c2
      have r3 := ht.out.res.c3
      have r4 := ht.out.res.c4
      have f0 := ht.out.res.fz 0
      have f1 := ht.out.res.fz 1
      have f2 := ht.out.res.fz 2
      have f3 := ht.out.res.fz 3
      have f4 := ht.out.res.fz 4
      have hX4' := hX4
      go_wp2_with fail
      (try simp only [Exit.inBlock, Exit.then])
      have hRK : w.heap.size < w4.heap.size := by omega
      have FF := Lib.hid (ht.out.res.set p pw g l c)
      have DF := Lib.hid (setC_dr (B := w.heap.size) (p := p) (pw := pw) (g := g) (l := l) (c := c) s ht.out.dr (Nat.le_refl _))
      have SF := Lib.hid (setC_src (B := w.heap.size) (p := p) (pw := pw) (g := g) (l := l) (c := c) ht.out.src (by omega))
      have OaF := Lib.hid ((setC_own (B := w.heap.size) (p := p) (pw := pw) (g := g) (l := l) (c := c) ho.out hRK).lower (C := w.heap.size) (Nat.le_of_lt hRK))
      have ObF := Lib.hid ((setC_own (B := w.heap.size) (p := p) (pw := pw) (g := g) (l := l) (c := c) he.out hRK).lower (C := w.heap.size) (Nat.le_of_lt hRK))
      exact ret_cell3 HRES.out Try.underlying40 rfl (by kernel_rfl) rfl rfl FF.out.blk ⟨_, _, _, _, _, _, _, rfl, hl1, hl2, hc1, hc2, DF.out, SF.out, _, _, OaF.out, ObF.out, by have := HLZ.out; omega, by have := HNE.out; omega⟩
end Go.Proofs.Ythbiieflmmnfcaa
/-
  What the laws of correction draw.
-/
namespace Go.Proofs.Ythbiieflmmnfcaa
open Go.RowKit
set_option linter.unusedVariables false

set_option maxHeartbeats 8000000 in
set_option maxRecDepth 100000 in
theorem DrawDamageOf_any {w : World} {c0 : Option Addr} {n0 cap0 : Nat} {bs : List Int} (hr : RowB w c0 n0 bs) :
    Calls Try.prog 66 #[.slice c0 n0 cap0] w fun e w' => ∃ p pw g l c v v2 v3, e = .returned (.tuple #[cV p pw g l c, v, v2, v3]) ∧ Below w.heap.size w w' ∧ ∃ zs zs2 zs3, OwnL w' w.heap.size v zs ∧ OwnL w' w.heap.size v2 zs2 ∧ OwnL w' w.heap.size v3 zs3 ∧ zs.length ≤ 1000 ∧ zs2.length ≤ 1000 ∧ zs3.length ≤ 1000 := by
  have B0 := Lib.hid (below1 w (.cells #[.int .i64 0, .int .i64 0, .int .i64 0, .int .i64 0, .int .i64 0] CT))
  have HR := Lib.hid (hr.below' B0.out)
  have F0 := Lib.hid (CB.new w 0 0 0 0 0)
  have HRES := Lib.hid (show Try.f66.results = #[.cell 2 CT, .tmp 3, .tmp 4, .tmp 5] by kernel_rfl)
  clear hr
  go_enter Try.func66, Try.ntmps66
  go_wp2_with fail
  generalize w.alloc (.cells #[.int .i64 0, .int .i64 0, .int .i64 0, .int .i64 0, .int .i64 0] CT) = w1 at *
  refine (l01From_any HR.out).mono ?_
  rintro e w2 ⟨s, rfl, hs, hb2, hsrc⟩
  have F2 := Lib.hid (F0.out.below hb2 F0.out.lt)
  have B2 := Lib.hid (B0.out.trans (hb2.mono B0.out.size))
  have hR : w.heap.size < s := Nat.lt_of_lt_of_le F0.out.lt hs
  have hRK : w.heap.size < w2.heap.size := F2.out.lt
  have S2 := Lib.hid hsrc
  have S2L := hsrc.lt
  clear hb2 hsrc F0 B0 HR hs
  go_wp2_with fail
  refine (l05DrawWord_any S2.out).mono ?_
  rintro e w3 ⟨p, pw, g, l, c, v, v2, rfl, hl1, hl2, hc1, hc2, hd, hs3, zs, zs2, ho, ho2, hlz, hlz2⟩
  have F3 := Lib.hid (F2.out.dr hd (by omega))
  have B3 := Lib.hid (B2.out.trans (hd.below (by omega) B2.out.size))
  have OA := Lib.hid ho
  have OB := Lib.hid ho2
  have S3 := Lib.hid hs3
  have hz3 := hd.size
  have X4 := Lib.hid (CB.new w3 p pw g l c)
  have F4 := Lib.hid (F3.out.below (below1 w3 (.cells #[.int .i64 p, .int .i64 pw, .int .i64 g, .int .i64 l, .int .i64 c] CT)) F3.out.lt)
  have B4 := Lib.hid (B3.out.alloc B3.out.size (.cells #[.int .i64 p, .int .i64 pw, .int .i64 g, .int .i64 l, .int .i64 c] CT))
  have OA4 := Lib.hid (OA.out.below (below1 w3 (.cells #[.int .i64 p, .int .i64 pw, .int .i64 g, .int .i64 l, .int .i64 c] CT)))
  have OB4 := Lib.hid (OB.out.below (below1 w3 (.cells #[.int .i64 p, .int .i64 pw, .int .i64 g, .int .i64 l, .int .i64 c] CT)))
  have S4 := Lib.hid (S3.out.alloc (.cells #[.int .i64 p, .int .i64 pw, .int .i64 g, .int .i64 l, .int .i64 c] CT))
  obtain ⟨X, hX⟩ : ∃ X, X = w3.heap.size := ⟨_, rfl⟩
  have hRX : w.heap.size < X := by rw [hX]; omega
  have hsX : s < X := by rw [hX]; exact S3.out.lt
  rw [← hX] at X4
  have hw24 : w2.heap.size ≤ (w3.alloc (.cells #[.int .i64 p, .int .i64 pw, .int .i64 g, .int .i64 l, .int .i64 c] CT)).heap.size := by simp; omega
  clear hd hs3 ho ho2 S2 F2 B2 F3 B3 OA OB S3
  go_wp2_with fail
  rw [← hX]
  clear hX
  generalize w3.alloc (.cells #[.int .i64 p, .int .i64 pw, .int .i64 g, .int .i64 l, .int .i64 c] CT) = w4 at *
  have hXR : X ≠ w.heap.size := by omega
  have XD := Lib.hid (X4.out.below (Drew.below (drew1 w4) _) X4.out.lt)
  have FD := Lib.hid (F4.out.below (Drew.below (drew1 w4) _) F4.out.lt)
  have BD := Lib.hid (B4.out.trans ((Drew.below (drew1 w4) w4.heap.size).mono B4.out.size))
  have SD := Lib.hid (S4.out.drew (drew1 w4))
  have OAD := Lib.hid (OA4.out.below (Drew.below (drew1 w4) _))
  have OBD := Lib.hid (OB4.out.below (Drew.below (drew1 w4) _))
  have hsw2 : s < w2.heap.size := S2L
  clear X4 F4 B4 OA4 OB4 S4
  have x0 := XD.out.c0
  have x1 := XD.out.c1
  have x2 := XD.out.c2
  have x3 := XD.out.c3
  have x4 := XD.out.c4
  go_wp2_with fail
  refine wp_region_lastW (S := (fun w' => w'.cell? ⟨X, 0, none⟩ = some (.int .i64 p) ∧ w'.cell? ⟨X, 1, none⟩ = some (.int .i64 pw) ∧ w'.cell? ⟨X, 2, none⟩ = some (.int .i64 g) ∧ w'.cell? ⟨X, 3, none⟩ = some (.int .i64 l) ∧ w'.cell? ⟨X, 4, none⟩ = some (.int .i64 c))) 9 (by kernel_rfl) rfl (by kernel_rfl) ?_ (fun hHeld => ?_)
  · (try dsimp only); exact ⟨x0, x1, x2, x3, x4⟩
  simp only [List.take_succ_cons, List.take_zero]
  refine wpAnyH_take (i := 0) (oi := _) (v := ?_) rfl (by kernel_rfl) (by kernel_rfl) (by kernel_rfl) (fun _ _ _ h => h) (Or.inl ⟨by rfl, ?_⟩) hHeld ?_
  rotate_left
  · intro w0 hSw; (try dsimp only at hSw); go_simp; (try with_reducible rfl)
  (try dsimp only [Act.put, List.setIfInBounds_toArray, List.set_cons_zero, List.set_cons_succ])
  refine wpAnyH_take (i := 1) (oi := _) (v := ?_) rfl (by kernel_rfl) (by kernel_rfl) (by kernel_rfl) (fun _ _ _ h => h) (Or.inl ⟨by rfl, ?_⟩) hHeld ?_
  rotate_left
  · intro w0 hSw; (try dsimp only at hSw); go_simp; (try with_reducible rfl)
  (try dsimp only [Act.put, List.setIfInBounds_toArray, List.set_cons_zero, List.set_cons_succ])
  refine wpAnyH_take (i := 2) (oi := _) (v := ?_) rfl (by kernel_rfl) (by kernel_rfl) (by kernel_rfl) (fun _ _ _ h => h) (Or.inl ⟨by rfl, ?_⟩) hHeld ?_
  rotate_left
  · intro w0 hSw; (try dsimp only at hSw); go_simp; (try with_reducible rfl)
  (try dsimp only [Act.put, List.setIfInBounds_toArray, List.set_cons_zero, List.set_cons_succ])
  refine wpAnyH_take (i := 3) (oi := _) (v := ?_) rfl (by kernel_rfl) (by kernel_rfl) (by kernel_rfl) (fun _ _ _ h => h) (Or.inl ⟨by rfl, ?_⟩) hHeld ?_
  rotate_left
  · intro w0 hSw; (try dsimp only at hSw); go_simp; (try with_reducible rfl)
  (try dsimp only [Act.put, List.setIfInBounds_toArray, List.set_cons_zero, List.set_cons_succ])
  refine wpAnyH_take (i := 5) (oi := _) (v := ?_) rfl (by kernel_rfl) (by kernel_rfl) (by kernel_rfl) (fun _ _ _ h => h) (Or.inl ⟨by rfl, ?_⟩) hHeld ?_
  rotate_left
  · intro w0 hSw; (try dsimp only at hSw); go_simp; (try with_reducible rfl)
  (try dsimp only [Act.put, List.setIfInBounds_toArray, List.set_cons_zero, List.set_cons_succ])
  refine wpAnyH_ready (rs := [4]) (by kernel_rfl) (by simp) ?_
  refine AllReadyH.cons (o := _) rfl (fun K hK => ?_) AllReadyH.nil
  go_simp
  refine (l04DrawWord_any SD.out p pw g l c 1 hl1 hl2 hc1 hc2 (by omega) (by omega)).mono ?_
  rintro e w5 ⟨v5, rfl, hd5, hs5, z5, ho5, hl5⟩
  have X5 := XD.out.dr hd5 (show X ≠ s by omega)
  have F5 := Lib.hid (FD.out.dr hd5 (show w.heap.size ≠ s by omega))
  have r0 := F5.out.c0
  have r1 := F5.out.c1
  have r2 := F5.out.c2
  have r3 := F5.out.c3
  have r4 := F5.out.c4
  have f0 := F5.out.fz 0
  have f1 := F5.out.fz 1
  have f2 := F5.out.fz 2
  have f3 := F5.out.fz 3
  have f4 := F5.out.fz 4
  go_wp2_with fail
  refine hK.out _ _ ?_ (fun hHeld => ?_)
  · (try dsimp only); exact ⟨X5.c0, X5.c1, X5.c2, X5.c3, X5.c4⟩
  clear hK K
  (try dsimp only [Act.put, List.setIfInBounds_toArray, List.set_cons_zero, List.set_cons_succ])
  refine wpAnyH_ready (rs := [6]) (by kernel_rfl) (by simp) ?_
  refine AllReadyH.cons (o := _) rfl (fun K hK => ?_) AllReadyH.nil
  go_simp
  go_wp2_with fail
  refine hK.out _ _ ?_ (fun hHeld => ?_)
  · (try dsimp only); exact ⟨set5_cell hXR hHeld.1, set5_cell hXR hHeld.2.1, set5_cell hXR hHeld.2.2.1, set5_cell hXR hHeld.2.2.2.1, set5_cell hXR hHeld.2.2.2.2⟩
  clear hK K
  (try dsimp only [Act.put, List.setIfInBounds_toArray, List.set_cons_zero, List.set_cons_succ])
  refine wpAnyH_take (i := 7) (oi := _) (v := ?_) rfl (by kernel_rfl) (by kernel_rfl) (by kernel_rfl) (fun _ _ _ h => h) (Or.inl ⟨by rfl, ?_⟩) hHeld ?_
  rotate_left
  · intro w0 hSw; (try dsimp only at hSw); go_simp; (try with_reducible rfl)
  (try dsimp only [Act.put, List.setIfInBounds_toArray, List.set_cons_zero, List.set_cons_succ])
  refine wpAnyH_take (i := 8) (oi := _) (v := ?_) rfl (by kernel_rfl) (by kernel_rfl) (by kernel_rfl) (fun _ _ _ h => h) (Or.inl ⟨by rfl, ?_⟩) hHeld ?_
  rotate_left
  · intro w0 hSw; (try dsimp only at hSw); go_simp; (try with_reducible rfl)
  (try dsimp only [Act.put, List.setIfInBounds_toArray, List.set_cons_zero, List.set_cons_succ])
  refine wpAnyH_done (by kernel_rfl) (lastQ_normalW ?_) _
  have B5 := BD.out.trans (hd5.below (show w.heap.size ≤ s by omega) BD.out.size)
  have OA5 := Lib.hid (OAD.out.dr hd5 hsw2)
  have OB5 := Lib.hid (OBD.out.dr hd5 hsw2)
  have hz4 : w2.heap.size ≤ w4.heap.size := hw24
  have OC5 := Lib.hid (ho5.lower (C := w2.heap.size) (by simpa using hz4))
  have FF := Lib.hid (F5.out.set p pw g l c)
  have BF := Lib.hid (setC_below (B := w.heap.size) (p := p) (pw := pw) (g := g) (l := l) (c := c) B5 (Nat.le_refl _))
  have OaF := Lib.hid ((setC_own (B := w.heap.size) (p := p) (pw := pw) (g := g) (l := l) (c := c) OA5.out hRK).lower (C := w.heap.size) (Nat.le_of_lt hRK))
  have ObF := Lib.hid ((setC_own (B := w.heap.size) (p := p) (pw := pw) (g := g) (l := l) (c := c) OB5.out hRK).lower (C := w.heap.size) (Nat.le_of_lt hRK))
  have OcF := Lib.hid ((setC_own (B := w.heap.size) (p := p) (pw := pw) (g := g) (l := l) (c := c) OC5.out hRK).lower (C := w.heap.size) (Nat.le_of_lt hRK))
  go_wp2_with fail
  (try simp only [Exit.inBlock, Exit.then])
  exact ret_cell4 HRES.out Try.underlying40 rfl (by kernel_rfl) rfl rfl FF.out.blk ⟨_, _, _, _, _, _, _, _, rfl, BF.out, _, _, _, OaF.out, OcF.out, ObF.out, hlz, hl5, hlz2⟩
end Go.Proofs.Ythbiieflmmnfcaa
