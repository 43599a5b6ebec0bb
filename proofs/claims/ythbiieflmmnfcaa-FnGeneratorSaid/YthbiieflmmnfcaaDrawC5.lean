/-
  What the laws of codes draw.
-/
import Derived.Test.YthbiieflmmnfcaaDrawC4
import Derived.Test.YthbiieflmmnfcaaEncO
namespace Go.Proofs.Ythbiieflmmnfcaa
open Go.RowKit
set_option linter.unusedVariables false

set_option maxHeartbeats 8000000 in
set_option maxRecDepth 100000 in
theorem l04DrawWord_any {w : World} {s : Nat} (hs : Src w s) (p pw g l c ch : Int) (hl1 : -2000 ≤ l) (hl2 : l ≤ 2000) (hc1 : -2000 ≤ c) (hc2 : c ≤ 2000) (hch0 : 0 ≤ ch) (hch : ch ≤ 2000) :
    Calls Try.prog 106 #[.pointer (some ⟨s, 0, none⟩), cV p pw g l c, .int .i64 ch] w fun e w' => ∃ v, e = .returned v ∧ Dr s w w' ∧ Src w' s ∧ ∃ zs, OwnL w' w.heap.size v zs ∧ zs.length ≤ 1000 := by
  have hsz := hs.lt
  have F0 := Lib.hid (CB.new w p pw g l c)
  have B0 := below1 w (.cells #[.int .i64 p, .int .i64 pw, .int .i64 g, .int .i64 l, .int .i64 c] CT)
  have HS := Lib.hid (hs.below B0)
  have D0 := Lib.hid (Dr.of (s := s) B0)
  have hB1 : w.heap.size < (w.alloc (.cells #[.int .i64 p, .int .i64 pw, .int .i64 g, .int .i64 l, .int .i64 c] CT)).heap.size := F0.out.lt
  have x0 := F0.out.c0
  have x1 := F0.out.c1
  have x2 := F0.out.c2
  have x3 := F0.out.c3
  have x4 := F0.out.c4
  clear hs B0
  go_enter Try.func106, Try.ntmps106
  go_wp2_with fail
  generalize w.alloc (.cells #[.int .i64 p, .int .i64 pw, .int .i64 g, .int .i64 l, .int .i64 c] CT) = w1 at *
  refine (isCode_any p pw g l c w1).mono ?_
  rintro e w2 ⟨rfl, hb2⟩
  have S2 := Lib.hid (HS.out.below hb2)
  have D2 := Lib.hid (Dr.of (s := s) hb2)
  have F2 := Lib.hid (F0.out.below hb2 F0.out.lt)
  have hz2 := hb2.size
  clear x0 x1 x2 x3 x4 HS hb2 F0
  have x0 := F2.out.c0
  have x1 := F2.out.c1
  have x2 := F2.out.c2
  have x3 := F2.out.c3
  have x4 := F2.out.c4
  cases hv : validC p pw g l c with
  | false =>
    clear hv
    have HO := Lib.hid (OwnL.lit w2 w.heap.size (by omega) [1, 0, 2] (by simp))
    have HSF := Lib.hid (S2.out.alloc (.cells #[.int .i64 1, .int .i64 0, .int .i64 2] 2))
    have HDF := Lib.hid ((D0.out.trans D2.out).alloc (.cells #[.int .i64 1, .int .i64 0, .int .i64 2] 2))
    go_wp2_with fail
    go_ret
    exact ⟨_, rfl, HDF.out, HSF.out, _, HO.out, by simp⟩
  | true =>
    obtain ⟨hvB, -, -, -, hl255, -⟩ := validC_iff hv
    have hszb := (ffOf_ok hvB).hi
    have hszl := (ffOf_ok hvB).lo
    have HSZ := Lib.hid (fun W => l02Size_any p pw g W (ranged_of hvB))
    clear hv hvB
    go_wp2_with fail
    refine (l04DrawMessage_any S2.out p pw g l c hl1 hl2 hc1 hc2).mono ?_
    rintro e w3 ⟨vm, rfl, hd3, hs3, zm, hom, hlm⟩
    have S3 := Lib.hid hs3
    have D3 := Lib.hid (D2.out.trans hd3)
    have F3 := Lib.hid (F2.out.dr hd3 (by omega))
    have OM := Lib.hid (hom.lower (C := w1.heap.size) hz2)
    have hz3 := hd3.size
    clear hd3 hs3 hom x0 x1 x2 x3 x4 F2 D2 S2
    have x0 := F3.out.c0
    have x1 := F3.out.c1
    have x2 := F3.out.c2
    have x3 := F3.out.c3
    have x4 := F3.out.c4
    obtain ⟨am, cm, rfl, -, hcam, hoam⟩ := OM.out.cap
    go_wp2_with fail
    refine (specEncodeWordO_any p pw g l c _ hoam.row hcam).mono ?_
    rintro e w4 ⟨vo, rfl, hb4, hoo⟩
    have S4 := Lib.hid (S3.out.below hb4)
    have D4 := Lib.hid (D3.out.more hb4)
    have F4 := Lib.hid (F3.out.below hb4 F3.out.lt)
    have OM4 := Lib.hid (OM.out.below hb4)
    have OO4 := Lib.hid (hoo.lower (C := w1.heap.size) (by omega))
    clear hb4 hoo hcam hoam x0 x1 x2 x3 x4 F3 D3 S3 OM
    by_cases hcd : encC p pw g l c zm = 0
    rotate_left
    · have hne : (encC p pw g l c zm != 0) = true := by simp [hcd]
      have OF := Lib.hid (OM4.out.lower (C := w.heap.size) (by omega))
      have DF := Lib.hid (D0.out.trans D4.out)
      clear hcd
      go_wp2_with fail
      go_ret
      exact ⟨_, rfl, DF.out, S4.out, _, OF.out, by omega⟩
    have hne : (encC p pw g l c zm != 0) = false := by simp [hcd]
    obtain ⟨hel, hl0, -⟩ := encWR_length hcd
    have HCD := Lib.hid hcd
    clear hcd
    generalize (ffOf p pw g).size = z at *
    generalize encWR p pw g l c zm = zo at *
    generalize encC p pw g l c zm = cd at *
    obtain ⟨g0, co, cur0, rfl, hgo1, -, -, -, -⟩ := OO4.out.form (by omega)
    go_wp2_with fail
    refine (l01Next_any S4.out (ch + 1) (by omega)).mono ?_
    rintro e w5 ⟨r5, rfl, hr5, hd5, hs5⟩
    have hr5b : 0 ≤ r5 ∧ r5 ≤ 2000 := by
      by_cases h : ch + 1 ≤ 1
      · have := hr5.1 h; omega
      · have := hr5.2 (by omega); omega
    have S5 := Lib.hid hs5
    have D5 := Lib.hid (D4.out.trans hd5)
    have F5 := Lib.hid (F4.out.dr hd5 (by omega))
    have OO5 := Lib.hid (OO4.out.dr hd5 (by omega))
    clear hd5 hs5 F4 D4 S4 OO4 OM4 hr5
    go_wp2_with fail
    go_loopw [10] (fun t wr => ∃ (k : Int) (zs : List Int), 0 ≤ k ∧ k ≤ 2000 ∧ t = .int .i64 k ∧ zs.length = zo.length ∧ Hid (OwnL wr w1.heap.size (.slice (some ⟨g0, 0, none⟩) zo.length co) zs) ∧ Hid (CB wr w.heap.size p pw g l c) ∧ Hid (Dr s w1 wr) ∧ Hid (Src wr s)) (fun t _ => (intOf t).toNat)
    case atStart => exact ⟨r5, zo, hr5b.1, hr5b.2, rfl, rfl, OO5, F5, D5, S5⟩
    case round =>
      clear OO5 F5 D5 S5 hr5b
      obtain ⟨k, zs, hk1, hk2, rfl, hlen, ho, hf, hd, hsr⟩ := hrel
      have x0 := hf.out.c0
      have x1 := hf.out.c1
      have x2 := hf.out.c2
      have x3 := hf.out.c3
      by_cases hg : 0 < k
      · have TS := Lib.hid (hsr.out.drew (drew1 wr))
        have TF := Lib.hid (hf.out.below (Drew.below (drew1 wr) _) hf.out.lt)
        have TO := Lib.hid (ho.out.below (Drew.below (drew1 wr) _))
        have TD := Lib.hid (hd.out.drew (drew1 wr))
        have HEL := Lib.hid hel
        clear hsr hf ho hd hel
        go_wp2_with fail
        refine wp_region_last (S := (fun w' => w'.cell? ⟨w.heap.size, 0, none⟩ = some (.int .i64 p) ∧ w'.cell? ⟨w.heap.size, 1, none⟩ = some (.int .i64 pw) ∧ w'.cell? ⟨w.heap.size, 2, none⟩ = some (.int .i64 g) ∧ w'.cell? ⟨w.heap.size, 3, none⟩ = some (.int .i64 l))) 11 (by kernel_rfl) rfl (by kernel_rfl) ?_ (fun hHeld => ?_)
        · (try dsimp only); exact ⟨x0, x1, x2, x3⟩
        simp only [List.take_succ_cons, List.take_zero]
        refine wpAnyH_take (i := 0) (oi := _) (v := ?_) rfl (by kernel_rfl) (by kernel_rfl) (by kernel_rfl) (fun _ _ _ h => h) (Or.inl ⟨by rfl, ?_⟩) hHeld ?_
        rotate_left
        · intro w0 hSw; (try dsimp only at hSw); go_simp; (try with_reducible rfl)
        (try dsimp only [Act.put, List.setIfInBounds_toArray, List.set_cons_zero, List.set_cons_succ])
        refine wpAnyH_take (i := 1) (oi := _) (v := ?_) rfl (by kernel_rfl) (by kernel_rfl) (by kernel_rfl) (fun _ _ _ h => h) (Or.inl ⟨by rfl, ?_⟩) hHeld ?_
        rotate_left
        · intro w0 hSw; (try dsimp only at hSw); go_simp; (try with_reducible rfl)
        (try dsimp only [Act.put, List.setIfInBounds_toArray, List.set_cons_zero, List.set_cons_succ])
        refine wpAnyH_take (i := 2) (oi := _) (v := ?_) rfl (by kernel_rfl) (by kernel_rfl) (by kernel_rfl) (fun _ _ _ h => h) (Or.inl ⟨by rfl, ?_⟩) hHeld ?_
        rotate_left
        · intro w0 hSw; (try dsimp only at hSw); go_simp; (try with_reducible rfl)
        (try dsimp only [Act.put, List.setIfInBounds_toArray, List.set_cons_zero, List.set_cons_succ])
        refine wpAnyH_take (i := 3) (oi := _) (v := ?_) rfl (by kernel_rfl) (by kernel_rfl) (by kernel_rfl) (fun _ _ _ h => h) (Or.inl ⟨by rfl, ?_⟩) hHeld ?_
        rotate_left
        · intro w0 hSw; (try dsimp only at hSw); go_simp; (try with_reducible rfl)
        (try dsimp only [Act.put, List.setIfInBounds_toArray, List.set_cons_zero, List.set_cons_succ])
        refine wpAnyH_take (i := 5) (oi := _) (v := ?_) rfl (by kernel_rfl) (by kernel_rfl) (by kernel_rfl) (fun _ _ _ h => h) (Or.inl ⟨by rfl, ?_⟩) hHeld ?_
        rotate_left
        · intro w0 hSw; (try dsimp only at hSw); go_simp; (try with_reducible rfl)
        (try dsimp only [Act.put, List.setIfInBounds_toArray, List.set_cons_zero, List.set_cons_succ])
        refine wpAnyH_take (i := 6) (oi := _) (v := ?_) rfl (by kernel_rfl) (by kernel_rfl) (by kernel_rfl) (fun _ _ _ h => h) (Or.inl ⟨by rfl, ?_⟩) hHeld ?_
        rotate_left
        · intro w0 hSw; (try dsimp only at hSw); go_simp; (try with_reducible rfl)
        (try dsimp only [Act.put, List.setIfInBounds_toArray, List.set_cons_zero, List.set_cons_succ])
        refine wpAnyH_take (i := 7) (oi := _) (v := ?_) rfl (by kernel_rfl) (by kernel_rfl) (by kernel_rfl) (fun _ _ _ h => h) (Or.inl ⟨by rfl, ?_⟩) hHeld ?_
        rotate_left
        · intro w0 hSw; (try dsimp only at hSw); go_simp; (try with_reducible rfl)
        (try dsimp only [Act.put, List.setIfInBounds_toArray, List.set_cons_zero, List.set_cons_succ])
        refine wpAnyH_ready (rs := [4]) (by kernel_rfl) (by simp) ?_
        refine AllReadyH.cons (o := _) rfl (fun K hK => ?_) AllReadyH.nil
        go_simp
        refine (l01Next_any TS.out l (by omega)).mono ?_
        rintro e w7 ⟨q7, rfl, hq7, hd7, hs7⟩
        obtain ⟨hq0, hq1⟩ := hq7.2 (by omega)
        obtain ⟨q, rfl⟩ := Int.eq_ofNat_of_zero_le hq0
        have F7 := TF.out.dr hd7 (show w.heap.size ≠ s by omega)
        go_wp2_with fail
        refine hK.out _ _ ?_ (fun hHeld => ?_)
        · (try dsimp only); exact ⟨F7.c0, F7.c1, F7.c2, F7.c3⟩
        clear hK K
        (try dsimp only [Act.put, List.setIfInBounds_toArray, List.set_cons_zero, List.set_cons_succ])
        refine wpAnyH_ready (rs := [8]) (by kernel_rfl) (by simp) ?_
        refine AllReadyH.cons (o := _) rfl (fun K hK => ?_) AllReadyH.nil
        go_simp
        refine (HSZ.out _).mono ?_
        rintro e w8 ⟨rfl, hb8⟩
        have F8 := F7.below hb8 F7.lt
        go_wp2_with fail
        refine hK.out _ _ ?_ (fun hHeld => ?_)
        · (try dsimp only); exact ⟨F8.c0, F8.c1, F8.c2, F8.c3⟩
        clear hK K
        (try dsimp only [Act.put, List.setIfInBounds_toArray, List.set_cons_zero, List.set_cons_succ])
        refine wpAnyH_ready (rs := [9]) (by kernel_rfl) (by simp) ?_
        refine AllReadyH.cons (o := _) rfl (fun K hK => ?_) AllReadyH.nil
        go_simp
        refine (l01Next_any (hs7.below hb8) z (by omega)).mono ?_
        rintro e w9 ⟨x, rfl, hx9, hd9, hs9⟩
        have F9 := F8.dr hd9 (show w.heap.size ≠ s by omega)
        have O9 := ((TO.out.dr hd7 (show s < w1.heap.size by omega)).below hb8).dr hd9 (show s < w1.heap.size by omega)
        obtain ⟨g1, cp1, cur, e1, hg1, hg2, hg3, -, hoa⟩ := O9.form (by have := HEL.out; omega)
        simp only [Value.slice.injEq, Option.some.injEq, Addr.mk.injEq, and_true, true_and] at e1
        obtain ⟨rfl, -, rfl⟩ := e1
        have fzz : w9.frozen? ⟨g0, q, none⟩ = false := by unfold World.frozen?; rw [hg3]; simp
        obtain ⟨b', o', e2, _, hcs⟩ := hoa.row.at' (by have := HEL.out; omega)
        cases e2
        have hcell := hcs q (by have := HEL.out; omega)
        rw [Nat.zero_add] at hcell
        have hq4 : (q : Int) < (zo.length : Int) := by have := HEL.out; omega
        clear hg3 hcs hoa
        go_wp2_with fail
        refine hK.out _ _ ?_ (fun hHeld => ?_)
        · (try dsimp only); exact ⟨F9.c0, F9.c1, F9.c2, F9.c3⟩
        clear hK K
        (try dsimp only [Act.put, List.setIfInBounds_toArray, List.set_cons_zero, List.set_cons_succ])
        refine wpAnyH_ready (rs := [10]) (by kernel_rfl) (by simp) ?_
        refine AllReadyH.cons (o := _) rfl (fun K hK => ?_) AllReadyH.nil
        go_simp
        go_wp2_with fail
        refine hK.out _ _ ?_ (fun hHeld => ?_)
        · (try dsimp only); exact hHeld
        clear hK K
        (try dsimp only [Act.put, List.setIfInBounds_toArray, List.set_cons_zero, List.set_cons_succ])
        refine wpAnyH_done (by kernel_rfl) (lastQ_normal ?_) _
        have OF := Lib.hid ((O9.set (k := q) (by have := HEL.out; omega) x))
        have FFn := Lib.hid (F9.below ((Below.refl w1.heap.size w9).setCell (p := ⟨g0, q, none⟩) hgo1 (.int .i64 x)) hB1)
        have DFn := Lib.hid (((((TD.out.trans hd7).more hb8).trans hd9)).moreB ((Below.refl w1.heap.size w9).setCell (p := ⟨g0, q, none⟩) hgo1 (.int .i64 x)))
        have SFn := Lib.hid (hs9.other (B := g0) (by omega) q (.int .i64 x))
        clear hd7 hb8 hd9 hs7 hs9 O9 F9
        go_wp2_with fail
        go_roundw
        case rel => exact ⟨k - 1, zs.set q x, by omega, by omega, rfl, by simp; exact hlen, OF, FFn, DFn, SFn⟩
        case measure => simp [intOf]; omega
      · have hg' : k ≤ 0 := by omega
        go_wp2_with fail
        refine (next_any hsr.out 40 (by omega) (by omega)).mono ?_
        rintro e w6 ⟨q, rfl, hq, hd6, hs6⟩
        have O6 := Lib.hid (ho.out.dr hd6 (by omega))
        have D6 := Lib.hid (hd.out.trans hd6)
        have S6 := Lib.hid hs6
        have hl6 : zs.length ≤ 16777216 := by omega
        clear hd6 hs6 ho hf hd hsr x0 x1 x2 x3
        by_cases hq0 : q = 0
        · subst hq0
          go_wp2_with (at_builtin; refine append_one rfl _ _ _ rfl Try.underlying26 0 O6.out rfl _ rfl rfl hl6 ?_; intro v' w7 hown7 hb7)
          have O7 := Lib.hid (hown7.lower (C := w.heap.size) (by omega))
          have D7 := Lib.hid (D0.out.trans (D6.out.moreB hb7))
          have S7 := Lib.hid (S6.out.lo (by omega) hb7)
          clear hown7 hb7
          go_wp2_with fail
          go_ret
          exact ⟨_, rfl, D7.out, S7.out, _, O7.out, by simp; omega⟩
        · have q0 : ((q : Int) == 0) = false := by simp; omega
          have O7 := Lib.hid (O6.out.lower (C := w.heap.size) (by omega))
          have D7 := Lib.hid (D0.out.trans D6.out)
          go_wp2_with fail
          go_ret
          exact ⟨_, rfl, D7.out, S6.out, _, O7.out, by omega⟩
end Go.Proofs.Ythbiieflmmnfcaa
