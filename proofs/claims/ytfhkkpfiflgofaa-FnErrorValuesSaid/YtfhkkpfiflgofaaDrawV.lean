/-
  What the law of the values of errors draws.
-/
import Derived.Test.YtfhkkpfiflgofaaDrawW
import Derived.Test.YtfhkkpfiflgofaaCorS
namespace Go.Proofs.Ytfhkkpfiflgofaa
open Go.RowKit
set_option linter.unusedVariables false

theorem CSt.lo {w0 W W' : World} {R X s : Nat} {p pw g l c : Int} {M : Nat} (h : CSt w0 W R X s p pw g l c) (hb : Below M W W') (hM : X < M) : CSt w0 W' R X s p pw g l c := by
  have h1 := h.rs; have h2 := h.sx; have h3 := h.r0
  exact ⟨h.res.below hb (by omega), h.fld.below hb hM, h.src.lo (by omega) hb, h.bel.trans (hb.mono (by omega)), h.r0, h.rs, h.sx⟩
theorem setC_alloc {w : World} {R : Nat} (o : Obj) (p pw g l c : Int) (h : R < w.heap.size) : setC (w.alloc o) R p pw g l c = (setC w R p pw g l c).alloc o := by
  have e : ∀ (W : World) (v : Value) (i : Nat), R < W.heap.size → (W.alloc o).setCell ⟨R, i, none⟩ v = (W.setCell ⟨R, i, none⟩ v).alloc o := fun W v i hW => World.setCell_alloc_past o R i v hW
  unfold setC
  rw [e w _ 0 h, e _ _ 1 (by simpa [World.setCell] using h), e _ _ 2 (by simpa [World.setCell] using h), e _ _ 3 (by simpa [World.setCell] using h), e _ _ 4 (by simpa [World.setCell] using h)]
set_option maxHeartbeats 8000000 in
set_option maxRecDepth 100000 in
theorem DrawErrorValues_any {w : World} {c0 : Option Addr} {n0 cap0 : Nat} {bs : List Int} (hr : RowB w c0 n0 bs) :
    Calls Try.prog 25 #[.slice c0 n0 cap0] w fun e w' => ∃ p pw g l c v v2, e = .returned (.tuple #[cV p pw g l c, v, v2]) ∧ Below w.heap.size w w' ∧ ∃ zs zs2, OwnL w' w.heap.size v zs ∧ OwnL w' w.heap.size v2 zs2 ∧ zs.length ≤ 1000 ∧ zs2.length ≤ 1000 := by
  have B0 := Lib.hid (below1 w (.cells #[.int .i64 0, .int .i64 0, .int .i64 0, .int .i64 0, .int .i64 0] CT))
  have HR := Lib.hid (hr.below' B0.out)
  have F0 := Lib.hid (CB.new w 0 0 0 0 0)
  have HRES := Lib.hid (show Try.f25.results = #[.cell 2 CT, .tmp 3, .tmp 4] by kernel_rfl)
  clear hr
  go_enter Try.func25, Try.ntmps25
  go_wp2_with fail
  generalize w.alloc (.cells #[.int .i64 0, .int .i64 0, .int .i64 0, .int .i64 0, .int .i64 0] CT) = w1 at *
  refine (l01From_any HR.out).mono ?_
  rintro e w2 ⟨s, rfl, hs, hb2, hsrc⟩
  have F2 := Lib.hid (F0.out.below hb2 F0.out.lt)
  have B2 := Lib.hid (B0.out.trans (hb2.mono B0.out.size))
  have hR : w.heap.size < s := Nat.lt_of_lt_of_le F0.out.lt hs
  have S2 := Lib.hid hsrc
  clear hb2 hsrc F0 B0 HR hs
  go_wp2_with fail
  refine (l04DrawAny_any S2.out).mono ?_
  rintro e w3 ⟨p, pw, g, l, c, rfl, hl1, hl2, hc1, hc2, hd, hs3⟩
  have T4 := Lib.hid (show CSt w (w3.alloc (.cells #[.int .i64 p, .int .i64 pw, .int .i64 g, .int .i64 l, .int .i64 c] CT)) w.heap.size w3.heap.size s p pw g l c from
    ⟨(F2.out.dr hd (by omega)).below (below1 w3 _) (F2.out.dr hd (by omega)).lt, CB.new w3 p pw g l c, hs3.alloc _, (B2.out.trans (hd.below (by omega) B2.out.size)).alloc (Nat.le_trans B2.out.size hd.size) _, rfl, hR, hs3.lt⟩)
  obtain ⟨X, hX⟩ : ∃ X, X = w3.heap.size := ⟨_, rfl⟩
  rw [← hX] at T4
  clear hd hs3 F2 B2 S2
  have x0 := T4.out.fld.c0
  have x4' := (CB.new w3 p pw g l c).c4
  rw [← hX] at x4'
  clear x0 x4'
  go_wp2_with fail
  rw [← hX]
  clear hX
  generalize w3.alloc (.cells #[.int .i64 p, .int .i64 pw, .int .i64 g, .int .i64 l, .int .i64 c] CT) = w4 at *
  have hsX := T4.out.sx
  have hXR : X ≠ w.heap.size := by omega
  have hRK : w.heap.size < w4.heap.size := T4.out.res.lt
  have hsw4 : s < w4.heap.size := T4.out.src.lt
  have hX4 : X < w4.heap.size := T4.out.fld.lt
  have x0 := T4.out.fld.c0
  have x1 := T4.out.fld.c1
  have x2 := T4.out.fld.c2
  have x3 := T4.out.fld.c3
  have x4 := T4.out.fld.c4
  go_wp2_with fail
  refine (isCode_any p pw g l c w4).mono ?_
  rintro e w5 ⟨rfl, hb5⟩
  have T5 := Lib.hid (T4.out.below hb5)
  have hz5 := hb5.size
  clear T4 x0 x1 x2 x3 x4 hb5
  cases hv : validC p pw g l c with
  | false =>
    clear hv
    have OL := OwnL.lit w5 w4.heap.size hz5 [1] (by simp)
    have OL2 := Lib.hid (setC_own (B := w.heap.size) (p := p) (pw := pw) (g := g) (l := l) (c := c) OL hRK)
    rw [setC_alloc _ p pw g l c T5.out.res.lt] at OL2
    have BF := Lib.hid (setC_below (B := w.heap.size) (p := p) (pw := pw) (g := g) (l := l) (c := c) T5.out.bel (Nat.le_refl _))
    have FS := T5.out.res.set p pw g l c
    have S0 := T5.out.res
    have S1 := S0.set0 p
    have S2 := S1.set1 pw
    have S3 := S2.set2 g
    have S4 := S3.set3 l
    have g0 := (S0.below (below1 _ (.cells #[.int .i64 1] 2)) S0.lt).fz 0
    have g1 := (S1.below (below1 _ (.cells #[.int .i64 1] 2)) S1.lt).fz 1
    have g2 := (S2.below (below1 _ (.cells #[.int .i64 1] 2)) S2.lt).fz 2
    have g3 := (S3.below (below1 _ (.cells #[.int .i64 1] 2)) S3.lt).fz 3
    have g4 := (S4.below (below1 _ (.cells #[.int .i64 1] 2)) S4.lt).fz 4
    have r0 := S0.c0
    have r1 := S0.c1
    have r2 := S0.c2
    have r3 := S0.c3
    have r4 := S0.c4
    have hRX := S0.lt
    clear S0 S1 S2 S3 S4
    have x0 := T5.out.fld.c0
    have x1 := T5.out.fld.c1
    have x2 := T5.out.fld.c2
    have x3 := T5.out.fld.c3
    have x4 := T5.out.fld.c4
    clear OL hz5
    go_wp2_with fail
    (try simp only [Exit.inBlock, Exit.then])
    have FF := Lib.hid (FS.below (below1 _ (.cells #[.int .i64 1] 2)) FS.lt)
    have BF2 := Lib.hid (BF.out.alloc BF.out.size (.cells #[.int .i64 1] 2))
    have OaF := Lib.hid (OL2.out.lower (C := w.heap.size) (Nat.le_of_lt hRK))
    have ObF := Lib.hid (OwnL.nil ((setC w5 w.heap.size p pw g l c).alloc (.cells #[.int .i64 1] 2)) w.heap.size BF2.out.size)
    exact ret_cell3 HRES.out Try.underlying47 rfl (by kernel_rfl) rfl rfl FF.out.blk ⟨_, _, _, _, _, _, _, rfl, BF2.out, _, _, OaF.out, ObF.out, by simp, by simp⟩
  | true =>
    obtain ⟨hvB, hcc1, hcc2, hcl, hl255, hlz⟩ := validC_iff hv
    obtain ⟨V, hsc, -⟩ := validC_V hv
    have HSC := Lib.hid hsc
    have hszb := (ffOf_ok hvB).hi
    have hszl := (ffOf_ok hvB).lo
    have HSZ := Lib.hid (fun W => l02Size_any p pw g W (ranged_of hvB))
    have HVB := Lib.hid hvB
    have TD := Lib.hid (T5.out.below (Drew.below (drew1 w5) _))
    clear hv hvB hsc T5
    have x0 := TD.out.fld.c0
    have x1 := TD.out.fld.c1
    have x2 := TD.out.fld.c2
    have x3 := TD.out.fld.c3
    have x4 := TD.out.fld.c4
    go_wp2_with fail
    refine wp_region_lastW (S := (fun w' => w'.cell? ⟨X, 0, none⟩ = some (.int .i64 p) ∧ w'.cell? ⟨X, 1, none⟩ = some (.int .i64 pw) ∧ w'.cell? ⟨X, 2, none⟩ = some (.int .i64 g) ∧ w'.cell? ⟨X, 3, none⟩ = some (.int .i64 l) ∧ w'.cell? ⟨X, 4, none⟩ = some (.int .i64 c))) 9 (by kernel_rfl) rfl (by kernel_rfl) ?_ (fun hHeld => ?_)
    · (try dsimp only); exact ⟨x0, x1, x2, x3, x4⟩
    simp only [List.take_succ_cons, List.take_zero]
    refine wpAnyH_take (i := 0) (oi := _) (v := ?_) rfl (by kernel_rfl) (by kernel_rfl) (by kernel_rfl) (fun _ _ _ h => h) (Or.inl ⟨by rfl, ?_⟩) hHeld ?_
    rotate_left
    · intro w0 hSw; (try dsimp only at hSw); go_simp; (try with_reducible rfl)
    (try dsimp only [Act.put, List.setIfInBounds_toArray, List.set_cons_zero, List.set_cons_succ])
    refine wpAnyH_take (i := 1) (oi := _) (v := ?_) rfl (by kernel_rfl) (by kernel_rfl) (by kernel_rfl) (fun _ _ _ h => h) (Or.inl ⟨by rfl, ?_⟩) hHeld ?_
    rotate_left
    · intro w0 hSw; (try dsimp only at hSw); go_simp; (try with_reducible rfl)
    (try dsimp only [Act.put, List.setIfInBounds_toArray, List.set_cons_zero, List.set_cons_succ])
    refine wpAnyH_take (i := 2) (oi := _) (v := ?_) rfl (by kernel_rfl) (by kernel_rfl) (by kernel_rfl) (fun _ _ _ h => h) (Or.inl ⟨by rfl, ?_⟩) hHeld ?_
    rotate_left
    · intro w0 hSw; (try dsimp only at hSw); go_simp; (try with_reducible rfl)
    (try dsimp only [Act.put, List.setIfInBounds_toArray, List.set_cons_zero, List.set_cons_succ])
    refine wpAnyH_take (i := 3) (oi := _) (v := ?_) rfl (by kernel_rfl) (by kernel_rfl) (by kernel_rfl) (fun _ _ _ h => h) (Or.inl ⟨by rfl, ?_⟩) hHeld ?_
    rotate_left
    · intro w0 hSw; (try dsimp only at hSw); go_simp; (try with_reducible rfl)
    (try dsimp only [Act.put, List.setIfInBounds_toArray, List.set_cons_zero, List.set_cons_succ])
    refine wpAnyH_take (i := 4) (oi := _) (v := ?_) rfl (by kernel_rfl) (by kernel_rfl) (by kernel_rfl) (fun _ _ _ h => h) (Or.inl ⟨by rfl, ?_⟩) hHeld ?_
    rotate_left
    · intro w0 hSw; (try dsimp only at hSw); go_simp; (try with_reducible rfl)
    (try dsimp only [Act.put, List.setIfInBounds_toArray, List.set_cons_zero, List.set_cons_succ])
    refine wpAnyH_ready (rs := [5]) (by kernel_rfl) (by simp) ?_
    refine AllReadyH.cons (o := _) rfl (fun K hK => ?_) AllReadyH.nil
    go_simp
    refine (l01Next_any TD.out.src 6 (by omega)).mono ?_
    rintro e w6 ⟨q6, rfl, hq6, hd6, hs6⟩
    obtain ⟨hq0, hq1⟩ := hq6.2 (by omega)
    have T6 := TD.out.drS hd6 hs6
    go_wp2_with fail
    refine hK.out _ _ ?_ (fun hHeld => ?_)
    · (try dsimp only); exact ⟨T6.fld.c0, T6.fld.c1, T6.fld.c2, T6.fld.c3, T6.fld.c4⟩
    clear hK K
    (try dsimp only [Act.put, List.setIfInBounds_toArray, List.set_cons_zero, List.set_cons_succ])
    refine wpAnyH_take (i := 6) (oi := _) (v := ?_) rfl (by kernel_rfl) (by kernel_rfl) (by kernel_rfl) (fun _ _ _ h => h) (Or.inl ⟨by rfl, ?_⟩) hHeld ?_
    rotate_left
    · intro w0 hSw; (try dsimp only at hSw); go_simp; (try with_reducible rfl)
    (try dsimp only [Act.put, List.setIfInBounds_toArray, List.set_cons_zero, List.set_cons_succ])
    refine wpAnyH_take (i := 7) (oi := _) (v := ?_) rfl (by kernel_rfl) (by kernel_rfl) (by kernel_rfl) (fun _ _ _ h => h) (Or.inl ⟨by rfl, ?_⟩) hHeld ?_
    rotate_left
    · intro w0 hSw; (try dsimp only at hSw); go_simp; (try with_reducible rfl)
    (try dsimp only [Act.put, List.setIfInBounds_toArray, List.set_cons_zero, List.set_cons_succ])
    refine wpAnyH_ready (rs := [8]) (by kernel_rfl) (by simp) ?_
    refine AllReadyH.cons (o := _) rfl (fun K hK => ?_) AllReadyH.nil
    go_simp
    have t2 := (tdiv_bd (x := q6) 5 (by omega) (by omega) (by omega)).2.2 hq0
    rw [wrap_le (x := q6.tdiv 5) (by omega) (by omega), wrap_le (x := c + q6.tdiv 5) (by omega) (by omega)]
    refine (l05DrawIndices_any T6.src p pw g l c _ hl1 hl2 (by omega) (by omega)).mono ?_
    rintro e w7 ⟨v7, rfl, hd7, hs7, zE, hoE, hlE⟩
    have T7 := T6.drS hd7 hs7
    go_wp2_with fail
    refine hK.out _ _ ?_ (fun hHeld => ?_)
    · (try dsimp only); exact ⟨T7.fld.c0, T7.fld.c1, T7.fld.c2, T7.fld.c3, T7.fld.c4⟩
    clear hK K
    (try dsimp only [Act.put, List.setIfInBounds_toArray, List.set_cons_zero, List.set_cons_succ])
    refine wpAnyH_done (by kernel_rfl) (lastQ_normalW ?_) _
    obtain ⟨aE, cE, rfl, -, -, -⟩ := hoE.cap
    obtain ⟨nE, hnE⟩ : ∃ nE, zE.length = nE := ⟨_, rfl⟩
    have hz6 := hd6.size
    have hz7 := hd7.size
    have hz56 : w5.heap.size ≤ w6.heap.size := by simpa using hz6
    have OE := Lib.hid (show OwnL w7 w4.heap.size (.slice aE nE cE) zE by rw [← hnE]; exact hoE.lower (by omega))
    have HEM := Lib.hid (show ∀ k, (Value.slice aE nE cE).ownBlock = some k → k < w7.heap.size from fun k hk => (OE.out.2.lt k hk).2)
    have T7 := Lib.hid T7
    have HNE := Lib.hid hnE
    rw [hnE] at hlE ⊢
    have hX7 : X < w7.heap.size := T7.out.fld.lt
    have hs7' : s < w7.heap.size := by omega
    have h47 : w4.heap.size ≤ w7.heap.size := by omega
    clear hoE hnE hd6 hs6 hd7 hs7 TD T6 hHeld x0 x1 x2 x3 x4 hq6 t2
    have T8 := Lib.hid (T7.out.below (below1 w7 (.cells #[] 2)))
    have E8 := Lib.hid (OE.out.below (below1 w7 (.cells #[] 2)))
    have V8 := Lib.hid (OwnL.empty w7 w7.heap.size (Nat.le_refl _) w7.heap.size rfl)
    clear T7 OE
    go_wp2_with fail
    generalize hw8 : w7.alloc (.cells #[] 2) = w8 at *
    clear hw8
    go_loopw [8, 9] (fun a t wr => ∃ (k : Nat) (vs : List Int), k ≤ nE ∧ t = .int .i64 k ∧ Hid (vs.length = k) ∧ Hid (∀ z ∈ vs, (ffOf p pw g).el z) ∧ Hid (OwnL wr w7.heap.size a vs) ∧ Hid (OwnL wr w4.heap.size (.slice aE nE cE) zE) ∧ Hid (CSt w wr w.heap.size X s p pw g l c)) (fun _ t _ => nE - (intOf t).toNat)
    case atStart => exact ⟨0, [], by omega, rfl, Lib.hid rfl, Lib.hid (fun z hz => by cases hz), V8, E8, T8⟩
    case round =>
      clear V8 E8 T8
      obtain ⟨k, vs, hk, rfl, HVL, hel, hov, he, ht⟩ := hrel
      by_cases hlt : k < nE
      · have hkI : (k : Int) < (nE : Int) := by omega
        have x0 := ht.out.fld.c0
        have x1 := ht.out.fld.c1
        have x2 := ht.out.fld.c2
        have x3 := ht.out.fld.c3
        have x4 := ht.out.fld.c4
        obtain ⟨aV, cVv, rfl, -, -, -⟩ := hov.out.cap
        have hln : vs.length ≤ 16777216 := by have := HVL.out; omega
        go_wp2_with fail
        refine (HSZ.out _).mono ?_
        rintro e w9 ⟨rfl, hb9⟩
        have T9 := Lib.hid (ht.out.below hb9)
        have V9 := Lib.hid (hov.out.below hb9)
        have E9 := Lib.hid (he.out.below hb9)
        clear hb9 ht hov he x0 x1 x2 x3 x4
        go_wp2_with fail
        refine (l01Next_any T9.out.src _ (by omega)).mono ?_
        rintro e w10 ⟨x, rfl, hx, hd10, hs10⟩
        obtain ⟨hx0, hx1⟩ := hx.2 (by omega)
        have T10 := Lib.hid (T9.out.drS hd10 hs10)
        have V10 := Lib.hid (V9.out.dr hd10 hs7')
        have E10 := Lib.hid (E9.out.dr hd10 hsw4)
        have HEL2 := Lib.hid (show ∀ z ∈ vs ++ [x], (ffOf p pw g).el z from fun z hz => by
          rcases List.mem_append.1 hz with h | h
          · exact hel.out z h
          · simp at h; subst h; exact ⟨hx0, hx1⟩)
        have HVL2 := Lib.hid (show (vs ++ [x]).length = k + 1 by simp [HVL.out])
        clear hd10 hs10 T9 V9 E9 hx hel HVL
        go_wp2_with (at_builtin; refine append_one rfl _ _ _ rfl Try.underlying26 x V10.out rfl _ rfl rfl hln ?_; intro v' w11 hown11 hb11)
        have V11 := Lib.hid hown11
        have T11 := Lib.hid (T10.out.lo hb11 hX7)
        have E11 := Lib.hid (E10.out.belowV hb11 HEM.out)
        clear hown11 hb11 V10 T10 E10
        go_wp2_with fail
        go_roundw
        case rel => exact ⟨k + 1, vs ++ [x], by omega, by go_num, HVL2, HEL2, V11, E11, T11⟩
        case measure => simp [intOf]; omega
      · obtain rfl : k = nE := by omega
        obtain ⟨aV, cVv, rfl, -, -, -⟩ := hov.out.cap
        rw [HVL.out] at hov ⊢
        have x0 := ht.out.fld.c0
        have x1 := ht.out.fld.c1
        have x2 := ht.out.fld.c2
        have x3 := ht.out.fld.c3
        have x4 := ht.out.fld.c4
        go_wp2_with fail
        refine (l05Indices_any p pw g l c (by omega) hl255 (cap := cE) he.out.rowF).mono ?_
        rintro e w9 ⟨rfl, hb9⟩
        have T9 := Lib.hid (ht.out.below hb9)
        have V9 := Lib.hid (hov.out.below hb9)
        have E9 := Lib.hid (he.out.below hb9)
        clear hb9 ht hov he x0 x1 x2 x3 x4
        cases hri : risB 0 (l - 1) zE with
        | false =>
          clear hri
          have TD := Lib.hid (T9.out.below (Drew.below (drew1 w9) _))
          have ED := Lib.hid (E9.out.below (Drew.below (drew1 w9) _))
          obtain ⟨C, rfl⟩ : ∃ C : Nat, c = (C : Int) := ⟨c.toNat, by omega⟩
          have hmk := fun w => run_make_ints w 26 Try.underlying26 (C : Int) (by omega) (by omega)
          simp only [Int.toNat_natCast] at hmk
          have OZ0 := setC_own (B := w.heap.size) (p := p) (pw := pw) (g := g) (l := l) (c := (C : Int)) (OwnL.zeros w9 w4.heap.size E9.out.1 C (by omega)) hRK
          rw [setC_alloc _ p pw g l (C : Int) T9.out.res.lt] at OZ0
          have OZ := Lib.hid (OZ0.below (Drew.below (drew1 _) _))
          clear OZ0
          have OEF := Lib.hid (((setC_own (B := w.heap.size) (p := p) (pw := pw) (g := g) (l := l) (c := (C : Int)) E9.out hRK).below (below1 _ (.cells (madeCells #[.int .i64 0] C) 2))).below (Drew.below (drew1 _) _))
          have BF := setC_below (B := w.heap.size) (p := p) (pw := pw) (g := g) (l := l) (c := (C : Int)) T9.out.bel (Nat.le_refl _)
          have BF2 := Lib.hid ((BF.alloc BF.size (.cells (madeCells #[.int .i64 0] C) 2)).trans (Drew.below (drew1 _) _))
          have FS := T9.out.res.set p pw g l (C : Int)
          have FF := Lib.hid ((FS.below (below1 _ (.cells (madeCells #[.int .i64 0] C) 2)) FS.lt).below (Drew.below (drew1 _) _) (FS.below (below1 _ (.cells (madeCells #[.int .i64 0] C) 2)) FS.lt).lt)
          clear BF FS
          clear E9 V9 hel HVL
          have S0 := T9.out.res
          have S1 := S0.set0 p
          have S2 := S1.set1 pw
          have S3 := S2.set2 g
          have S4 := S3.set3 l
          have g0 := (S0.below (below1 _ (.cells (madeCells #[.int .i64 0] C) 2)) S0.lt).fz 0
          have g1 := (S1.below (below1 _ (.cells (madeCells #[.int .i64 0] C) 2)) S1.lt).fz 1
          have g2 := (S2.below (below1 _ (.cells (madeCells #[.int .i64 0] C) 2)) S2.lt).fz 2
          have g3 := (S3.below (below1 _ (.cells (madeCells #[.int .i64 0] C) 2)) S3.lt).fz 3
          have g4 := (S4.below (below1 _ (.cells (madeCells #[.int .i64 0] C) 2)) S4.lt).fz 4
          have r0 := S0.c0
          have r1 := S0.c1
          have r2 := S0.c2
          have r3 := S0.c3
          have r4 := S0.c4
          have hRX := S0.lt
          clear S0 S1 S2 S3 S4
          have f0 := T9.out.res.fz 0
          have f1 := T9.out.res.fz 1
          have f2 := T9.out.res.fz 2
          have f3 := T9.out.res.fz 3
          have f4 := T9.out.res.fz 4
          have hB0 := keep_cell (Drew.below (drew1 (((((w9.setCell ⟨w.heap.size, 0, none⟩ (.int .i64 p)).setCell ⟨w.heap.size, 1, none⟩ (.int .i64 pw)).setCell ⟨w.heap.size, 2, none⟩ (.int .i64 g)).setCell ⟨w.heap.size, 3, none⟩ (.int .i64 l)).setCell ⟨w.heap.size, 4, none⟩ (.int .i64 (C : Int)))) _) (set5_cell (v0 := .int .i64 p) (v1 := .int .i64 pw) (v2 := .int .i64 g) (v3 := .int .i64 l) (v4 := .int .i64 (C : Int)) hXR T9.out.fld.c0)
          have hA0 := keep_cell (Drew.below (drew1 _) _) (keep_cell (below1 _ (.cells (madeCells #[.int .i64 0] C) 2)) (set5_cell (v0 := .int .i64 p) (v1 := .int .i64 pw) (v2 := .int .i64 g) (v3 := .int .i64 l) (v4 := .int .i64 (C : Int)) hXR T9.out.fld.c0))
          have hB1 := keep_cell (Drew.below (drew1 (((((w9.setCell ⟨w.heap.size, 0, none⟩ (.int .i64 p)).setCell ⟨w.heap.size, 1, none⟩ (.int .i64 pw)).setCell ⟨w.heap.size, 2, none⟩ (.int .i64 g)).setCell ⟨w.heap.size, 3, none⟩ (.int .i64 l)).setCell ⟨w.heap.size, 4, none⟩ (.int .i64 (C : Int)))) _) (set5_cell (v0 := .int .i64 p) (v1 := .int .i64 pw) (v2 := .int .i64 g) (v3 := .int .i64 l) (v4 := .int .i64 (C : Int)) hXR T9.out.fld.c1)
          have hA1 := keep_cell (Drew.below (drew1 _) _) (keep_cell (below1 _ (.cells (madeCells #[.int .i64 0] C) 2)) (set5_cell (v0 := .int .i64 p) (v1 := .int .i64 pw) (v2 := .int .i64 g) (v3 := .int .i64 l) (v4 := .int .i64 (C : Int)) hXR T9.out.fld.c1))
          have hB2 := keep_cell (Drew.below (drew1 (((((w9.setCell ⟨w.heap.size, 0, none⟩ (.int .i64 p)).setCell ⟨w.heap.size, 1, none⟩ (.int .i64 pw)).setCell ⟨w.heap.size, 2, none⟩ (.int .i64 g)).setCell ⟨w.heap.size, 3, none⟩ (.int .i64 l)).setCell ⟨w.heap.size, 4, none⟩ (.int .i64 (C : Int)))) _) (set5_cell (v0 := .int .i64 p) (v1 := .int .i64 pw) (v2 := .int .i64 g) (v3 := .int .i64 l) (v4 := .int .i64 (C : Int)) hXR T9.out.fld.c2)
          have hA2 := keep_cell (Drew.below (drew1 _) _) (keep_cell (below1 _ (.cells (madeCells #[.int .i64 0] C) 2)) (set5_cell (v0 := .int .i64 p) (v1 := .int .i64 pw) (v2 := .int .i64 g) (v3 := .int .i64 l) (v4 := .int .i64 (C : Int)) hXR T9.out.fld.c2))
          have hB3 := keep_cell (Drew.below (drew1 (((((w9.setCell ⟨w.heap.size, 0, none⟩ (.int .i64 p)).setCell ⟨w.heap.size, 1, none⟩ (.int .i64 pw)).setCell ⟨w.heap.size, 2, none⟩ (.int .i64 g)).setCell ⟨w.heap.size, 3, none⟩ (.int .i64 l)).setCell ⟨w.heap.size, 4, none⟩ (.int .i64 (C : Int)))) _) (set5_cell (v0 := .int .i64 p) (v1 := .int .i64 pw) (v2 := .int .i64 g) (v3 := .int .i64 l) (v4 := .int .i64 (C : Int)) hXR T9.out.fld.c3)
          have hA3 := keep_cell (Drew.below (drew1 _) _) (keep_cell (below1 _ (.cells (madeCells #[.int .i64 0] C) 2)) (set5_cell (v0 := .int .i64 p) (v1 := .int .i64 pw) (v2 := .int .i64 g) (v3 := .int .i64 l) (v4 := .int .i64 (C : Int)) hXR T9.out.fld.c3))
          have hB4 := keep_cell (Drew.below (drew1 (((((w9.setCell ⟨w.heap.size, 0, none⟩ (.int .i64 p)).setCell ⟨w.heap.size, 1, none⟩ (.int .i64 pw)).setCell ⟨w.heap.size, 2, none⟩ (.int .i64 g)).setCell ⟨w.heap.size, 3, none⟩ (.int .i64 l)).setCell ⟨w.heap.size, 4, none⟩ (.int .i64 (C : Int)))) _) (set5_cell (v0 := .int .i64 p) (v1 := .int .i64 pw) (v2 := .int .i64 g) (v3 := .int .i64 l) (v4 := .int .i64 (C : Int)) hXR T9.out.fld.c4)
          have hA4 := keep_cell (Drew.below (drew1 _) _) (keep_cell (below1 _ (.cells (madeCells #[.int .i64 0] C) 2)) (set5_cell (v0 := .int .i64 p) (v1 := .int .i64 pw) (v2 := .int .i64 g) (v3 := .int .i64 l) (v4 := .int .i64 (C : Int)) hXR T9.out.fld.c4))
          have x0 := TD.out.fld.c0
          have x1 := TD.out.fld.c1
          have x2 := TD.out.fld.c2
          have x3 := TD.out.fld.c3
          have x4 := TD.out.fld.c4
          go_wp2_with fail
          refine wp_region_lastW (S := (fun w' => w'.cell? ⟨X, 0, none⟩ = some (.int .i64 p) ∧ w'.cell? ⟨X, 1, none⟩ = some (.int .i64 pw) ∧ w'.cell? ⟨X, 2, none⟩ = some (.int .i64 g) ∧ w'.cell? ⟨X, 3, none⟩ = some (.int .i64 l) ∧ w'.cell? ⟨X, 4, none⟩ = some (.int .i64 (C : Int)))) 7 (by kernel_rfl) rfl (by kernel_rfl) ?_ (fun hHeld => ?_)
          · (try dsimp only); exact ⟨x0, x1, x2, x3, x4⟩
          simp only [List.take_succ_cons, List.take_zero]
          refine wpAnyH_take (i := 0) (oi := _) (v := ?_) rfl (by kernel_rfl) (by kernel_rfl) (by kernel_rfl) (fun _ _ _ h => h) (Or.inl ⟨by rfl, ?_⟩) hHeld ?_
          rotate_left
          · intro w0 hSw; (try dsimp only at hSw); go_simp; (try with_reducible rfl)
          (try dsimp only [Act.put, List.setIfInBounds_toArray, List.set_cons_zero, List.set_cons_succ])
          refine wpAnyH_take (i := 1) (oi := _) (v := ?_) rfl (by kernel_rfl) (by kernel_rfl) (by kernel_rfl) (fun _ _ _ h => h) (Or.inl ⟨by rfl, ?_⟩) hHeld ?_
          rotate_left
          · intro w0 hSw; (try dsimp only at hSw); go_simp; (try with_reducible rfl)
          (try dsimp only [Act.put, List.setIfInBounds_toArray, List.set_cons_zero, List.set_cons_succ])
          refine wpAnyH_take (i := 2) (oi := _) (v := ?_) rfl (by kernel_rfl) (by kernel_rfl) (by kernel_rfl) (fun _ _ _ h => h) (Or.inl ⟨by rfl, ?_⟩) hHeld ?_
          rotate_left
          · intro w0 hSw; (try dsimp only at hSw); go_simp; (try with_reducible rfl)
          (try dsimp only [Act.put, List.setIfInBounds_toArray, List.set_cons_zero, List.set_cons_succ])
          refine wpAnyH_take (i := 4) (oi := _) (v := ?_) rfl (by kernel_rfl) (by kernel_rfl) (by kernel_rfl) (fun _ _ _ h => h) (Or.inl ⟨by rfl, ?_⟩) hHeld ?_
          rotate_left
          · intro w0 hSw; (try dsimp only at hSw); go_simp; (try with_reducible rfl)
          (try dsimp only [Act.put, List.setIfInBounds_toArray, List.set_cons_zero, List.set_cons_succ])
          refine wpAnyH_ready (rs := [3, 5]) (by kernel_rfl) (by simp) ?_
          refine AllReadyH.cons (o := _) rfl (fun K hK => ?_) (AllReadyH.cons (o := _) rfl (fun K hK => ?_) AllReadyH.nil)
          · go_simp
            go_wp2_with fail
            refine hK.out _ _ ?_ (fun hHeld => ?_)
            · (try dsimp only); (try simp only [and_self]); (first | exact ⟨keep_cell (below1 _ _) hHeld.1, keep_cell (below1 _ _) hHeld.2.1, keep_cell (below1 _ _) hHeld.2.2.1, keep_cell (below1 _ _) hHeld.2.2.2.1, keep_cell (below1 _ _) hHeld.2.2.2.2⟩ | (refine ⟨?_, ?_, ?_, ?_, ?_⟩ <;> go_simp))
            clear hK K
            (try dsimp only [Act.put, List.setIfInBounds_toArray, List.set_cons_zero, List.set_cons_succ])
            refine wpAnyH_ready (rs := [5]) (by kernel_rfl) (by simp) ?_
            refine AllReadyH.cons (o := _) rfl (fun K hK => ?_) AllReadyH.nil
            go_simp
            go_wp2_with fail
            refine hK.out _ _ ?_ (fun hHeld => ?_)
            · (try dsimp only); exact ⟨hA0, hA1, hA2, hA3, hA4⟩
            clear hK K
            (try dsimp only [Act.put, List.setIfInBounds_toArray, List.set_cons_zero, List.set_cons_succ])
            refine wpAnyH_take (i := 6) (oi := _) (v := ?_) rfl (by kernel_rfl) (by kernel_rfl) (by kernel_rfl) (fun _ _ _ h => h) (Or.inl ⟨by rfl, ?_⟩) hHeld ?_
            rotate_left
            · intro w0 hSw; (try dsimp only at hSw); go_simp; (try with_reducible rfl)
            (try dsimp only [Act.put, List.setIfInBounds_toArray, List.set_cons_zero, List.set_cons_succ])
            refine wpAnyH_done (by kernel_rfl) (lastQ_normalW ?_) _
            go_wp2_with fail
            (try simp only [Exit.inBlock, Exit.then])
            have OaF := Lib.hid (OZ.out.lower (C := w.heap.size) (Nat.le_of_lt hRK))
            have ObF := Lib.hid (OEF.out.lower (C := w.heap.size) (Nat.le_of_lt hRK))
            exact ret_cell3 HRES.out Try.underlying47 rfl (by kernel_rfl) rfl rfl FF.out.blk ⟨_, _, _, _, _, _, _, rfl, BF2.out, _, _, OaF.out, ObF.out, by simp; omega, by have := HNE.out; omega⟩
          · go_simp
            go_wp2_with fail
            refine hK.out _ _ ?_ (fun hHeld => ?_)
            · (try dsimp only); exact ⟨hB0, hB1, hB2, hB3, hB4⟩
            clear hK K
            (try dsimp only [Act.put, List.setIfInBounds_toArray, List.set_cons_zero, List.set_cons_succ])
            refine wpAnyH_ready (rs := [3]) (by kernel_rfl) (by simp) ?_
            refine AllReadyH.cons (o := _) rfl (fun K hK => ?_) AllReadyH.nil
            go_simp
            go_wp2_with fail
            refine hK.out _ _ ?_ (fun hHeld => ?_)
            · (try dsimp only); (try simp only [and_self]); (first | exact ⟨keep_cell (below1 _ _) hHeld.1, keep_cell (below1 _ _) hHeld.2.1, keep_cell (below1 _ _) hHeld.2.2.1, keep_cell (below1 _ _) hHeld.2.2.2.1, keep_cell (below1 _ _) hHeld.2.2.2.2⟩ | (refine ⟨?_, ?_, ?_, ?_, ?_⟩ <;> go_simp))
            clear hK K
            (try dsimp only [Act.put, List.setIfInBounds_toArray, List.set_cons_zero, List.set_cons_succ])
            refine wpAnyH_take (i := 6) (oi := _) (v := ?_) rfl (by kernel_rfl) (by kernel_rfl) (by kernel_rfl) (fun _ _ _ h => h) (Or.inl ⟨by rfl, ?_⟩) hHeld ?_
            rotate_left
            · intro w0 hSw; (try dsimp only at hSw); go_simp; (try with_reducible rfl)
            (try dsimp only [Act.put, List.setIfInBounds_toArray, List.set_cons_zero, List.set_cons_succ])
            refine wpAnyH_done (by kernel_rfl) (lastQ_normalW ?_) _
            go_wp2_with fail
            (try simp only [Exit.inBlock, Exit.then])
            have OaF := Lib.hid (OZ.out.lower (C := w.heap.size) (Nat.le_of_lt hRK))
            have ObF := Lib.hid (OEF.out.lower (C := w.heap.size) (Nat.le_of_lt hRK))
            exact ret_cell3 HRES.out Try.underlying47 rfl (by kernel_rfl) rfl rfl FF.out.blk ⟨_, _, _, _, _, _, _, rfl, BF2.out, _, _, OaF.out, ObF.out, by simp; omega, by have := HNE.out; omega⟩
        | true =>
          have HRI := Lib.hid (risB_iff hri)
          have TD := Lib.hid (T9.out.below (Drew.below (drew1 w9) _))
          have ED := Lib.hid (E9.out.below (Drew.below (drew1 w9) _))
          have VD := Lib.hid (V9.out.below (Drew.below (drew1 w9) _))
          obtain ⟨L, rfl⟩ : ∃ L : Nat, l = (L : Int) := ⟨l.toNat, by omega⟩
          have hL255 : L ≤ 255 := by omega
          have hris2 : RisTo 0 ((L : Int) - 1) zE k := by have h := HRI.out; rw [HNE.out] at h; exact h
          have HSP := Lib.hid (fun W (re : RowAt W aE k zE) (rv : RowAt W aV k vs) => l05Spread_any p pw g c L hL255 (cap := cE) re (cap' := cVv) rv (Nat.le_refl _) hris2)
          clear hri T9 E9 V9 hris2 hL255
          have x0 := TD.out.fld.c0
          have x1 := TD.out.fld.c1
          have x2 := TD.out.fld.c2
          have x3 := TD.out.fld.c3
          have x4 := TD.out.fld.c4
          go_wp2_with fail
          refine wp_region_lastW (S := (fun w' => w'.cell? ⟨X, 0, none⟩ = some (.int .i64 p) ∧ w'.cell? ⟨X, 1, none⟩ = some (.int .i64 pw) ∧ w'.cell? ⟨X, 2, none⟩ = some (.int .i64 g) ∧ w'.cell? ⟨X, 3, none⟩ = some (.int .i64 (L : Int)) ∧ w'.cell? ⟨X, 4, none⟩ = some (.int .i64 c))) 6 (by kernel_rfl) rfl (by kernel_rfl) ?_ (fun hHeld => ?_)
          · (try dsimp only); exact ⟨x0, x1, x2, x3, x4⟩
          simp only [List.take_succ_cons, List.take_zero]
          refine wpAnyH_take (i := 0) (oi := _) (v := ?_) rfl (by kernel_rfl) (by kernel_rfl) (by kernel_rfl) (fun _ _ _ h => h) (Or.inl ⟨by rfl, ?_⟩) hHeld ?_
          rotate_left
          · intro w0 hSw; (try dsimp only at hSw); go_simp; (try with_reducible rfl)
          (try dsimp only [Act.put, List.setIfInBounds_toArray, List.set_cons_zero, List.set_cons_succ])
          refine wpAnyH_take (i := 1) (oi := _) (v := ?_) rfl (by kernel_rfl) (by kernel_rfl) (by kernel_rfl) (fun _ _ _ h => h) (Or.inl ⟨by rfl, ?_⟩) hHeld ?_
          rotate_left
          · intro w0 hSw; (try dsimp only at hSw); go_simp; (try with_reducible rfl)
          (try dsimp only [Act.put, List.setIfInBounds_toArray, List.set_cons_zero, List.set_cons_succ])
          refine wpAnyH_take (i := 2) (oi := _) (v := ?_) rfl (by kernel_rfl) (by kernel_rfl) (by kernel_rfl) (fun _ _ _ h => h) (Or.inl ⟨by rfl, ?_⟩) hHeld ?_
          rotate_left
          · intro w0 hSw; (try dsimp only at hSw); go_simp; (try with_reducible rfl)
          (try dsimp only [Act.put, List.setIfInBounds_toArray, List.set_cons_zero, List.set_cons_succ])
          refine wpAnyH_take (i := 3) (oi := _) (v := ?_) rfl (by kernel_rfl) (by kernel_rfl) (by kernel_rfl) (fun _ _ _ h => h) (Or.inl ⟨by rfl, ?_⟩) hHeld ?_
          rotate_left
          · intro w0 hSw; (try dsimp only at hSw); go_simp; (try with_reducible rfl)
          (try dsimp only [Act.put, List.setIfInBounds_toArray, List.set_cons_zero, List.set_cons_succ])
          refine wpAnyH_ready (rs := [4]) (by kernel_rfl) (by simp) ?_
          refine AllReadyH.cons (o := _) rfl (fun K hK => ?_) AllReadyH.nil
          go_simp
          refine (HSP.out _ ED.out.rowF VD.out.rowF).mono ?_
          rintro e w10 ⟨v10, rfl, hb10, ho10⟩
          have T10 := TD.out.below hb10
          obtain ⟨a10, cp10, rfl, -, -, hoo10⟩ := ho10.cap
          have hspl : (spread L zE vs).length = L := spTo_length _ _ _ _
          rw [hspl] at hoo10 ⊢
          have R10 := Lib.hid hoo10.row
          have HSPE := Lib.hid (show ∀ z ∈ spread L zE vs, (ffOf p pw g).el z by rw [← HSC.out.sf.hV]; exact spTo_els (fun z hz => by rw [HSC.out.sf.hV]; exact hel.out z hz) _)
          have HSPL := Lib.hid hspl
          clear hspl hoo10
          generalize spread L zE vs = sp at *
          go_wp2_with fail
          refine hK.out _ _ ?_ (fun hHeld => ?_)
          · (try dsimp only); exact ⟨T10.fld.c0, T10.fld.c1, T10.fld.c2, T10.fld.c3, T10.fld.c4⟩
          clear hK K
          (try dsimp only [Act.put, List.setIfInBounds_toArray, List.set_cons_zero, List.set_cons_succ])
          refine wpAnyH_ready (rs := [5]) (by kernel_rfl) (by simp) ?_
          refine AllReadyH.cons (o := _) rfl (fun K hK => ?_) AllReadyH.nil
          go_simp
          refine (l04SyndromesO_any p pw g L c (by omega) hcc2 HVB.out w10 (cap := cp10) R10.out HSPE.out).mono ?_
          rintro e w11 ⟨v11, rfl, hb11, ho11⟩
          have T11 := T10.below hb11
          go_wp2_with fail
          refine hK.out _ _ ?_ (fun hHeld => ?_)
          · (try dsimp only); exact ⟨T11.fld.c0, T11.fld.c1, T11.fld.c2, T11.fld.c3, T11.fld.c4⟩
          clear hK K
          (try dsimp only [Act.put, List.setIfInBounds_toArray, List.set_cons_zero, List.set_cons_succ])
          refine wpAnyH_done (by kernel_rfl) (lastQ_normalW ?_) _
          have hsl := syn_length (ffOf p pw g) sp c.toNat
          have hz10 := hb10.size
          have hz11 := hb11.size
          have hz9 : w4.heap.size ≤ w11.heap.size := by have := ED.out.1; simp at this hz10; omega
          have T11 := Lib.hid T11
          have E11 := Lib.hid ((ED.out.below hb10).below hb11)
          have Y11 := Lib.hid (ho11.lower (C := w4.heap.size) (by have := ED.out.1; omega))
          have HE0 := Lib.hid (show (ffOf p pw g).el (gi (syn (ffOf p pw g) sp c.toNat) 0) by
            rw [syn_gi _ _ (by omega), ← HSC.out.sf.hV]
            exact svTo_el V.ok (fun z hz => by rw [HSC.out.sf.hV]; exact HSPE.out z hz) _ _)
          have Z11 := Lib.hid (ho11.lower (C := w10.heap.size) (Nat.le_refl _))
          have hw410 : w4.heap.size ≤ w10.heap.size := by have := ED.out.1; simp at this hz10; omega
          have hsw10 : s < w10.heap.size := by have := ED.out.1; simp at this hz10; omega
          have hX10 : X < w10.heap.size := by have := ED.out.1; simp at this hz10; omega
          have HEM10 := Lib.hid (show ∀ k', (Value.slice aE k cE).ownBlock = some k' → k' < w10.heap.size from fun k' hk => ((ED.out.below hb10).2.lt k' hk).2)
          generalize syn (ffOf p pw g) sp c.toNat = ys at *
          clear hb10 ho10 hb11 ho11 hHeld TD ED VD T10 hel x0 x1 x2 x3 x4 R10 HSPE HSPL
          obtain ⟨g0, c0', cur, rfl, hgo, -, -, -, -⟩ := Y11.out.form (by omega)
          obtain ⟨n0', hn0'⟩ : ∃ m, ys.length = m := ⟨_, rfl⟩
          rw [hn0'] at Y11 Z11 hsl ⊢
          have HN0 := Lib.hid hn0'
          have hnl : 1 ≤ n0' := by omega
          have hnh : n0' ≤ 255 := by omega
          clear hn0' hsl
          go_wp2_with fail
          refine (l01Next_any T11.out.src 12 (by omega)).mono ?_
          rintro e w12 ⟨q, rfl, hq, hd12, hs12⟩
          obtain ⟨hq0', hq1'⟩ := hq.2 (by omega)
          have T12 := Lib.hid (T11.out.drS hd12 hs12)
          have E12 := Lib.hid (E11.out.dr hd12 hsw4)
          have Y12 := Lib.hid (Y11.out.dr hd12 hsw4)
          have Z12 := Lib.hid (Z11.out.dr hd12 hsw10)
          clear hd12 hs12 T11 E11 Y11 hq Z11
          by_cases hqz : q = 0
          · subst hqz
            have hqb : ((0 : Int) == 0) = true := rfl
            have TD := Lib.hid (T12.out.below (Drew.below (drew1 w12) _))
            have ED := Lib.hid (E12.out.below (Drew.below (drew1 w12) _))
            have YD := Lib.hid (Z12.out.below (Drew.below (drew1 w12) _))
            have hys := Lib.hid ((Y12.out.below (Drew.below (drew1 w12) _)).rowF)
            obtain ⟨bY, oY, eY, -, hcY⟩ := hys.out.at' (by omega)
            cases eY
            have hcy := hcY 0 (by omega)
            obtain ⟨y0, hy0⟩ : ∃ y0, gi ys 0 = y0 := ⟨_, rfl⟩
            rw [hy0] at hcy HE0
            rw [Nat.zero_add] at hcy
            have hn01 : (0 : Int) < (n0' : Int) := by omega
            have hn02 : 0 < n0' := by omega
            clear hcY hys hy0 T12 E12 Y12
            have x0 := TD.out.fld.c0
            have x1 := TD.out.fld.c1
            have x2 := TD.out.fld.c2
            have x3 := TD.out.fld.c3
            have x4 := TD.out.fld.c4
            go_wp2_with fail
            refine wp_region_lastW (S := (fun w' => w'.cell? ⟨X, 0, none⟩ = some (.int .i64 p) ∧ w'.cell? ⟨X, 1, none⟩ = some (.int .i64 pw) ∧ w'.cell? ⟨X, 2, none⟩ = some (.int .i64 g) ∧ w'.cell? ⟨g0, 0, none⟩ = some (.int .i64 y0))) 8 (by kernel_rfl) rfl (by kernel_rfl) ?_ (fun hHeld => ?_)
            · (try dsimp only); exact ⟨x0, x1, x2, hcy⟩
            simp only [List.take_succ_cons, List.take_zero]
            refine wpAnyH_take (i := 0) (oi := _) (v := ?_) rfl (by kernel_rfl) (by kernel_rfl) (by kernel_rfl) (fun _ _ _ h => h) (Or.inl ⟨by rfl, ?_⟩) hHeld ?_
            rotate_left
            · intro w0 hSw; (try dsimp only at hSw); go_simp; (try with_reducible rfl)
            (try dsimp only [Act.put, List.setIfInBounds_toArray, List.set_cons_zero, List.set_cons_succ])
            refine wpAnyH_take (i := 1) (oi := _) (v := ?_) rfl (by kernel_rfl) (by kernel_rfl) (by kernel_rfl) (fun _ _ _ h => h) (Or.inl ⟨by rfl, ?_⟩) hHeld ?_
            rotate_left
            · intro w0 hSw; (try dsimp only at hSw); go_simp; (try with_reducible rfl)
            (try dsimp only [Act.put, List.setIfInBounds_toArray, List.set_cons_zero, List.set_cons_succ])
            refine wpAnyH_take (i := 2) (oi := _) (v := ?_) rfl (by kernel_rfl) (by kernel_rfl) (by kernel_rfl) (fun _ _ _ h => h) (Or.inl ⟨by rfl, ?_⟩) hHeld ?_
            rotate_left
            · intro w0 hSw; (try dsimp only at hSw); go_simp; (try with_reducible rfl)
            (try dsimp only [Act.put, List.setIfInBounds_toArray, List.set_cons_zero, List.set_cons_succ])
            refine wpAnyH_take (i := 3) (oi := _) (v := ?_) rfl (by kernel_rfl) (by kernel_rfl) (by kernel_rfl) (fun _ _ _ h => h) (Or.inl ⟨by rfl, ?_⟩) hHeld ?_
            rotate_left
            · intro w0 hSw; (try dsimp only at hSw); go_simp; (try with_reducible rfl)
            (try dsimp only [Act.put, List.setIfInBounds_toArray, List.set_cons_zero, List.set_cons_succ])
            refine wpAnyH_take (i := 4) (oi := _) (v := ?_) rfl (by kernel_rfl) (by kernel_rfl) (by kernel_rfl) (fun _ _ _ h => h) (Or.inl ⟨by rfl, ?_⟩) hHeld ?_
            rotate_left
            · intro w0 hSw; (try dsimp only at hSw); go_simp; (try with_reducible rfl)
            (try dsimp only [Act.put, List.setIfInBounds_toArray, List.set_cons_zero, List.set_cons_succ])
            refine wpAnyH_take (i := 5) (oi := _) (v := ?_) rfl (by kernel_rfl) (by kernel_rfl) (by kernel_rfl) (fun _ _ _ h => h) (Or.inl ⟨by rfl, ?_⟩) hHeld ?_
            rotate_left
            · intro w0 hSw; (try dsimp only at hSw); go_simp; (try with_reducible rfl)
            (try dsimp only [Act.put, List.setIfInBounds_toArray, List.set_cons_zero, List.set_cons_succ])
            refine wpAnyH_ready (rs := [6]) (by kernel_rfl) (by simp) ?_
            refine AllReadyH.cons (o := _) rfl (fun K hK => ?_) AllReadyH.nil
            go_simp
            refine (l02Add_any p pw g HVB.out y0 1 HE0.out ⟨by omega, by omega⟩ _).mono ?_
            rintro e w13 ⟨rfl, hb13⟩
            have T13 := Lib.hid (TD.out.below hb13)
            have E13 := Lib.hid (ED.out.below hb13)
            have Y13 := Lib.hid (YD.out.below hb13)
            obtain ⟨g1, cp1, cur1, e1, hg1, hg2, hg3, -, hoa⟩ := Y13.out.form (by have := HN0.out; omega)
            rw [HN0.out] at e1
            simp only [Value.slice.injEq, Option.some.injEq, Addr.mk.injEq, and_true, true_and] at e1
            obtain ⟨rfl, rfl⟩ := e1
            have fzz : w13.frozen? ⟨g0, 0, none⟩ = false := by unfold World.frozen?; rw [hg3]; simp
            obtain ⟨b2, o2, e2, _, hcs2⟩ := hoa.row.at' (by have := HN0.out; omega)
            cases e2
            have hcell2 := hcs2 0 (by have := HN0.out; omega)
            rw [Nat.zero_add] at hcell2
            clear hg3 hcs2 hoa
            go_wp2_with fail
            refine hK.out _ _ ?_ (fun hHeld => ?_)
            · (try dsimp only); exact ⟨T13.out.fld.c0, T13.out.fld.c1, T13.out.fld.c2, keep_cell hb13 hHeld.2.2.2⟩
            clear hK K
            (try dsimp only [Act.put, List.setIfInBounds_toArray, List.set_cons_zero, List.set_cons_succ])
            refine wpAnyH_take (i := 7) (oi := _) (v := ?_) rfl (by kernel_rfl) (by kernel_rfl) (by kernel_rfl) (fun _ _ _ h => h) (Or.inl ⟨by rfl, ?_⟩) hHeld ?_
            rotate_left
            · intro w0 hSw; (try dsimp only at hSw); go_simp; (try with_reducible rfl)
            (try dsimp only [Act.put, List.setIfInBounds_toArray, List.set_cons_zero, List.set_cons_succ])
            refine wpAnyH_done (by kernel_rfl) (lastQ_normalW ?_) _
            have hXg : X ≠ g0 := by omega
            have hRg : w.heap.size ≠ g0 := by omega
            have hb14 : Below w10.heap.size w13 (w13.setCell ⟨g0, 0, none⟩ (.int .i64 ((ffOf p pw g).add y0 1))) := (Below.refl _ _).setCell (p := ⟨g0, 0, none⟩) hg1 _
            have T14 := Lib.hid (T13.out.lo hb14 hX10)
            have E14 := Lib.hid (E13.out.belowV hb14 HEM10.out)
            have Y14 := Lib.hid (((Y13.out.set (k := 0) (by have := HN0.out; omega) ((ffOf p pw g).add y0 1))).lower (C := w4.heap.size) hw410)
            have HY14 := Lib.hid (show (ys.set 0 ((ffOf p pw g).add y0 1)).length ≤ 1000 by have := HN0.out; simp; omega)
            clear hb14
            have r0 := T13.out.res.c0
            have r1 := T13.out.res.c1
            have r2 := T13.out.res.c2
            have r3 := T13.out.res.c3
            have r4 := T13.out.res.c4
            have f0 := T13.out.res.fz 0
            have f1 := T13.out.res.fz 1
            have f2 := T13.out.res.fz 2
            have f3 := T13.out.res.fz 3
            have f4 := T13.out.res.fz 4
            have x0 := T13.out.fld.c0
            have x1 := T13.out.fld.c1
            have x2 := T13.out.fld.c2
            have x3 := T13.out.fld.c3
            have x4 := T13.out.fld.c4
            go_wp2_with fail
            (try simp only [Exit.inBlock, Exit.then])
            have FF := Lib.hid (T14.out.res.set p pw g (L : Int) c)
            have BF := Lib.hid (setC_below (B := w.heap.size) (p := p) (pw := pw) (g := g) (l := (L : Int)) (c := c) T14.out.bel (Nat.le_refl _))
            have OaF := Lib.hid ((setC_own (B := w.heap.size) (p := p) (pw := pw) (g := g) (l := (L : Int)) (c := c) Y14.out hRK).lower (C := w.heap.size) (Nat.le_of_lt hRK))
            have ObF := Lib.hid ((setC_own (B := w.heap.size) (p := p) (pw := pw) (g := g) (l := (L : Int)) (c := c) E14.out hRK).lower (C := w.heap.size) (Nat.le_of_lt hRK))
            exact ret_cell3 HRES.out Try.underlying47 rfl (by kernel_rfl) rfl rfl FF.out.blk ⟨_, _, _, _, _, _, _, rfl, BF.out, _, _, OaF.out, ObF.out, HY14.out, by have := HNE.out; omega⟩
          · have hqb : (q == 0) = false := by simp [hqz]
            by_cases hq1 : q = 1
            · subst hq1
              have hlY : ys.length ≤ 16777216 := by have := HN0.out; omega
              have hqb1 : ((1 : Int) == 1) = true := rfl
              go_wp2_with (at_builtin; refine append_one rfl _ _ _ rfl Try.underlying26 0 Z12.out rfl _ rfl rfl hlY ?_; intro v' w13 hown13 hb13; have T13 := Lib.hid (T12.out.lo hb13 hX10); have E13 := Lib.hid (E12.out.belowV hb13 HEM10.out); have Y13 := Lib.hid (hown13.lower (C := w4.heap.size) (by omega)); obtain ⟨a13, c13, rfl, -, -, -⟩ := hown13.cap; have hl13 : (ys ++ [(0 : Int)]).length = n0' + 1 := (by have := HN0.out; simp; omega); rw [hl13] at Y13 ⊢; have HL13 := Lib.hid hl13; clear hown13 hb13 T12 E12 Y12 Z12 hl13 hlY; have r0 := T13.out.res.c0; have r1 := T13.out.res.c1; have r2 := T13.out.res.c2; have r3 := T13.out.res.c3; have r4 := T13.out.res.c4; have f0 := T13.out.res.fz 0; have f1 := T13.out.res.fz 1; have f2 := T13.out.res.fz 2; have f3 := T13.out.res.fz 3; have f4 := T13.out.res.fz 4; have x0 := T13.out.fld.c0; have x1 := T13.out.fld.c1; have x2 := T13.out.fld.c2; have x3 := T13.out.fld.c3; have x4 := T13.out.fld.c4)
              (try simp only [Exit.inBlock, Exit.then])
              have FF := Lib.hid (T13.out.res.set p pw g (L : Int) c)
              have BF := Lib.hid (setC_below (B := w.heap.size) (p := p) (pw := pw) (g := g) (l := (L : Int)) (c := c) T13.out.bel (Nat.le_refl _))
              have OaF := Lib.hid ((setC_own (B := w.heap.size) (p := p) (pw := pw) (g := g) (l := (L : Int)) (c := c) Y13.out hRK).lower (C := w.heap.size) (Nat.le_of_lt hRK))
              have ObF := Lib.hid ((setC_own (B := w.heap.size) (p := p) (pw := pw) (g := g) (l := (L : Int)) (c := c) E13.out hRK).lower (C := w.heap.size) (Nat.le_of_lt hRK))
              exact ret_cell3 HRES.out Try.underlying47 rfl (by kernel_rfl) rfl rfl FF.out.blk ⟨_, _, _, _, _, _, _, rfl, BF.out, _, _, OaF.out, ObF.out, by have := HL13.out; omega, by have := HNE.out; omega⟩
            · have hqb1 : (q == 1) = false := by simp [hq1]
              clear hqz hq1
              have r0 := T12.out.res.c0
              have r1 := T12.out.res.c1
              have r2 := T12.out.res.c2
              have r3 := T12.out.res.c3
              have r4 := T12.out.res.c4
              have f0 := T12.out.res.fz 0
              have f1 := T12.out.res.fz 1
              have f2 := T12.out.res.fz 2
              have f3 := T12.out.res.fz 3
              have f4 := T12.out.res.fz 4
              have x0 := T12.out.fld.c0
              have x1 := T12.out.fld.c1
              have x2 := T12.out.fld.c2
              have x3 := T12.out.fld.c3
              have x4 := T12.out.fld.c4
              go_wp2_with fail
              (try simp only [Exit.inBlock, Exit.then])
              have FF := Lib.hid (T12.out.res.set p pw g (L : Int) c)
              have BF := Lib.hid (setC_below (B := w.heap.size) (p := p) (pw := pw) (g := g) (l := (L : Int)) (c := c) T12.out.bel (Nat.le_refl _))
              have OaF := Lib.hid ((setC_own (B := w.heap.size) (p := p) (pw := pw) (g := g) (l := (L : Int)) (c := c) Y12.out hRK).lower (C := w.heap.size) (Nat.le_of_lt hRK))
              have ObF := Lib.hid ((setC_own (B := w.heap.size) (p := p) (pw := pw) (g := g) (l := (L : Int)) (c := c) E12.out hRK).lower (C := w.heap.size) (Nat.le_of_lt hRK))
              exact ret_cell3 HRES.out Try.underlying47 rfl (by kernel_rfl) rfl rfl FF.out.blk ⟨_, _, _, _, _, _, _, rfl, BF.out, _, _, OaF.out, ObF.out, by have := HN0.out; omega, by have := HNE.out; omega⟩
end Go.Proofs.Ytfhkkpfiflgofaa
