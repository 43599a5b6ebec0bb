/-
  The walk of the reference's division.
-/
import Derived.Test.YtenlaoadclfmaaaSF
import Derived.Test.YtenlaoadclfmaaaDivs
namespace Go.Proofs.Ytenlaoadclfmaaa
open Go.RowKit
set_option linter.unusedVariables false

set_option maxRecDepth 100000 in
set_option maxHeartbeats 8000000 in
theorem SF.ldiv {V : VF} {p pw g : Int} (hs : SF V p pw g) {w : World} {a : Option Addr} {n cap : Nat} {xs : List Int} (hr : RowAt w a n xs) (hca : a = none → cap = 0) (hn : n ≤ 4096)
    {a' : Option Addr} {n' cap' : Nat} {ys : List Int} (hr' : RowAt w a' n' ys) (hn' : n' ≤ 4096) (hx : VF.isP V xs) (hy : VF.isP V ys) (h0 : 0 < n') :
    Calls Try.prog 88 #[fV p pw g, .slice a n cap, .slice a' n' cap'] w fun e w' => ∃ v v2 zs zs2, e = .returned (.tuple #[v, v2]) ∧ Below w.heap.size w w' ∧ OwnL w' w.heap.size v zs ∧ OwnL w' w.heap.size v2 zs2 ∧ VF.DivOf V xs ys zs zs2 := by
  have HR := Lib.hid hr
  have HR' := Lib.hid hr'
  have hl := Lib.hid hr.len
  have hl' := Lib.hid hr'.len
  have HX := Lib.hid hx
  have HY := Lib.hid hy
  have HCA := Lib.hid hca
  clear hr hr' hx hy hca
  by_cases hlt : n < n'
  · go_enter Try.func88, Try.ntmps88
    go_wp2_with fail
    refine (l01Own_any (HR.out.below' (below1 _ _)) HCA.out (by omega)).mono ?_
    rintro e w1 ⟨v, rfl, hb1, ho1⟩
    have HB1 := Lib.hid (Below.trans (below1 w _) (hb1.mono (by simp)))
    have HO1 := Lib.hid (ho1.lower (C := w.heap.size) (by simp))
    clear hb1 ho1
    go_wp2_with fail
    go_ret2
    refine ⟨_, _, _, _, rfl, HB1.out.alloc HB1.out.size _, (OwnL.empty _ _ HB1.out.size _ rfl), HO1.out.below (below1 _ _), VF.DivOf.small HX.out (by rw [hl.out, hl'.out]; exact hlt)⟩
  · obtain ⟨M, hM⟩ : ∃ M, n = M + (n' - 1) := ⟨n - (n' - 1), by omega⟩
    have HM := Lib.hid hM
    have hM1 : 0 < M := by omega
    have hM2 : M ≤ 4096 := by omega
    have hmk := fun w => run_make_ints w 24 Try.underlying24 ((n : Int) - n' + 1) (by omega) (by omega)
    rw [show ((n : Int) - n' + 1).toNat = M by omega] at hmk
    clear hM
    have e1 : (n' : Int) - 1 = ((n' - 1 : Nat) : Int) := by omega
    go_enter Try.func88, Try.ntmps88
    go_wp2_with fail
    refine (l01Own_any (HR.out.below' (below1 _ _)) HCA.out (by omega)).mono ?_
    rintro e w1 ⟨v, rfl, hb1, ho1⟩
    have HB1 := Lib.hid (Below.trans (below1 w (.cells #[.int .i64 p, .int .i64 pw, .int .i64 g] FTa)) (hb1.mono (by simp)))
    have HX1 := Lib.hid ((box_new w p pw g FTa).below hb1 (by simp))
    have HO1 := Lib.hid (show OwnL w1 (w.heap.size + 1) v xs by have := ho1; simp at this; exact this)
    clear hb1 ho1
    obtain ⟨gb, co, cur, e, hg1, hg2, _, hle, _⟩ := HO1.out.form (by rw [hl.out]; omega)
    rw [hl.out] at e hle
    subst e
    have HG2 := Lib.hid hg2
    have HG1 := Lib.hid hg1
    clear hg2
    obtain ⟨b2, o2, rfl, hb2, hcs⟩ := (HR'.out.below' HB1.out).at' (by omega)
    have hlast := hcs (n' - 1) (by omega)
    have hyl := HY.out.els.getD (n' - 1)
    have hy0 := HY.out.tight (by rw [hl'.out]; exact h0)
    rw [hl'.out] at hy0
    have HI := Lib.hid (fun W => hs.inv (gi ys (n' - 1)) hyl hy0 W)
    have hile := FF.inv_el V.ok (gi ys (n' - 1))
    have HF := Lib.hid (fun r (hr : V.F.el r) => div_factor HY.out (by rw [hl'.out]; exact h0) hr)
    rw [hl'.out] at HF
    have HRO := Lib.hid (OutAt.of HO1.out hl.out HX.out.els)
    have HRO2 := Lib.hid (HRO.out.below (below1 _ (.cells (madeCells #[.int .i64 0] M) 2)))
    have HQO2 := Lib.hid (OutAt.zeros (V := V) w1 w1.heap.size (Nat.le_refl _) M (by omega))
    have HB2 := Lib.hid (HB1.out.trans ((below1 w1 (.cells (madeCells #[.int .i64 0] M) 2)).mono HB1.out.size))
    have HX2 := Lib.hid (HX1.out.below (below1 _ (.cells (madeCells #[.int .i64 0] M) 2)) HX1.out.lt)
    have HD := Lib.hid (DivInv.start (V := V) (p := xs) (q := ys) (k := M) (by rw [hl.out, hl'.out]; exact HM.out.symm))
    obtain ⟨hlx, c0, c1, c2⟩ := HX1.out
    clear hcs hyl hy0 HRO
    have q0 : IntKind.i64.wrap ((n' - 1 : Nat) : Int) = ((n' - 1 : Nat) : Int) := IntWalk.i64_in _ (by omega)
    have q6 : ((n' - 1 : Nat) : Int) < (n' : Int) := by omega
    go_wp2_with fail
    go_region_held3 (fun w' => w'.cell? ⟨b2, o2 + (n' - 1), none⟩ = some (.int .i64 (gi ys (n' - 1))) ∧ w'.cell? ⟨w.heap.size, 0, none⟩ = some (.int .i64 p) ∧ w'.cell? ⟨w.heap.size, 1, none⟩ = some (.int .i64 pw) ∧ w'.cell? ⟨w.heap.size, 2, none⟩ = some (.int .i64 g))
      (first | go_keep | ((try (dsimp only)); go_split_ands; (repeat' apply And.intro); all_goals (first | go_keep | exact keep_cell hbI (by assumption))))
      (first | (go_at_call 82; refine (HI.out _).mono ?_; rintro e w2 ⟨rfl, hbI⟩))
    have hbI2 := Below.trans (Drew.below (drew1 (w1.alloc (.cells (madeCells #[.int .i64 0] M) 2))) _) hbI
    have HRO3 := Lib.hid (HRO2.out.below hbI2)
    have HQO3 := Lib.hid (HQO2.out.below hbI2)
    have HB3 := Lib.hid (HB2.out.trans (hbI2.mono HB2.out.size))
    have HX3 := Lib.hid (HX2.out.below hbI2 HX2.out.lt)
    clear hbI hbI2 hlast hmk q0 q6 HRO2 HQO2 HB2 HI HX2 c0 c1 c2
    change Hid (∀ r, V.F.el r → VF.of V (V.F.mul r (V.F.inv (gi ys (n' - 1)))) * _ = _) at HF
    generalize V.F.inv (gi ys (n' - 1)) = lead at *
    go_wp2_with fail
    go_loopw [12] (fun t wr => ∃ (k : Nat) (fO fR : PS (El V)), k ≤ M ∧ t = .int .i64 ((k : Int) - 1) ∧ Hid (DivInv V xs ys k fO fR) ∧ Hid (OutAt V wr w1.heap.size w1.heap.size M fO) ∧ Hid (OutAt V wr (w.heap.size + 1) gb n fR co) ∧ Hid (Below w.heap.size w wr) ∧ Hid (Box wr w.heap.size p pw g)) (fun t _ => (intOf t + 1).toNat)
    case atStart => exact ⟨M, _, _, Nat.le_refl _, rfl, HD, HQO3, HRO3, HB3, HX3⟩
    case round =>
      obtain ⟨k, fO, fR, hk, rfl, hdiv, hq, hrest, hbel, hbox⟩ := hrel
      clear HD HQO3 HRO3 HB3 HX3
      by_cases h0k : 0 < k
      · obtain ⟨i, rfl⟩ : ∃ i, k = i + 1 := ⟨k - 1, by omega⟩
        have et : ((i + 1 : Nat) : Int) - 1 = (i : Int) := by omega
        rw [et]
        obtain ⟨I, hI⟩ : ∃ I, i + (n' - 1) = I := ⟨_, rfl⟩
        have hidx : I < n := by have := HM.out; omega
        obtain ⟨r, hre, hrc, hplr⟩ := hrest.out.place hidx
        have HPLR := Lib.hid hplr
        have hcr := (hplr wr (Below.refl _ _)).cell
        have HRC := Lib.hid hrc
        obtain ⟨x0, _, hx0, hplq⟩ := hq.out.place (show i < M by omega)
        have HPLQ := Lib.hid hplq
        have HX0 := Lib.hid (show VF.of V x0 = 0 from hx0.symm.trans (hdiv.out.zero i (by omega)))
        have HM1 := Lib.hid (fun W => hs.mul r lead hre hile W)
        have hye := FF.mul_el V.ok r lead
        have HST := Lib.hid (hdiv.out.step (k := i) (y := VF.of V (V.F.mul r lead)) (by rw [hl'.out]; exact h0) (by rw [hl'.out, HF.out r hre, hI]; exact hrc.symm))
        have q1 : IntKind.i64.wrap ((i : Int) + (n' : Int)) = (i : Int) + (n' : Int) := IntWalk.i64_in _ (by omega)
        have q5 : IntKind.i64.wrap (I : Int) = (I : Int) := IntWalk.i64_in _ (by omega)
        have q2 : (I : Int) < (n : Int) := by omega
        have q3 : (i : Int) + (n' : Int) - 1 = (I : Int) := by omega
        have q4 : True := trivial
        have hiM : (i : Int) < (M : Int) := by omega
        obtain ⟨_, c0, c1, c2⟩ := hbox.out
        clear et hplr hrc hplq hx0 hdiv hI
        generalize V.F.mul r lead = y at *
        go_wp2_with fail
        go_region_held3 (fun w' => w'.cell? ⟨gb, I, none⟩ = some (.int .i64 r) ∧ w'.cell? ⟨w.heap.size, 0, none⟩ = some (.int .i64 p) ∧ w'.cell? ⟨w.heap.size, 1, none⟩ = some (.int .i64 pw) ∧ w'.cell? ⟨w.heap.size, 2, none⟩ = some (.int .i64 g))
          (first | go_keep | ((try (dsimp only)); go_split_ands; (repeat' apply And.intro); all_goals (first | go_keep | exact keep_cell hbM (by assumption))))
          (first | (go_at_call 102; refine (HM1.out _).mono ?_; rintro e w5 ⟨rfl, hbM⟩))
        have hbb := Below.trans (Drew.below (drew1 wr) wr.heap.size) hbM
        have hpq := HPLQ.out w5 hbb
        have hcq := hpq.cell
        have hfq := hpq.frozen
        have hgne : gb ≠ w1.heap.size := by have := HG2.out; omega
        have HQ5 := Lib.hid (hpq.put0 HX0.out hye)
        have HR5 := Lib.hid ((hrest.out.below hbb).other (H := w1.heap.size) (j := i) (x := .int .i64 y) hgne)
        have HB5 := Lib.hid ((hbel.out.trans (hbb.mono hbel.out.size)).setCell (p := ⟨w1.heap.size, i, none⟩) HB1.out.size (.int .i64 y))
        have HX5 := Lib.hid ((hbox.out.below hbb hbox.out.lt).below ((Below.refl (w.heap.size + 1) w5).setCell (p := ⟨w1.heap.size, i, none⟩) HX1.out.lt (.int .i64 y)) (Nat.lt_succ_self _))
        have HR6 := Lib.hid (HR5.out.eq (divT_inner fR ys i (VF.of V y)))
        clear hbM hbb hpq hcr q1 q2 q3 q4 q5 c0 c1 c2 hgne HR5
        obtain ⟨wo, rfl⟩ : ∃ wo : World, wo = wr := ⟨_, rfl⟩
        go_wp2_with fail
        clear hcq hfq
        go_loopw [14] (fun t wr => ∃ j : Nat, j ≤ n' ∧ t = .int .i64 j ∧ Hid (OutAt V wr (w.heap.size + 1) gb n (fR - VF.xp V i * PS.C (VF.of V y) * VF.ps V (ys.take j)) co) ∧ Hid (OutAt V wr w1.heap.size w1.heap.size M (fO + VF.xp V i * PS.C (VF.of V y))) ∧ Hid (Below w.heap.size w wr) ∧ Hid (Box wr w.heap.size p pw g)) (fun t _ => (n' - intOf t).toNat)
        case atStart => exact ⟨0, by omega, rfl, HR6, HQ5, HB5, HX5⟩
        case round =>
          obtain ⟨j, hj, rfl, hrest, hq, hbel, hbox⟩ := hrel
          clear HR6 HQ5 HB5 HX5
          by_cases hlt2 : j < n'
          · obtain ⟨b3, o3, e3, hb3, hcs⟩ := (HR'.out.below' hbel.out).at' (by omega)
            have hcj := hcs j hlt2
            simp only [Option.some.injEq, Addr.mk.injEq, and_true] at e3
            obtain ⟨rfl, rfl⟩ := e3
            obtain ⟨_, _, e4, hb4, _⟩ := HR'.out.at' (by omega)
            simp only [Option.some.injEq, Addr.mk.injEq, and_true] at e4
            obtain ⟨rfl, rfl⟩ := e4
            have hij : i + j < n := by have := HM.out; omega
            obtain ⟨x, hxe, _, hpl⟩ := hrest.out.place hij
            have HPL := Lib.hid hpl
            have hye2 := HY.out.els.getD j
            have HM := Lib.hid (fun W => hs.mul y (gi ys j) hye hye2 W)
            have hme := FF.mul_el V.ok y (gi ys j)
            have HNG := Lib.hid (fun W => hs.neg (V.F.mul y (gi ys j)) hme W)
            have hne' := FF.neg_el hme
            have HA := Lib.hid (fun W => hs.add x (V.F.neg (V.F.mul y (gi ys j))) hxe hne' W)
            have HN := Lib.hid (fun z (h : z = _) => divT_next (V := V) fR ys i j (by rw [hl'.out]; exact hlt2) (z := z) hxe hye hye2 h)
            have hc0 := (HPL.out wr (Below.refl _ _)).cell
            have hf0 := (HPL.out wr (Below.refl _ _)).frozen
            have q1 : IntKind.i64.wrap ((i : Int) + (j : Int)) = (i : Int) + (j : Int) := IntWalk.i64_in _ (by omega)
            have q2 : (0 : Int) ≤ (i : Int) + (j : Int) := by omega
            have q3 : (i : Int) + (j : Int) < (n : Int) := by omega
            have q4 : ((i : Int) + (j : Int)).toNat = i + j := by omega
            have hse := FF.add_el V.ok hxe hne'
            have hne : w1.heap.size ≠ gb := by have := HG2.out; omega
            have ne1 : gb ≠ b2 := by have := HG1.out; omega
            have ne2 : gb ≠ w.heap.size := by have := HG1.out; omega
            obtain ⟨hlx2, c0, c1, c2⟩ := hbox.out
            clear hcs hpl hye2
            change Hid (∀ z, z = V.F.add x (V.F.neg (V.F.mul y (gi ys j))) → _) at HN
            generalize V.F.mul y (gi ys j) = m at *
            generalize V.F.neg m = m' at *
            generalize V.F.add x m' = z at *
            generalize gi ys j = yj at *
            go_wp2_with fail
            refine wp_region_last (S := (fun w' => w'.cell? ⟨gb, i + j, none⟩ = some (.int .i64 x) ∧ w'.cell? ⟨b2, o2 + j, none⟩ = some (.int .i64 yj) ∧ w'.cell? ⟨w.heap.size, 0, none⟩ = some (.int .i64 p) ∧ w'.cell? ⟨w.heap.size, 1, none⟩ = some (.int .i64 pw) ∧ w'.cell? ⟨w.heap.size, 2, none⟩ = some (.int .i64 g))) 22 (by kernel_rfl) rfl (by kernel_rfl) ?_ (fun hHeld => ?_)
            · (try dsimp only); exact ⟨hc0, hcj, c0, c1, c2⟩
            simp only [List.take_succ_cons, List.take_zero]
            refine wpAnyH_take (i := 0) (oi := _) (v := ?_) rfl (by kernel_rfl) (by kernel_rfl) (by kernel_rfl) (fun _ _ _ h => h) (Or.inl ⟨by rfl, ?_⟩) hHeld ?_
            rotate_left
            · intro w0 hSw; (try dsimp only at hSw); go_simp; (try with_reducible rfl)
            (try dsimp only [Act.put, List.setIfInBounds_toArray, List.set_cons_zero, List.set_cons_succ])
            refine wpAnyH_take (i := 1) (oi := _) (v := ?_) rfl (by kernel_rfl) (by kernel_rfl) (by kernel_rfl) (fun _ _ _ h => h) (Or.inl ⟨by rfl, ?_⟩) hHeld ?_
            rotate_left
            · intro w0 hSw; (try dsimp only at hSw); go_simp; (try with_reducible rfl)
            (try dsimp only [Act.put, List.setIfInBounds_toArray, List.set_cons_zero, List.set_cons_succ])
            refine wpAnyH_take (i := 2) (oi := _) (v := ?_) rfl (by kernel_rfl) (by kernel_rfl) (by kernel_rfl) (fun _ _ _ h => h) (Or.inl ⟨by rfl, ?_⟩) hHeld ?_
            rotate_left
            · intro w0 hSw; (try dsimp only at hSw); go_simp; (try with_reducible rfl)
            (try dsimp only [Act.put, List.setIfInBounds_toArray, List.set_cons_zero, List.set_cons_succ])
            refine wpAnyH_take (i := 3) (oi := _) (v := ?_) rfl (by kernel_rfl) (by kernel_rfl) (by kernel_rfl) (fun _ _ _ h => h) (Or.inl ⟨by rfl, ?_⟩) hHeld ?_
            rotate_left
            · intro w0 hSw; (try dsimp only at hSw); go_simp; (try with_reducible rfl)
            (try dsimp only [Act.put, List.setIfInBounds_toArray, List.set_cons_zero, List.set_cons_succ])
            refine wpAnyH_take (i := 4) (oi := _) (v := ?_) rfl (by kernel_rfl) (by kernel_rfl) (by kernel_rfl) (fun _ _ _ h => h) (Or.inl ⟨by rfl, ?_⟩) hHeld ?_
            rotate_left
            · intro w0 hSw; (try dsimp only at hSw); go_simp; (try with_reducible rfl)
            (try dsimp only [Act.put, List.setIfInBounds_toArray, List.set_cons_zero, List.set_cons_succ])
            refine wpAnyH_take (i := 5) (oi := _) (v := ?_) rfl (by kernel_rfl) (by kernel_rfl) (by kernel_rfl) (fun _ _ _ h => h) (Or.inl ⟨by rfl, ?_⟩) hHeld ?_
            rotate_left
            · intro w0 hSw; (try dsimp only at hSw); go_simp; (try with_reducible rfl)
            (try dsimp only [Act.put, List.setIfInBounds_toArray, List.set_cons_zero, List.set_cons_succ])
            refine wpAnyH_take (i := 6) (oi := _) (v := ?_) rfl (by kernel_rfl) (by kernel_rfl) (by kernel_rfl) (fun _ _ _ h => h) (Or.inl ⟨by rfl, ?_⟩) hHeld ?_
            rotate_left
            · intro w0 hSw; (try dsimp only at hSw); go_simp; (try with_reducible rfl)
            (try dsimp only [Act.put, List.setIfInBounds_toArray, List.set_cons_zero, List.set_cons_succ])
            refine wpAnyH_take (i := 7) (oi := _) (v := ?_) rfl (by kernel_rfl) (by kernel_rfl) (by kernel_rfl) (fun _ _ _ h => h) (Or.inl ⟨by rfl, ?_⟩) hHeld ?_
            rotate_left
            · intro w0 hSw; (try dsimp only at hSw); go_simp; (try with_reducible rfl)
            (try dsimp only [Act.put, List.setIfInBounds_toArray, List.set_cons_zero, List.set_cons_succ])
            refine wpAnyH_take (i := 8) (oi := _) (v := ?_) rfl (by kernel_rfl) (by kernel_rfl) (by kernel_rfl) (fun _ _ _ h => h) (Or.inl ⟨by rfl, ?_⟩) hHeld ?_
            rotate_left
            · intro w0 hSw; (try dsimp only at hSw); go_simp; (try with_reducible rfl)
            (try dsimp only [Act.put, List.setIfInBounds_toArray, List.set_cons_zero, List.set_cons_succ])
            refine wpAnyH_take (i := 9) (oi := _) (v := ?_) rfl (by kernel_rfl) (by kernel_rfl) (by kernel_rfl) (fun _ _ _ h => h) (Or.inl ⟨by rfl, ?_⟩) hHeld ?_
            rotate_left
            · intro w0 hSw; (try dsimp only at hSw); go_simp; (try with_reducible rfl)
            (try dsimp only [Act.put, List.setIfInBounds_toArray, List.set_cons_zero, List.set_cons_succ])
            refine wpAnyH_take (i := 10) (oi := _) (v := ?_) rfl (by kernel_rfl) (by kernel_rfl) (by kernel_rfl) (fun _ _ _ h => h) (Or.inl ⟨by rfl, ?_⟩) hHeld ?_
            rotate_left
            · intro w0 hSw; (try dsimp only at hSw); go_simp; (try with_reducible rfl)
            (try dsimp only [Act.put, List.setIfInBounds_toArray, List.set_cons_zero, List.set_cons_succ])
            refine wpAnyH_take (i := 11) (oi := _) (v := ?_) rfl (by kernel_rfl) (by kernel_rfl) (by kernel_rfl) (fun _ _ _ h => h) (Or.inl ⟨by rfl, ?_⟩) hHeld ?_
            rotate_left
            · intro w0 hSw; (try dsimp only at hSw); go_simp; (try with_reducible rfl)
            (try dsimp only [Act.put, List.setIfInBounds_toArray, List.set_cons_zero, List.set_cons_succ])
            refine wpAnyH_take (i := 12) (oi := _) (v := ?_) rfl (by kernel_rfl) (by kernel_rfl) (by kernel_rfl) (fun _ _ _ h => h) (Or.inl ⟨by rfl, ?_⟩) hHeld ?_
            rotate_left
            · intro w0 hSw; (try dsimp only at hSw); go_simp; (try with_reducible rfl)
            (try dsimp only [Act.put, List.setIfInBounds_toArray, List.set_cons_zero, List.set_cons_succ])
            refine wpAnyH_take (i := 13) (oi := _) (v := ?_) rfl (by kernel_rfl) (by kernel_rfl) (by kernel_rfl) (fun _ _ _ h => h) (Or.inl ⟨by rfl, ?_⟩) hHeld ?_
            rotate_left
            · intro w0 hSw; (try dsimp only at hSw); go_simp; (try with_reducible rfl)
            (try dsimp only [Act.put, List.setIfInBounds_toArray, List.set_cons_zero, List.set_cons_succ])
            refine wpAnyH_take (i := 14) (oi := _) (v := ?_) rfl (by kernel_rfl) (by kernel_rfl) (by kernel_rfl) (fun _ _ _ h => h) (Or.inl ⟨by rfl, ?_⟩) hHeld ?_
            rotate_left
            · intro w0 hSw; (try dsimp only at hSw); go_simp; (try with_reducible rfl)
            (try dsimp only [Act.put, List.setIfInBounds_toArray, List.set_cons_zero, List.set_cons_succ])
            refine wpAnyH_take (i := 15) (oi := _) (v := ?_) rfl (by kernel_rfl) (by kernel_rfl) (by kernel_rfl) (fun _ _ _ h => h) (Or.inl ⟨by rfl, ?_⟩) hHeld ?_
            rotate_left
            · intro w0 hSw; (try dsimp only at hSw); go_simp; (try with_reducible rfl)
            (try dsimp only [Act.put, List.setIfInBounds_toArray, List.set_cons_zero, List.set_cons_succ])
            refine wpAnyH_take (i := 16) (oi := _) (v := ?_) rfl (by kernel_rfl) (by kernel_rfl) (by kernel_rfl) (fun _ _ _ h => h) (Or.inl ⟨by rfl, ?_⟩) hHeld ?_
            rotate_left
            · intro w0 hSw; (try dsimp only at hSw); go_simp; (try with_reducible rfl)
            (try dsimp only [Act.put, List.setIfInBounds_toArray, List.set_cons_zero, List.set_cons_succ])
            refine wpAnyH_take (i := 17) (oi := _) (v := ?_) rfl (by kernel_rfl) (by kernel_rfl) (by kernel_rfl) (fun _ _ _ h => h) (Or.inl ⟨by rfl, ?_⟩) hHeld ?_
            rotate_left
            · intro w0 hSw; (try dsimp only at hSw); go_simp; (try with_reducible rfl)
            (try dsimp only [Act.put, List.setIfInBounds_toArray, List.set_cons_zero, List.set_cons_succ])
            refine wpAnyH_ready (rs := [18]) (by kernel_rfl) (by simp) ?_
            refine AllReadyH.cons (o := _) rfl (fun K hK => ?_) AllReadyH.nil
            go_simp
            refine (HM.out _).mono ?_
            rintro e w5 ⟨rfl, hbM⟩
            go_wp2_with fail
            refine hK.out _ _ ?_ (fun hHeld => ?_)
            · (try dsimp only); exact ⟨keep_cell hbM hHeld.1, keep_cell hbM hHeld.2.1, keep_cell hbM hHeld.2.2.1, keep_cell hbM hHeld.2.2.2.1, keep_cell hbM hHeld.2.2.2.2⟩
            clear hK K
            (try dsimp only [Act.put, List.setIfInBounds_toArray, List.set_cons_zero, List.set_cons_succ])
            refine wpAnyH_ready (rs := [19]) (by kernel_rfl) (by simp) ?_
            refine AllReadyH.cons (o := _) rfl (fun K hK => ?_) AllReadyH.nil
            go_simp
            refine (HNG.out _).mono ?_
            rintro e w6 ⟨rfl, hbN⟩
            go_wp2_with fail
            refine hK.out _ _ ?_ (fun hHeld => ?_)
            · (try dsimp only); exact ⟨keep_cell hbN hHeld.1, keep_cell hbN hHeld.2.1, keep_cell hbN hHeld.2.2.1, keep_cell hbN hHeld.2.2.2.1, keep_cell hbN hHeld.2.2.2.2⟩
            clear hK K
            (try dsimp only [Act.put, List.setIfInBounds_toArray, List.set_cons_zero, List.set_cons_succ])
            refine wpAnyH_ready (rs := [20]) (by kernel_rfl) (by simp) ?_
            refine AllReadyH.cons (o := _) rfl (fun K hK => ?_) AllReadyH.nil
            go_simp
            refine (HA.out _).mono ?_
            rintro e w7 ⟨rfl, hbA⟩
            go_wp2_with fail
            refine hK.out _ _ ?_ (fun hHeld => ?_)
            · (try dsimp only); exact ⟨keep_cell hbA hHeld.1, keep_cell hbA hHeld.2.1, keep_cell hbA hHeld.2.2.1, keep_cell hbA hHeld.2.2.2.1, keep_cell hbA hHeld.2.2.2.2⟩
            clear hK K
            (try dsimp only [Act.put, List.setIfInBounds_toArray, List.set_cons_zero, List.set_cons_succ])
            refine wpAnyH_take (i := 21) (oi := _) (v := ?_) rfl (by kernel_rfl) (by kernel_rfl) (by kernel_rfl) (fun _ _ _ h => h) (Or.inl ⟨by rfl, ?_⟩) hHeld ?_
            rotate_left
            · intro w0 hSw; (try dsimp only at hSw); go_simp; (try with_reducible rfl)
            (try dsimp only [Act.put, List.setIfInBounds_toArray, List.set_cons_zero, List.set_cons_succ])
            refine wpAnyH_done (by kernel_rfl) (lastQ_normal ?_) _
            have hb3 := Below.more (Below.more (Below.trans (Drew.below (drew1 wr) wr.heap.size) hbM) (Nat.le_refl _) hbN) (Nat.le_refl _) hbA
            have hpA := HPL.out _ hb3
            have hcA := hpA.cell
            have hfA := hpA.frozen
            have hB5 := Lib.hid ((hbel.out.trans (hb3.mono hbel.out.size)).setCell (p := ⟨gb, i + j, none⟩) (Nat.le_of_succ_le HG1.out) (.int .i64 z))
            have hO5 := Lib.hid ((hpA.put _ hse).eq (HN.out _ rfl))
            have hQ5 := Lib.hid ((hq.out.below hb3).other (H := gb) (j := i + j) (x := .int .i64 z) hne)
            have hX5 := Lib.hid ((hbox.out.below hb3 hlx2).below ((Below.refl (w.heap.size + 1) w7).setCell (p := ⟨gb, i + j, none⟩) HG1.out (.int .i64 z)) (Nat.lt_succ_self _))
            go_wp2_with fail
            exact ⟨⟨j + 1, by omega, by go_num, hO5, hQ5, hB5, hX5⟩, by simp [intOf]; omega⟩
          · obtain rfl : j = n' := by omega
            have hend := Lib.hid (hrest.out.eq (f' := fR - VF.xp V i * PS.C (VF.of V y) * VF.ps V ys) (by have e := divT_end (V := V) fR ys i (VF.of V y); rw [hl'.out] at e; exact e))
            go_wp2_with fail
            go_roundw
            case rel => exact ⟨i, _, _, by omega, by go_num, HST, hq, hend, hbel, hbox⟩
            case measure => simp [intOf]
      · obtain rfl : k = 0 := by omega
        obtain ⟨zq, hrq, _, hoq, htq⟩ := hq.out.trimmed
        obtain ⟨zr, hrr, hlr, hor, htr⟩ := hrest.out.trimmed
        have HT := Lib.hid (l03Trim_any (cap := M) hrq (Nat.le_refl _) (by intro h; cases h) (by omega))
        have HRR := Lib.hid hrr
        have HT2 := Lib.hid (fun W (hb : Below wr.heap.size wr W) => l03Trim_any (cap := co) (HRR.out.below' hb) hlr (by intro h; cases h) (by omega))
        rw [htq] at HT
        rw [htr] at HT2
        have HDV := Lib.hid (hdiv.out.done (by rw [hl'.out]; exact h0))
        have hs9 := hbel.out.size
        clear hrq hoq hrr hor hlr htq htr
        go_wp2_with fail
        refine HT.out.mono ?_
        rintro e w7 ⟨v7, rfl, hb7, ho7⟩
        have HB7 := Lib.hid (hbel.out.trans (hb7.mono hs9))
        have HO7 := Lib.hid (ho7.lower hs9)
        have HT3 := Lib.hid (HT2.out w7 hb7)
        clear hb7 ho7 HT2
        go_wp2_with fail
        refine HT3.out.mono ?_
        rintro e w8 ⟨v8, rfl, hb8, ho8⟩
        have HB8 := Lib.hid (HB7.out.trans (hb8.mono HB7.out.size))
        have HO8 := Lib.hid (ho8.lower HB7.out.size)
        have HO78 := Lib.hid (HO7.out.below hb8)
        clear hb8 ho8
        go_wp2_with fail
        go_ret2
        exact ⟨_, _, _, _, rfl, HB8.out, HO78.out, HO8.out, HDV.out⟩
end Go.Proofs.Ytenlaoadclfmaaa
