/-
  The walk of over.
-/
import Derived.Test.YtenlaoadclfmaaaTimes
import Derived.Test.YtenlaoadclfmaaaDivs
namespace Go.Proofs.Ytenlaoadclfmaaa
open Go.RowKit
set_option linter.unusedVariables false

/-- Two results of one call, the second in blocks ahead of the first's. -/
def TwoL (w w' : World) (v v2 : Value) (zs zs2 : List Int) : Prop := ∃ mid, OwnL w' mid v zs ∧ OwnL w' w.heap.size v2 zs2 ∧ w.heap.size ≤ mid ∧ (∀ k, v2.ownBlock = some k → k < mid)
set_option maxRecDepth 100000 in
set_option maxHeartbeats 4000000 in
theorem over_any {V : VF} {w : World} {b : Nat} (hcal : Cal w b V.F) {a : Option Addr} {n cap : Nat} {xs : List Int} (hr : RowAt w a n xs) (hca : a = none → cap = 0) (hn : n ≤ 4096)
    {a' : Option Addr} {n' cap' : Nat} {ys : List Int} (hr' : RowAt w a' n' ys) (hn' : n' ≤ 4096) (hx : VF.isP V xs) (hy : VF.isP V ys) (h0 : 0 < n') :
    Calls Try.prog 89 #[.slice a n cap, .pointer (some ⟨b, 0, none⟩), .slice a' n' cap'] w fun e w' => ∃ v v2 zs zs2, e = .returned (.tuple #[v, v2]) ∧ Below w.heap.size w w' ∧ TwoL w w' v v2 zs zs2 ∧ VF.DivOf V xs ys zs zs2 := by
  have HR := Lib.hid hr
  have HR' := Lib.hid hr'
  have HC := Lib.hid hcal
  have hl := Lib.hid hr.len
  have hl' := Lib.hid hr'.len
  have HX := Lib.hid hx
  have HY := Lib.hid hy
  have HCA := Lib.hid hca
  clear hr hr' hcal hx hy hca
  by_cases hlt : n < n'
  · go_enter Try.func89, Try.ntmps89
    go_wp2_with (at_builtin; refine copy_row rfl _ _ _ rfl Try.underlying67 (OwnL.nil w _ (Nat.le_refl _)) rfl _ HR.out rfl HCA.out (by omega) ?_; intro ao co w1 hown1 hb1 hle hno _)
    have HB1 := Lib.hid hb1
    have HO1 := Lib.hid hown1
    clear hown1 hb1 hle hno
    go_wp2_with fail
    go_ret2
    refine ⟨_, _, _, _, rfl, HB1.out, ⟨w1.heap.size, OwnL.nil _ _ (Nat.le_refl _), HO1.out, HB1.out.size, fun k hk => (HO1.out.2.lt k hk).2⟩, VF.DivOf.small HX.out (by rw [hl.out, hl'.out]; exact hlt)⟩
  · obtain ⟨M, hM⟩ : ∃ M, n = M + (n' - 1) := ⟨n - (n' - 1), by omega⟩
    have HM := Lib.hid hM
    have hM1 : 0 < M := by omega
    have hM2 : M ≤ 4096 := by omega
    have hmk := fun w => run_make_ints w 67 Try.underlying67 ((n : Int) - n' + 1) (by omega) (by omega)
    rw [show ((n : Int) - n' + 1).toNat = M by omega] at hmk
    clear hM
    have e1 : (n' : Int) - 1 = ((n' - 1 : Nat) : Int) := by omega
    go_enter Try.func89, Try.ntmps89
    go_wp2_with (at_builtin; refine copy_row rfl _ _ _ rfl Try.underlying67 (OwnL.nil w _ (Nat.le_refl _)) rfl _ HR.out rfl HCA.out (by omega) ?_; intro ao co w1 hown1 hb1 hle hno hg; obtain ⟨g, rfl, hg1, hg2⟩ := hg (by omega); obtain ⟨b2, o2, rfl, hb2, hcs⟩ := (HR'.out.below' hb1).at' (by omega); have hlast := hcs (n' - 1) (by omega); clear hcs)
    have HB1 := Lib.hid hb1
    have HO1 := Lib.hid hown1
    have HG2 := Lib.hid hg2
    clear hown1 hb1 hno hg
    have hcal1 := (HC.out.below HB1.out).below (below1 _ (.cells (madeCells #[.int .i64 0] M) 2))
    have hyl := HY.out.els.getD (n' - 1)
    have hy0 := HY.out.tight (by rw [hl'.out]; exact h0)
    rw [hl'.out] at hy0
    have HI := Lib.hid (inv_any hcal1 (gi ys (n' - 1)) hyl hy0)
    have hile := FF.inv_el V.ok (gi ys (n' - 1))
    have HF := Lib.hid (fun r (hr : V.F.el r) => div_factor HY.out (by rw [hl'.out]; exact h0) hr)
    rw [hl'.out] at HF
    have HRO := Lib.hid (OutAt.of HO1.out hl.out HX.out.els)
    have HRO2 := Lib.hid (HRO.out.below (below1 _ (.cells (madeCells #[.int .i64 0] M) 2)))
    have HQO2 := Lib.hid (OutAt.zeros (V := V) w1 w1.heap.size (Nat.le_refl _) M (by omega))
    have HB2 := Lib.hid (HB1.out.trans ((below1 w1 (.cells (madeCells #[.int .i64 0] M) 2)).mono HB1.out.size))
    have HD := Lib.hid (DivInv.start (V := V) (p := xs) (q := ys) (k := M) (by rw [hl.out, hl'.out]; exact HM.out.symm))
    clear hcal1 hyl hy0 HRO
    refine HI.out.mono ?_
    rintro e w2 ⟨rfl, hd2⟩
    have hd2 : Drew _ w2 := hd2
    have HRO3 := Lib.hid (HRO2.out.below (hd2.below _))
    have HQO3 := Lib.hid (HQO2.out.below (hd2.below _))
    have HB3 := Lib.hid (HB2.out.trans (hd2.below _))
    clear hd2 hlast hmk HRO2 HQO2 HB2 HI
    change Hid (∀ r, V.F.el r → VF.of V (V.F.mul r (V.F.inv (gi ys (n' - 1)))) * _ = _) at HF
    generalize V.F.inv (gi ys (n' - 1)) = lead at *
    have hMM : (M : Int) - 1 = (M : Int) - 1 := rfl
    go_wp2_with fail
    go_loopw [11] (fun t wr => ∃ (k : Nat) (fO fR : PS (El V)), k ≤ M ∧ t = .int .i64 ((k : Int) - 1) ∧ Hid (DivInv V xs ys k fO fR) ∧ Hid (OutAt V wr w1.heap.size w1.heap.size M fO) ∧ Hid (OutAt V wr w.heap.size g n fR co) ∧ Hid (Below w.heap.size w wr)) (fun t _ => (intOf t + 1).toNat)
    case atStart => exact ⟨M, _, _, Nat.le_refl _, rfl, HD, HQO3, HRO3, HB3⟩
    case round =>
      obtain ⟨k, fO, fR, hk, rfl, hdiv, hq, hrest, hbel⟩ := hrel
      clear HD HQO3 HRO3 HB3
      by_cases h0k : 0 < k
      · obtain ⟨i, rfl⟩ : ∃ i, k = i + 1 := ⟨k - 1, by omega⟩
        have et : ((i + 1 : Nat) : Int) - 1 = (i : Int) := by omega
        rw [et]
        have hidx : i + (n' - 1) < n := by have := HM.out; omega
        obtain ⟨r, hre, hrc, hplr⟩ := hrest.out.place hidx
        have HPLR := Lib.hid hplr
        have hcr := (hplr wr (Below.refl _ _)).cell
        have HRC := Lib.hid hrc
        obtain ⟨x0, _, hx0, hplq⟩ := hq.out.place (show i < M by omega)
        have HPLQ := Lib.hid hplq
        have HX0 := Lib.hid (show VF.of V x0 = 0 from hx0.symm.trans (hdiv.out.zero i (by omega)))
        have HM1 := Lib.hid (mul_any (HC.out.below hbel.out) r lead hre hile)
        have hye := FF.mul_el V.ok r lead
        have HST := Lib.hid (hdiv.out.step (k := i) (y := VF.of V (V.F.mul r lead)) (by rw [hl'.out]; exact h0) (by rw [hl'.out, HF.out r hre]; exact hrc.symm))
        have q1 : IntKind.i64.wrap ((i : Int) + (n' : Int)) = (i : Int) + (n' : Int) := IntWalk.i64_in _ (by omega)
        have q2 : (0 : Int) ≤ (i : Int) + (n' : Int) - 1 := by omega
        have q3 : (i : Int) + (n' : Int) - 1 < (n : Int) := by omega
        have q4 : ((i : Int) + (n' : Int) - 1).toNat = i + (n' - 1) := by omega
        have hiM : (i : Int) < (M : Int) := by omega
        clear et hplr hrc hplq hx0 hdiv
        generalize V.F.mul r lead = y at *
        go_wp2_with fail
        refine HM1.out.mono ?_
        rintro e w5 ⟨rfl, hd5⟩
        have hd5 : Drew wr w5 := hd5
        have hpq := HPLQ.out w5 (hd5.below _)
        have hcq := hpq.cell
        have hfq := hpq.frozen
        have HQ5 := Lib.hid (hpq.put0 HX0.out hye)
        have HR5 := Lib.hid ((hrest.out.below (hd5.below _)).other (H := w1.heap.size) (j := i) (x := .int .i64 y) (by have := HG2.out; omega))
        have HB5 := Lib.hid ((hbel.out.trans (hd5.below _)).setCell (p := ⟨w1.heap.size, i, none⟩) HB1.out.size (.int .i64 y))
        clear hd5 hpq hcr q1 q2 q3 q4
        by_cases hy0 : y = 0
        · have hyb : (y == 0) = true := by simp [hy0]
          have HST2 := Lib.hid (by have := HST.out; rw [hy0, divT_skip] at this; exact this)
          have HQ6 := Lib.hid (by have := HQ5.out; rw [hy0] at this; exact this)
          subst hy0
          go_wp2_with fail
          go_roundw
          case rel => exact ⟨i, _, _, by omega, by go_num, HST2, HQ6, HR5, HB5⟩
          case measure => simp [intOf]
        · have hyb : (y == 0) = false := by simp [hy0]
          clear hy0
          have HR6 := Lib.hid (HR5.out.eq (divT_inner fR ys i (VF.of V y)))
          obtain ⟨wo, rfl⟩ : ∃ wo : World, wo = wr := ⟨_, rfl⟩
          go_wp2_with fail
          clear hcq hfq
          go_loopw [64] (fun t wr => ∃ j : Nat, j ≤ n' ∧ t = .int .i64 j ∧ Hid (OutAt V wr w.heap.size g n (fR - VF.xp V i * PS.C (VF.of V y) * VF.ps V (ys.take j)) co) ∧ Hid (OutAt V wr w1.heap.size w1.heap.size M (fO + VF.xp V i * PS.C (VF.of V y))) ∧ Hid (Below w.heap.size w wr)) (fun t _ => (n' - intOf t).toNat)
          case atStart => exact ⟨0, by omega, rfl, HR6, HQ5, HB5⟩
          case round =>
            obtain ⟨j, hj, rfl, hrest, hq, hbel⟩ := hrel
            clear HR6 HQ5 HB5 HR5
            by_cases hlt2 : j < n'
            · obtain ⟨b3, o3, e3, hb3, hcs⟩ := (HR'.out.below' hbel.out).at' (by omega)
              have hcj := hcs j hlt2
              simp only [Option.some.injEq, Addr.mk.injEq, and_true] at e3
              obtain ⟨rfl, rfl⟩ := e3
              have hij : i + j < n := by omega
              obtain ⟨x, hxe, _, hpl⟩ := hrest.out.place hij
              have HPL := Lib.hid hpl
              have hye2 := HY.out.els.getD j
              have HC2 := Lib.hid (HC.out.below hbel.out)
              have HM := Lib.hid (fun W (hd : Drew wr W) => mul_any (hd.cal HC2.out) y (gi ys j) hye hye2)
              have hme := FF.mul_el V.ok y (gi ys j)
              have HA := Lib.hid (fun W (hd : Drew wr W) => sub_any (hd.cal HC2.out) x (V.F.mul y (gi ys j)) hxe hme)
              have HN := Lib.hid (fun z (h : z = _) => divT_next (V := V) fR ys i j (by rw [hl'.out]; exact hlt2) (z := z) hxe hye hye2 h)
              have hc0 := (HPL.out wr (Below.refl _ _)).cell
              have hf0 := (HPL.out wr (Below.refl _ _)).frozen
              have q1 : IntKind.i64.wrap ((i : Int) + (j : Int)) = (i : Int) + (j : Int) := IntWalk.i64_in _ (by omega)
              have q2 : (0 : Int) ≤ (i : Int) + (j : Int) := by omega
              have q3 : (i : Int) + (j : Int) < (n : Int) := by omega
              have q4 : ((i : Int) + (j : Int)).toNat = i + j := by omega
              have hse := FF.add_el V.ok hxe (FF.neg_el hme)
              have hne : w1.heap.size ≠ g := by have := HG2.out; omega
              clear hcs hpl hye2
              change Hid (∀ z, z = V.F.add x (V.F.neg (V.F.mul y (gi ys j))) → _) at HN
              generalize V.F.mul y (gi ys j) = m at *
              generalize V.F.add x (V.F.neg m) = z at *
              go_wp2_with fail
              refine wp_region_last (S := (fun w' => w'.cell? ⟨g, i + j, none⟩ = some (.int .i64 x))) 17 (by kernel_rfl) rfl (by kernel_rfl) ?_ (fun hHeld => ?_)
              · (try dsimp only); exact hc0
              simp only [List.take_succ_cons, List.take_zero]
              refine wpAnyH_take (i := 0) (oi := _) (v := ?_) rfl (by kernel_rfl) (by kernel_rfl) (by kernel_rfl) (fun _ _ _ h => h) (Or.inl ⟨by rfl, ?_⟩) hHeld ?_
              rotate_left
              · intro w0 hSw; (try dsimp only at hSw); go_simp; (try with_reducible rfl)
              (try dsimp only [Act.put, List.setIfInBounds_toArray, List.set_cons_zero, List.set_cons_succ])
              refine wpAnyH_take (i := 1) (oi := _) (v := ?_) rfl (by kernel_rfl) (by kernel_rfl) (by kernel_rfl) (fun _ _ _ h => h) (Or.inl ⟨by rfl, ?_⟩) hHeld ?_
              rotate_left
              · intro w0 hSw; (try dsimp only at hSw); go_simp; (try with_reducible rfl)
              (try dsimp only [Act.put, List.setIfInBounds_toArray, List.set_cons_zero, List.set_cons_succ])
              refine wpAnyH_take (i := 2) (oi := _) (v := ?_) rfl (by kernel_rfl) (by kernel_rfl) (by kernel_rfl) (fun _ _ _ h => h) (Or.inl ⟨by rfl, ?_⟩) hHeld ?_
              rotate_left
              · intro w0 hSw; (try dsimp only at hSw); go_simp; (try with_reducible rfl)
              (try dsimp only [Act.put, List.setIfInBounds_toArray, List.set_cons_zero, List.set_cons_succ])
              refine wpAnyH_take (i := 3) (oi := _) (v := ?_) rfl (by kernel_rfl) (by kernel_rfl) (by kernel_rfl) (fun _ _ _ h => h) (Or.inl ⟨by rfl, ?_⟩) hHeld ?_
              rotate_left
              · intro w0 hSw; (try dsimp only at hSw); go_simp; (try with_reducible rfl)
              (try dsimp only [Act.put, List.setIfInBounds_toArray, List.set_cons_zero, List.set_cons_succ])
              refine wpAnyH_take (i := 4) (oi := _) (v := ?_) rfl (by kernel_rfl) (by kernel_rfl) (by kernel_rfl) (fun _ _ _ h => h) (Or.inl ⟨by rfl, ?_⟩) hHeld ?_
              rotate_left
              · intro w0 hSw; (try dsimp only at hSw); go_simp; (try with_reducible rfl)
              (try dsimp only [Act.put, List.setIfInBounds_toArray, List.set_cons_zero, List.set_cons_succ])
              refine wpAnyH_take (i := 5) (oi := _) (v := ?_) rfl (by kernel_rfl) (by kernel_rfl) (by kernel_rfl) (fun _ _ _ h => h) (Or.inl ⟨by rfl, ?_⟩) hHeld ?_
              rotate_left
              · intro w0 hSw; (try dsimp only at hSw); go_simp; (try with_reducible rfl)
              (try dsimp only [Act.put, List.setIfInBounds_toArray, List.set_cons_zero, List.set_cons_succ])
              refine wpAnyH_take (i := 6) (oi := _) (v := ?_) rfl (by kernel_rfl) (by kernel_rfl) (by kernel_rfl) (fun _ _ _ h => h) (Or.inl ⟨by rfl, ?_⟩) hHeld ?_
              rotate_left
              · intro w0 hSw; (try dsimp only at hSw); go_simp; (try with_reducible rfl)
              (try dsimp only [Act.put, List.setIfInBounds_toArray, List.set_cons_zero, List.set_cons_succ])
              refine wpAnyH_take (i := 7) (oi := _) (v := ?_) rfl (by kernel_rfl) (by kernel_rfl) (by kernel_rfl) (fun _ _ _ h => h) (Or.inl ⟨by rfl, ?_⟩) hHeld ?_
              rotate_left
              · intro w0 hSw; (try dsimp only at hSw); go_simp; (try with_reducible rfl)
              (try dsimp only [Act.put, List.setIfInBounds_toArray, List.set_cons_zero, List.set_cons_succ])
              refine wpAnyH_take (i := 8) (oi := _) (v := ?_) rfl (by kernel_rfl) (by kernel_rfl) (by kernel_rfl) (fun _ _ _ h => h) (Or.inl ⟨by rfl, ?_⟩) hHeld ?_
              rotate_left
              · intro w0 hSw; (try dsimp only at hSw); go_simp; (try with_reducible rfl)
              (try dsimp only [Act.put, List.setIfInBounds_toArray, List.set_cons_zero, List.set_cons_succ])
              refine wpAnyH_take (i := 9) (oi := _) (v := ?_) rfl (by kernel_rfl) (by kernel_rfl) (by kernel_rfl) (fun _ _ _ h => h) (Or.inl ⟨by rfl, ?_⟩) hHeld ?_
              rotate_left
              · intro w0 hSw; (try dsimp only at hSw); go_simp; (try with_reducible rfl)
              (try dsimp only [Act.put, List.setIfInBounds_toArray, List.set_cons_zero, List.set_cons_succ])
              refine wpAnyH_take (i := 10) (oi := _) (v := ?_) rfl (by kernel_rfl) (by kernel_rfl) (by kernel_rfl) (fun _ _ _ h => h) (Or.inl ⟨by rfl, ?_⟩) hHeld ?_
              rotate_left
              · intro w0 hSw; (try dsimp only at hSw); go_simp; (try with_reducible rfl)
              (try dsimp only [Act.put, List.setIfInBounds_toArray, List.set_cons_zero, List.set_cons_succ])
              refine wpAnyH_take (i := 11) (oi := _) (v := ?_) rfl (by kernel_rfl) (by kernel_rfl) (by kernel_rfl) (fun _ _ _ h => h) (Or.inl ⟨by rfl, ?_⟩) hHeld ?_
              rotate_left
              · intro w0 hSw; (try dsimp only at hSw); go_simp; (try with_reducible rfl)
              (try dsimp only [Act.put, List.setIfInBounds_toArray, List.set_cons_zero, List.set_cons_succ])
              refine wpAnyH_take (i := 12) (oi := _) (v := ?_) rfl (by kernel_rfl) (by kernel_rfl) (by kernel_rfl) (fun _ _ _ h => h) (Or.inl ⟨by rfl, ?_⟩) hHeld ?_
              rotate_left
              · intro w0 hSw; (try dsimp only at hSw); go_simp; (try with_reducible rfl)
              (try dsimp only [Act.put, List.setIfInBounds_toArray, List.set_cons_zero, List.set_cons_succ])
              refine wpAnyH_take (i := 13) (oi := _) (v := ?_) rfl (by kernel_rfl) (by kernel_rfl) (by kernel_rfl) (fun _ _ _ h => h) (Or.inl ⟨by rfl, ?_⟩) hHeld ?_
              rotate_left
              · intro w0 hSw; (try dsimp only at hSw); go_simp; (try with_reducible rfl)
              (try dsimp only [Act.put, List.setIfInBounds_toArray, List.set_cons_zero, List.set_cons_succ])
              refine wpAnyH_ready (rs := [14]) (by kernel_rfl) (by simp) ?_
              refine AllReadyH.cons (o := _) rfl (fun K hK => ?_) AllReadyH.nil
              go_simp
              refine (HM.out _ (drew1 _)).mono ?_
              rintro e w5 ⟨rfl, hd5⟩
              have hd5 : Drew wr w5 := Drew.trans (drew1 wr) hd5
              go_wp2_with fail
              refine hK.out _ _ ?_ (fun hHeld => ?_)
              · (try dsimp only); exact keep_cell (W := wr) (hd5.below _) hc0
              clear hK K
              (try dsimp only [Act.put, List.setIfInBounds_toArray, List.set_cons_zero, List.set_cons_succ])
              refine wpAnyH_ready (rs := [15]) (by kernel_rfl) (by simp) ?_
              refine AllReadyH.cons (o := _) rfl (fun K hK => ?_) AllReadyH.nil
              go_simp
              refine (HA.out _ hd5).mono ?_
              rintro e w6 ⟨rfl, rfl⟩
              go_wp2_with fail
              refine hK.out _ _ ?_ (fun hHeld => ?_)
              · (try dsimp only); exact hHeld
              clear hK K
              (try dsimp only [Act.put, List.setIfInBounds_toArray, List.set_cons_zero, List.set_cons_succ])
              refine wpAnyH_take (i := 16) (oi := _) (v := ?_) rfl (by kernel_rfl) (by kernel_rfl) (by kernel_rfl) (fun _ _ _ h => h) (Or.inl ⟨by rfl, ?_⟩) hHeld ?_
              rotate_left
              · intro w0 hSw; (try dsimp only at hSw); go_simp; (try with_reducible rfl)
              (try dsimp only [Act.put, List.setIfInBounds_toArray, List.set_cons_zero, List.set_cons_succ])
              refine wpAnyH_done (by kernel_rfl) (lastQ_normal ?_) _
              have hp := HPL.out _ (hd5.below wr.heap.size)
              have hf5 := hp.frozen
              have hc5 := hp.cell
              go_wp2_with fail
              have hB5 := Lib.hid ((hbel.out.trans (hd5.below _)).setCell (p := ⟨g, i + j, none⟩) hg1 (.int .i64 z))
              have hO5 := Lib.hid ((hp.put _ hse).eq (HN.out _ rfl))
              have hQ5 := Lib.hid ((hq.out.below (hd5.below _)).other (H := g) (j := i + j) (x := .int .i64 z) hne)
              exact ⟨⟨j + 1, by omega, by go_num, hO5, hQ5, hB5⟩, by simp [intOf]; omega⟩
            · obtain rfl : j = n' := by omega
              have hend := Lib.hid (hrest.out.eq (f' := fR - VF.xp V i * PS.C (VF.of V y) * VF.ps V ys) (by have e := divT_end (V := V) fR ys i (VF.of V y); rw [hl'.out] at e; exact e))
              go_wp2_with fail
              go_roundw
              case rel => exact ⟨i, _, _, by omega, by go_num, HST, hq, hend, hbel⟩
              case measure => simp [intOf]
      · obtain rfl : k = 0 := by omega
        obtain ⟨zq, hrq, _, hoq, _⟩ := hq.out.trimmed
        obtain ⟨zr, hrr, hlr, hor, _⟩ := hrest.out.trimmed
        have HT := Lib.hid (trim_any (cap := M) hrq (Nat.le_refl _))
        have HT2 := Lib.hid (trim_any (cap := co) hrr hlr)
        have HOQ := Lib.hid hoq
        have HOR := Lib.hid hor
        have HDV := Lib.hid (hdiv.out.done (by rw [hl'.out]; exact h0))
        clear hrq hoq hrr hor hlr
        go_wp2_with fail
        refine HT.out.mono ?_
        rintro e w7 ⟨rfl, rfl⟩
        go_wp2_with fail
        refine HT2.out.mono ?_
        rintro e w7 ⟨rfl, rfl⟩
        go_wp2_with fail
        go_ret2
        exact ⟨_, _, _, _, rfl, hbel.out, ⟨w1.heap.size, HOQ.out, HOR.out, HB1.out.size, fun k hk => by simp [Value.ownBlock] at hk; have := HG2.out; omega⟩, HDV.out⟩
end Go.Proofs.Ytenlaoadclfmaaa
