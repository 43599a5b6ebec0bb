/-
  The parts Over, SpecDiv, Scaled.
-/
import Derived.Test.YtfhkkpfiflgofaaProd
import Derived.Test.YtfhkkpfiflgofaaMathG
import Derived.Test.YtfhkkpfiflgofaaSFs
/-
  The walk of over.
-/
namespace Go.Proofs.Ytfhkkpfiflgofaa
open Go.RowKit
set_option linter.unusedVariables false

/-- Two results of one call, the second in blocks ahead of the first's. -/
def TwoL (w w' : World) (v v2 : Value) (zs zs2 : List Int) : Prop := ∃ mid, OwnL w' mid v zs ∧ OwnL w' w.heap.size v2 zs2 ∧ w.heap.size ≤ mid ∧ (∀ k, v2.ownBlock = some k → k < mid)
set_option maxRecDepth 100000 in
set_option maxHeartbeats 4000000 in
theorem over_any {V : VF} {w : World} {b : Nat} (hcal : Cal w b V.F) {a : Option Addr} {n cap : Nat} {xs : List Int} (hr : RowAt w a n xs) (hca : a = none → cap = 0) (hn : n ≤ 4096)
    {a' : Option Addr} {n' cap' : Nat} {ys : List Int} (hr' : RowAt w a' n' ys) (hn' : n' ≤ 4096) (hx : VF.isP V xs) (hy : VF.isP V ys) (h0 : 0 < n') :
    Calls Try.prog 115 #[.slice a n cap, .pointer (some ⟨b, 0, none⟩), .slice a' n' cap'] w fun e w' => ∃ v v2 zs zs2, e = .returned (.tuple #[v, v2]) ∧ Below w.heap.size w w' ∧ TwoL w w' v v2 zs zs2 ∧ VF.DivOf V xs ys zs zs2 := by
  have HR := Lib.hid hr
  have HR' := Lib.hid hr'
  have HC := Lib.hid hcal
  have hl := Lib.hid hr.len
  have hl' := Lib.hid hr'.len
  have HX := Lib.hid hx
  have HY := Lib.hid hy
  have HCA := Lib.hid hca
  clear hr hr' hcal hx hy hca
  by_cases hlt : n < n'
  · go_enter Try.func115, Try.ntmps115
    go_wp2_with (at_builtin; refine copy_row rfl _ _ _ rfl Try.underlying100 (OwnL.nil w _ (Nat.le_refl _)) rfl _ HR.out rfl HCA.out (by omega) ?_; intro ao co w1 hown1 hb1 hle hno _)
    have HB1 := Lib.hid hb1
    have HO1 := Lib.hid hown1
    clear hown1 hb1 hle hno
    go_wp2_with fail
    go_ret2
    refine ⟨_, _, _, _, rfl, HB1.out, ⟨w1.heap.size, OwnL.nil _ _ (Nat.le_refl _), HO1.out, HB1.out.size, fun k hk => (HO1.out.2.lt k hk).2⟩, VF.DivOf.small HX.out (by rw [hl.out, hl'.out]; exact hlt)⟩
  · obtain ⟨M, hM⟩ : ∃ M, n = M + (n' - 1) := ⟨n - (n' - 1), by omega⟩
    have HM := Lib.hid hM
    have hM1 : 0 < M := by omega
    have hM2 : M ≤ 4096 := by omega
    have hmk := fun w => run_make_ints w 100 Try.underlying100 ((n : Int) - n' + 1) (by omega) (by omega)
    rw [show ((n : Int) - n' + 1).toNat = M by omega] at hmk
    clear hM
    have e1 : (n' : Int) - 1 = ((n' - 1 : Nat) : Int) := by omega
    go_enter Try.func115, Try.ntmps115
    go_wp2_with (at_builtin; refine copy_row rfl _ _ _ rfl Try.underlying100 (OwnL.nil w _ (Nat.le_refl _)) rfl _ HR.out rfl HCA.out (by omega) ?_; intro ao co w1 hown1 hb1 hle hno hg; obtain ⟨g, rfl, hg1, hg2⟩ := hg (by omega); obtain ⟨b2, o2, rfl, hb2, hcs⟩ := (HR'.out.below' hb1).at' (by omega); have hlast := hcs (n' - 1) (by omega); clear hcs)
    have HB1 := Lib.hid hb1
    have HO1 := Lib.hid hown1
    have HG2 := Lib.hid hg2
    clear hown1 hb1 hno hg
    have hcal1 := (HC.out.below HB1.out).below (below1 _ (.cells (madeCells #[.int .i64 0] M) 2))
    have hyl := HY.out.els.getD (n' - 1)
    have hy0 := HY.out.tight (by rw [hl'.out]; exact h0)
    rw [hl'.out] at hy0
    have HI := Lib.hid (inv_any hcal1 (gi ys (n' - 1)) hyl hy0)
    have hile := FF.inv_el V.ok (gi ys (n' - 1))
    have HF := Lib.hid (fun r (hr : V.F.el r) => div_factor HY.out (by rw [hl'.out]; exact h0) hr)
    rw [hl'.out] at HF
    have HRO := Lib.hid (OutAt.of HO1.out hl.out HX.out.els)
    have HRO2 := Lib.hid (HRO.out.below (below1 _ (.cells (madeCells #[.int .i64 0] M) 2)))
    have HQO2 := Lib.hid (OutAt.zeros (V := V) w1 w1.heap.size (Nat.le_refl _) M (by omega))
    have HB2 := Lib.hid (HB1.out.trans ((below1 w1 (.cells (madeCells #[.int .i64 0] M) 2)).mono HB1.out.size))
    have HD := Lib.hid (DivInv.start (V := V) (p := xs) (q := ys) (k := M) (by rw [hl.out, hl'.out]; exact HM.out.symm))
    clear hcal1 hyl hy0 HRO
    refine HI.out.mono ?_
    rintro e w2 ⟨rfl, hd2⟩
    have hd2 : Drew _ w2 := hd2
    have HRO3 := Lib.hid (HRO2.out.below (hd2.below _))
    have HQO3 := Lib.hid (HQO2.out.below (hd2.below _))
    have HB3 := Lib.hid (HB2.out.trans (hd2.below _))
    clear hd2 hlast hmk HRO2 HQO2 HB2 HI
    change Hid (∀ r, V.F.el r → VF.of V (V.F.mul r (V.F.inv (gi ys (n' - 1)))) * _ = _) at HF
    generalize V.F.inv (gi ys (n' - 1)) = lead at *
    have hMM : (M : Int) - 1 = (M : Int) - 1 := rfl
    go_wp2_with fail
    go_loopw [11] (fun t wr => ∃ (k : Nat) (fO fR : PS (El V)), k ≤ M ∧ t = .int .i64 ((k : Int) - 1) ∧ Hid (DivInv V xs ys k fO fR) ∧ Hid (OutAt V wr w1.heap.size w1.heap.size M fO) ∧ Hid (OutAt V wr w.heap.size g n fR co) ∧ Hid (Below w.heap.size w wr)) (fun t _ => (intOf t + 1).toNat)
    case atStart => exact ⟨M, _, _, Nat.le_refl _, rfl, HD, HQO3, HRO3, HB3⟩
    case round =>
      obtain ⟨k, fO, fR, hk, rfl, hdiv, hq, hrest, hbel⟩ := hrel
      clear HD HQO3 HRO3 HB3
      by_cases h0k : 0 < k
      · obtain ⟨i, rfl⟩ : ∃ i, k = i + 1 := ⟨k - 1, by omega⟩
        have et : ((i + 1 : Nat) : Int) - 1 = (i : Int) := by omega
        rw [et]
        have hidx : i + (n' - 1) < n := by have := HM.out; omega
        obtain ⟨r, hre, hrc, hplr⟩ := hrest.out.place hidx
        have HPLR := Lib.hid hplr
        have hcr := (hplr wr (Below.refl _ _)).cell
        have HRC := Lib.hid hrc
        obtain ⟨x0, _, hx0, hplq⟩ := hq.out.place (show i < M by omega)
        have HPLQ := Lib.hid hplq
        have HX0 := Lib.hid (show VF.of V x0 = 0 from hx0.symm.trans (hdiv.out.zero i (by omega)))
        have HM1 := Lib.hid (mul_any (HC.out.below hbel.out) r lead hre hile)
        have hye := FF.mul_el V.ok r lead
        have HST := Lib.hid (hdiv.out.step (k := i) (y := VF.of V (V.F.mul r lead)) (by rw [hl'.out]; exact h0) (by rw [hl'.out, HF.out r hre]; exact hrc.symm))
        have q1 : IntKind.i64.wrap ((i : Int) + (n' : Int)) = (i : Int) + (n' : Int) := IntWalk.i64_in _ (by omega)
        have q2 : (0 : Int) ≤ (i : Int) + (n' : Int) - 1 := by omega
        have q3 : (i : Int) + (n' : Int) - 1 < (n : Int) := by omega
        have q4 : ((i : Int) + (n' : Int) - 1).toNat = i + (n' - 1) := by omega
        have hiM : (i : Int) < (M : Int) := by omega
        clear et hplr hrc hplq hx0 hdiv
        generalize V.F.mul r lead = y at *
        go_wp2_with fail
        refine HM1.out.mono ?_
        rintro e w5 ⟨rfl, hd5⟩
        have hd5 : Drew wr w5 := hd5
        have hpq := HPLQ.out w5 (hd5.below _)
        have hcq := hpq.cell
        have hfq := hpq.frozen
        have HQ5 := Lib.hid (hpq.put0 HX0.out hye)
        have HR5 := Lib.hid ((hrest.out.below (hd5.below _)).other (H := w1.heap.size) (j := i) (x := .int .i64 y) (by have := HG2.out; omega))
        have HB5 := Lib.hid ((hbel.out.trans (hd5.below _)).setCell (p := ⟨w1.heap.size, i, none⟩) HB1.out.size (.int .i64 y))
        clear hd5 hpq hcr q1 q2 q3 q4
        by_cases hy0 : y = 0
        · have hyb : (y == 0) = true := by simp [hy0]
          have HST2 := Lib.hid (by have := HST.out; rw [hy0, divT_skip] at this; exact this)
          have HQ6 := Lib.hid (by have := HQ5.out; rw [hy0] at this; exact this)
          subst hy0
          go_wp2_with fail
          go_roundw
          case rel => exact ⟨i, _, _, by omega, by go_num, HST2, HQ6, HR5, HB5⟩
          case measure => simp [intOf]
        · have hyb : (y == 0) = false := by simp [hy0]
          clear hy0
          have HR6 := Lib.hid (HR5.out.eq (divT_inner fR ys i (VF.of V y)))
          obtain ⟨wo, rfl⟩ : ∃ wo : World, wo = wr := ⟨_, rfl⟩
          go_wp2_with fail
          clear hcq hfq
          go_loopw [64] (fun t wr => ∃ j : Nat, j ≤ n' ∧ t = .int .i64 j ∧ Hid (OutAt V wr w.heap.size g n (fR - VF.xp V i * PS.C (VF.of V y) * VF.ps V (ys.take j)) co) ∧ Hid (OutAt V wr w1.heap.size w1.heap.size M (fO + VF.xp V i * PS.C (VF.of V y))) ∧ Hid (Below w.heap.size w wr)) (fun t _ => (n' - intOf t).toNat)
          case atStart => exact ⟨0, by omega, rfl, HR6, HQ5, HB5⟩
          case round =>
            obtain ⟨j, hj, rfl, hrest, hq, hbel⟩ := hrel
            clear HR6 HQ5 HB5 HR5
            by_cases hlt2 : j < n'
            · obtain ⟨b3, o3, e3, hb3, hcs⟩ := (HR'.out.below' hbel.out).at' (by omega)
              have hcj := hcs j hlt2
              simp only [Option.some.injEq, Addr.mk.injEq, and_true] at e3
              obtain ⟨rfl, rfl⟩ := e3
              have hij : i + j < n := by omega
              obtain ⟨x, hxe, _, hpl⟩ := hrest.out.place hij
              have HPL := Lib.hid hpl
              have hye2 := HY.out.els.getD j
              have HC2 := Lib.hid (HC.out.below hbel.out)
              have HM := Lib.hid (fun W (hd : Drew wr W) => mul_any (hd.cal HC2.out) y (gi ys j) hye hye2)
              have hme := FF.mul_el V.ok y (gi ys j)
              have HA := Lib.hid (fun W (hd : Drew wr W) => sub_any (hd.cal HC2.out) x (V.F.mul y (gi ys j)) hxe hme)
              have HN := Lib.hid (fun z (h : z = _) => divT_next (V := V) fR ys i j (by rw [hl'.out]; exact hlt2) (z := z) hxe hye hye2 h)
              have hc0 := (HPL.out wr (Below.refl _ _)).cell
              have hf0 := (HPL.out wr (Below.refl _ _)).frozen
              have q1 : IntKind.i64.wrap ((i : Int) + (j : Int)) = (i : Int) + (j : Int) := IntWalk.i64_in _ (by omega)
              have q2 : (0 : Int) ≤ (i : Int) + (j : Int) := by omega
              have q3 : (i : Int) + (j : Int) < (n : Int) := by omega
              have q4 : ((i : Int) + (j : Int)).toNat = i + j := by omega
              have hse := FF.add_el V.ok hxe (FF.neg_el hme)
              have hne : w1.heap.size ≠ g := by have := HG2.out; omega
              clear hcs hpl hye2
              change Hid (∀ z, z = V.F.add x (V.F.neg (V.F.mul y (gi ys j))) → _) at HN
              generalize V.F.mul y (gi ys j) = m at *
              generalize V.F.add x (V.F.neg m) = z at *
              go_wp2_with fail
              refine wp_region_last (S := (fun w' => w'.cell? ⟨g, i + j, none⟩ = some (.int .i64 x))) 17 (by kernel_rfl) rfl (by kernel_rfl) ?_ (fun hHeld => ?_)
              · (try dsimp only); exact hc0
              simp only [List.take_succ_cons, List.take_zero]
              refine wpAnyH_take (i := 0) (oi := _) (v := ?_) rfl (by kernel_rfl) (by kernel_rfl) (by kernel_rfl) (fun _ _ _ h => h) (Or.inl ⟨by rfl, ?_⟩) hHeld ?_
              rotate_left
              · intro w0 hSw; (try dsimp only at hSw); go_simp; (try with_reducible rfl)
              (try dsimp only [Act.put, List.setIfInBounds_toArray, List.set_cons_zero, List.set_cons_succ])
              refine wpAnyH_take (i := 1) (oi := _) (v := ?_) rfl (by kernel_rfl) (by kernel_rfl) (by kernel_rfl) (fun _ _ _ h => h) (Or.inl ⟨by rfl, ?_⟩) hHeld ?_
              rotate_left
              · intro w0 hSw; (try dsimp only at hSw); go_simp; (try with_reducible rfl)
              (try dsimp only [Act.put, List.setIfInBounds_toArray, List.set_cons_zero, List.set_cons_succ])
              refine wpAnyH_take (i := 2) (oi := _) (v := ?_) rfl (by kernel_rfl) (by kernel_rfl) (by kernel_rfl) (fun _ _ _ h => h) (Or.inl ⟨by rfl, ?_⟩) hHeld ?_
              rotate_left
              · intro w0 hSw; (try dsimp only at hSw); go_simp; (try with_reducible rfl)
              (try dsimp only [Act.put, List.setIfInBounds_toArray, List.set_cons_zero, List.set_cons_succ])
              refine wpAnyH_take (i := 3) (oi := _) (v := ?_) rfl (by kernel_rfl) (by kernel_rfl) (by kernel_rfl) (fun _ _ _ h => h) (Or.inl ⟨by rfl, ?_⟩) hHeld ?_
              rotate_left
              · intro w0 hSw; (try dsimp only at hSw); go_simp; (try with_reducible rfl)
              (try dsimp only [Act.put, List.setIfInBounds_toArray, List.set_cons_zero, List.set_cons_succ])
              refine wpAnyH_take (i := 4) (oi := _) (v := ?_) rfl (by kernel_rfl) (by kernel_rfl) (by kernel_rfl) (fun _ _ _ h => h) (Or.inl ⟨by rfl, ?_⟩) hHeld ?_
              rotate_left
              · intro w0 hSw; (try dsimp only at hSw); go_simp; (try with_reducible rfl)
              (try dsimp only [Act.put, List.setIfInBounds_toArray, List.set_cons_zero, List.set_cons_succ])
              refine wpAnyH_take (i := 5) (oi := _) (v := ?_) rfl (by kernel_rfl) (by kernel_rfl) (by kernel_rfl) (fun _ _ _ h => h) (Or.inl ⟨by rfl, ?_⟩) hHeld ?_
              rotate_left
              · intro w0 hSw; (try dsimp only at hSw); go_simp; (try with_reducible rfl)
              (try dsimp only [Act.put, List.setIfInBounds_toArray, List.set_cons_zero, List.set_cons_succ])
              refine wpAnyH_take (i := 6) (oi := _) (v := ?_) rfl (by kernel_rfl) (by kernel_rfl) (by kernel_rfl) (fun _ _ _ h => h) (Or.inl ⟨by rfl, ?_⟩) hHeld ?_
              rotate_left
              · intro w0 hSw; (try dsimp only at hSw); go_simp; (try with_reducible rfl)
              (try dsimp only [Act.put, List.setIfInBounds_toArray, List.set_cons_zero, List.set_cons_succ])
              refine wpAnyH_take (i := 7) (oi := _) (v := ?_) rfl (by kernel_rfl) (by kernel_rfl) (by kernel_rfl) (fun _ _ _ h => h) (Or.inl ⟨by rfl, ?_⟩) hHeld ?_
              rotate_left
              · intro w0 hSw; (try dsimp only at hSw); go_simp; (try with_reducible rfl)
              (try dsimp only [Act.put, List.setIfInBounds_toArray, List.set_cons_zero, List.set_cons_succ])
              refine wpAnyH_take (i := 8) (oi := _) (v := ?_) rfl (by kernel_rfl) (by kernel_rfl) (by kernel_rfl) (fun _ _ _ h => h) (Or.inl ⟨by rfl, ?_⟩) hHeld ?_
              rotate_left
              · intro w0 hSw; (try dsimp only at hSw); go_simp; (try with_reducible rfl)
              (try dsimp only [Act.put, List.setIfInBounds_toArray, List.set_cons_zero, List.set_cons_succ])
              refine wpAnyH_take (i := 9) (oi := _) (v := ?_) rfl (by kernel_rfl) (by kernel_rfl) (by kernel_rfl) (fun _ _ _ h => h) (Or.inl ⟨by rfl, ?_⟩) hHeld ?_
              rotate_left
              · intro w0 hSw; (try dsimp only at hSw); go_simp; (try with_reducible rfl)
              (try dsimp only [Act.put, List.setIfInBounds_toArray, List.set_cons_zero, List.set_cons_succ])
              refine wpAnyH_take (i := 10) (oi := _) (v := ?_) rfl (by kernel_rfl) (by kernel_rfl) (by kernel_rfl) (fun _ _ _ h => h) (Or.inl ⟨by rfl, ?_⟩) hHeld ?_
              rotate_left
              · intro w0 hSw; (try dsimp only at hSw); go_simp; (try with_reducible rfl)
              (try dsimp only [Act.put, List.setIfInBounds_toArray, List.set_cons_zero, List.set_cons_succ])
              refine wpAnyH_take (i := 11) (oi := _) (v := ?_) rfl (by kernel_rfl) (by kernel_rfl) (by kernel_rfl) (fun _ _ _ h => h) (Or.inl ⟨by rfl, ?_⟩) hHeld ?_
              rotate_left
              · intro w0 hSw; (try dsimp only at hSw); go_simp; (try with_reducible rfl)
              (try dsimp only [Act.put, List.setIfInBounds_toArray, List.set_cons_zero, List.set_cons_succ])
              refine wpAnyH_take (i := 12) (oi := _) (v := ?_) rfl (by kernel_rfl) (by kernel_rfl) (by kernel_rfl) (fun _ _ _ h => h) (Or.inl ⟨by rfl, ?_⟩) hHeld ?_
              rotate_left
              · intro w0 hSw; (try dsimp only at hSw); go_simp; (try with_reducible rfl)
              (try dsimp only [Act.put, List.setIfInBounds_toArray, List.set_cons_zero, List.set_cons_succ])
              refine wpAnyH_take (i := 13) (oi := _) (v := ?_) rfl (by kernel_rfl) (by kernel_rfl) (by kernel_rfl) (fun _ _ _ h => h) (Or.inl ⟨by rfl, ?_⟩) hHeld ?_
              rotate_left
              · intro w0 hSw; (try dsimp only at hSw); go_simp; (try with_reducible rfl)
              (try dsimp only [Act.put, List.setIfInBounds_toArray, List.set_cons_zero, List.set_cons_succ])
              refine wpAnyH_ready (rs := [14]) (by kernel_rfl) (by simp) ?_
              refine AllReadyH.cons (o := _) rfl (fun K hK => ?_) AllReadyH.nil
              go_simp
              refine (HM.out _ (drew1 _)).mono ?_
              rintro e w5 ⟨rfl, hd5⟩
              have hd5 : Drew wr w5 := Drew.trans (drew1 wr) hd5
              go_wp2_with fail
              refine hK.out _ _ ?_ (fun hHeld => ?_)
              · (try dsimp only); exact keep_cell (W := wr) (hd5.below _) hc0
              clear hK K
              (try dsimp only [Act.put, List.setIfInBounds_toArray, List.set_cons_zero, List.set_cons_succ])
              refine wpAnyH_ready (rs := [15]) (by kernel_rfl) (by simp) ?_
              refine AllReadyH.cons (o := _) rfl (fun K hK => ?_) AllReadyH.nil
              go_simp
              refine (HA.out _ hd5).mono ?_
              rintro e w6 ⟨rfl, rfl⟩
              go_wp2_with fail
              refine hK.out _ _ ?_ (fun hHeld => ?_)
              · (try dsimp only); exact hHeld
              clear hK K
              (try dsimp only [Act.put, List.setIfInBounds_toArray, List.set_cons_zero, List.set_cons_succ])
              refine wpAnyH_take (i := 16) (oi := _) (v := ?_) rfl (by kernel_rfl) (by kernel_rfl) (by kernel_rfl) (fun _ _ _ h => h) (Or.inl ⟨by rfl, ?_⟩) hHeld ?_
              rotate_left
              · intro w0 hSw; (try dsimp only at hSw); go_simp; (try with_reducible rfl)
              (try dsimp only [Act.put, List.setIfInBounds_toArray, List.set_cons_zero, List.set_cons_succ])
              refine wpAnyH_done (by kernel_rfl) (lastQ_normal ?_) _
              have hp := HPL.out _ (hd5.below wr.heap.size)
              have hf5 := hp.frozen
              have hc5 := hp.cell
              go_wp2_with fail
              have hB5 := Lib.hid ((hbel.out.trans (hd5.below _)).setCell (p := ⟨g, i + j, none⟩) hg1 (.int .i64 z))
              have hO5 := Lib.hid ((hp.put _ hse).eq (HN.out _ rfl))
              have hQ5 := Lib.hid ((hq.out.below (hd5.below _)).other (H := g) (j := i + j) (x := .int .i64 z) hne)
              exact ⟨⟨j + 1, by omega, by go_num, hO5, hQ5, hB5⟩, by simp [intOf]; omega⟩
            · obtain rfl : j = n' := by omega
              have hend := Lib.hid (hrest.out.eq (f' := fR - VF.xp V i * PS.C (VF.of V y) * VF.ps V ys) (by have e := divT_end (V := V) fR ys i (VF.of V y); rw [hl'.out] at e; exact e))
              go_wp2_with fail
              go_roundw
              case rel => exact ⟨i, _, _, by omega, by go_num, HST, hq, hend, hbel⟩
              case measure => simp [intOf]
      · obtain rfl : k = 0 := by omega
        obtain ⟨zq, hrq, _, hoq, _⟩ := hq.out.trimmed
        obtain ⟨zr, hrr, hlr, hor, _⟩ := hrest.out.trimmed
        have HT := Lib.hid (trim_any (cap := M) hrq (Nat.le_refl _))
        have HT2 := Lib.hid (trim_any (cap := co) hrr hlr)
        have HOQ := Lib.hid hoq
        have HOR := Lib.hid hor
        have HDV := Lib.hid (hdiv.out.done (by rw [hl'.out]; exact h0))
        clear hrq hoq hrr hor hlr
        go_wp2_with fail
        refine HT.out.mono ?_
        rintro e w7 ⟨rfl, rfl⟩
        go_wp2_with fail
        refine HT2.out.mono ?_
        rintro e w7 ⟨rfl, rfl⟩
        go_wp2_with fail
        go_ret2
        exact ⟨_, _, _, _, rfl, hbel.out, ⟨w1.heap.size, HOQ.out, HOR.out, HB1.out.size, fun k hk => by simp [Value.ownBlock] at hk; have := HG2.out; omega⟩, HDV.out⟩
end Go.Proofs.Ytfhkkpfiflgofaa
/-
  The walk of the reference's division.
-/
namespace Go.Proofs.Ytfhkkpfiflgofaa
open Go.RowKit
set_option linter.unusedVariables false

set_option maxRecDepth 100000 in
set_option maxHeartbeats 8000000 in
theorem SF.ldiv {V : VF} {p pw g : Int} (hs : SF V p pw g) {w : World} {a : Option Addr} {n cap : Nat} {xs : List Int} (hr : RowAt w a n xs) (hca : a = none → cap = 0) (hn : n ≤ 4096)
    {a' : Option Addr} {n' cap' : Nat} {ys : List Int} (hr' : RowAt w a' n' ys) (hn' : n' ≤ 4096) (hx : VF.isP V xs) (hy : VF.isP V ys) (h0 : 0 < n') :
    Calls Try.prog 150 #[fV p pw g, .slice a n cap, .slice a' n' cap'] w fun e w' => ∃ v v2 zs zs2, e = .returned (.tuple #[v, v2]) ∧ Below w.heap.size w w' ∧ OwnL w' w.heap.size v zs ∧ OwnL w' w.heap.size v2 zs2 ∧ VF.DivOf V xs ys zs zs2 := by
  have HR := Lib.hid hr
  have HR' := Lib.hid hr'
  have hl := Lib.hid hr.len
  have hl' := Lib.hid hr'.len
  have HX := Lib.hid hx
  have HY := Lib.hid hy
  have HCA := Lib.hid hca
  clear hr hr' hx hy hca
  by_cases hlt : n < n'
  · go_enter Try.func150, Try.ntmps150
    go_wp2_with fail
    refine (l01Own_any (HR.out.below' (below1 _ _)) HCA.out (by omega)).mono ?_
    rintro e w1 ⟨v, rfl, hb1, ho1⟩
    have HB1 := Lib.hid (Below.trans (below1 w _) (hb1.mono (by simp)))
    have HO1 := Lib.hid (ho1.lower (C := w.heap.size) (by simp))
    clear hb1 ho1
    go_wp2_with fail
    go_ret2
    refine ⟨_, _, _, _, rfl, HB1.out.alloc HB1.out.size _, (OwnL.empty _ _ HB1.out.size _ rfl), HO1.out.below (below1 _ _), VF.DivOf.small HX.out (by rw [hl.out, hl'.out]; exact hlt)⟩
  · obtain ⟨M, hM⟩ : ∃ M, n = M + (n' - 1) := ⟨n - (n' - 1), by omega⟩
    have HM := Lib.hid hM
    have hM1 : 0 < M := by omega
    have hM2 : M ≤ 4096 := by omega
    have hmk := fun w => run_make_ints w 26 Try.underlying26 ((n : Int) - n' + 1) (by omega) (by omega)
    rw [show ((n : Int) - n' + 1).toNat = M by omega] at hmk
    clear hM
    have e1 : (n' : Int) - 1 = ((n' - 1 : Nat) : Int) := by omega
    go_enter Try.func150, Try.ntmps150
    go_wp2_with fail
    refine (l01Own_any (HR.out.below' (below1 _ _)) HCA.out (by omega)).mono ?_
    rintro e w1 ⟨v, rfl, hb1, ho1⟩
    have HB1 := Lib.hid (Below.trans (below1 w (.cells #[.int .i64 p, .int .i64 pw, .int .i64 g] FTa)) (hb1.mono (by simp)))
    have HX1 := Lib.hid ((box_new w p pw g FTa).below hb1 (by simp))
    have HO1 := Lib.hid (show OwnL w1 (w.heap.size + 1) v xs by have := ho1; simp at this; exact this)
    clear hb1 ho1
    obtain ⟨gb, co, cur, e, hg1, hg2, _, hle, _⟩ := HO1.out.form (by rw [hl.out]; omega)
    rw [hl.out] at e hle
    subst e
    have HG2 := Lib.hid hg2
    have HG1 := Lib.hid hg1
    clear hg2
    obtain ⟨b2, o2, rfl, hb2, hcs⟩ := (HR'.out.below' HB1.out).at' (by omega)
    have hlast := hcs (n' - 1) (by omega)
    have hyl := HY.out.els.getD (n' - 1)
    have hy0 := HY.out.tight (by rw [hl'.out]; exact h0)
    rw [hl'.out] at hy0
    have HI := Lib.hid (fun W => hs.inv (gi ys (n' - 1)) hyl hy0 W)
    have hile := FF.inv_el V.ok (gi ys (n' - 1))
    have HF := Lib.hid (fun r (hr : V.F.el r) => div_factor HY.out (by rw [hl'.out]; exact h0) hr)
    rw [hl'.out] at HF
    have HRO := Lib.hid (OutAt.of HO1.out hl.out HX.out.els)
    have HRO2 := Lib.hid (HRO.out.below (below1 _ (.cells (madeCells #[.int .i64 0] M) 2)))
    have HQO2 := Lib.hid (OutAt.zeros (V := V) w1 w1.heap.size (Nat.le_refl _) M (by omega))
    have HB2 := Lib.hid (HB1.out.trans ((below1 w1 (.cells (madeCells #[.int .i64 0] M) 2)).mono HB1.out.size))
    have HX2 := Lib.hid (HX1.out.below (below1 _ (.cells (madeCells #[.int .i64 0] M) 2)) HX1.out.lt)
    have HD := Lib.hid (DivInv.start (V := V) (p := xs) (q := ys) (k := M) (by rw [hl.out, hl'.out]; exact HM.out.symm))
    obtain ⟨hlx, c0, c1, c2⟩ := HX1.out
    clear hcs hyl hy0 HRO
    have q0 : IntKind.i64.wrap ((n' - 1 : Nat) : Int) = ((n' - 1 : Nat) : Int) := IntWalk.i64_in _ (by omega)
    have q6 : ((n' - 1 : Nat) : Int) < (n' : Int) := by omega
    go_wp2_with fail
    go_region_held3 (fun w' => w'.cell? ⟨b2, o2 + (n' - 1), none⟩ = some (.int .i64 (gi ys (n' - 1))) ∧ w'.cell? ⟨w.heap.size, 0, none⟩ = some (.int .i64 p) ∧ w'.cell? ⟨w.heap.size, 1, none⟩ = some (.int .i64 pw) ∧ w'.cell? ⟨w.heap.size, 2, none⟩ = some (.int .i64 g))
      (first | go_keep | ((try (dsimp only)); go_split_ands; (repeat' apply And.intro); all_goals (first | go_keep | exact keep_cell hbI (by assumption))))
      (first | (go_at_call 137; refine (HI.out _).mono ?_; rintro e w2 ⟨rfl, hbI⟩))
    have hbI2 := Below.trans (Drew.below (drew1 (w1.alloc (.cells (madeCells #[.int .i64 0] M) 2))) _) hbI
    have HRO3 := Lib.hid (HRO2.out.below hbI2)
    have HQO3 := Lib.hid (HQO2.out.below hbI2)
    have HB3 := Lib.hid (HB2.out.trans (hbI2.mono HB2.out.size))
    have HX3 := Lib.hid (HX2.out.below hbI2 HX2.out.lt)
    clear hbI hbI2 hlast hmk q0 q6 HRO2 HQO2 HB2 HI HX2 c0 c1 c2
    change Hid (∀ r, V.F.el r → VF.of V (V.F.mul r (V.F.inv (gi ys (n' - 1)))) * _ = _) at HF
    generalize V.F.inv (gi ys (n' - 1)) = lead at *
    go_wp2_with fail
    go_loopw [12] (fun t wr => ∃ (k : Nat) (fO fR : PS (El V)), k ≤ M ∧ t = .int .i64 ((k : Int) - 1) ∧ Hid (DivInv V xs ys k fO fR) ∧ Hid (OutAt V wr w1.heap.size w1.heap.size M fO) ∧ Hid (OutAt V wr (w.heap.size + 1) gb n fR co) ∧ Hid (Below w.heap.size w wr) ∧ Hid (Box wr w.heap.size p pw g)) (fun t _ => (intOf t + 1).toNat)
    case atStart => exact ⟨M, _, _, Nat.le_refl _, rfl, HD, HQO3, HRO3, HB3, HX3⟩
    case round =>
      obtain ⟨k, fO, fR, hk, rfl, hdiv, hq, hrest, hbel, hbox⟩ := hrel
      clear HD HQO3 HRO3 HB3 HX3
      by_cases h0k : 0 < k
      · obtain ⟨i, rfl⟩ : ∃ i, k = i + 1 := ⟨k - 1, by omega⟩
        have et : ((i + 1 : Nat) : Int) - 1 = (i : Int) := by omega
        rw [et]
        obtain ⟨I, hI⟩ : ∃ I, i + (n' - 1) = I := ⟨_, rfl⟩
        have hidx : I < n := by have := HM.out; omega
        obtain ⟨r, hre, hrc, hplr⟩ := hrest.out.place hidx
        have HPLR := Lib.hid hplr
        have hcr := (hplr wr (Below.refl _ _)).cell
        have HRC := Lib.hid hrc
        obtain ⟨x0, _, hx0, hplq⟩ := hq.out.place (show i < M by omega)
        have HPLQ := Lib.hid hplq
        have HX0 := Lib.hid (show VF.of V x0 = 0 from hx0.symm.trans (hdiv.out.zero i (by omega)))
        have HM1 := Lib.hid (fun W => hs.mul r lead hre hile W)
        have hye := FF.mul_el V.ok r lead
        have HST := Lib.hid (hdiv.out.step (k := i) (y := VF.of V (V.F.mul r lead)) (by rw [hl'.out]; exact h0) (by rw [hl'.out, HF.out r hre, hI]; exact hrc.symm))
        have q1 : IntKind.i64.wrap ((i : Int) + (n' : Int)) = (i : Int) + (n' : Int) := IntWalk.i64_in _ (by omega)
        have q5 : IntKind.i64.wrap (I : Int) = (I : Int) := IntWalk.i64_in _ (by omega)
        have q2 : (I : Int) < (n : Int) := by omega
        have q3 : (i : Int) + (n' : Int) - 1 = (I : Int) := by omega
        have q4 : True := trivial
        have hiM : (i : Int) < (M : Int) := by omega
        obtain ⟨_, c0, c1, c2⟩ := hbox.out
        clear et hplr hrc hplq hx0 hdiv hI
        generalize V.F.mul r lead = y at *
        go_wp2_with fail
        go_region_held3 (fun w' => w'.cell? ⟨gb, I, none⟩ = some (.int .i64 r) ∧ w'.cell? ⟨w.heap.size, 0, none⟩ = some (.int .i64 p) ∧ w'.cell? ⟨w.heap.size, 1, none⟩ = some (.int .i64 pw) ∧ w'.cell? ⟨w.heap.size, 2, none⟩ = some (.int .i64 g))
          (first | go_keep | ((try (dsimp only)); go_split_ands; (repeat' apply And.intro); all_goals (first | go_keep | exact keep_cell hbM (by assumption))))
          (first | (go_at_call 126; refine (HM1.out _).mono ?_; rintro e w5 ⟨rfl, hbM⟩))
        have hbb := Below.trans (Drew.below (drew1 wr) wr.heap.size) hbM
        have hpq := HPLQ.out w5 hbb
        have hcq := hpq.cell
        have hfq := hpq.frozen
        have hgne : gb ≠ w1.heap.size := by have := HG2.out; omega
        have HQ5 := Lib.hid (hpq.put0 HX0.out hye)
        have HR5 := Lib.hid ((hrest.out.below hbb).other (H := w1.heap.size) (j := i) (x := .int .i64 y) hgne)
        have HB5 := Lib.hid ((hbel.out.trans (hbb.mono hbel.out.size)).setCell (p := ⟨w1.heap.size, i, none⟩) HB1.out.size (.int .i64 y))
        have HX5 := Lib.hid ((hbox.out.below hbb hbox.out.lt).below ((Below.refl (w.heap.size + 1) w5).setCell (p := ⟨w1.heap.size, i, none⟩) HX1.out.lt (.int .i64 y)) (Nat.lt_succ_self _))
        have HR6 := Lib.hid (HR5.out.eq (divT_inner fR ys i (VF.of V y)))
        clear hbM hbb hpq hcr q1 q2 q3 q4 q5 c0 c1 c2 hgne HR5
        obtain ⟨wo, rfl⟩ : ∃ wo : World, wo = wr := ⟨_, rfl⟩
        go_wp2_with fail
        clear hcq hfq
        go_loopw [14] (fun t wr => ∃ j : Nat, j ≤ n' ∧ t = .int .i64 j ∧ Hid (OutAt V wr (w.heap.size + 1) gb n (fR - VF.xp V i * PS.C (VF.of V y) * VF.ps V (ys.take j)) co) ∧ Hid (OutAt V wr w1.heap.size w1.heap.size M (fO + VF.xp V i * PS.C (VF.of V y))) ∧ Hid (Below w.heap.size w wr) ∧ Hid (Box wr w.heap.size p pw g)) (fun t _ => (n' - intOf t).toNat)
        case atStart => exact ⟨0, by omega, rfl, HR6, HQ5, HB5, HX5⟩
        case round =>
          obtain ⟨j, hj, rfl, hrest, hq, hbel, hbox⟩ := hrel
          clear HR6 HQ5 HB5 HX5
          by_cases hlt2 : j < n'
          · obtain ⟨b3, o3, e3, hb3, hcs⟩ := (HR'.out.below' hbel.out).at' (by omega)
            have hcj := hcs j hlt2
            simp only [Option.some.injEq, Addr.mk.injEq, and_true] at e3
            obtain ⟨rfl, rfl⟩ := e3
            obtain ⟨_, _, e4, hb4, _⟩ := HR'.out.at' (by omega)
            simp only [Option.some.injEq, Addr.mk.injEq, and_true] at e4
            obtain ⟨rfl, rfl⟩ := e4
            have hij : i + j < n := by have := HM.out; omega
            obtain ⟨x, hxe, _, hpl⟩ := hrest.out.place hij
            have HPL := Lib.hid hpl
            have hye2 := HY.out.els.getD j
            have HM := Lib.hid (fun W => hs.mul y (gi ys j) hye hye2 W)
            have hme := FF.mul_el V.ok y (gi ys j)
            have HNG := Lib.hid (fun W => hs.neg (V.F.mul y (gi ys j)) hme W)
            have hne' := FF.neg_el hme
            have HA := Lib.hid (fun W => hs.add x (V.F.neg (V.F.mul y (gi ys j))) hxe hne' W)
            have HN := Lib.hid (fun z (h : z = _) => divT_next (V := V) fR ys i j (by rw [hl'.out]; exact hlt2) (z := z) hxe hye hye2 h)
            have hc0 := (HPL.out wr (Below.refl _ _)).cell
            have hf0 := (HPL.out wr (Below.refl _ _)).frozen
            have q1 : IntKind.i64.wrap ((i : Int) + (j : Int)) = (i : Int) + (j : Int) := IntWalk.i64_in _ (by omega)
            have q2 : (0 : Int) ≤ (i : Int) + (j : Int) := by omega
            have q3 : (i : Int) + (j : Int) < (n : Int) := by omega
            have q4 : ((i : Int) + (j : Int)).toNat = i + j := by omega
            have hse := FF.add_el V.ok hxe hne'
            have hne : w1.heap.size ≠ gb := by have := HG2.out; omega
            have ne1 : gb ≠ b2 := by have := HG1.out; omega
            have ne2 : gb ≠ w.heap.size := by have := HG1.out; omega
            obtain ⟨hlx2, c0, c1, c2⟩ := hbox.out
            clear hcs hpl hye2
            change Hid (∀ z, z = V.F.add x (V.F.neg (V.F.mul y (gi ys j))) → _) at HN
            generalize V.F.mul y (gi ys j) = m at *
            generalize V.F.neg m = m' at *
            generalize V.F.add x m' = z at *
            generalize gi ys j = yj at *
            go_wp2_with fail
            refine wp_region_last (S := (fun w' => w'.cell? ⟨gb, i + j, none⟩ = some (.int .i64 x) ∧ w'.cell? ⟨b2, o2 + j, none⟩ = some (.int .i64 yj) ∧ w'.cell? ⟨w.heap.size, 0, none⟩ = some (.int .i64 p) ∧ w'.cell? ⟨w.heap.size, 1, none⟩ = some (.int .i64 pw) ∧ w'.cell? ⟨w.heap.size, 2, none⟩ = some (.int .i64 g))) 22 (by kernel_rfl) rfl (by kernel_rfl) ?_ (fun hHeld => ?_)
            · (try dsimp only); exact ⟨hc0, hcj, c0, c1, c2⟩
            simp only [List.take_succ_cons, List.take_zero]
            refine wpAnyH_take (i := 0) (oi := _) (v := ?_) rfl (by kernel_rfl) (by kernel_rfl) (by kernel_rfl) (fun _ _ _ h => h) (Or.inl ⟨by rfl, ?_⟩) hHeld ?_
            rotate_left
            · intro w0 hSw; (try dsimp only at hSw); go_simp; (try with_reducible rfl)
            (try dsimp only [Act.put, List.setIfInBounds_toArray, List.set_cons_zero, List.set_cons_succ])
            refine wpAnyH_take (i := 1) (oi := _) (v := ?_) rfl (by kernel_rfl) (by kernel_rfl) (by kernel_rfl) (fun _ _ _ h => h) (Or.inl ⟨by rfl, ?_⟩) hHeld ?_
            rotate_left
            · intro w0 hSw; (try dsimp only at hSw); go_simp; (try with_reducible rfl)
            (try dsimp only [Act.put, List.setIfInBounds_toArray, List.set_cons_zero, List.set_cons_succ])
            refine wpAnyH_take (i := 2) (oi := _) (v := ?_) rfl (by kernel_rfl) (by kernel_rfl) (by kernel_rfl) (fun _ _ _ h => h) (Or.inl ⟨by rfl, ?_⟩) hHeld ?_
            rotate_left
            · intro w0 hSw; (try dsimp only at hSw); go_simp; (try with_reducible rfl)
            (try dsimp only [Act.put, List.setIfInBounds_toArray, List.set_cons_zero, List.set_cons_succ])
            refine wpAnyH_take (i := 3) (oi := _) (v := ?_) rfl (by kernel_rfl) (by kernel_rfl) (by kernel_rfl) (fun _ _ _ h => h) (Or.inl ⟨by rfl, ?_⟩) hHeld ?_
            rotate_left
            · intro w0 hSw; (try dsimp only at hSw); go_simp; (try with_reducible rfl)
            (try dsimp only [Act.put, List.setIfInBounds_toArray, List.set_cons_zero, List.set_cons_succ])
            refine wpAnyH_take (i := 4) (oi := _) (v := ?_) rfl (by kernel_rfl) (by kernel_rfl) (by kernel_rfl) (fun _ _ _ h => h) (Or.inl ⟨by rfl, ?_⟩) hHeld ?_
            rotate_left
            · intro w0 hSw; (try dsimp only at hSw); go_simp; (try with_reducible rfl)
            (try dsimp only [Act.put, List.setIfInBounds_toArray, List.set_cons_zero, List.set_cons_succ])
            refine wpAnyH_take (i := 5) (oi := _) (v := ?_) rfl (by kernel_rfl) (by kernel_rfl) (by kernel_rfl) (fun _ _ _ h => h) (Or.inl ⟨by rfl, ?_⟩) hHeld ?_
            rotate_left
            · intro w0 hSw; (try dsimp only at hSw); go_simp; (try with_reducible rfl)
            (try dsimp only [Act.put, List.setIfInBounds_toArray, List.set_cons_zero, List.set_cons_succ])
            refine wpAnyH_take (i := 6) (oi := _) (v := ?_) rfl (by kernel_rfl) (by kernel_rfl) (by kernel_rfl) (fun _ _ _ h => h) (Or.inl ⟨by rfl, ?_⟩) hHeld ?_
            rotate_left
            · intro w0 hSw; (try dsimp only at hSw); go_simp; (try with_reducible rfl)
            (try dsimp only [Act.put, List.setIfInBounds_toArray, List.set_cons_zero, List.set_cons_succ])
            refine wpAnyH_take (i := 7) (oi := _) (v := ?_) rfl (by kernel_rfl) (by kernel_rfl) (by kernel_rfl) (fun _ _ _ h => h) (Or.inl ⟨by rfl, ?_⟩) hHeld ?_
            rotate_left
            · intro w0 hSw; (try dsimp only at hSw); go_simp; (try with_reducible rfl)
            (try dsimp only [Act.put, List.setIfInBounds_toArray, List.set_cons_zero, List.set_cons_succ])
            refine wpAnyH_take (i := 8) (oi := _) (v := ?_) rfl (by kernel_rfl) (by kernel_rfl) (by kernel_rfl) (fun _ _ _ h => h) (Or.inl ⟨by rfl, ?_⟩) hHeld ?_
            rotate_left
            · intro w0 hSw; (try dsimp only at hSw); go_simp; (try with_reducible rfl)
            (try dsimp only [Act.put, List.setIfInBounds_toArray, List.set_cons_zero, List.set_cons_succ])
            refine wpAnyH_take (i := 9) (oi := _) (v := ?_) rfl (by kernel_rfl) (by kernel_rfl) (by kernel_rfl) (fun _ _ _ h => h) (Or.inl ⟨by rfl, ?_⟩) hHeld ?_
            rotate_left
            · intro w0 hSw; (try dsimp only at hSw); go_simp; (try with_reducible rfl)
            (try dsimp only [Act.put, List.setIfInBounds_toArray, List.set_cons_zero, List.set_cons_succ])
            refine wpAnyH_take (i := 10) (oi := _) (v := ?_) rfl (by kernel_rfl) (by kernel_rfl) (by kernel_rfl) (fun _ _ _ h => h) (Or.inl ⟨by rfl, ?_⟩) hHeld ?_
            rotate_left
            · intro w0 hSw; (try dsimp only at hSw); go_simp; (try with_reducible rfl)
            (try dsimp only [Act.put, List.setIfInBounds_toArray, List.set_cons_zero, List.set_cons_succ])
            refine wpAnyH_take (i := 11) (oi := _) (v := ?_) rfl (by kernel_rfl) (by kernel_rfl) (by kernel_rfl) (fun _ _ _ h => h) (Or.inl ⟨by rfl, ?_⟩) hHeld ?_
            rotate_left
            · intro w0 hSw; (try dsimp only at hSw); go_simp; (try with_reducible rfl)
            (try dsimp only [Act.put, List.setIfInBounds_toArray, List.set_cons_zero, List.set_cons_succ])
            refine wpAnyH_take (i := 12) (oi := _) (v := ?_) rfl (by kernel_rfl) (by kernel_rfl) (by kernel_rfl) (fun _ _ _ h => h) (Or.inl ⟨by rfl, ?_⟩) hHeld ?_
            rotate_left
            · intro w0 hSw; (try dsimp only at hSw); go_simp; (try with_reducible rfl)
            (try dsimp only [Act.put, List.setIfInBounds_toArray, List.set_cons_zero, List.set_cons_succ])
            refine wpAnyH_take (i := 13) (oi := _) (v := ?_) rfl (by kernel_rfl) (by kernel_rfl) (by kernel_rfl) (fun _ _ _ h => h) (Or.inl ⟨by rfl, ?_⟩) hHeld ?_
            rotate_left
            · intro w0 hSw; (try dsimp only at hSw); go_simp; (try with_reducible rfl)
            (try dsimp only [Act.put, List.setIfInBounds_toArray, List.set_cons_zero, List.set_cons_succ])
            refine wpAnyH_take (i := 14) (oi := _) (v := ?_) rfl (by kernel_rfl) (by kernel_rfl) (by kernel_rfl) (fun _ _ _ h => h) (Or.inl ⟨by rfl, ?_⟩) hHeld ?_
            rotate_left
            · intro w0 hSw; (try dsimp only at hSw); go_simp; (try with_reducible rfl)
            (try dsimp only [Act.put, List.setIfInBounds_toArray, List.set_cons_zero, List.set_cons_succ])
            refine wpAnyH_take (i := 15) (oi := _) (v := ?_) rfl (by kernel_rfl) (by kernel_rfl) (by kernel_rfl) (fun _ _ _ h => h) (Or.inl ⟨by rfl, ?_⟩) hHeld ?_
            rotate_left
            · intro w0 hSw; (try dsimp only at hSw); go_simp; (try with_reducible rfl)
            (try dsimp only [Act.put, List.setIfInBounds_toArray, List.set_cons_zero, List.set_cons_succ])
            refine wpAnyH_take (i := 16) (oi := _) (v := ?_) rfl (by kernel_rfl) (by kernel_rfl) (by kernel_rfl) (fun _ _ _ h => h) (Or.inl ⟨by rfl, ?_⟩) hHeld ?_
            rotate_left
            · intro w0 hSw; (try dsimp only at hSw); go_simp; (try with_reducible rfl)
            (try dsimp only [Act.put, List.setIfInBounds_toArray, List.set_cons_zero, List.set_cons_succ])
            refine wpAnyH_take (i := 17) (oi := _) (v := ?_) rfl (by kernel_rfl) (by kernel_rfl) (by kernel_rfl) (fun _ _ _ h => h) (Or.inl ⟨by rfl, ?_⟩) hHeld ?_
            rotate_left
            · intro w0 hSw; (try dsimp only at hSw); go_simp; (try with_reducible rfl)
            (try dsimp only [Act.put, List.setIfInBounds_toArray, List.set_cons_zero, List.set_cons_succ])
            refine wpAnyH_ready (rs := [18]) (by kernel_rfl) (by simp) ?_
            refine AllReadyH.cons (o := _) rfl (fun K hK => ?_) AllReadyH.nil
            go_simp
            refine (HM.out _).mono ?_
            rintro e w5 ⟨rfl, hbM⟩
            go_wp2_with fail
            refine hK.out _ _ ?_ (fun hHeld => ?_)
            · (try dsimp only); exact ⟨keep_cell hbM hHeld.1, keep_cell hbM hHeld.2.1, keep_cell hbM hHeld.2.2.1, keep_cell hbM hHeld.2.2.2.1, keep_cell hbM hHeld.2.2.2.2⟩
            clear hK K
            (try dsimp only [Act.put, List.setIfInBounds_toArray, List.set_cons_zero, List.set_cons_succ])
            refine wpAnyH_ready (rs := [19]) (by kernel_rfl) (by simp) ?_
            refine AllReadyH.cons (o := _) rfl (fun K hK => ?_) AllReadyH.nil
            go_simp
            refine (HNG.out _).mono ?_
            rintro e w6 ⟨rfl, hbN⟩
            go_wp2_with fail
            refine hK.out _ _ ?_ (fun hHeld => ?_)
            · (try dsimp only); exact ⟨keep_cell hbN hHeld.1, keep_cell hbN hHeld.2.1, keep_cell hbN hHeld.2.2.1, keep_cell hbN hHeld.2.2.2.1, keep_cell hbN hHeld.2.2.2.2⟩
            clear hK K
            (try dsimp only [Act.put, List.setIfInBounds_toArray, List.set_cons_zero, List.set_cons_succ])
            refine wpAnyH_ready (rs := [20]) (by kernel_rfl) (by simp) ?_
            refine AllReadyH.cons (o := _) rfl (fun K hK => ?_) AllReadyH.nil
            go_simp
            refine (HA.out _).mono ?_
            rintro e w7 ⟨rfl, hbA⟩
            go_wp2_with fail
            refine hK.out _ _ ?_ (fun hHeld => ?_)
            · (try dsimp only); exact ⟨keep_cell hbA hHeld.1, keep_cell hbA hHeld.2.1, keep_cell hbA hHeld.2.2.1, keep_cell hbA hHeld.2.2.2.1, keep_cell hbA hHeld.2.2.2.2⟩
            clear hK K
            (try dsimp only [Act.put, List.setIfInBounds_toArray, List.set_cons_zero, List.set_cons_succ])
            refine wpAnyH_take (i := 21) (oi := _) (v := ?_) rfl (by kernel_rfl) (by kernel_rfl) (by kernel_rfl) (fun _ _ _ h => h) (Or.inl ⟨by rfl, ?_⟩) hHeld ?_
            rotate_left
            · intro w0 hSw; (try dsimp only at hSw); go_simp; (try with_reducible rfl)
            (try dsimp only [Act.put, List.setIfInBounds_toArray, List.set_cons_zero, List.set_cons_succ])
            refine wpAnyH_done (by kernel_rfl) (lastQ_normal ?_) _
            have hb3 := Below.more (Below.more (Below.trans (Drew.below (drew1 wr) wr.heap.size) hbM) (Nat.le_refl _) hbN) (Nat.le_refl _) hbA
            have hpA := HPL.out _ hb3
            have hcA := hpA.cell
            have hfA := hpA.frozen
            have hB5 := Lib.hid ((hbel.out.trans (hb3.mono hbel.out.size)).setCell (p := ⟨gb, i + j, none⟩) (Nat.le_of_succ_le HG1.out) (.int .i64 z))
            have hO5 := Lib.hid ((hpA.put _ hse).eq (HN.out _ rfl))
            have hQ5 := Lib.hid ((hq.out.below hb3).other (H := gb) (j := i + j) (x := .int .i64 z) hne)
            have hX5 := Lib.hid ((hbox.out.below hb3 hlx2).below ((Below.refl (w.heap.size + 1) w7).setCell (p := ⟨gb, i + j, none⟩) HG1.out (.int .i64 z)) (Nat.lt_succ_self _))
            go_wp2_with fail
            exact ⟨⟨j + 1, by omega, by go_num, hO5, hQ5, hB5, hX5⟩, by simp [intOf]; omega⟩
          · obtain rfl : j = n' := by omega
            have hend := Lib.hid (hrest.out.eq (f' := fR - VF.xp V i * PS.C (VF.of V y) * VF.ps V ys) (by have e := divT_end (V := V) fR ys i (VF.of V y); rw [hl'.out] at e; exact e))
            go_wp2_with fail
            go_roundw
            case rel => exact ⟨i, _, _, by omega, by go_num, HST, hq, hend, hbel, hbox⟩
            case measure => simp [intOf]
      · obtain rfl : k = 0 := by omega
        obtain ⟨zq, hrq, _, hoq, htq⟩ := hq.out.trimmed
        obtain ⟨zr, hrr, hlr, hor, htr⟩ := hrest.out.trimmed
        have HT := Lib.hid (l03Trim_any (cap := M) hrq (Nat.le_refl _) (by intro h; cases h) (by omega))
        have HRR := Lib.hid hrr
        have HT2 := Lib.hid (fun W (hb : Below wr.heap.size wr W) => l03Trim_any (cap := co) (HRR.out.below' hb) hlr (by intro h; cases h) (by omega))
        rw [htq] at HT
        rw [htr] at HT2
        have HDV := Lib.hid (hdiv.out.done (by rw [hl'.out]; exact h0))
        have hs9 := hbel.out.size
        clear hrq hoq hrr hor hlr htq htr
        go_wp2_with fail
        refine HT.out.mono ?_
        rintro e w7 ⟨v7, rfl, hb7, ho7⟩
        have HB7 := Lib.hid (hbel.out.trans (hb7.mono hs9))
        have HO7 := Lib.hid (ho7.lower hs9)
        have HT3 := Lib.hid (HT2.out w7 hb7)
        clear hb7 ho7 HT2
        go_wp2_with fail
        refine HT3.out.mono ?_
        rintro e w8 ⟨v8, rfl, hb8, ho8⟩
        have HB8 := Lib.hid (HB7.out.trans (hb8.mono HB7.out.size))
        have HO8 := Lib.hid (ho8.lower HB7.out.size)
        have HO78 := Lib.hid (HO7.out.below hb8)
        clear hb8 ho8
        go_wp2_with fail
        go_ret2
        exact ⟨_, _, _, _, rfl, HB8.out, HO78.out, HO8.out, HDV.out⟩
end Go.Proofs.Ytfhkkpfiflgofaa
/-
  The walk of scaled; copies by append out of a slice of another type.
-/
namespace Go.Proofs.Ytfhkkpfiflgofaa
open Go.RowKit
set_option linter.unusedVariables false

theorem run_make_ints2 (w : World) (t : TypeId) (ht : Try.prog.underlying t = some (.slice 2)) (n m : Int) (h0 : 0 ≤ n) (hnm : n ≤ m) (hn : m ≤ 16777216) :
    (Instr.makeSlice t (.int .i64 n) (.int .i64 m)).run Try.prog w = .ok (.slice (some ⟨w.heap.size, 0, none⟩) n.toNat m.toNat) (w.alloc (.cells (madeCells #[.int .i64 0] m.toNat) 2)) := by
  obtain ⟨i0, hi, hz0, hz1, hz2⟩ := info_parts info_int
  have := run_make (P := Try.prog) w t 2 i0 _ ht hi hz0 .i64 .i64 n m h0 hnm (by rw [hz2]; omega) (by omega)
  rw [hz1, Nat.mul_one] at this
  exact this
theorem OwnL.zeros2 (w : World) (B : Nat) (hB : B ≤ w.heap.size) (n m : Nat) (hnm : n ≤ m) (hn : m ≤ 16777216) : OwnL (w.alloc (.cells (madeCells #[.int .i64 0] m) 2)) B (.slice (some ⟨w.heap.size, 0, none⟩) n m) (List.replicate n 0) := by
  have h := (OwnL.zeros w B hB m hn).takeN hnm
  rw [List.take_replicate, Nat.min_eq_left hnm] at h
  exact h
set_option maxHeartbeats 1000000 in
theorem scaled_any {V : VF} {w : World} {b : Nat} (hcal : Cal w b V.F) {a : Option Addr} {n cap : Nat} {xs : List Int} (hr : RowAt w a n xs) (hn : n ≤ 4096) (hx : VF.isP V xs) (c : Int) (hc : V.F.el c) (s : Nat) (hs : s ≤ 4096) :
    Calls Try.prog 123 #[.slice a n cap, .pointer (some ⟨b, 0, none⟩), .int .i64 c, .int .i64 s] w fun e w' => ∃ v, e = .returned v ∧ Below w.heap.size w w' ∧ OwnL w' w.heap.size v (VF.lst V (VF.xp V s * (PS.C (VF.of V c) * VF.ps V xs))) := by
  have HR := Lib.hid hr
  have HC := Lib.hid hcal
  have hl := Lib.hid hr.len
  have HX := Lib.hid hx
  clear hr hcal hx
  by_cases h0 : c = 0
  · have hf := Lib.hid (show VF.lst V (VF.xp V s * (PS.C (VF.of V c) * VF.ps V xs)) = [] by
      have e : VF.xp V s * (PS.C (VF.of V c) * VF.ps V xs) = 0 := by rw [h0, VF.of_zero, PS.C_zero]; grind
      rw [e]; exact (VF.lst_nil PS.isPoly_zero).2 rfl)
    have hd : (c == 0) = true := by simp [h0]
    clear h0
    go_enter Try.func123, Try.ntmps123
    go_wp2_with fail
    go_ret
    exact ⟨_, rfl, Below.refl _ _, by rw [hf.out]; exact OwnL.nil _ _ (Nat.le_refl _)⟩
  have hd : (c == 0) = false := by simp [h0]
  by_cases h1 : n = 0
  · subst h1
    have hf := Lib.hid (show VF.lst V (VF.xp V s * (PS.C (VF.of V c) * VF.ps V xs)) = [] by
      have e : VF.xp V s * (PS.C (VF.of V c) * VF.ps V xs) = 0 := by rw [List.eq_nil_of_length_eq_zero hl.out, VF.ps_nil]; grind
      rw [e]; exact (VF.lst_nil PS.isPoly_zero).2 rfl)
    have hd2 : (((0 : Nat) : Int) == 0) = true := rfl
    clear h0
    go_enter Try.func123, Try.ntmps123
    go_wp2_with fail
    go_ret
    exact ⟨_, rfl, Below.refl _ _, by rw [hf.out]; exact OwnL.nil _ _ (Nat.le_refl _)⟩
  have hd2 : ((n : Int) == 0) = false := by simp; omega
  have hne : xs ≠ [] := fun h => h1 (by have := hl.out; rw [h] at this; simpa using this.symm)
  have hf := Lib.hid (show List.replicate s 0 ++ VF.scl V.F c xs = VF.lst V (VF.xp V s * (PS.C (VF.of V c) * VF.ps V xs)) by
    refine (VF.lst_of (VF.isP_shift (VF.scl_isP h0 HX.out) ?_ s) ?_).symm
    · unfold VF.scl; simpa using hne
    · rw [VF.ps_shift, VF.scl_ps hc HX.out.els])
  have hmk := fun w => run_make_ints2 w 100 Try.underlying100 (s : Int) ((s : Int) + n) (by omega) (by omega) (by omega)
  rw [show ((s : Int) + n).toNat = s + n by omega, Int.toNat_natCast] at hmk
  clear h0 hne
  have HO0 := Lib.hid (show OwnL (w.alloc (.cells (madeCells #[.int .i64 0] (s + n)) 2)) w.heap.size (.slice (some ⟨w.heap.size, 0, none⟩) s (s + n)) (List.replicate s 0 ++ VF.scl V.F c (xs.take 0)) by
    simpa [VF.scl] using OwnL.zeros2 w w.heap.size (Nat.le_refl _) s (s + n) (by omega) (by omega))
  go_enter Try.func123, Try.ntmps123
  go_wp2_with fail
  clear hmk
  go_loopw [9, 27] (fun o t wr => ∃ k : Nat, k ≤ n ∧ t = .int .i64 k ∧ Hid (OwnL wr w.heap.size o (List.replicate s 0 ++ VF.scl V.F c (xs.take k))) ∧ Hid (Below w.heap.size w wr)) (fun _ t _ => (n - intOf t).toNat)
  case atStart => exact ⟨0, by omega, rfl, HO0, Lib.hid (below1 _ _)⟩
  case round =>
    obtain ⟨k, hk, rfl, hown, hbel⟩ := hrel
    clear HO0
    by_cases hlt : k < n
    · obtain ⟨b1, o1, rfl, hb1, hcs⟩ := (HR.out.below' hbel.out).at' (by omega)
      have hcell := hcs k hlt
      have HM := Lib.hid (mul_any (HC.out.below hbel.out) (gi xs k) c (HX.out.els.getD k) hc)
      have hst := Lib.hid (show List.replicate s 0 ++ VF.scl V.F c (xs.take (k + 1)) = (List.replicate s 0 ++ VF.scl V.F c (xs.take k)) ++ [V.F.mul (gi xs k) c] by
        rw [VF.take_succ_getD xs k (by rw [hl.out]; exact hlt)]; unfold VF.scl gi; simp)
      have hll : (List.replicate s 0 ++ VF.scl V.F c (xs.take k)).length ≤ 16777216 := by
        unfold VF.scl; simp only [List.length_append, List.length_replicate, List.length_map, List.length_take]; omega
      clear hcs
      generalize V.F.mul (gi xs k) c = y at *
      go_wp2_with fail
      refine HM.out.mono ?_
      rintro e w5 ⟨rfl, hd5⟩
      have hd5 : Drew wr w5 := hd5
      have HO5 := Lib.hid (hown.out.below (hd5.below _))
      have HB5 := Lib.hid (hbel.out.trans (hd5.below _))
      clear hd5
      go_wp2_with (at_builtin; refine append_one rfl _ _ _ rfl Try.underlying100 y HO5.out rfl _ rfl rfl hll ?_; intro v' w6 hown6 hb6)
      have HO6 := Lib.hid (show OwnL w6 w.heap.size v' (List.replicate s 0 ++ VF.scl V.F c (xs.take (k + 1))) by rw [hst.out]; exact hown6)
      have HB6 := Lib.hid (HB5.out.trans hb6)
      clear hown6 hb6
      go_roundw
      case rel => exact ⟨k + 1, by omega, by go_num, HO6, HB6⟩
      case measure => simp [intOf]; omega
    · obtain rfl : k = n := by omega
      have hfin := Lib.hid (by have := hown.out; rw [List.take_of_length_le (by rw [hl.out]; omega), hf.out] at this; exact this)
      go_wp2_with fail
      go_ret
      exact ⟨_, rfl, hbel.out, hfin.out⟩
end Go.Proofs.Ytfhkkpfiflgofaa
