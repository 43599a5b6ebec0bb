/-
  The walk of the law FnCodeDistance.
-/
import Derived.Test.YthbiieflmmnfcaaDrawEnc
import Derived.Test.YthbiieflmmnfcaaLike
import Derived.Test.YthbiieflmmnfcaaDist
import Derived.Test.YthbiieflmmnfcaaEncW
import Derived.Test.YthbiieflmmnfcaaDice
import Derived.Test.YthbiieflmmnfcaaPeel
import Derived.Test.YthbiieflmmnfcaaFrameB
namespace Go.Proofs.Ythbiieflmmnfcaa
open Go.RowKit
set_option linter.unusedVariables false

set_option maxHeartbeats 8000000 in
set_option maxRecDepth 100000 in
theorem lawFnCodeDistance (s0 : Option Addr) (n0 cap0 : Nat) (z0 : List Int) (w : World) (hr : RowB w s0 n0 z0) :
    Calls Try.prog 4 #[.slice s0 n0 cap0] w fun e w' => e = .returned (.bool true) ∧ Below w.heap.size w w' := by
  have HR := Lib.hid hr
  clear hr
  go_enter Try.func4, Try.ntmps4
  go_wp2_with fail
  refine (bigL_any _ _ _ _).mono ?_
  rintro e w1 ⟨rfl, rfl⟩
  by_cases hbig : (4096 : Int) < (n0 : Int)
  · go_wp2_with fail
    go_ret
    exact ⟨rfl, Below.refl _ _⟩
  go_wp2_with fail
  refine (DrawEncodeWord_any HR.out).mono ?_
  rintro e w1 ⟨p, pw, g, l, c, vP, rfl, hb1, zP, hoP, hlP⟩
  obtain ⟨aP, capP, rfl, hcpP, hcaP, hoaP⟩ := hoP.cap
  have CAP := Lib.hid hcaP
  have CPP := Lib.hid hcpP
  have RP := Lib.hid (hoaP.row.below' (below1 w1 (.cells #[.int .i64 p, .int .i64 pw, .int .i64 g, .int .i64 l, .int .i64 c] CT)))
  clear hcaP hoaP hoP hcpP
  have B2 := Lib.hid (hb1.alloc hb1.size (.cells #[.int .i64 p, .int .i64 pw, .int .i64 g, .int .i64 l, .int .i64 c] CT))
  have X2 := Lib.hid (CB.new w1 p pw g l c)
  obtain ⟨X, hX⟩ : ∃ X, X = w1.heap.size := ⟨_, rfl⟩
  rw [← hX] at X2
  clear hb1
  go_wp2_with fail
  rw [← hX]
  clear hX
  generalize w1.alloc (.cells #[.int .i64 p, .int .i64 pw, .int .i64 g, .int .i64 l, .int .i64 c] CT) = w2 at *
  have k0 := X2.out.c0
  have k1 := X2.out.c1
  have k2 := X2.out.c2
  have k3 := X2.out.c3
  have k4 := X2.out.c4
  obtain ⟨nP, hnP⟩ : ∃ nP, zP.length = nP := ⟨_, rfl⟩
  rw [hnP] at RP CPP hlP ⊢
  have HNP := Lib.hid hnP
  clear hnP
  go_wp2_with fail
  refine (specEncodeWordO_any p pw g l c _ RP.out CAP.out).mono ?_
  rintro e w3 ⟨vA, rfl, hb3, hoA⟩
  have B3 := Lib.hid (B2.out.trans (hb3.mono B2.out.size))
  have X3 := Lib.hid (X2.out.below hb3 X2.out.lt)
  have RP3 := Lib.hid (RP.out.below' hb3)
  have OA := Lib.hid hoA
  clear RP k0 k1 k2 k3 k4 hb3 B2 X2 hoA
  have k0 := X3.out.c0
  have k1 := X3.out.c1
  have k2 := X3.out.c2
  have k3 := X3.out.c3
  have k4 := X3.out.c4
  by_cases hcd : encC p pw g l c zP = 0
  rotate_left
  · have hne : (encC p pw g l c zP != 0) = true := by simp [hcd]
    have hq : (encC p pw g l c zP == encC p pw g l c zP) = true := by simp
    clear hcd
    go_wp2_with fail
    refine (implEncodeWord_any p pw g l c _ RP3.out CAP.out).mono ?_
    rintro e w4 ⟨vB, rfl, hb4, -⟩
    have B4 := Lib.hid (B3.out.trans (hb4.mono B3.out.size))
    generalize encC p pw g l c zP = cd at *
    go_wp2_with fail
    go_ret
    exact ⟨by first | rfl | simp, B4.out⟩
  have hne : (encC p pw g l c zP != 0) = false := by simp [hcd]
  have HPL := Lib.hid (fun (k : Nat) (hk : k < nP) => dist_plain (p := p) (pw := pw) (g := g) (l := l) (c := c) hcd (k := k) (by rw [HNP.out]; exact hk))
  have hnP0 : 1 ≤ nP := by
    have h1 := encWR_length hcd
    obtain ⟨_, hc1, hc2, hcl, hl1, hlz⟩ := validC_iff h1.2.2
    have h2 := (enc_ok h1.2.2 (by
      apply Classical.byContradiction
      intro hx
      unfold encC at hcd
      rw [if_pos h1.2.2, if_neg (fun y => hx y.1)] at hcd
      omega) (by
      cases hy : allB (ffOf p pw g) zP
      · unfold encC at hcd
        rw [if_pos h1.2.2, if_neg (fun y => by rw [hy] at y; cases y.2)] at hcd
        omega
      · rfl))
    obtain ⟨V, hs, hz, f0, f1⟩ := h2
    have h3 := h1.1
    rw [f1, encL_length, HNP.out] at h3
    omega
  have HCD := Lib.hid hcd
  obtain ⟨aA, cA, rfl, -, -, hoA⟩ := OA.out.cap
  obtain ⟨nA, hnA⟩ : ∃ nA, (encWR p pw g l c zP).length = nA := ⟨_, rfl⟩
  rw [hnA] at hoA OA ⊢
  have HGA := Lib.hid (show ∀ k, (Value.slice aA nA cA).ownBlock = some k → k < w3.heap.size from fun k hk => (OA.out.2.lt k hk).2)
  have HNA := Lib.hid hnA
  have RA := OA
  have HE3 := Lib.hid (OwnL.empty w3 w3.heap.size (Nat.le_refl _) w3.heap.size rfl)
  have RP3' := Lib.hid (RP3.out.below' (below1 w3 (.cells #[] 2)))
  have hl6 : ([] : List Int).length + nP ≤ 16777216 := by simp; omega
  clear hcd hoA hnA OA
  go_wp2_with (at_builtin; refine append_row rfl _ _ _ rfl Try.underlying26 HE3.out rfl _ RP3'.out rfl CAP.out hl6 ?_; intro vO w4 hownO hbO)
  rw [List.nil_append] at hownO
  have hb4 : Below w3.heap.size w3 w4 := ((Below.refl w3.heap.size w3).alloc (Nat.le_refl _) (.cells #[] 2)).trans hbO
  have B4 := Lib.hid (B3.out.trans (hb4.mono B3.out.size))
  have X4 := Lib.hid (X3.out.below hb4 X3.out.lt)
  have RA4 := Lib.hid (RA.out.belowV hb4 HGA.out)
  have XL := X3.out.lt
  have B3S := Lib.hid B3.out.size
  obtain ⟨gO, cO, curO, rfl, hgO, -, -, -, -⟩ := hownO.form (by rw [HNP.out]; omega)
  have O4 := Lib.hid hownO
  rw [HNP.out] at O4 ⊢
  clear hownO hb4 hbO B3 X3 RA RP3 RP3' HE3 k0 k1 k2 k3 k4 hl6
  have hnPs : nP ≤ 1000 := by omega
  go_wp2_with fail
  refine (roll_any (HR.out.below' B4.out) _).mono ?_
  rintro e wr ⟨d, rfl, hdr, hbr, hdice⟩
  go_wp2_with fail
  refine (below_any hdice (nP : Int) (by omega) (by omega)).mono ?_
  rintro e w5 ⟨r, rfl, hr0, hr1, hdd⟩
  obtain ⟨k, rfl⟩ := Int.eq_ofNat_of_zero_le hr0
  have hb5 := hbr.trans (hdd.below (B := w4.heap.size) hdr hbr.size)
  have B5 := Lib.hid (B4.out.trans (hb5.mono B4.out.size))
  have X5 := Lib.hid (X4.out.below hb5 X4.out.lt)
  have RA5 := Lib.hid (RA4.out.below hb5)
  have O5 := Lib.hid (O4.out.below hb5)
  have hkn : k < nP := by omega
  obtain ⟨e1, e2, e3, e4, e5, e6, e7, e8, e9, e10, e11⟩ := HPL.out k hkn
  have hq5 := hb5.size
  clear hb5 hbr hdd hdice B4 X4 RA4 O4 HPL hr0 hr1
  have E6 := Lib.hid e6
  have E5 := Lib.hid e5
  have E4 := Lib.hid e4
  have E8 := Lib.hid e8
  have E1 := Lib.hid e1
  obtain ⟨y, hy⟩ : ∃ y, (gi zP k + 1).tmod (sizeR p pw g) = y := ⟨_, rfl⟩
  rw [hy] at E4 E6 E8
  have HY := Lib.hid hy
  clear e4 e5 e6 e8 e1 hy
  have k0 := (X5.out.below (Drew.below (drew1 w5) _) X5.out.lt).c0
  have k1 := (X5.out.below (Drew.below (drew1 w5) _) X5.out.lt).c1
  have k2 := (X5.out.below (Drew.below (drew1 w5) _) X5.out.lt).c2
  have OD := Lib.hid (O5.out.below (Drew.below (drew1 w5) _))
  obtain ⟨bq, oq, eq, -, hcq⟩ := (OD.out.rowF).at' (by omega)
  cases eq
  have hcz := hcq k hkn
  rw [Nat.zero_add] at hcz
  clear hcq
  have HZ := Lib.hid (rfl : gi zP k = gi zP k)
  obtain ⟨z, hz⟩ : ∃ z, gi zP k = z := ⟨_, rfl⟩
  rw [hz] at hcz e9 e10 HY
  have hzw : wrap64 (z + 1) = z + 1 := IntWalk.wrap64_in _ (by omega)
  have hzv : IntKind.i64.wrap (z + 1) = z + 1 := IntWalk.i64_in _ (by omega)
  have hkI : (k : Int) < (nP : Int) := by omega
  clear hz HZ
  go_wp2_with fail
  refine wp_region_lastW (S := (fun w' => w'.cell? ⟨X, 0, none⟩ = some (.int .i64 p) ∧ w'.cell? ⟨X, 1, none⟩ = some (.int .i64 pw) ∧ w'.cell? ⟨X, 2, none⟩ = some (.int .i64 g) ∧ w'.cell? ⟨gO, k, none⟩ = some (.int .i64 z))) 12 (by kernel_rfl) rfl (by kernel_rfl) ?_ (fun hHeld => ?_)
  · (try dsimp only); exact ⟨k0, k1, k2, hcz⟩
  simp only [List.take_succ_cons, List.take_zero]
  refine wpAnyH_take (i := 0) (oi := _) (v := ?_) rfl (by kernel_rfl) (by kernel_rfl) (by kernel_rfl) (fun _ _ _ h => h) (Or.inl ⟨by rfl, ?_⟩) hHeld ?_
  rotate_left
  · intro w0 hSw; (try dsimp only at hSw); go_simp; (try with_reducible rfl)
  (try dsimp only [Act.put, List.setIfInBounds_toArray, List.set_cons_zero, List.set_cons_succ])
  refine wpAnyH_take (i := 1) (oi := _) (v := ?_) rfl (by kernel_rfl) (by kernel_rfl) (by kernel_rfl) (fun _ _ _ h => h) (Or.inl ⟨by rfl, ?_⟩) hHeld ?_
  rotate_left
  · intro w0 hSw; (try dsimp only at hSw); go_simp; (try with_reducible rfl)
  (try dsimp only [Act.put, List.setIfInBounds_toArray, List.set_cons_zero, List.set_cons_succ])
  refine wpAnyH_take (i := 2) (oi := _) (v := ?_) rfl (by kernel_rfl) (by kernel_rfl) (by kernel_rfl) (fun _ _ _ h => h) (Or.inl ⟨by rfl, ?_⟩) hHeld ?_
  rotate_left
  · intro w0 hSw; (try dsimp only at hSw); go_simp; (try with_reducible rfl)
  (try dsimp only [Act.put, List.setIfInBounds_toArray, List.set_cons_zero, List.set_cons_succ])
  refine wpAnyH_take (i := 3) (oi := _) (v := ?_) rfl (by kernel_rfl) (by kernel_rfl) (by kernel_rfl) (fun _ _ _ h => h) (Or.inl ⟨by rfl, ?_⟩) hHeld ?_
  rotate_left
  · intro w0 hSw; (try dsimp only at hSw); go_simp; (try with_reducible rfl)
  (try dsimp only [Act.put, List.setIfInBounds_toArray, List.set_cons_zero, List.set_cons_succ])
  refine wpAnyH_take (i := 4) (oi := _) (v := ?_) rfl (by kernel_rfl) (by kernel_rfl) (by kernel_rfl) (fun _ _ _ h => h) (Or.inl ⟨by rfl, ?_⟩) hHeld ?_
  rotate_left
  · intro w0 hSw; (try dsimp only at hSw); go_simp; (try with_reducible rfl)
  (try dsimp only [Act.put, List.setIfInBounds_toArray, List.set_cons_zero, List.set_cons_succ])
  refine wpAnyH_take (i := 5) (oi := _) (v := ?_) rfl (by kernel_rfl) (by kernel_rfl) (by kernel_rfl) (fun _ _ _ h => h) (Or.inl ⟨by rfl, ?_⟩) hHeld ?_
  rotate_left
  · intro w0 hSw; (try dsimp only at hSw); go_simp; (try with_reducible rfl)
  (try dsimp only [Act.put, List.setIfInBounds_toArray, List.set_cons_zero, List.set_cons_succ])
  refine wpAnyH_take (i := 6) (oi := _) (v := ?_) rfl (by kernel_rfl) (by kernel_rfl) (by kernel_rfl) (fun _ _ _ h => h) (Or.inl ⟨by rfl, ?_⟩) hHeld ?_
  rotate_left
  · intro w0 hSw; (try dsimp only at hSw); go_simp; (try with_reducible rfl)
  (try dsimp only [Act.put, List.setIfInBounds_toArray, List.set_cons_zero, List.set_cons_succ])
  refine wpAnyH_take (i := 7) (oi := _) (v := ?_) rfl (by kernel_rfl) (by kernel_rfl) (by kernel_rfl) (fun _ _ _ h => h) (Or.inl ⟨by rfl, ?_⟩) hHeld ?_
  rotate_left
  · intro w0 hSw; (try dsimp only at hSw); go_simp; (try with_reducible rfl)
  (try dsimp only [Act.put, List.setIfInBounds_toArray, List.set_cons_zero, List.set_cons_succ])
  refine wpAnyH_take (i := 8) (oi := _) (v := ?_) rfl (by kernel_rfl) (by kernel_rfl) (by kernel_rfl) (fun _ _ _ h => h) (Or.inl ⟨by rfl, ?_⟩) hHeld ?_
  rotate_left
  · intro w0 hSw; (try dsimp only at hSw); go_simp; (try with_reducible rfl)
  (try dsimp only [Act.put, List.setIfInBounds_toArray, List.set_cons_zero, List.set_cons_succ])
  refine wpAnyH_ready (rs := [9]) (by kernel_rfl) (by simp) ?_
  refine AllReadyH.cons (o := _) rfl (fun K hK => ?_) AllReadyH.nil
  go_simp
  refine (specFieldSize_any p pw g _).mono ?_
  rintro e w7 ⟨rfl, hb7⟩
  have hsz0 : ¬ sizeR p pw g = 0 := by omega
  go_wp2_with fail
  refine hK.out _ _ ?_ (fun hHeld => ?_)
  · (try dsimp only); exact ⟨keep_cell hb7 hHeld.1, keep_cell hb7 hHeld.2.1, keep_cell hb7 hHeld.2.2.1, keep_cell hb7 hHeld.2.2.2⟩
  clear hK K
  (try dsimp only [Act.put, List.setIfInBounds_toArray, List.set_cons_zero, List.set_cons_succ])
  refine wpAnyH_take (i := 10) (oi := _) (v := ?_) rfl (by kernel_rfl) (by kernel_rfl) (by kernel_rfl) (fun _ _ _ h => h) (Or.inl ⟨by rfl, ?_⟩) hHeld ?_
  rotate_left
  · intro w0 hSw; (try dsimp only at hSw); go_simp; (try with_reducible rfl)
  (try dsimp only [Act.put, List.setIfInBounds_toArray, List.set_cons_zero, List.set_cons_succ])
  refine wpAnyH_take (i := 11) (oi := _) (v := ?_) rfl (by kernel_rfl) (by kernel_rfl) (by kernel_rfl) (fun _ _ _ h => h) (Or.inl ⟨by rfl, ?_⟩) hHeld ?_
  rotate_left
  · intro w0 hSw; (try dsimp only at hSw); go_simp; (try with_reducible rfl)
  (try dsimp only [Act.put, List.setIfInBounds_toArray, List.set_cons_zero, List.set_cons_succ])
  refine wpAnyH_done (by kernel_rfl) (lastQ_normalW ?_) _
  have hb7' := Below.trans (Drew.below (drew1 w5) w5.heap.size) hb7
  have HO7 := Lib.hid (O5.out.below hb7')
  have B7 := Lib.hid (B5.out.trans (hb7'.mono B5.out.size))
  have X7 := Lib.hid (X5.out.below hb7' X5.out.lt)
  have RA7 := Lib.hid (RA5.out.below hb7')
  obtain ⟨g1, cp1, cur, e1', -, hg2, hg3, -, hoa⟩ := HO7.out.form (by rw [HNP.out]; omega)
  simp only [Value.slice.injEq, Option.some.injEq, Addr.mk.injEq, and_true, true_and] at e1'
  obtain ⟨rfl, -, rfl⟩ := e1'
  have fz7 : w7.frozen? ⟨gO, k, none⟩ = false := by unfold World.frozen?; rw [hg3]; simp
  obtain ⟨-, -, -, hc7⟩ := hHeld
  have OF := Lib.hid (HO7.out.set (k := k) (by rw [HNP.out]; exact hkn) y)
  have hgw : w.heap.size ≤ gO := Nat.le_trans B3S.out hgO
  have BF := Lib.hid (B7.out.setCell (p := ⟨gO, k, none⟩) hgw (.int .i64 y))
  have XF := Lib.hid (X7.out.other (C := gO) (o := k) (by omega) (.int .i64 y))
  have RAF := Lib.hid (RA7.out.other (G := gO) (j := k) (x := .int .i64 y) (fun q hq => by have := HGA.out q hq; omega))
  have hyy := HY.out
  clear hoa hg3 hb7 hb7' hg2 HY B5 X5 RA5 O5 OD HO7 B7 X7 RA7 hcz
  rw [hyy]
  clear hyy
  have hlset : (zP.set k y).length = nP := by rw [List.length_set]; exact HNP.out
  generalize hwF : w7.setCell ⟨gO, k, none⟩ (.int .i64 y) = wF at *
  have k0 := XF.out.c0
  have k1 := XF.out.c1
  have k2 := XF.out.c2
  have k3 := XF.out.c3
  have k4 := XF.out.c4
  go_wp2_with fail
  (try rw [hwF])
  refine (implEncodeWordO_any p pw g l c _ (cap := cO) OF.out.rowF (fun h => by cases h)).mono ?_
  rintro e w8 ⟨vB, rfl, hb8, hoB⟩
  rw [E4.out]
  have B8 := Lib.hid (BF.out.trans (hb8.mono BF.out.size))
  have X8 := Lib.hid (XF.out.below hb8 XF.out.lt)
  have RA8 := Lib.hid (RAF.out.below hb8)
  obtain ⟨aB, cB, rfl, -, -, hooB⟩ := hoB.cap
  have RB8 := Lib.hid hooB.row
  rw [E6.out] at RB8 ⊢
  obtain ⟨N, hN⟩ : ∃ N, l.toNat = N := ⟨_, rfl⟩
  have hnA2 : nA = N := by rw [← HNA.out, E5.out, hN]
  subst hnA2
  have E8' := Lib.hid E8.out
  have E7' := Lib.hid e7
  rw [hN] at RB8 E8' ⊢
  have hnA3 : nA ≤ 255 := by omega
  clear hb8 hoB hooB k0 k1 k2 k3 k4 BF XF RAF OF hwF
  have k2 := X8.out.c4
  go_wp2_with fail
  refine (implWordDistance_any w8 (cap := cA) (cap' := cB) RA8.out.rowF RB8.out hnA3).mono ?_
  rintro e w9 ⟨rfl, hb9⟩
  have B9 := Lib.hid (B8.out.trans (hb9.mono B8.out.size))
  have X9 := Lib.hid (X8.out.below hb9 X8.out.lt)
  have hdis := E8'.out
  generalize ((difL (encWR p pw g l c (zP.set k y)) (encWR p pw g l c zP) nA).length : Int) = D at *
  have hcD : c < D := hdis
  have e2' : (1 : Int) ≤ c := e2
  have e3' : c ≤ 64 := e3
  have q1 : c.tdiv 2 = c / 2 := Int.tdiv_eq_ediv_of_nonneg (by omega)
  have q2 : c.tmod 2 = c % 2 := Int.tmod_eq_emod_of_nonneg (by omega)
  have HW1 := Lib.hid (fun W => implIsWithin_any p pw g l c E1.out (c.tdiv 2) (c.tmod 2) (by omega) (by omega) (by omega) (by omega) W)
  have HW2 := Lib.hid (fun W => implIsWithin_any p pw g l c E1.out (c.tdiv 2) (c.tmod 2 + 1) (by omega) (by omega) (by omega) (by omega) W)
  have D1 := Lib.hid (show decide (2 * c.tdiv 2 + c.tmod 2 ≤ c) = true by simp; omega)
  have D2 := Lib.hid (show decide (2 * c.tdiv 2 + (c.tmod 2 + 1) ≤ c) = false by simp; omega)
  have y1 : IntKind.i64.wrap (c.tdiv 2) = c.tdiv 2 := IntWalk.i64_in _ (by omega)
  have y2 : wrap64 (c.tdiv 2) = c.tdiv 2 := IntWalk.wrap64_in _ (by omega)
  have y3 : IntKind.i64.wrap (c.tmod 2) = c.tmod 2 := IntWalk.i64_in _ (by omega)
  have y4 : wrap64 (c.tmod 2) = c.tmod 2 := IntWalk.wrap64_in _ (by omega)
  have y5 : IntKind.i64.wrap (c.tmod 2 + 1) = c.tmod 2 + 1 := IntWalk.i64_in _ (by omega)
  have y6 : wrap64 (c.tmod 2 + 1) = c.tmod 2 + 1 := IntWalk.wrap64_in _ (by omega)
  obtain ⟨h1, hh1⟩ : ∃ h1, c.tdiv 2 = h1 := ⟨_, rfl⟩
  obtain ⟨h2, hh2⟩ : ∃ h2, c.tmod 2 = h2 := ⟨_, rfl⟩
  rw [hh1, hh2] at HW1 HW2 D1 D2
  rw [hh1] at y1 y2
  rw [hh2] at y3 y4 y5 y6
  clear q1 q2
  clear hb9 B8 X8 RA8 RB8 k2 hdis E8' E8
  have k0 := X9.out.c0
  have k1 := X9.out.c1
  have k2 := X9.out.c2
  have k3 := X9.out.c3
  have k4 := X9.out.c4
  go_wp2_with fail
  refine (HW1.out _).mono ?_
  rintro e w10 ⟨rfl, hb10⟩
  rw [D1.out]
  have B10 := Lib.hid (B9.out.trans (hb10.mono B9.out.size))
  have X10 := Lib.hid (X9.out.below hb10 X9.out.lt)
  clear hb10 B9 X9 k0 k1 k2 k3 k4
  have k0 := X10.out.c0
  have k1 := X10.out.c1
  have k2 := X10.out.c2
  have k3 := X10.out.c3
  have k4 := X10.out.c4
  go_wp2_with fail
  refine (HW2.out _).mono ?_
  rintro e w11 ⟨rfl, hb11⟩
  rw [D2.out]
  have B11 := Lib.hid (B10.out.trans (hb11.mono B10.out.size))
  clear hb11
  go_wp2_with fail
  go_ret
  exact ⟨rfl, B11.out⟩
end Go.Proofs.Ythbiieflmmnfcaa
