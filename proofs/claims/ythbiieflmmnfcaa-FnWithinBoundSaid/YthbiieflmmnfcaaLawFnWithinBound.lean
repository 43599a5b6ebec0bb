/-
  The walk of the law FnWithinBound.
-/
import Derived.Test.YthbiieflmmnfcaaDrawW
import Derived.Test.YthbiieflmmnfcaaLike
import Derived.Test.YthbiieflmmnfcaaCorW
import Derived.Test.YthbiieflmmnfcaaDmg
import Derived.Test.YthbiieflmmnfcaaDraw
import Derived.Test.YthbiieflmmnfcaaPeel
import Derived.Test.YthbiieflmmnfcaaFrameB
namespace Go.Proofs.Ythbiieflmmnfcaa
open Go.RowKit
set_option linter.unusedVariables false

set_option maxHeartbeats 8000000 in
set_option maxRecDepth 100000 in
theorem lawFnWithinBound (s0 : Option Addr) (n0 cap0 : Nat) (z0 : List Int) (w : World) (hr : RowB w s0 n0 z0) :
    Calls Try.prog 14 #[.slice s0 n0 cap0] w fun e w' => e = .returned (.bool true) ∧ Below w.heap.size w w' := by
  have HR := Lib.hid hr
  clear hr
  go_enter Try.func14, Try.ntmps14
  go_wp2_with fail
  refine (bigL_any _ _ _ _).mono ?_
  rintro e w1 ⟨rfl, rfl⟩
  by_cases hbig : (4096 : Int) < (n0 : Int)
  · go_wp2_with fail
    go_ret
    exact ⟨rfl, Below.refl _ _⟩
  go_wp2_with fail
  refine (DrawDamageOf_any HR.out).mono ?_
  rintro e w1 ⟨p, pw, g, l, c, vW, vS, vE, rfl, hb1, zW, zS, zE, hoW, hoS, hoE, hlW, hlS, hlE⟩
  obtain ⟨aW, capW, rfl, hcpW, hcaW, hoaW⟩ := hoW.cap
  have CAW := Lib.hid hcaW
  have CPW := Lib.hid hcpW
  have RW := Lib.hid (hoaW.row.below' (below1 w1 (.cells #[.int .i64 p, .int .i64 pw, .int .i64 g, .int .i64 l, .int .i64 c] CT)))
  clear hcaW hoaW hoW hcpW
  obtain ⟨aS, capS, rfl, hcpS, hcaS, hoaS⟩ := hoS.cap
  have CAS := Lib.hid hcaS
  have CPS := Lib.hid hcpS
  have RS := Lib.hid (hoaS.row.below' (below1 w1 (.cells #[.int .i64 p, .int .i64 pw, .int .i64 g, .int .i64 l, .int .i64 c] CT)))
  clear hcaS hoaS hoS hcpS
  obtain ⟨aE, capE, rfl, hcpE, hcaE, hoaE⟩ := hoE.cap
  have CAE := Lib.hid hcaE
  have CPE := Lib.hid hcpE
  have RE := Lib.hid (hoaE.row.below' (below1 w1 (.cells #[.int .i64 p, .int .i64 pw, .int .i64 g, .int .i64 l, .int .i64 c] CT)))
  clear hcaE hoaE hoE hcpE
  have B2 := Lib.hid (hb1.alloc hb1.size (.cells #[.int .i64 p, .int .i64 pw, .int .i64 g, .int .i64 l, .int .i64 c] CT))
  have X2 := Lib.hid (CB.new w1 p pw g l c)
  obtain ⟨X, hX⟩ : ∃ X, X = w1.heap.size := ⟨_, rfl⟩
  rw [← hX] at X2
  clear hb1
  go_wp2_with fail
  rw [← hX]
  clear hX
  generalize w1.alloc (.cells #[.int .i64 p, .int .i64 pw, .int .i64 g, .int .i64 l, .int .i64 c] CT) = w2 at *
  have k0 := X2.out.c0
  have k1 := X2.out.c1
  have k2 := X2.out.c2
  have k3 := X2.out.c3
  have k4 := X2.out.c4
  go_wp2_with fail
  refine (implDamageOf_any p pw g l c _ RW.out RS.out RE.out).mono ?_
  rintro e w3 ⟨rfl, hb3⟩
  have B3 := Lib.hid (B2.out.trans (hb3.mono B2.out.size))
  have X3 := Lib.hid (X2.out.below hb3 X2.out.lt)
  have RW' := Lib.hid (RW.out.below' hb3)
  have RS' := Lib.hid (RS.out.below' hb3)
  have RE' := Lib.hid (RE.out.below' hb3)
  clear RW RS RE k0 k1 k2 k3 k4 hb3 B2 X2
  have RW := RW'
  have RS := RS'
  have RE := RE'
  clear RW' RS' RE'
  have k0 := X3.out.c0
  have k1 := X3.out.c1
  have k2 := X3.out.c2
  have k3 := X3.out.c3
  have k4 := X3.out.c4
  go_wp2_with fail
  refine (specDamageOf_any p pw g l c _ RW.out RS.out RE.out).mono ?_
  rintro e w4 ⟨rfl, hb4⟩
  have B4 := Lib.hid (B3.out.trans (hb4.mono B3.out.size))
  have X4 := Lib.hid (X3.out.below hb4 X3.out.lt)
  have RW' := Lib.hid (RW.out.below' hb4)
  have RS' := Lib.hid (RS.out.below' hb4)
  have RE' := Lib.hid (RE.out.below' hb4)
  clear RW RS RE k0 k1 k2 k3 k4 hb4 B3 X3
  have RW := RW'
  have RS := RS'
  have RE := RE'
  clear RW' RS' RE'
  have k0 := X4.out.c0
  have k1 := X4.out.c1
  have k2 := X4.out.c2
  have k3 := X4.out.c3
  have k4 := X4.out.c4
  clear RW
  have HP := Lib.hid (fun (h : dmC p pw g l c [zW, zS] zE = 0) (hi : icwB p pw g l c zS = true) hz left h1 h2 h3 h4 => within_plain (hz := hz) (left := left) h hi h1 h2 h3 h4)
  have HB := Lib.hid (fun (h : dmC p pw g l c [zW, zS] zE = 0) => codeC_zero (dmC_zero h).1)
  have HRI := Lib.hid (fun (h : dmC p pw g l c [zW, zS] zE = 0) => risB_iff (dmC_zero h).2)
  generalize dmgR p pw g l c zW zS zE = m at *
  generalize dmC p pw g l c [zW, zS] zE = cd at *
  have hq1 : (cd != cd) = false := by simp
  have hq2 : (m != m) = false := by simp
  by_cases hcd : cd = 0
  rotate_left
  · have hne : (cd != 0) = true := by simp [hcd]
    clear hcd
    go_wp2_with fail
    go_ret
    exact ⟨rfl, B4.out⟩
  have hne : (cd != 0) = false := by simp [hcd]
  obtain ⟨hv, hw⟩ := HB.out hcd
  obtain ⟨hvB, hc1, hc2, hcl, hl1, hlz⟩ := validC_iff hv
  obtain ⟨hw1, hw2⟩ := wordB_iff (hw zS (by simp))
  have hrl := ris_len (HRI.out hcd) (by omega)
  have HCD := Lib.hid hcd
  have HSE := Lib.hid hw2
  have hsz : sizeR p pw g = (ffOf p pw g).size := by unfold sizeR; rw [if_pos hvB]
  have HSZ := Lib.hid hsz
  have hzlo := (ffOf_ok hvB).lo
  have hzhi := (ffOf_ok hvB).hi
  obtain ⟨n, hn⟩ : ∃ n, zS.length = n := ⟨_, rfl⟩
  obtain ⟨ne, hne2⟩ : ∃ ne, zE.length = ne := ⟨_, rfl⟩
  rw [hn] at RS hw1 ⊢
  rw [hne2] at RE hrl ⊢
  have HN := Lib.hid hn
  have HNE := Lib.hid hne2
  rw [← hsz] at hlz hzlo hzhi
  clear hcd HB HRI hv hw hw2 hvB hsz hn hne2
  go_wp2_with fail
  refine (specIsCodeWord_any p pw g l c _ RS.out).mono ?_
  rintro e w5 ⟨rfl, hb5⟩
  have B5 := Lib.hid (B4.out.trans (hb5.mono B4.out.size))
  have X5 := Lib.hid (X4.out.below hb5 X4.out.lt)
  have RS' := Lib.hid (RS.out.below' hb5)
  have RE' := Lib.hid (RE.out.below' hb5)
  clear RS RE k0 k1 k2 k3 k4 hb5 B4 X4
  have RS := RS'
  have RE := RE'
  clear RS' RE'
  have k0 := X5.out.c0
  have k1 := X5.out.c1
  have k2 := X5.out.c2
  have k3 := X5.out.c3
  have k4 := X5.out.c4
  cases hi : icwB p pw g l c zS with
  | false =>
    clear hi
    go_wp2_with fail
    go_ret
    exact ⟨rfl, B5.out⟩
  | true =>
    have HI := Lib.hid hi
    have HE5 := Lib.hid (OwnL.empty w5 w5.heap.size (Nat.le_refl _) w5.heap.size rfl)
    have RS5 := Lib.hid (RS.out.below' (below1 w5 (.cells #[] 2)))
    have hl6 : ([] : List Int).length + n ≤ 16777216 := by simp; omega
    clear hi
    have XL := X5.out.lt
    have q1 : IntKind.i64.wrap (c - (ne : Int)) = c - (ne : Int) := IntWalk.i64_in _ (by omega)
    have q2 : wrap64 (c - (ne : Int)) = c - (ne : Int) := IntWalk.wrap64_in _ (by omega)
    clear k0 k1 k2 k3 k4
    go_wp2_with (at_builtin; refine append_row rfl _ _ _ rfl Try.underlying26 HE5.out rfl _ RS5.out rfl CAS.out hl6 ?_; intro vO w6 hownO hbO; rw [List.nil_append] at hownO; have HB6 := Lib.hid (((Below.refl w5.heap.size w5).alloc (Nat.le_refl _) (.cells #[] 2)).trans hbO); obtain ⟨gO, cO, curO, rfl, hgO, -, -, -, -⟩ := hownO.form (by rw [HN.out]; omega); have O6 := Lib.hid hownO; rw [HN.out] at O6; have HN6 := HN.out; rw [HN6]; clear HN6; have X6 := Lib.hid (X5.out.below HB6.out X5.out.lt); have k1 := X6.out.c1; have k3 := X6.out.c3; have k4 := X6.out.c4; clear hownO hbO)
    clear HE5 RS5 hl6
    have hst : dmgN zS zS zE 0 = c - (c - (ne : Int)) := by rw [dmgN_zero, HNE.out]; omega
    have HST := Lib.hid hst
    have HSEE := Lib.hid (show VFels (ffOf p pw g) zS from HSE.out)
    clear hst k1 k3 k4
    go_loopw [12, 13] (fun lf t wr => ∃ (k : Nat) (left : Int) (hz : List Int), k ≤ n ∧ t = .int .i64 k ∧ lf = .int .i64 left ∧ -300 ≤ left ∧ left ≤ 64 ∧ hz.length = n ∧ Hid (VFels (ffOf p pw g) hz) ∧ Hid (∀ i, k ≤ i → gi hz i = gi zS i) ∧ Hid (dmgN hz zS zE k = c - left) ∧ Hid ((zE.length : Int) ≤ c → 0 ≤ left) ∧ Hid (OwnL wr w5.heap.size (.slice (some ⟨gO, 0, none⟩) n cO) hz) ∧ Hid (CB wr X p pw g l c) ∧ Hid (Below w5.heap.size w5 wr)) (fun _ t _ => n - (intOf t).toNat)
    case atStart => exact ⟨0, c - (ne : Int), zS, by omega, rfl, rfl, by omega, by omega, HN.out, HSEE, Lib.hid (fun _ _ => rfl), HST, Lib.hid (fun h => by rw [HNE.out] at h; omega), O6, X6, HB6⟩
    case round =>
      clear O6 X6 HB6 HST HSEE q1 q2
      obtain ⟨k, left, hz, hk, rfl, rfl, hlf1, hlf2, hzl, hel, hag, hdm, hlf, ho, hx, hb⟩ := hrel
      have HZL := Lib.hid hzl
      have k3 := hx.out.c3
      by_cases hlt : k < n
      · have hkl : (k : Int) < l := by omega
        have hkI : (k : Int) < (n : Int) := by omega
        have REr := Lib.hid (RE.out.below' hb.out)
        obtain ⟨g1, cp1, cur, e1, -, hg2, hg3, -, hoa⟩ := ho.out.form (by omega)
        simp only [Value.slice.injEq, Option.some.injEq, Addr.mk.injEq, and_true, true_and] at e1
        obtain ⟨rfl, -, rfl⟩ := e1
        have fzz : wr.frozen? ⟨gO, k, none⟩ = false := by unfold World.frozen?; rw [hg3]; simp
        obtain ⟨b', o', e2, _, hcs⟩ := hoa.row.at' (by omega)
        cases e2
        have hcell := hcs k (by omega)
        rw [Nat.zero_add, hag.out k (Nat.le_refl _)] at hcell
        have hgk : (ffOf p pw g).el (gi zS k) := HSE.out _ (gi_mem (by rw [HN.out]; exact hlt))
        obtain ⟨hz0, hz1⟩ : 0 ≤ gi zS k ∧ gi zS k < sizeR p pw g := by rw [HSZ.out]; exact hgk
        have HNX := Lib.hid (next_el hz0 hz1 (by omega))
        have HCG := Lib.hid (fun (y : Int) => dmgN_congr (W := hz.set k y) (W' := hz) (o := zS) (E := zE) (k := k) (fun i hi => gi_set_ne _ _ _ _ (by omega)))
        have HSK := Lib.hid (fun (y : Int) => gi_set_self hz k y (by omega))
        have HEL := Lib.hid (fun (y : Int) (h : (ffOf p pw g).el y) => VFels_set hel.out k h)
        have HAG := Lib.hid (fun (y : Int) (i : Nat) (hi : k + 1 ≤ i) => (gi_set_ne hz k i y (by omega)).trans (hag.out i (by omega)))
        have HK0 := Lib.hid (hag.out k (Nat.le_refl _))
        have HXT := hx.out.lt
        clear hcs hoa hg3 hgk hg2
        obtain ⟨z, hz'⟩ : ∃ z, gi zS k = z := ⟨_, rfl⟩
        rw [hz'] at hcell hz0 hz1 HNX HK0
        have HZ := Lib.hid hz'
        clear hz'
        go_wp2_with fail
        refine (hasInt_any wr (cap := capE) REr.out (k : Int)).mono ?_
        rintro e w7 ⟨rfl, rfl⟩
        cases hm : memB zE (k : Int) with
        | true =>
          have HM := Lib.hid hm
          clear hm
          go_wp2_with fail
          have OF := Lib.hid (ho.out.set (k := k) (by rw [HZL.out]; exact hlt) 0)
          have BF := Lib.hid (hb.out.setCell (p := ⟨gO, k, none⟩) hgO (.int .i64 0))
          have XF := Lib.hid (hx.out.other (C := gO) (o := k) (by omega) (.int .i64 0))
          go_roundw
          case rel => exact ⟨k + 1, left, hz.set k 0, by omega, by go_num, rfl, hlf1, hlf2, by rw [List.length_set]; exact hzl, Lib.hid (HEL.out 0 (el_zero _ (by have := HSZ.out; omega))), Lib.hid (HAG.out 0), Lib.hid (by rw [dmgN_has HM.out, HCG.out]; exact hdm.out), hlf, OF, XF, BF⟩
          case measure => simp [intOf]; omega
        | false =>
          have HM := Lib.hid hm
          clear hm
          by_cases hl2 : 2 ≤ left
          · have hge : (2 : Int) ≤ left := hl2
            obtain ⟨y, hy⟩ : ∃ y, (z + 1).tmod (sizeR p pw g) = y := ⟨_, rfl⟩
            rw [hy] at HNX
            have HY := Lib.hid hy
            have hzw : wrap64 (z + 1) = z + 1 := IntWalk.wrap64_in _ (by omega)
            have hzv : IntKind.i64.wrap (z + 1) = z + 1 := IntWalk.i64_in _ (by omega)
            have kk0 := (hx.out.below (Drew.below (drew1 wr) _) hx.out.lt).c0
            have kk1 := (hx.out.below (Drew.below (drew1 wr) _) hx.out.lt).c1
            have kk2 := (hx.out.below (Drew.below (drew1 wr) _) hx.out.lt).c2
            have hcz := keep_cell (Drew.below (drew1 wr) wr.heap.size) hcell
            clear hy k3 fzz hcell
            go_wp2_with fail
            refine wp_region_lastW (S := (fun w' => w'.cell? ⟨X, 0, none⟩ = some (.int .i64 p) ∧ w'.cell? ⟨X, 1, none⟩ = some (.int .i64 pw) ∧ w'.cell? ⟨X, 2, none⟩ = some (.int .i64 g) ∧ w'.cell? ⟨gO, k, none⟩ = some (.int .i64 z))) 12 (by kernel_rfl) rfl (by kernel_rfl) ?_ (fun hHeld => ?_)
            · (try dsimp only); exact ⟨kk0, kk1, kk2, hcz⟩
            simp only [List.take_succ_cons, List.take_zero]
            refine wpAnyH_take (i := 0) (oi := _) (v := ?_) rfl (by kernel_rfl) (by kernel_rfl) (by kernel_rfl) (fun _ _ _ h => h) (Or.inl ⟨by rfl, ?_⟩) hHeld ?_
            rotate_left
            · intro w0 hSw; (try dsimp only at hSw); go_simp; (try with_reducible rfl)
            (try dsimp only [Act.put, List.setIfInBounds_toArray, List.set_cons_zero, List.set_cons_succ])
            refine wpAnyH_take (i := 1) (oi := _) (v := ?_) rfl (by kernel_rfl) (by kernel_rfl) (by kernel_rfl) (fun _ _ _ h => h) (Or.inl ⟨by rfl, ?_⟩) hHeld ?_
            rotate_left
            · intro w0 hSw; (try dsimp only at hSw); go_simp; (try with_reducible rfl)
            (try dsimp only [Act.put, List.setIfInBounds_toArray, List.set_cons_zero, List.set_cons_succ])
            refine wpAnyH_take (i := 2) (oi := _) (v := ?_) rfl (by kernel_rfl) (by kernel_rfl) (by kernel_rfl) (fun _ _ _ h => h) (Or.inl ⟨by rfl, ?_⟩) hHeld ?_
            rotate_left
            · intro w0 hSw; (try dsimp only at hSw); go_simp; (try with_reducible rfl)
            (try dsimp only [Act.put, List.setIfInBounds_toArray, List.set_cons_zero, List.set_cons_succ])
            refine wpAnyH_take (i := 3) (oi := _) (v := ?_) rfl (by kernel_rfl) (by kernel_rfl) (by kernel_rfl) (fun _ _ _ h => h) (Or.inl ⟨by rfl, ?_⟩) hHeld ?_
            rotate_left
            · intro w0 hSw; (try dsimp only at hSw); go_simp; (try with_reducible rfl)
            (try dsimp only [Act.put, List.setIfInBounds_toArray, List.set_cons_zero, List.set_cons_succ])
            refine wpAnyH_take (i := 4) (oi := _) (v := ?_) rfl (by kernel_rfl) (by kernel_rfl) (by kernel_rfl) (fun _ _ _ h => h) (Or.inl ⟨by rfl, ?_⟩) hHeld ?_
            rotate_left
            · intro w0 hSw; (try dsimp only at hSw); go_simp; (try with_reducible rfl)
            (try dsimp only [Act.put, List.setIfInBounds_toArray, List.set_cons_zero, List.set_cons_succ])
            refine wpAnyH_take (i := 5) (oi := _) (v := ?_) rfl (by kernel_rfl) (by kernel_rfl) (by kernel_rfl) (fun _ _ _ h => h) (Or.inl ⟨by rfl, ?_⟩) hHeld ?_
            rotate_left
            · intro w0 hSw; (try dsimp only at hSw); go_simp; (try with_reducible rfl)
            (try dsimp only [Act.put, List.setIfInBounds_toArray, List.set_cons_zero, List.set_cons_succ])
            refine wpAnyH_take (i := 6) (oi := _) (v := ?_) rfl (by kernel_rfl) (by kernel_rfl) (by kernel_rfl) (fun _ _ _ h => h) (Or.inl ⟨by rfl, ?_⟩) hHeld ?_
            rotate_left
            · intro w0 hSw; (try dsimp only at hSw); go_simp; (try with_reducible rfl)
            (try dsimp only [Act.put, List.setIfInBounds_toArray, List.set_cons_zero, List.set_cons_succ])
            refine wpAnyH_take (i := 7) (oi := _) (v := ?_) rfl (by kernel_rfl) (by kernel_rfl) (by kernel_rfl) (fun _ _ _ h => h) (Or.inl ⟨by rfl, ?_⟩) hHeld ?_
            rotate_left
            · intro w0 hSw; (try dsimp only at hSw); go_simp; (try with_reducible rfl)
            (try dsimp only [Act.put, List.setIfInBounds_toArray, List.set_cons_zero, List.set_cons_succ])
            refine wpAnyH_take (i := 8) (oi := _) (v := ?_) rfl (by kernel_rfl) (by kernel_rfl) (by kernel_rfl) (fun _ _ _ h => h) (Or.inl ⟨by rfl, ?_⟩) hHeld ?_
            rotate_left
            · intro w0 hSw; (try dsimp only at hSw); go_simp; (try with_reducible rfl)
            (try dsimp only [Act.put, List.setIfInBounds_toArray, List.set_cons_zero, List.set_cons_succ])
            refine wpAnyH_ready (rs := [9]) (by kernel_rfl) (by simp) ?_
            refine AllReadyH.cons (o := _) rfl (fun K hK => ?_) AllReadyH.nil
            go_simp
            refine (specFieldSize_any p pw g _).mono ?_
            rintro e w7 ⟨rfl, hb7⟩
            have hsz0 : ¬ sizeR p pw g = 0 := by omega
            go_wp2_with fail
            refine hK.out _ _ ?_ (fun hHeld => ?_)
            · (try dsimp only); exact ⟨keep_cell hb7 hHeld.1, keep_cell hb7 hHeld.2.1, keep_cell hb7 hHeld.2.2.1, keep_cell hb7 hHeld.2.2.2⟩
            clear hK K
            (try dsimp only [Act.put, List.setIfInBounds_toArray, List.set_cons_zero, List.set_cons_succ])
            refine wpAnyH_take (i := 10) (oi := _) (v := ?_) rfl (by kernel_rfl) (by kernel_rfl) (by kernel_rfl) (fun _ _ _ h => h) (Or.inl ⟨by rfl, ?_⟩) hHeld ?_
            rotate_left
            · intro w0 hSw; (try dsimp only at hSw); go_simp; (try with_reducible rfl)
            (try dsimp only [Act.put, List.setIfInBounds_toArray, List.set_cons_zero, List.set_cons_succ])
            refine wpAnyH_take (i := 11) (oi := _) (v := ?_) rfl (by kernel_rfl) (by kernel_rfl) (by kernel_rfl) (fun _ _ _ h => h) (Or.inl ⟨by rfl, ?_⟩) hHeld ?_
            rotate_left
            · intro w0 hSw; (try dsimp only at hSw); go_simp; (try with_reducible rfl)
            (try dsimp only [Act.put, List.setIfInBounds_toArray, List.set_cons_zero, List.set_cons_succ])
            refine wpAnyH_done (by kernel_rfl) (lastQ_normalW ?_) _
            have hb7' := Below.trans (Drew.below (drew1 wr) wr.heap.size) hb7
            have HO7 := Lib.hid (ho.out.below hb7')
            have HB7 := Lib.hid (hb.out.trans (hb7'.mono hb.out.size))
            have HX7 := Lib.hid (hx.out.below hb7' hx.out.lt)
            obtain ⟨g1, cp1, cur, e1, -, hg2, hg3, -, hoa⟩ := HO7.out.form (by rw [HZL.out]; omega)
            simp only [Value.slice.injEq, Option.some.injEq, Addr.mk.injEq, and_true, true_and] at e1
            obtain ⟨rfl, -, rfl⟩ := e1
            have fz7 : w7.frozen? ⟨gO, k, none⟩ = false := by unfold World.frozen?; rw [hg3]; simp
            obtain ⟨-, -, -, hc7⟩ := hHeld
            have OF := Lib.hid (HO7.out.set (k := k) (by rw [HZL.out]; exact hlt) y)
            have BF := Lib.hid (HB7.out.setCell (p := ⟨gO, k, none⟩) hgO (.int .i64 y))
            have XF := Lib.hid (HX7.out.other (C := gO) (o := k) (by omega) (.int .i64 y))
            have hyy := HY.out
            clear hoa hg3 hb7 hb7' hg2 HY
            rw [hyy]
            go_wp2_with fail
            go_roundw
            case rel => exact ⟨k + 1, left - 2, hz.set k y, by omega, by go_num, by go_num, by omega, by omega, by rw [List.length_set]; exact hzl, Lib.hid (HEL.out y (by have h1 := HNX.out; rw [HSZ.out] at h1; exact ⟨h1.1, h1.2.1⟩)), Lib.hid (HAG.out y), Lib.hid (by
              rw [dmgN_yes (by rw [HSK.out, HZ.out]; simpa using HNX.out.2.2) HM.out, HCG.out, hdm.out]; omega), Lib.hid (fun h => by have := hlf.out h; omega), OF, XF, BF⟩
            case measure => simp [intOf]; omega
          · have hge : ¬ (2 : Int) ≤ left := hl2
            have HDN := Lib.hid (show dmgN hz zS zE (k + 1) = c - left by rw [dmgN_no (by rw [HK0.out, HZ.out]; simp)]; exact hdm.out)
            have HAG2 := Lib.hid (fun (i : Nat) (hi : k + 1 ≤ i) => hag.out i (by omega))
            go_wp2_with fail
            go_roundw
            case rel => exact ⟨k + 1, left, hz, by omega, by go_num, rfl, hlf1, hlf2, hzl, hel, HAG2, HDN, hlf, ho, hx, hb⟩
            case measure => simp [intOf]; omega
      · obtain rfl : k = n := by omega
        have hkl : ¬ (k : Int) < l := by omega
        obtain ⟨f1, f2⟩ := HP.out HCD.out HI.out hz left (by rw [HN.out]; exact hzl) hel.out (by rw [HN.out]; exact hdm.out) hlf.out
        have HF1 := Lib.hid f1
        have HF2 := Lib.hid f2
        have k0 := hx.out.c0
        have k1 := hx.out.c1
        have k2 := hx.out.c2
        have k4 := hx.out.c4
        have RHr := Lib.hid (ho.out.rowF)
        have REr := Lib.hid (RE.out.below' hb.out)
        have RSr := Lib.hid (RS.out.below' hb.out)
        have CPE2 := Lib.hid (show ne ≤ capE by rw [← HNE.out]; exact CPE.out)
        have HCW := Lib.hid (implCorrectWord_any p pw g l c wr (cap := cO) RHr.out (fun h => by cases h) REr.out CPE2.out CAE.out)
        have HB0 := Lib.hid (B5.out.trans (hb.out.mono B5.out.size))
        clear f1 f2 RHr REr
        go_wp2_with fail
        refine HCW.out.mono ?_
        rintro e w8 ⟨v1, v2, rfl, hb8, hT⟩
        have X8 := Lib.hid (hx.out.below hb8 hx.out.lt)
        have B8 := Lib.hid (HB0.out.trans (hb8.mono HB0.out.size))
        have RS8 := Lib.hid (RSr.out.below' hb8)
        have HT := Lib.hid hT
        have HF1 := HF1.out
        have HF2 := HF2.out
        rw [HNE.out] at HF1 HF2
        clear hb8 k0 k1 k2 k3 k4 hx hb ho RSr hT
        have k4 := X8.out.c4
        by_cases hgt : (ne : Int) > c
        · have e0 := HF1 hgt
          have hlt : c < (ne : Int) := hgt
          rw [e0]
          clear HF1 HF2 hgt
          go_wp2_with fail
          go_ret
          exact ⟨rfl, B8.out⟩
        · obtain ⟨e0, e1⟩ := HF2 (by omega)
          have hlt : ¬ c < (ne : Int) := hgt
          rw [e0]
          obtain ⟨-, -, hoA, -, -⟩ := HT.out
          rw [e1] at hoA
          obtain ⟨aA, capA, rfl, -, -, hooA⟩ := hoA.cap
          have RA := Lib.hid hooA.row
          have RS8' := Lib.hid RS8.out
          rw [HN.out] at RA ⊢
          clear HF1 HF2 hgt HT e1 hooA hoA
          go_wp2_with fail
          refine (likeInts_any RA.out RS8'.out).mono ?_
          rintro e w9 ⟨rfl, hb9⟩
          have B9 := Lib.hid (B8.out.trans (hb9.mono B8.out.size))
          simp only [decide_true]
          clear hb9
          go_wp2_with fail
          go_ret
          exact ⟨rfl, B9.out⟩
end Go.Proofs.Ythbiieflmmnfcaa
