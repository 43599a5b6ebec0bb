/-
  The parts Size, Sizf, Sizg.
-/
import Derived.Test.YtdcmebegnekkcaaGreatSizx
/-
  Layouts of the five families, in the program.
-/
namespace Go.Proofs.YtdcmebegnekkcaaGreat
open Go.RowKit
set_option linter.unusedVariables false

set_option maxHeartbeats 4000000 in
set_option maxRecDepth 100000 in
theorem implElements_at {k i : Nat} (hk : k < 5) (hi : i < (fsz k).length) {w : World} {a c : Nat} (hR : FamR w k a c) :
    Calls Tryz.prog 107 #[fmV k a c, .int .i64 (gi (fsz k) i)] w fun e w' => e = .returned (.int .i64 (eleI k i)) ∧ Below w.heap.size w w' := by
  have hl := flv_len k
  have hL := ly_at hk hi (show 0 < (flv k).length by omega)
  have he1 := hL.e1
  have he2 := hL.e2
  clear hL hl
  obtain ⟨n, hn, hs, n1, n2, n3⟩ := siz_nat hk hi
  have F0 := Lib.hid (FmB.new hR)
  have B0 := Lib.hid (below1 w (.cells (fcs k a c).toArray FmT))
  have hE : eleI k i = if k ≤ 2 then (cntS (szN k i)).tdiv ((fpw k : Nat) : Int) else gi (fsz k) i * fco k := rfl
  have hkd := fkd_eq k
  rw [hs, hn] at hE
  rw [hn]
  clear hs hn hR
  have HP := Lib.hid (fpw_bd hk)
  have HC := Lib.hid (fco_bd hk)
  have HW := Lib.hid (fun (V : World) => implFieldWidth_at hk V)
  clear hi hk
  generalize eleI k i = e at *
  have HWE := Lib.hid (show IntKind.i64.wrap e = e from (wrp (by omega)).2)
  obtain ⟨K, eK⟩ : ∃ K : Int, ((fpw k : Nat) : Int) = K := ⟨_, rfl⟩
  rw [eK] at HW HP hE
  have EK := Lib.hid eK
  clear eK
  by_cases hk2 : k ≤ 2
  · rw [if_pos hk2] at hE
    rw [decide_eq_true hk2] at hkd
    obtain ⟨m1, m2⟩ := n3 hk2
    have HT := Lib.hid (fun (V : World) => dataCount_any m1 n2 m2 V)
    replace hE := hE.symm
    have hw0 : ¬ K = 0 := by have := HP.out; omega
    generalize cntS n = z at *
    clear n3 hk2
    go_enter Tryz.func107, Tryz.ntmps107
    obtain ⟨X, hX⟩ : ∃ X, w.heap.size = X := ⟨_, rfl⟩
    obtain ⟨w1, hw1⟩ : ∃ w1, w.alloc (.cells (fcs k a c).toArray FmT) = w1 := ⟨_, rfl⟩
    rw [hw1, hX] at F0
    rw [hw1] at B0
    have hX1 := F0.out.lt
    have q1 := F0.out.c1
    have q2 := F0.out.c2
    have q3 := F0.out.c3
    rw [EK.out] at q3
    have q4 := F0.out.c4
    go_wp2_with fail
    refine wp_region_S (S := (fun w' => w'.cell? ⟨X, 2, none⟩ = some (.int .i64 2) ∧ w'.cell? ⟨X, 3, none⟩ = some (.int .i64 K) ∧ w'.cell? ⟨X, 4, none⟩ = some (.int .i64 (fg0 k)))) 7 rfl (by kernel_rfl) ?_ (fun hHeld => ?_)
    · (try dsimp only); exact ⟨q2, q3, q4⟩
    refine wpAnyH_take (i := 0) (oi := _) (v := ?_) rfl (by kernel_rfl) (by kernel_rfl) (by kernel_rfl) (fun _ _ _ h => h) (Or.inl ⟨by kernel_rfl, ?_⟩) hHeld ?_
    rotate_left
    · intro w0 hSw; (try dsimp only at hSw); go_simp; (try with_reducible rfl)
    (try dsimp only [Act.put, List.setIfInBounds_toArray, List.set_cons_zero, List.set_cons_succ])
    refine wpAnyH_take (i := 2) (oi := _) (v := ?_) rfl (by kernel_rfl) (by kernel_rfl) (by kernel_rfl) (fun _ _ _ h => h) (Or.inl ⟨by kernel_rfl, ?_⟩) hHeld ?_
    rotate_left
    · intro w0 hSw; (try dsimp only at hSw); go_simp; (try with_reducible rfl)
    (try dsimp only [Act.put, List.setIfInBounds_toArray, List.set_cons_zero, List.set_cons_succ])
    refine wpAnyH_take (i := 3) (oi := _) (v := ?_) rfl (by kernel_rfl) (by kernel_rfl) (by kernel_rfl) (fun _ _ _ h => h) (Or.inl ⟨by kernel_rfl, ?_⟩) hHeld ?_
    rotate_left
    · intro w0 hSw; (try dsimp only at hSw); go_simp; (try with_reducible rfl)
    (try dsimp only [Act.put, List.setIfInBounds_toArray, List.set_cons_zero, List.set_cons_succ])
    refine wpAnyH_ready (rs := [1]) (by kernel_rfl) (by simp) ?_
    refine AllReadyH.cons (o := _) rfl (fun K hK => ?_) AllReadyH.nil
    go_simp
    refine (HT.out _).mono ?_
    rintro e1 w2 ⟨hb2, rfl⟩
    go_wp2_with fail
    refine hK.out _ _ ?_ (fun hHeld => ?_)
    · (try dsimp only); exact ⟨keep_cell hb2 hHeld.1, keep_cell hb2 hHeld.2.1, keep_cell hb2 hHeld.2.2⟩
    clear hK K
    (try dsimp only [Act.put, List.setIfInBounds_toArray, List.set_cons_zero, List.set_cons_succ])
    refine wpAnyH_ready (rs := [4]) (by kernel_rfl) (by simp) ?_
    refine AllReadyH.cons (o := _) rfl (fun K hK => ?_) AllReadyH.nil
    go_simp
    refine (HW.out _).mono ?_
    rintro e1 w3 ⟨rfl, hb3⟩
    go_wp2_with fail
    refine hK.out _ _ ?_ (fun hHeld => ?_)
    · (try dsimp only); exact ⟨keep_cell hb3 hHeld.1, keep_cell hb3 hHeld.2.1, keep_cell hb3 hHeld.2.2⟩
    clear hK K
    (try dsimp only [Act.put, List.setIfInBounds_toArray, List.set_cons_zero, List.set_cons_succ])
    refine wpAnyH_take (i := 5) (oi := _) (v := ?_) rfl (by kernel_rfl) (by kernel_rfl) (by kernel_rfl) (fun _ _ _ h => h) (Or.inl ⟨by kernel_rfl, ?_⟩) hHeld ?_
    rotate_left
    · intro w0 hSw; (try dsimp only at hSw); go_simp; (try with_reducible rfl)
    (try dsimp only [Act.put, List.setIfInBounds_toArray, List.set_cons_zero, List.set_cons_succ])
    refine wpAnyH_take (i := 6) (oi := _) (v := ?_) rfl (by kernel_rfl) (by kernel_rfl) (by kernel_rfl) (fun _ _ _ h => h) (Or.inl ⟨by kernel_rfl, ?_⟩) hHeld ?_
    rotate_left
    · intro w0 hSw; (try dsimp only at hSw); go_simp; (try with_reducible rfl)
    (try dsimp only [Act.put, List.setIfInBounds_toArray, List.set_cons_zero, List.set_cons_succ])
    refine wpAnyH_done (by kernel_rfl) ?_ _
    go_simp
    have B2 := Lib.hid (B0.out.trans (((Below.refl w1.heap.size w1).drew.trans (hb2.trans (hb3.mono hb2.size))).mono B0.out.size))
    clear hb2 hb3
    go_wp2_with fail
    go_ret
    exact ⟨by rw [HWE.out]; rfl, hX ▸ B2.out⟩
  · rw [if_neg hk2] at hE
    rw [decide_eq_false hk2] at hkd
    replace hE := hE.symm
    go_enter Tryz.func107, Tryz.ntmps107
    obtain ⟨X, hX⟩ : ∃ X, w.heap.size = X := ⟨_, rfl⟩
    obtain ⟨w1, hw1⟩ : ∃ w1, w.alloc (.cells (fcs k a c).toArray FmT) = w1 := ⟨_, rfl⟩
    rw [hw1, hX] at F0
    rw [hw1] at B0
    have hX1 := F0.out.lt
    have q1 := F0.out.c1
    have q6 := F0.out.c6
    go_wp2_with fail
    go_ret
    exact ⟨rfl, hX ▸ B0.out⟩
set_option maxHeartbeats 4000000 in
set_option maxRecDepth 100000 in
theorem implLayout_at {k i v : Nat} (hk : k < 5) (hi : i < (fsz k).length) (hv : v < (flv k).length) {w : World} {a c : Nat} (hR : FamR w k a c) :
    Calls Tryz.prog 128 #[fmV k a c, .int .i64 (gi (fsz k) i), .int .i64 (v : Int)] w fun e w' => e = .returned (lV 2 ((fpw k : Nat) : Int) (fg0 k) (datI k i v) (chkI k i v) (blkI k i)) ∧ Below w.heap.size w w' := by
  obtain ⟨Z, e, m, lv, b, pr, t, u, ck, p, d, hN⟩ := lyS_of hk hi hv
  have hl := flv_len k
  have F0 := Lib.hid (FmB.new hR)
  have B0 := Lib.hid (below1 w (.cells (fcs k a c).toArray FmT))
  have HEL := Lib.hid (fun (V : World) (hR : FamR V k a c) => implElements_at hk hi hR)
  have HSZ := Lib.hid (fun (V : World) => implFieldSize_at hk V)
  have HQ7 := Lib.hid (fun (V : World) (X : Nat) (hF : FmB V X k a c) => hF.lv hv)
  rw [hN.ec, hN.ed, hN.eb]
  rw [hN.ee] at HEL
  rw [hN.el] at HQ7
  rw [hN.ez] at HSZ
  obtain ⟨-, -, -, -, -, -, hm, qb, qp, qt, qu, hp, hd, cc, e1, e2, m1, m2, b1, b2, u1, u2, r1, r2, t1, t2, p1, p2⟩ := hN
  have hm0 : ¬ m = 0 := by omega
  have hb0 : ¬ b = 0 := by omega
  have hZ : ¬ (255 : Int) < Z - 1 := by omega
  have hZ2 : 16 ≤ Z ∧ Z ≤ 256 := by omega
  have hvl : (v : Int) < (((flv k).length : Nat) : Int) := by omega
  have HRES := Lib.hid (show Tryz.f128.results = #[.cell 6 LT] by kernel_rfl)
  generalize gi (fsz k) i = sz at *
  clear hi hk hR hl
  go_enter Tryz.func128, Tryz.ntmps128
  obtain ⟨X, hX⟩ : ∃ X, w.heap.size = X := ⟨_, rfl⟩
  obtain ⟨w1, hw1⟩ : ∃ w1, w.alloc (.cells (fcs k a c).toArray FmT) = w1 := ⟨_, rfl⟩
  rw [hw1, hX] at F0
  rw [hw1] at B0
  have hX1 := F0.out.lt
  have T2 := Lib.hid (Tf.mkd w1 lyZ LT)
  have F2 := Lib.hid (F0.out.below (below1 w1 (.cells lyZ LT)))
  have B2 := Lib.hid (B0.out.trans ((below1 w1 (.cells lyZ LT)).mono B0.out.size))
  obtain ⟨Y, hY⟩ : ∃ Y, w1.heap.size = Y := ⟨_, rfl⟩
  have hYX : w.heap.size ≤ Y := by rw [← hY]; exact B0.out.size
  obtain ⟨w2, hw2⟩ : ∃ w2, w1.alloc (.cells lyZ LT) = w2 := ⟨_, rfl⟩
  rw [hw2] at T2 F2 B2
  rw [hY] at T2
  have q0 := F2.out.c0
  have q1 := F2.out.c1
  have q2 := F2.out.c2
  have q3 := F2.out.c3
  have q4 := F2.out.c4
  have q5 := F2.out.c5
  have q6 := F2.out.c6
  have q7 := F2.out.c7
  go_wp2_with fail
  (try rw [show (w1.alloc (.cells #[.int .i64 0, .int .i64 0, .int .i64 0, .int .i64 0, .int .i64 0, .int .i64 0] LT)) = w2 from hw2])
  refine (HEL.out _ F2.out.r).mono ?_
  rintro e1 w3 ⟨rfl, hb3⟩
  have T3 := Lib.hid (T2.out.below hb3 T2.out.lt)
  have F3 := Lib.hid (F2.out.below hb3)
  have B3 := Lib.hid (B2.out.trans (hb3.mono B2.out.size))
  clear hb3 T2 F2 B2 q0 q1 q2 q3 q4 q5 q6 q7 hw2 hw1 F0 B0
  have q0 := F3.out.c0
  have q1 := F3.out.c1
  have q2 := F3.out.c2
  have q3 := F3.out.c3
  have q4 := F3.out.c4
  have q5 := F3.out.c5
  have q6 := F3.out.c6
  have q7 := F3.out.c7
  go_wp2_with fail
  refine (HSZ.out _).mono ?_
  rintro e1 w4 ⟨rfl, hb4⟩
  have T4 := Lib.hid (T3.out.below hb4 T3.out.lt)
  have F4 := Lib.hid (F3.out.below hb4)
  have B4 := Lib.hid (B3.out.trans (hb4.mono B3.out.size))
  clear hb4 T3 F3 B3 q0 q1 q2 q3 q4 q5 q6 q7
  have q0 := F4.out.c0
  have q1 := F4.out.c1
  have q2 := F4.out.c2
  have q3 := F4.out.c3
  have q4 := F4.out.c4
  have q5 := F4.out.c5
  have q6 := F4.out.c6
  have q7 := F4.out.c7
  have hq8 := HQ7.out _ _ F4.out
  have z := T4.out.fz
  have z0 := z 0
  have z1 := z 1
  have z2 := z 2
  have z3 := z 3
  have z4 := z 4
  have z5 := z 5
  have t0 := T4.out.cell (i := 0) (by decide)
  have t1 := T4.out.cell (i := 1) (by decide)
  have t2 := T4.out.cell (i := 2) (by decide)
  have t3 := T4.out.cell (i := 3) (by decide)
  have t4 := T4.out.cell (i := 4) (by decide)
  have t5 := T4.out.cell (i := 5) (by decide)
  have HS := Lib.hid (lb_set6 (show Tf w4 Y 6 LT _ from T4.out) 2 ((fpw k : Nat) : Int) (fg0 k) d ck b).blk
  have HB := Lib.hid (below_set6 B4.out hYX (.int .i64 2) (.int .i64 ((fpw k : Nat) : Int)) (.int .i64 (fg0 k)) (.int .i64 d) (.int .i64 ck) (.int .i64 b))
  clear z
  rcases cc with ⟨u3, rfl⟩ | ⟨u3, u4, rfl⟩ | ⟨u3, rfl⟩
  · go_wp2_with fail
    exact ret_cell1 HRES.out Tryz.underlying112 rfl (by kernel_rfl) rfl rfl HS.out ⟨rfl, hX ▸ HB.out⟩
  · go_wp2_with fail
    exact ret_cell1 HRES.out Tryz.underlying112 rfl (by kernel_rfl) rfl rfl HS.out ⟨rfl, hX ▸ HB.out⟩
  · go_wp2_with fail
    exact ret_cell1 HRES.out Tryz.underlying112 rfl (by kernel_rfl) rfl rfl HS.out ⟨rfl, hX ▸ HB.out⟩
set_option maxHeartbeats 4000000 in
theorem hasLevel_at {k : Nat} (hk : k < 5) {lv : Int} {w : World} {a c : Nat} (hR : FamR w k a c) :
    Calls Tryz.prog 125 #[fmV k a c, .int .i64 lv] w fun e w' => e = .returned (.bool (inR lv 0 ((((flv k).length : Nat) : Int) - 1))) ∧ Below w.heap.size w w' := by
  have hl := flv_len k
  have F0 := Lib.hid (FmB.new hR)
  have B0 := Lib.hid (below1 w (.cells (fcs k a c).toArray FmT))
  go_enter Tryz.func125, Tryz.ntmps125
  obtain ⟨X, hX⟩ : ∃ X, w.heap.size = X := ⟨_, rfl⟩
  obtain ⟨w1, hw1⟩ : ∃ w1, w.alloc (.cells (fcs k a c).toArray FmT) = w1 := ⟨_, rfl⟩
  rw [hw1, hX] at F0
  rw [hw1] at B0
  have hX1 := F0.out.lt
  have q7 := F0.out.c7
  go_wp2_with fail
  refine (inRange_any _ _ _ _).mono ?_
  rintro e w2 ⟨rfl, rfl⟩
  go_wp2_with fail
  go_ret
  exact ⟨rfl, hX ▸ B0.out⟩
end Go.Proofs.YtdcmebegnekkcaaGreat
/-
  The smallest size, in both programs.
-/
namespace Go.Proofs.YtdcmebegnekkcaaGreat
open Go.RowKit
set_option linter.unusedVariables false

theorem lyo_form {k i v : Nat} {e : Ending} (h : LyoE k i v e) : ∃ p0 p1 p2 p3 p4 p5 c : Int, e = .returned (.tuple #[lV p0 p1 p2 p3 p4 p5, .int .i64 c]) ∧
    (c = 0 ∧ p3 = datI k i v ∧ (∀ need : Int, hitI k v need i = decide (need ≤ p3)) ∨ c = 3 ∧ ∀ need : Int, hitI k v need i = false) := by
  rcases h with ⟨h1, rfl⟩ | ⟨h1, rfl⟩
  · exact ⟨_, _, _, _, _, _, _, rfl, .inl ⟨rfl, rfl, fun need => by unfold hitI; rw [h1]; rfl⟩⟩
  · exact ⟨_, _, _, _, _, _, _, rfl, .inr ⟨rfl, fun need => by unfold hitI; rw [h1]; rfl⟩⟩
theorem fst_hit {H : Nat → Bool} {zs : List Int} {n i : Nat} (hi : i < n) (h : H i = true) : fstI H zs (n - i) i = gi zs i := by
  rw [show n - i = (n - (i + 1)) + 1 by omega]; unfold fstI; rw [if_pos h]
theorem fst_miss {H : Nat → Bool} {zs : List Int} {n i : Nat} (hi : i < n) (h : H i = false) : fstI H zs (n - i) i = fstI H zs (n - (i + 1)) (i + 1) := by
  rw [show n - i = (n - (i + 1)) + 1 by omega, fstI, if_neg (by rw [h]; simp)]
theorem sml_err {c : Int} (hc : c ≠ 0) : SmlE 0 (.returned (.tuple #[.int .i64 0, .int .i64 c])) := ⟨c, rfl, by simp [hc]⟩
theorem sml_ok {z : Int} (hz : z ≠ 0) : SmlE z (.returned (.tuple #[.int .i64 z, .int .i64 0])) := ⟨0, rfl, by simp [hz]⟩
set_option maxHeartbeats 16000000 in
set_option maxRecDepth 100000 in
theorem specSmallestSize_at {k : Nat} (hk : k < 5) (lv : Int) (l : List UInt8) {w : World} {a c : Nat} (hR : FamR w k a c) :
    Calls Tryz.prog 51 #[fmV k a c, .int .i64 lv, .string (str l)] w fun e w' => SmlE (smlI k lv l) e ∧ Below w.heap.size w w' := by
  have hl := flv_len k
  have hsl := fsz_len k
  have hsz := str_size l
  have F0 := Lib.hid (FmB.new hR)
  have B0 := Lib.hid (below1 w (.cells (fcs k a c).toArray FmT))
  have HF := Lib.hid (fun (V : World) (hR : FamR V k a c) => specIsFamily_yes hk hR)
  have HU := Lib.hid (show smlI k lv l = if inR lv 0 (((flv k).length : Nat) - 1 : Int) = true ∧ l.length ≤ 400 ∧ payI k l ≤ 1500 then fstI (hitI k lv.toNat (payI k l)) (fsz k) (fsz k).length 0 else 0 from rfl)
  clear hR
  go_enter Tryz.func51, Tryz.ntmps51
  obtain ⟨X, hX⟩ : ∃ X, w.heap.size = X := ⟨_, rfl⟩
  obtain ⟨w1, hw1⟩ : ∃ w1, w.alloc (.cells (fcs k a c).toArray FmT) = w1 := ⟨_, rfl⟩
  rw [hw1, hX] at F0
  rw [hw1] at B0
  have hX1 := F0.out.lt
  have q0 := F0.out.c0
  have q1 := F0.out.c1
  have q2 := F0.out.c2
  have q3 := F0.out.c3
  have q4 := F0.out.c4
  have q5 := F0.out.c5
  have q6 := F0.out.c6
  have q7 := F0.out.c7
  go_wp2_with fail
  refine (HF.out _ F0.out.r).mono ?_
  rintro e1 w2 ⟨rfl, hb2⟩
  have F2 := Lib.hid (F0.out.below hb2)
  have B2 := Lib.hid (B0.out.trans (hb2.mono B0.out.size))
  clear hb2 hw1 F0 B0 q0 q1 q2 q3 q4 q5 q6 q7
  have q0 := F2.out.c0
  have q1 := F2.out.c1
  have q2 := F2.out.c2
  have q3 := F2.out.c3
  have q4 := F2.out.c4
  have q5 := F2.out.c5
  have q6 := F2.out.c6
  have q7 := F2.out.c7
  go_wp2_with fail
  refine (l01In_any _ _ _ _).mono ?_
  rintro e1 w3 ⟨rfl, rfl⟩
  cases hin : inR lv 0 ((((flv k).length : Nat) : Int) - 1) with
  | false =>
    rw [hin, if_neg (by simp)] at HU
    clear hin
    go_wp2_with fail
    go_ret2
    exact ⟨by rw [HU.out]; exact sml_err (by decide), hX ▸ B2.out⟩
  | true =>
  rw [hin] at HU
  obtain ⟨v, rfl⟩ := Int.eq_ofNat_of_zero_le (inR_iff.1 hin).1
  have hv : v < (flv k).length := by have := (inR_iff.1 hin).2; omega
  rw [show ((v : Int)).toNat = v from rfl] at HU
  clear hin
  by_cases h400 : l.length ≤ 400
  rotate_left
  · rw [if_neg (by omega)] at HU
    have hgt : (400 : Int) < (l.length : Int) := by omega
    go_wp2_with fail
    go_ret2
    exact ⟨by rw [HU.out]; exact sml_err (by decide), hX ▸ B2.out⟩
  have hgt : ¬ (400 : Int) < (l.length : Int) := by omega
  have HPS := Lib.hid (fun (V : World) => specPayloadSize_at hk h400 V)
  have HLO := Lib.hid (fun (i : Nat) (hi : i < (fsz k).length) (V : World) (hR : FamR V k a c) => specLayoutOf_at hk hi hv hR)
  have HSN := Lib.hid (fun (i : Nat) (hi : i < (fsz k).length) => siz_nat hk hi)
  have HX4 := Lib.hid h400
  clear h400
  go_wp2_with fail
  refine (HPS.out _).mono ?_
  rintro e1 w3 ⟨hpay, hb3⟩
  have F3 := Lib.hid (F2.out.below hb3)
  have B3 := Lib.hid (B2.out.trans (hb3.mono B2.out.size))
  clear hb3 F2 B2 q0 q1 q2 q3 q4 q5 q6 q7 hX1
  have hX1 := F3.out.lt
  have q0 := F3.out.c0
  have q1 := F3.out.c1
  have q2 := F3.out.c2
  have q3 := F3.out.c3
  have q4 := F3.out.c4
  have q5 := F3.out.c5
  have q6 := F3.out.c6
  have q7 := F3.out.c7
  rcases hpay with ⟨hp, rfl⟩ | ⟨hp, rfl⟩
  rotate_left
  · rw [if_neg (by omega)] at HU
    clear hp
    go_wp2_with fail
    go_loopw [10] (fun ti wr => ti = .int .i64 0 ∧ wr = w3) (fun ti _ => 0)
    case atStart => simp
    case round =>
      obtain ⟨rfl, rfl⟩ := hrel
      go_wp2_with fail
      go_ret2
      exact ⟨by rw [HU.out]; exact sml_err (by decide), hX ▸ B3.out⟩
  rw [if_pos ⟨by trivial, HX4.out, hp⟩] at HU
  clear hp hgt
  generalize payI k l = need at *
  have HH := Lib.hid (show ∀ i, hitI k v need i = hitI k v need i from fun _ => rfl)
  obtain ⟨H, hH⟩ : ∃ H, hitI k v need = H := ⟨_, rfl⟩
  have EH := Lib.hid hH
  rw [hH] at HU
  clear HH hH
  obtain ⟨R, hRR⟩ : ∃ R, fstI H (fsz k) (fsz k).length 0 = R := ⟨_, rfl⟩
  rw [hRR] at HU
  have HR0 := Lib.hid hRR
  clear hRR
  go_wp2_with fail
  go_loopw [10] (fun ti wr => ∃ i : Nat, i ≤ (fsz k).length ∧ ti = .int .i64 (i : Int) ∧ Hid (fstI H (fsz k) ((fsz k).length - i) i = R) ∧ Hid (Below w3.heap.size w3 wr)) (fun ti _ => (fsz k).length - (intOf ti).toNat)
  case atStart => exact ⟨0, by omega, rfl, Lib.hid HR0.out, Lib.hid (Below.refl _ _)⟩
  case round =>
    obtain ⟨i, hi, rfl, hS, hB⟩ := hrel
    have FW := Lib.hid (F3.out.below hB.out)
    clear q0 q1 q2 q3 q4 q5 q6 q7
    have q5 := FW.out.c5
    by_cases hlt : i < (fsz k).length
    · have HC := Lib.hid (HLO.out i hlt)
      have HRS := Lib.hid (show H i = true → R = gi (fsz k) i ∧ gi (fsz k) i ≠ 0 from fun h => ⟨by rw [← hS.out, fst_hit hlt h], by obtain ⟨n, h1, h2, h3, h4, h5⟩ := HSN.out i hlt; omega⟩)
      have HRM := Lib.hid (show H i = false → fstI H (fsz k) ((fsz k).length - (i + 1)) (i + 1) = R from fun h => by rw [← hS.out, fst_miss hlt h])
      have h5 := hsl.2
      have hli : (i : Int) < (((fsz k).length : Nat) : Int) := by omega
      go_wp2_with fail
      have HBD := Lib.hid hB.out.drew
      refine wp_region_S (S := (fun w' => Below w3.heap.size w3 w')) 14 rfl (by kernel_rfl) ?_ (fun hHeld => ?_)
      · first | (exact HBD.out) | ((try dsimp only); exact HBD.out)
      refine wpAnyH_take (i := 0) (oi := _) (v := ?_) rfl (by kernel_rfl) (by kernel_rfl) (by kernel_rfl) (fun _ _ _ h => h) (Or.inl ⟨by kernel_rfl, ?_⟩) hHeld ?_
      rotate_left
      · intro w0 hSw; (try dsimp only at hSw); have FF := F3.out.below hSw; have r0 := FF.c0; have r1 := FF.c1; have r2 := FF.c2; have r3 := FF.c3; have r4 := FF.c4; have r5 := FF.c5; have r6 := FF.c6; have r7 := FF.c7; go_simp; (try with_reducible rfl)
      (try dsimp only [Act.put, List.setIfInBounds_toArray, List.set_cons_zero, List.set_cons_succ])
      refine wpAnyH_take (i := 1) (oi := _) (v := ?_) rfl (by kernel_rfl) (by kernel_rfl) (by kernel_rfl) (fun _ _ _ h => h) (Or.inl ⟨by kernel_rfl, ?_⟩) hHeld ?_
      rotate_left
      · intro w0 hSw; (try dsimp only at hSw); go_simp; (try with_reducible rfl)
      (try dsimp only [Act.put, List.setIfInBounds_toArray, List.set_cons_zero, List.set_cons_succ])
      refine wpAnyH_take (i := 2) (oi := _) (v := ?_) rfl (by kernel_rfl) (by kernel_rfl) (by kernel_rfl) (fun _ _ _ h => h) (Or.inl ⟨by kernel_rfl, ?_⟩) hHeld ?_
      rotate_left
      · intro w0 hSw; (try dsimp only at hSw); have FF := F3.out.below hSw; have r0 := FF.c5; go_simp; (try with_reducible rfl)
      (try dsimp only [Act.put, List.setIfInBounds_toArray, List.set_cons_zero, List.set_cons_succ])
      refine wpAnyH_take (i := 3) (oi := _) (v := ?_) rfl (by kernel_rfl) (by kernel_rfl) (by kernel_rfl) (fun _ _ _ h => h) (Or.inl ⟨by kernel_rfl, ?_⟩) hHeld ?_
      rotate_left
      · intro w0 hSw; (try dsimp only at hSw); go_simp; (try with_reducible rfl)
      (try dsimp only [Act.put, List.setIfInBounds_toArray, List.set_cons_zero, List.set_cons_succ])
      refine wpAnyH_take (i := 4) (oi := _) (v := ?_) rfl (by kernel_rfl) (by kernel_rfl) (by kernel_rfl) (fun _ _ _ h => h) (Or.inl ⟨by kernel_rfl, ?_⟩) hHeld ?_
      rotate_left
      · intro w0 hSw; (try dsimp only at hSw); go_simp; (try with_reducible rfl)
      (try dsimp only [Act.put, List.setIfInBounds_toArray, List.set_cons_zero, List.set_cons_succ])
      refine wpAnyH_take (i := 5) (oi := _) (v := ?_) rfl (by kernel_rfl) (by kernel_rfl) (by kernel_rfl) (fun _ _ _ h => h) (Or.inl ⟨by kernel_rfl, ?_⟩) hHeld ?_
      rotate_left
      · intro w0 hSw; (try dsimp only at hSw); have FF := F3.out.below hSw; have r0 := FF.sz hlt; go_simp; (try with_reducible rfl)
      (try dsimp only [Act.put, List.setIfInBounds_toArray, List.set_cons_zero, List.set_cons_succ])
      refine wpAnyH_take (i := 6) (oi := _) (v := ?_) rfl (by kernel_rfl) (by kernel_rfl) (by kernel_rfl) (fun _ _ _ h => h) (Or.inl ⟨by kernel_rfl, ?_⟩) hHeld ?_
      rotate_left
      · intro w0 hSw; (try dsimp only at hSw); go_simp; (try with_reducible rfl)
      (try dsimp only [Act.put, List.setIfInBounds_toArray, List.set_cons_zero, List.set_cons_succ])
      refine wpAnyH_ready (rs := [7, 11]) (by kernel_rfl) (by simp) ?_
      refine AllReadyH.cons (o := _) rfl (fun K hK => ?_) (AllReadyH.cons (o := _) rfl (fun K hK => ?_) AllReadyH.nil)
      · go_simp
        refine (HC.out _ (F3.out.below hHeld).r).mono ?_
        rintro e1 w5 ⟨hly, hb5⟩
        obtain ⟨p0, p1, p2, p3, p4, p5, cc, rfl, hcc⟩ := lyo_form hly
        go_simp
        refine hK.out _ _ ?_ (fun hHeld => ?_)
        · first | (exact hHeld.trans (hb5.mono hHeld.size)) | ((try dsimp only); exact hHeld.trans (hb5.mono hHeld.size))
        clear hK K
        (try dsimp only [Act.put, List.setIfInBounds_toArray, List.set_cons_zero, List.set_cons_succ])
        refine wpAnyH_take (i := 8) (oi := _) (v := ?_) rfl (by kernel_rfl) (by kernel_rfl) (by kernel_rfl) (fun _ _ _ h => h) (Or.inl ⟨by kernel_rfl, ?_⟩) hHeld ?_
        rotate_left
        · intro w0 hSw; (try dsimp only at hSw); go_simp; (try with_reducible rfl)
        (try dsimp only [Act.put, List.setIfInBounds_toArray, List.set_cons_zero, List.set_cons_succ])
        refine wpAnyH_take (i := 9) (oi := _) (v := ?_) rfl (by kernel_rfl) (by kernel_rfl) (by kernel_rfl) (fun _ _ _ h => h) (Or.inl ⟨by kernel_rfl, ?_⟩) hHeld ?_
        rotate_left
        · intro w0 hSw; (try dsimp only at hSw); go_simp; (try with_reducible rfl)
        (try dsimp only [Act.put, List.setIfInBounds_toArray, List.set_cons_zero, List.set_cons_succ])
        refine wpAnyH_take (i := 10) (oi := _) (v := ?_) rfl (by kernel_rfl) (by kernel_rfl) (by kernel_rfl) (fun _ _ _ h => h) (Or.inl ⟨by kernel_rfl, ?_⟩) hHeld ?_
        rotate_left
        · intro w0 hSw; (try dsimp only at hSw); go_simp; (try with_reducible rfl)
        (try dsimp only [Act.put, List.setIfInBounds_toArray, List.set_cons_zero, List.set_cons_succ])
        refine wpAnyH_ready (rs := [11]) (by kernel_rfl) (by simp) ?_
        refine AllReadyH.cons (o := _) rfl (fun K hK => ?_) AllReadyH.nil
        go_simp
        have hq5 := hHeld.size
        have BA := hHeld.trans ((below1 w5 (.cells #[.int .i64 p0, .int .i64 p1, .int .i64 p2, .int .i64 p3, .int .i64 p4, .int .i64 p5] LT)).mono hHeld.size)
        refine hK.out _ _ ?_ (fun hHeld => ?_)
        · first | (exact hHeld.trans ((below1 _ _).mono hHeld.size)) | ((try dsimp only); exact hHeld.trans ((below1 _ _).mono hHeld.size))
        clear hK K
        (try dsimp only [Act.put, List.setIfInBounds_toArray, List.set_cons_zero, List.set_cons_succ])
        refine wpAnyH_ready (rs := [12]) (by kernel_rfl) (by simp) ?_
        refine AllReadyH.cons (o := _) rfl (fun K hK => ?_) AllReadyH.nil
        go_simp
        refine hK.out _ _ ?_ (fun hHeld => ?_)
        · first | (exact BA) | ((try dsimp only); exact BA)
        clear hK K
        (try dsimp only [Act.put, List.setIfInBounds_toArray, List.set_cons_zero, List.set_cons_succ])
        refine wpAnyH_take (i := 13) (oi := _) (v := ?_) rfl (by kernel_rfl) (by kernel_rfl) (by kernel_rfl) (fun _ _ _ h => h) (Or.inl ⟨by kernel_rfl, ?_⟩) hHeld ?_
        rotate_left
        · intro w0 hSw; (try dsimp only at hSw); go_simp; (try with_reducible rfl)
        (try dsimp only [Act.put, List.setIfInBounds_toArray, List.set_cons_zero, List.set_cons_succ])
        refine wpAnyH_done (by kernel_rfl) ?_ _
        have BW : Below w3.heap.size w3 (w5.alloc (.cells #[.int .i64 p0, .int .i64 p1, .int .i64 p2, .int .i64 p3, .int .i64 p4, .int .i64 p5] LT)) := hHeld
        have c3 := (LB.new w5 p0 p1 p2 p3 p4 p5).c3
        obtain ⟨W, hW⟩ : ∃ W, w5.alloc (.cells #[.int .i64 p0, .int .i64 p1, .int .i64 p2, .int .i64 p3, .int .i64 p4, .int .i64 p5] LT) = W := ⟨_, rfl⟩
        rw [hW] at BW c3
        (try rw [hW])
        go_simp
        (try rw [hW])
        clear hW hHeld
        have FF := F3.out.below BW
        have q5 := FF.c5
        have q8 := FF.sz hlt
        have BW9 := Lib.hid BW
        clear FF BW
        rcases hcc with ⟨rfl, hp3, hh⟩ | ⟨rfl, hh⟩
        · have hhn := hh need
          rw [EH.out] at hhn
          clear hh hp3
          by_cases hn : need ≤ p3
          · rw [decide_eq_true hn] at hhn
            have HR9 := Lib.hid (HRS.out hhn)
            clear hhn
            go_wp2_with fail
            go_ret2
            exact ⟨by rw [HU.out, HR9.out.1]; exact sml_ok HR9.out.2, hX ▸ B3.out.trans (BW9.out.mono B3.out.size)⟩
          · rw [decide_eq_false hn] at hhn
            have HR9 := Lib.hid (HRM.out hhn)
            clear hhn
            go_wp2_with fail
            go_roundw
            case rel => exact ⟨i + 1, by omega, by go_num, HR9, BW9⟩
            case measure => simp [intOf]; omega
        · have hhn := hh need
          rw [EH.out] at hhn
          have HR9 := Lib.hid (HRM.out hhn)
          clear hhn hh
          go_wp2_with fail
          go_roundw
          case rel => exact ⟨i + 1, by omega, by go_num, HR9, BW9⟩
          case measure => simp [intOf]; omega
      · go_simp
        have hq5 := hHeld.size
        refine hK.out _ _ ?_ (fun hHeld => ?_)
        · first | (exact hHeld.trans ((below1 _ _).mono hHeld.size)) | ((try dsimp only); exact hHeld.trans ((below1 _ _).mono hHeld.size))
        clear hK K
        (try dsimp only [Act.put, List.setIfInBounds_toArray, List.set_cons_zero, List.set_cons_succ])
        refine wpAnyH_ready (rs := [7]) (by kernel_rfl) (by simp) ?_
        refine AllReadyH.cons (o := _) rfl (fun K hK => ?_) AllReadyH.nil
        go_simp
        refine (HC.out _ (F3.out.below hHeld).r).mono ?_
        rintro e1 w5 ⟨hly, hb5⟩
        obtain ⟨p0, p1, p2, p3, p4, p5, cc, rfl, hcc⟩ := lyo_form hly
        go_simp
        refine hK.out _ _ ?_ (fun hHeld => ?_)
        · first | (exact hHeld.trans (hb5.mono hHeld.size)) | ((try dsimp only); exact hHeld.trans (hb5.mono hHeld.size))
        clear hK K
        (try dsimp only [Act.put, List.setIfInBounds_toArray, List.set_cons_zero, List.set_cons_succ])
        refine wpAnyH_take (i := 8) (oi := _) (v := ?_) rfl (by kernel_rfl) (by kernel_rfl) (by kernel_rfl) (fun _ _ _ h => h) (Or.inl ⟨by kernel_rfl, ?_⟩) hHeld ?_
        rotate_left
        · intro w0 hSw; (try dsimp only at hSw); go_simp; (try with_reducible rfl)
        (try dsimp only [Act.put, List.setIfInBounds_toArray, List.set_cons_zero, List.set_cons_succ])
        refine wpAnyH_take (i := 9) (oi := _) (v := ?_) rfl (by kernel_rfl) (by kernel_rfl) (by kernel_rfl) (fun _ _ _ h => h) (Or.inl ⟨by kernel_rfl, ?_⟩) hHeld ?_
        rotate_left
        · intro w0 hSw; (try dsimp only at hSw); go_simp; (try with_reducible rfl)
        (try dsimp only [Act.put, List.setIfInBounds_toArray, List.set_cons_zero, List.set_cons_succ])
        refine wpAnyH_take (i := 10) (oi := _) (v := ?_) rfl (by kernel_rfl) (by kernel_rfl) (by kernel_rfl) (fun _ _ _ h => h) (Or.inl ⟨by kernel_rfl, ?_⟩) hHeld ?_
        rotate_left
        · intro w0 hSw; (try dsimp only at hSw); go_simp; (try with_reducible rfl)
        (try dsimp only [Act.put, List.setIfInBounds_toArray, List.set_cons_zero, List.set_cons_succ])
        refine wpAnyH_ready (rs := [12]) (by kernel_rfl) (by simp) ?_
        refine AllReadyH.cons (o := _) rfl (fun K hK => ?_) AllReadyH.nil
        have TQ : Tf w5 wr.heap.size 6 LT _ := (Tf.mkd wr.drew lyZ LT).below hb5 (by simp)
        have z := TQ.fz
        have z0 := z 0
        have z1 := z 1
        have z2 := z 2
        have z3 := z 3
        have z4 := z 4
        have z5 := z 5
        have t0 := TQ.cell (i := 0) (by decide)
        have t1 := TQ.cell (i := 1) (by decide)
        have t2 := TQ.cell (i := 2) (by decide)
        have t3 := TQ.cell (i := 3) (by decide)
        have t4 := TQ.cell (i := 4) (by decide)
        have t5 := TQ.cell (i := 5) (by decide)
        clear z
        go_simp
        refine hK.out _ _ ?_ (fun hHeld => ?_)
        · first | (exact below_set6 hHeld hq5 (.int .i64 p0) (.int .i64 p1) (.int .i64 p2) (.int .i64 p3) (.int .i64 p4) (.int .i64 p5)) | ((try dsimp only); exact below_set6 hHeld hq5 (.int .i64 p0) (.int .i64 p1) (.int .i64 p2) (.int .i64 p3) (.int .i64 p4) (.int .i64 p5))
        clear hK K
        (try dsimp only [Act.put, List.setIfInBounds_toArray, List.set_cons_zero, List.set_cons_succ])
        refine wpAnyH_take (i := 13) (oi := _) (v := ?_) rfl (by kernel_rfl) (by kernel_rfl) (by kernel_rfl) (fun _ _ _ h => h) (Or.inl ⟨by kernel_rfl, ?_⟩) hHeld ?_
        rotate_left
        · intro w0 hSw; (try dsimp only at hSw); go_simp; (try with_reducible rfl)
        (try dsimp only [Act.put, List.setIfInBounds_toArray, List.set_cons_zero, List.set_cons_succ])
        refine wpAnyH_done (by kernel_rfl) ?_ _
        have BW : Below w3.heap.size w3 (set6 w5 wr.heap.size (.int .i64 p0) (.int .i64 p1) (.int .i64 p2) (.int .i64 p3) (.int .i64 p4) (.int .i64 p5)) := hHeld
        have c3 := (lb_set6 TQ p0 p1 p2 p3 p4 p5).c3
        obtain ⟨W, hW⟩ : ∃ W, set6 w5 wr.heap.size (.int .i64 p0) (.int .i64 p1) (.int .i64 p2) (.int .i64 p3) (.int .i64 p4) (.int .i64 p5) = W := ⟨_, rfl⟩
        rw [hW] at BW c3
        (try rw [hW])
        go_simp
        (try rw [hW])
        clear hW hHeld
        have FF := F3.out.below BW
        have q5 := FF.c5
        have q8 := FF.sz hlt
        have BW9 := Lib.hid BW
        clear FF BW
        rcases hcc with ⟨rfl, hp3, hh⟩ | ⟨rfl, hh⟩
        · have hhn := hh need
          rw [EH.out] at hhn
          clear hh hp3
          by_cases hn : need ≤ p3
          · rw [decide_eq_true hn] at hhn
            have HR9 := Lib.hid (HRS.out hhn)
            clear hhn
            go_wp2_with fail
            go_ret2
            exact ⟨by rw [HU.out, HR9.out.1]; exact sml_ok HR9.out.2, hX ▸ B3.out.trans (BW9.out.mono B3.out.size)⟩
          · rw [decide_eq_false hn] at hhn
            have HR9 := Lib.hid (HRM.out hhn)
            clear hhn
            go_wp2_with fail
            go_roundw
            case rel => exact ⟨i + 1, by omega, by go_num, HR9, BW9⟩
            case measure => simp [intOf]; omega
        · have hhn := hh need
          rw [EH.out] at hhn
          have HR9 := Lib.hid (HRM.out hhn)
          clear hhn hh
          go_wp2_with fail
          go_roundw
          case rel => exact ⟨i + 1, by omega, by go_num, HR9, BW9⟩
          case measure => simp [intOf]; omega
    · obtain rfl : i = (fsz k).length := by omega
      have E0 := hS.out
      rw [Nat.sub_self] at E0
      have HE0 := Lib.hid E0
      clear E0
      go_wp2_with fail
      go_ret2
      exact ⟨by rw [HU.out, ← HE0.out]; exact sml_err (by decide), hX ▸ B3.out.trans (hB.out.mono B3.out.size)⟩
end Go.Proofs.YtdcmebegnekkcaaGreat
/-
  The smallest size, in the program.
-/
namespace Go.Proofs.YtdcmebegnekkcaaGreat
open Go.RowKit
set_option linter.unusedVariables false

set_option maxHeartbeats 16000000 in
set_option maxRecDepth 100000 in
theorem implSmallestSize_at {k : Nat} (hk : k < 5) (lv : Int) (l : List UInt8) {w : World} {a c : Nat} (hR : FamR w k a c) :
    Calls Tryz.prog 120 #[fmV k a c, .int .i64 lv, .string (str l)] w fun e w' => SmlE (smlI k lv l) e ∧ Below w.heap.size w w' := by
  have hl := flv_len k
  have hsl := fsz_len k
  have hsz := str_size l
  have F0 := Lib.hid (FmB.new hR)
  have B0 := Lib.hid (below1 w (.cells (fcs k a c).toArray FmT))
  have HF := Lib.hid (fun (V : World) (hR : FamR V k a c) => implIsFamily_yes hk hR)
  have HV := Lib.hid (fun (V : World) (hR : FamR V k a c) => hasLevel_at hk (lv := lv) hR)
  have HM := Lib.hid (fun (V : World) => isMessage_any l V)
  have HU := Lib.hid (show smlI k lv l = if inR lv 0 (((flv k).length : Nat) - 1 : Int) = true ∧ l.length ≤ 400 ∧ payI k l ≤ 1500 then fstI (hitI k lv.toNat (payI k l)) (fsz k) (fsz k).length 0 else 0 from rfl)
  clear hR
  go_enter Tryz.func120, Tryz.ntmps120
  obtain ⟨X, hX⟩ : ∃ X, w.heap.size = X := ⟨_, rfl⟩
  obtain ⟨w1, hw1⟩ : ∃ w1, w.alloc (.cells (fcs k a c).toArray FmT) = w1 := ⟨_, rfl⟩
  rw [hw1, hX] at F0
  rw [hw1] at B0
  have hX1 := F0.out.lt
  have q0 := F0.out.c0
  have q1 := F0.out.c1
  have q2 := F0.out.c2
  have q3 := F0.out.c3
  have q4 := F0.out.c4
  have q5 := F0.out.c5
  have q6 := F0.out.c6
  have q7 := F0.out.c7
  go_wp2_with fail
  refine (HF.out _ F0.out.r).mono ?_
  rintro e1 w2 ⟨rfl, hb2⟩
  have F2 := Lib.hid (F0.out.below hb2)
  have B2 := Lib.hid (B0.out.trans (hb2.mono B0.out.size))
  clear hb2 hw1 F0 B0 q0 q1 q2 q3 q4 q5 q6 q7
  have q0 := F2.out.c0
  have q1 := F2.out.c1
  have q2 := F2.out.c2
  have q3 := F2.out.c3
  have q4 := F2.out.c4
  have q5 := F2.out.c5
  have q6 := F2.out.c6
  have q7 := F2.out.c7
  go_wp2_with fail
  refine (HV.out _ F2.out.r).mono ?_
  rintro e1 w3 ⟨rfl, hb3⟩
  have F3 := Lib.hid (F2.out.below hb3)
  have B3 := Lib.hid (B2.out.trans (hb3.mono B2.out.size))
  clear hb3 F2 B2 q0 q1 q2 q3 q4 q5 q6 q7
  cases hin : inR lv 0 ((((flv k).length : Nat) : Int) - 1) with
  | false =>
    rw [hin, if_neg (by simp)] at HU
    clear hin
    go_wp2_with fail
    go_ret2
    exact ⟨by rw [HU.out]; exact sml_err (by decide), hX ▸ B3.out⟩
  | true =>
  rw [hin] at HU
  obtain ⟨v, rfl⟩ := Int.eq_ofNat_of_zero_le (inR_iff.1 hin).1
  have hv : v < (flv k).length := by have := (inR_iff.1 hin).2; omega
  rw [show ((v : Int)).toNat = v from rfl] at HU
  clear hin
  go_wp2_with fail
  refine (HM.out _).mono ?_
  rintro e1 w4 ⟨rfl, rfl⟩
  by_cases h400 : l.length ≤ 400
  rotate_left
  · rw [if_neg (by omega)] at HU
    rw [decide_eq_false h400]
    go_wp2_with fail
    go_ret2
    exact ⟨by rw [HU.out]; exact sml_err (by decide), hX ▸ B3.out⟩
  rw [decide_eq_true h400]
  have HPS := Lib.hid (fun (V : World) => implPayloadSize_at hk h400 V)
  have HLO := Lib.hid (fun (i : Nat) (hi : i < (fsz k).length) (V : World) (hR : FamR V k a c) => implLayout_at hk hi hv hR)
  have HSN := Lib.hid (fun (i : Nat) (hi : i < (fsz k).length) => siz_nat hk hi)
  have HX4 := Lib.hid h400
  clear h400
  have q0 := F3.out.c0
  have q1 := F3.out.c1
  have q2 := F3.out.c2
  have q3 := F3.out.c3
  have q4 := F3.out.c4
  have q5 := F3.out.c5
  have q6 := F3.out.c6
  have q7 := F3.out.c7
  clear hX1
  have hX1 := F3.out.lt
  go_wp2_with fail
  refine (HPS.out _).mono ?_
  rintro e1 w4 ⟨hpay, hb4⟩
  have F4 := Lib.hid (F3.out.below hb4)
  have B4 := Lib.hid (B3.out.trans (hb4.mono B3.out.size))
  clear hb4 F3 B3 q0 q1 q2 q3 q4 q5 q6 q7 hX1
  have hX1 := F4.out.lt
  have q0 := F4.out.c0
  have q1 := F4.out.c1
  have q2 := F4.out.c2
  have q3 := F4.out.c3
  have q4 := F4.out.c4
  have q5 := F4.out.c5
  have q6 := F4.out.c6
  have q7 := F4.out.c7
  rcases hpay with ⟨hp, rfl⟩ | ⟨hp, rfl⟩
  rotate_left
  · rw [if_neg (by omega)] at HU
    clear hp
    go_wp2_with fail
    go_ret2
    exact ⟨by rw [HU.out]; exact sml_err (by decide), hX ▸ B4.out⟩
  rw [if_pos ⟨by trivial, HX4.out, hp⟩] at HU
  clear hp
  generalize payI k l = need at *
  obtain ⟨H, hH⟩ : ∃ H, hitI k v need = H := ⟨_, rfl⟩
  have EH := Lib.hid (show ∀ i, H i = (layB 2 ((fpw k : Nat) : Int) (fg0 k) (datI k i v) (chkI k i v) (blkI k i) && decide (need ≤ datI k i v)) from fun i => by rw [← hH]; rfl)
  rw [hH] at HU
  clear hH
  obtain ⟨R, hRR⟩ : ∃ R, fstI H (fsz k) (fsz k).length 0 = R := ⟨_, rfl⟩
  rw [hRR] at HU
  have HR0 := Lib.hid hRR
  clear hRR
  go_wp2_with fail
  go_loopw [35] (fun ti wr => ∃ i : Nat, i ≤ (fsz k).length ∧ ti = .int .i64 (i : Int) ∧ Hid (fstI H (fsz k) ((fsz k).length - i) i = R) ∧ Hid (Below w4.heap.size w4 wr)) (fun ti _ => (fsz k).length - (intOf ti).toNat)
  case atStart => exact ⟨0, by omega, rfl, Lib.hid HR0.out, Lib.hid (Below.refl _ _)⟩
  case round =>
    obtain ⟨i, hi, rfl, hS, hB⟩ := hrel
    have FW := Lib.hid (F4.out.below hB.out)
    clear q0 q1 q2 q3 q4 q5 q6 q7
    by_cases hlt : i < (fsz k).length
    · have HC := Lib.hid (HLO.out i hlt)
      have HRS := Lib.hid (show H i = true → R = gi (fsz k) i ∧ gi (fsz k) i ≠ 0 from fun h => ⟨by rw [← hS.out, fst_hit hlt h], by obtain ⟨n, h1, h2, h3, h4, h5⟩ := HSN.out i hlt; omega⟩)
      have HRM := Lib.hid (show H i = false → fstI H (fsz k) ((fsz k).length - (i + 1)) (i + 1) = R from fun h => by rw [← hS.out, fst_miss hlt h])
      have hli : (i : Int) < (((fsz k).length : Nat) : Int) := by omega
      have q8 := FW.out.sz hlt
      have q0 := FW.out.c0
      have q1 := FW.out.c1
      have q2 := FW.out.c2
      have q3 := FW.out.c3
      have q4 := FW.out.c4
      have q5 := FW.out.c5
      have q6 := FW.out.c6
      have q7 := FW.out.c7
      have HH := Lib.hid (EH.out i)
      generalize gi (fsz k) i = sz at *
      go_wp2_with fail
      refine (HC.out _ FW.out.r).mono ?_
      rintro e1 w5 ⟨rfl, hb5⟩
      have HIS := Lib.hid (fun (V : World) => implIsLayout_any 2 ((fpw k : Nat) : Int) (fg0 k) (datI k i v) (chkI k i v) (blkI k i) V)
      generalize datI k i v = d at *
      generalize chkI k i v = ck at *
      generalize blkI k i = bk at *
      have B5 := Lib.hid (hB.out.trans (hb5.mono hB.out.size))
      have B6 := Lib.hid (B5.out.trans ((below1 w5 (.cells #[.int .i64 2, .int .i64 ((fpw k : Nat) : Int), .int .i64 (fg0 k), .int .i64 d, .int .i64 ck, .int .i64 bk] LT)).mono B5.out.size))
      clear hb5 q0 q1 q2 q3 q4 q5 q6 q7 q8
      go_wp2_with fail
      refine (HIS.out _).mono ?_
      rintro e1 w6 ⟨rfl, hb6⟩
      have L6 := Lib.hid ((LB.new w5 2 ((fpw k : Nat) : Int) (fg0 k) d ck bk).below hb6 (LB.new w5 2 ((fpw k : Nat) : Int) (fg0 k) d ck bk).lt)
      have B7 := Lib.hid (B6.out.trans (hb6.mono B6.out.size))
      generalize w5.heap.size = Q at *
      have l3 := L6.out.c3
      clear hb6
      cases hlb : layB 2 ((fpw k : Nat) : Int) (fg0 k) d ck bk with
      | true =>
        rw [hlb] at HH
        clear hlb
        by_cases hn : need ≤ d
        · have HR9 := Lib.hid (HRS.out (by rw [HH.out, decide_eq_true hn]; rfl))
          go_wp2_with fail
          go_ret2
          exact ⟨by rw [HU.out, HR9.out.1]; exact sml_ok HR9.out.2, hX ▸ B4.out.trans (B7.out.mono B4.out.size)⟩
        · have HR9 := Lib.hid (HRM.out (by rw [HH.out, decide_eq_false hn]; rfl))
          go_wp2_with fail
          go_roundw
          case rel => exact ⟨i + 1, by omega, by go_num, HR9, B7⟩
          case measure => simp [intOf]; omega
      | false =>
        rw [hlb] at HH
        clear hlb
        have HR9 := Lib.hid (HRM.out (by rw [HH.out]; rfl))
        go_wp2_with fail
        go_roundw
        case rel => exact ⟨i + 1, by omega, by go_num, HR9, B7⟩
        case measure => simp [intOf]; omega
    · obtain rfl : i = (fsz k).length := by omega
      have E0 := hS.out
      rw [Nat.sub_self] at E0
      have HE0 := Lib.hid E0
      clear E0
      go_wp2_with fail
      go_ret2
      exact ⟨by rw [HU.out, ← HE0.out]; exact sml_err (by decide), hX ▸ B4.out.trans (hB.out.mono B4.out.size)⟩
end Go.Proofs.YtdcmebegnekkcaaGreat
