/-
  The parts Boxf, Itm, FrameIt.
-/
import Derived.Test.YtdcmebegnekkcaaGreatBoxy
import Derived.Deep.Slices
import Derived.Deep.Fields
import Derived.ChangeSame
import Derived.Lib.SmallJoins
/-
  Boxes of symbols and of items, in the program.
-/
namespace Go.Proofs.YtdcmebegnekkcaaGreat
open Go.RowKit
set_option linter.unusedVariables false

def SybE (x : It) (e : Ending) : Prop := (scaledB x = true ∧ symZ x ≠ 0 ∧ e = .returned (.tuple #[.int .i64 (symZ x * x.sc), .int .i64 (colZ x * x.sc), .bool true])) ∨ ((scaledB x && decide (symZ x ≠ 0)) = false ∧ e = .returned (.tuple #[.int .i64 0, .int .i64 0, .bool false]))
set_option maxHeartbeats 16000000 in
set_option maxRecDepth 100000 in
theorem symbolBox_any (x : It) (w : World) :
    Calls Tryz.prog 115 #[itV x] w fun e w' => SybE x e ∧ Below w.heap.size w w' := by
  have I0 := Lib.hid (ItB.new w x 106)
  have B0 := Lib.hid (below1 w (.cells (itL x).toArray 106))
  have HSI := Lib.hid (fun (V : World) => strIndex_any x.tx V)
  have HZ := Lib.hid (show symZ x = if x.tx.count 10 = 0 then (if fix x.nm < 5 then smlI (fix x.nm) x.lv x.tx else 0) else 0 from rfl)
  have HCZ := Lib.hid (show colZ x = colI (fix x.nm) (symZ x) from rfl)
  have HSB := Lib.hid (show scaledB x = (inR x.sc 1 8 && (decide (x.tl = 0) && decide (x.wd = 0))) from rfl)
  have HP := Lib.hid (show ∀ e, SybE x e = ((scaledB x = true ∧ symZ x ≠ 0 ∧ e = .returned (.tuple #[.int .i64 (symZ x * x.sc), .int .i64 (colZ x * x.sc), .bool true])) ∨ ((scaledB x && decide (symZ x ≠ 0)) = false ∧ e = .returned (.tuple #[.int .i64 0, .int .i64 0, .bool false]))) from fun _ => rfl)
  have hzb := sym_bd x
  have hcb := col_bd x
  go_enter Tryz.func115, Tryz.ntmps115
  obtain ⟨X, hX⟩ : ∃ X, w.heap.size = X := ⟨_, rfl⟩
  obtain ⟨w1, hw1⟩ : ∃ w1, w.alloc (.cells (itL x).toArray 106) = w1 := ⟨_, rfl⟩
  rw [hw1, hX] at I0
  rw [hw1] at B0
  have hX1 := I0.out.lt
  have i0 := I0.out.c0
  have i1 := I0.out.c1
  have i2 := I0.out.c2
  have i3 := I0.out.c3
  have i4 := I0.out.c4
  have i5 := I0.out.c5
  have i6 := I0.out.c6
  have i7 := I0.out.c7
  have i8 := I0.out.c8
  go_wp2_with fail
  refine (inRange_any _ _ _ _).mono ?_
  rintro e w2 ⟨rfl, rfl⟩
  cases h2 : inR x.sc 1 8 with
  | false =>
    have HNO := Lib.hid (show (scaledB x && decide (symZ x ≠ 0)) = false from by rw [HSB.out, h2]; simp)
    clear h2
    go_wp2_with fail
    go_ret3
    exact ⟨by rw [HP.out]; exact .inr ⟨HNO.out, rfl⟩, hX ▸ B0.out⟩
  | true =>
  obtain ⟨s1, s2⟩ := inR_iff.1 h2
  rw [h2] at HSB
  clear h2
  by_cases h3 : x.tl = 0
  rotate_left
  · have e3 : (x.tl != 0) = true := by simp [h3]
    replace h3 := decide_eq_false h3
    have HNO := Lib.hid (show (scaledB x && decide (symZ x ≠ 0)) = false from by rw [HSB.out, h3]; simp)
    clear h3
    go_wp2_with fail
    go_ret3
    exact ⟨by rw [HP.out]; exact .inr ⟨HNO.out, rfl⟩, hX ▸ B0.out⟩
  have e3 : (x.tl != 0) = false := by simp [h3]
  rw [decide_eq_true h3] at HSB
  clear h3
  by_cases h4 : x.wd = 0
  rotate_left
  · have e4 : (x.wd != 0) = true := by simp [h4]
    replace h4 := decide_eq_false h4
    have HNO := Lib.hid (show (scaledB x && decide (symZ x ≠ 0)) = false from by rw [HSB.out, h4]; simp)
    clear h4
    go_wp2_with fail
    go_ret3
    exact ⟨by rw [HP.out]; exact .inr ⟨HNO.out, rfl⟩, hX ▸ B0.out⟩
  have e4 : (x.wd != 0) = false := by simp [h4]
  rw [decide_eq_true h4] at HSB
  clear h4
  go_wp2_with fail
  refine (HSI.out _).mono ?_
  rintro e w2 ⟨⟨z0, rfl, hz0⟩, rfl⟩
  by_cases hcn : x.tx.count 10 = 0
  rotate_left
  · have hge : 0 ≤ z0 := hz0.2 hcn
    have HZ0 := Lib.hid (show symZ x = 0 from by rw [HZ.out, if_neg hcn])
    have HNO := Lib.hid (show (scaledB x && decide (symZ x ≠ 0)) = false from by rw [decide_eq_false (fun h => h HZ0.out), Bool.and_false])
    clear hcn hz0
    go_wp2_with fail
    go_ret3
    exact ⟨by rw [HP.out]; exact .inr ⟨HNO.out, rfl⟩, hX ▸ B0.out⟩
  have hge : ¬ 0 ≤ z0 := fun h => (hz0.1 h) hcn
  rw [if_pos hcn] at HZ
  clear hcn hz0
  go_wp2_with fail
  refine (implFamilyNamed_any x.nm _).mono ?_
  rintro e w2 ⟨hb2, hfam⟩
  have I2 := Lib.hid (I0.out.below hb2)
  have B2 := Lib.hid (B0.out.trans (hb2.mono B0.out.size))
  clear hb2 hw1 I0 B0 hX1 i0 i1 i2 i3 i4 i5 i6 i7 i8 hge
  have hX1 := I2.out.lt
  have i0 := I2.out.c0
  have i1 := I2.out.c1
  have i2 := I2.out.c2
  have i3 := I2.out.c3
  have i4 := I2.out.c4
  have i5 := I2.out.c5
  have i6 := I2.out.c6
  have i7 := I2.out.c7
  have i8 := I2.out.c8
  rcases hfam with ⟨k, a, c, hk, hnm, rfl, hR⟩ | ⟨hno, rfl⟩
  rotate_left
  · have hfix := fix_none hno
    have HZ0 := Lib.hid (show symZ x = 0 from by rw [HZ.out, if_neg hfix])
    have HNO := Lib.hid (show (scaledB x && decide (symZ x ≠ 0)) = false from by rw [decide_eq_false (fun h => h HZ0.out), Bool.and_false])
    have B3 := Lib.hid (B2.out.trans ((below1 w2 (.cells fmZ FmT)).mono B2.out.size))
    clear hfix hno
    go_wp2_with fail
    go_ret3
    exact ⟨by rw [HP.out]; exact .inr ⟨HNO.out, rfl⟩, hX ▸ B3.out⟩
  have hfix : fix x.nm = k := by rw [hnm]; exact fix_fnm hk
  rw [hfix, if_pos hk] at HZ
  rw [hfix] at HCZ
  rw [show fmV k a c = .agg #[.string (str (fnm k)), .int .i64 (fkd k), .int .i64 2, .int .i64 ((fpw k : Nat) : Int), .int .i64 (fg0 k), .slice (some ⟨a, 0, none⟩) (fsz k).length (fsz k).length, .int .i64 (fco k), .slice (some ⟨c, 0, none⟩) (flv k).length (flv k).length] from rfl]
  have FQ := Lib.hid (show FmB (w2.alloc (.cells #[.string (str (fnm k)), .int .i64 (fkd k), .int .i64 2, .int .i64 ((fpw k : Nat) : Int), .int .i64 (fg0 k), .slice (some ⟨a, 0, none⟩) (fsz k).length (fsz k).length, .int .i64 (fco k), .slice (some ⟨c, 0, none⟩) (flv k).length (flv k).length] FmT)) w2.heap.size k a c from FmB.new hR)
  have I3 := Lib.hid (I2.out.below (below1 w2 (.cells #[.string (str (fnm k)), .int .i64 (fkd k), .int .i64 2, .int .i64 ((fpw k : Nat) : Int), .int .i64 (fg0 k), .slice (some ⟨a, 0, none⟩) (fsz k).length (fsz k).length, .int .i64 (fco k), .slice (some ⟨c, 0, none⟩) (flv k).length (flv k).length] FmT)))
  have B3 := Lib.hid (B2.out.trans ((below1 w2 (.cells #[.string (str (fnm k)), .int .i64 (fkd k), .int .i64 2, .int .i64 ((fpw k : Nat) : Int), .int .i64 (fg0 k), .slice (some ⟨a, 0, none⟩) (fsz k).length (fsz k).length, .int .i64 (fco k), .slice (some ⟨c, 0, none⟩) (flv k).length (flv k).length] FmT)).mono B2.out.size))
  clear hfix hnm
  go_wp2_with fail
  refine (implSmallestSize_at hk x.lv x.tx (show FamR _ k a c from FQ.out.r)).mono ?_
  rintro e w5 ⟨⟨c5, rfl, hc5⟩, hb5⟩
  have FQ5 := Lib.hid (FQ.out.below hb5)
  have I5 := Lib.hid (I3.out.below hb5)
  have B5 := Lib.hid (B3.out.trans (hb5.mono B3.out.size))
  generalize w2.heap.size = Q at *
  clear hb5 FQ I3 B3 I2 B2 hR hX1 i0 i1 i2 i3 i4 i5 i6 i7 i8
  have hX1 := I5.out.lt
  have hQ1 := FQ5.out.lt
  have i0 := I5.out.c0
  have i1 := I5.out.c1
  have i2 := I5.out.c2
  have i3 := I5.out.c3
  have i4 := I5.out.c4
  have i5 := I5.out.c5
  have i6 := I5.out.c6
  have i7 := I5.out.c7
  have i8 := I5.out.c8
  have q0 := FQ5.out.c0
  have q1 := FQ5.out.c1
  have q2 := FQ5.out.c2
  have q3 := FQ5.out.c3
  have q4 := FQ5.out.c4
  have q5 := FQ5.out.c5
  have q6 := FQ5.out.c6
  have q7 := FQ5.out.c7
  rw [← HZ.out] at hc5 ⊢
  by_cases hz : symZ x = 0
  · have hc : (c5 != 0) = true := by simp only [bne_iff_ne, ne_eq]; intro h; exact (hc5.1 h) hz
    have HZ0 := Lib.hid hz
    have HNO := Lib.hid (show (scaledB x && decide (symZ x ≠ 0)) = false from by rw [decide_eq_false (fun h => h HZ0.out), Bool.and_false])
    clear hz hc5
    go_wp2_with fail
    go_ret3
    exact ⟨by rw [HP.out]; exact .inr ⟨HNO.out, rfl⟩, hX ▸ B5.out⟩
  have hc : (c5 != 0) = false := by simp only [bne_eq_false_iff_eq]; exact hc5.2 hz
  have HZ0 := Lib.hid hz
  have HSC := Lib.hid (show scaledB x = true from by rw [HSB.out]; rfl)
  clear hz hc5
  obtain ⟨r1, r2⟩ := mul_bd hzb.1 hzb.2 (show 0 ≤ x.sc by omega) s2 (by omega)
  obtain ⟨r3, r4⟩ := mul_bd hcb.1 hcb.2 (show 0 ≤ x.sc by omega) s2 (by omega)
  have HKT := Lib.hid (show knT k = if k ≤ 2 then MxT else StT from rfl)
  have HCI := Lib.hid (show ∀ z, colI k z = if k ≤ 2 then z else 15 + 11 * (fco k + 2) from fun _ => rfl)
  have HKI := Lib.hid (fun (V : World) => kind_any (k := k) a c V)
  obtain ⟨p1, hp1⟩ : ∃ p, symZ x * x.sc = p := ⟨_, rfl⟩
  obtain ⟨p2, hp2⟩ : ∃ p, colZ x * x.sc = p := ⟨_, rfl⟩
  rw [hp1] at r1 r2 HP
  rw [hp2] at r3 r4 HP
  have HW1 := Lib.hid (show IntKind.i64.wrap p1 = p1 from (wrp (by omega)).2)
  have HW2 := Lib.hid (show IntKind.i64.wrap p2 = p2 from (wrp (by omega)).2)
  by_cases hk2 : k ≤ 2
  · rw [if_pos hk2] at HKT
    rw [HCZ.out] at hp2 
    rw [HCI.out, if_pos hk2] at hp2
    have HE12 := Lib.hid (show p2 = p1 from hp2.symm.trans hp1)
    clear hp2
    have hm := fun V => mColsM k a c V
    have hn := fun V => mNilM k a c V
    rw [HKT.out] at HKI
    generalize symZ x = z at *
    go_wp2_with fail
    refine wp_region_S (S := (fun w' => Below w5.heap.size w5 w')) 16 rfl (by kernel_rfl) ?_ (fun hHeld => ?_)
    · (try dsimp only); exact (Below.refl _ _).drew
    refine wpAnyH_take (i := 0) (oi := _) (v := ?_) rfl (by kernel_rfl) (by kernel_rfl) (by kernel_rfl) (fun _ _ _ h => h) (Or.inl ⟨by kernel_rfl, ?_⟩) hHeld ?_
    rotate_left
    · intro w0 hSw; (try dsimp only at hSw); go_simp; (try with_reducible rfl)
    (try dsimp only [Act.put, List.setIfInBounds_toArray, List.set_cons_zero, List.set_cons_succ])
    refine wpAnyH_take (i := 1) (oi := _) (v := ?_) rfl (by kernel_rfl) (by kernel_rfl) (by kernel_rfl) (fun _ _ _ h => h) (Or.inl ⟨by kernel_rfl, ?_⟩) hHeld ?_
    rotate_left
    · intro w0 hSw; (try dsimp only at hSw); go_simp; (try with_reducible rfl)
    (try dsimp only [Act.put, List.setIfInBounds_toArray, List.set_cons_zero, List.set_cons_succ])
    refine wpAnyH_take (i := 2) (oi := _) (v := ?_) rfl (by kernel_rfl) (by kernel_rfl) (by kernel_rfl) (fun _ _ _ h => h) (Or.inl ⟨by kernel_rfl, ?_⟩) hHeld ?_
    rotate_left
    · intro w0 hSw; (try dsimp only at hSw); go_simp; (try with_reducible rfl)
    (try dsimp only [Act.put, List.setIfInBounds_toArray, List.set_cons_zero, List.set_cons_succ])
    refine wpAnyH_take (i := 3) (oi := _) (v := ?_) rfl (by kernel_rfl) (by kernel_rfl) (by kernel_rfl) (fun _ _ _ h => h) (Or.inl ⟨by kernel_rfl, ?_⟩) hHeld ?_
    rotate_left
    · intro w0 hSw; (try dsimp only at hSw); have FF := FQ5.out.below hSw; have II := I5.out.below hSw; have r0 := II.c3; go_simp; (try with_reducible rfl)
    (try dsimp only [Act.put, List.setIfInBounds_toArray, List.set_cons_zero, List.set_cons_succ])
    refine wpAnyH_take (i := 4) (oi := _) (v := ?_) rfl (by kernel_rfl) (by kernel_rfl) (by kernel_rfl) (fun _ _ _ h => h) (Or.inl ⟨by kernel_rfl, ?_⟩) hHeld ?_
    rotate_left
    · intro w0 hSw; (try dsimp only at hSw); go_simp; (try with_reducible rfl)
    (try dsimp only [Act.put, List.setIfInBounds_toArray, List.set_cons_zero, List.set_cons_succ])
    refine wpAnyH_take (i := 5) (oi := _) (v := ?_) rfl (by kernel_rfl) (by kernel_rfl) (by kernel_rfl) (fun _ _ _ h => h) (Or.inl ⟨by kernel_rfl, ?_⟩) hHeld ?_
    rotate_left
    · intro w0 hSw; (try dsimp only at hSw); have FF := FQ5.out.below hSw; have II := I5.out.below hSw; have r0 := FF.c0; have r1 := FF.c1; have r2 := FF.c2; have r3 := FF.c3; have r4 := FF.c4; have r5 := FF.c5; have r6 := FF.c6; have r7 := FF.c7; go_simp; (try with_reducible rfl)
    (try dsimp only [Act.put, List.setIfInBounds_toArray, List.set_cons_zero, List.set_cons_succ])
    refine wpAnyH_take (i := 7) (oi := _) (v := ?_) rfl (by kernel_rfl) (by kernel_rfl) (by kernel_rfl) (fun _ _ _ h => h) (Or.inl ⟨by kernel_rfl, ?_⟩) hHeld ?_
    rotate_left
    · intro w0 hSw; (try dsimp only at hSw); go_simp; (try with_reducible rfl)
    (try dsimp only [Act.put, List.setIfInBounds_toArray, List.set_cons_zero, List.set_cons_succ])
    refine wpAnyH_take (i := 9) (oi := _) (v := ?_) rfl (by kernel_rfl) (by kernel_rfl) (by kernel_rfl) (fun _ _ _ h => h) (Or.inl ⟨by kernel_rfl, ?_⟩) hHeld ?_
    rotate_left
    · intro w0 hSw; (try dsimp only at hSw); go_simp; (try with_reducible rfl)
    (try dsimp only [Act.put, List.setIfInBounds_toArray, List.set_cons_zero, List.set_cons_succ])
    refine wpAnyH_take (i := 10) (oi := _) (v := ?_) rfl (by kernel_rfl) (by kernel_rfl) (by kernel_rfl) (fun _ _ _ h => h) (Or.inl ⟨by kernel_rfl, ?_⟩) hHeld ?_
    rotate_left
    · intro w0 hSw; (try dsimp only at hSw); go_simp; (try with_reducible rfl)
    (try dsimp only [Act.put, List.setIfInBounds_toArray, List.set_cons_zero, List.set_cons_succ])
    refine wpAnyH_take (i := 11) (oi := _) (v := ?_) rfl (by kernel_rfl) (by kernel_rfl) (by kernel_rfl) (fun _ _ _ h => h) (Or.inl ⟨by kernel_rfl, ?_⟩) hHeld ?_
    rotate_left
    · intro w0 hSw; (try dsimp only at hSw); have FF := FQ5.out.below hSw; have II := I5.out.below hSw; have r0 := II.c3; go_simp; (try with_reducible rfl)
    (try dsimp only [Act.put, List.setIfInBounds_toArray, List.set_cons_zero, List.set_cons_succ])
    refine wpAnyH_ready (rs := [6]) (by kernel_rfl) (by simp) ?_
    refine AllReadyH.cons (o := _) rfl (fun K hK => ?_) AllReadyH.nil
    go_simp
    refine (HKI.out _).mono ?_
    rintro e w6 ⟨rfl, hb6⟩
    go_wp2_with fail
    refine hK.out _ _ ?_ (fun hHeld => ?_)
    · (try dsimp only); exact hHeld.trans (hb6.mono hHeld.size)
    clear hK K
    (try dsimp only [Act.put, List.setIfInBounds_toArray, List.set_cons_zero, List.set_cons_succ])
    refine wpAnyH_ready (rs := [8]) (by kernel_rfl) (by simp) ?_
    refine AllReadyH.cons (o := _) rfl (fun K hK => ?_) AllReadyH.nil
    go_simp
    refine (matrixCols_any k a c z _).mono ?_
    rintro e w7 ⟨rfl, hb7⟩
    go_wp2_with fail
    refine hK.out _ _ ?_ (fun hHeld => ?_)
    · (try dsimp only); exact hHeld.trans (hb7.mono hHeld.size)
    clear hK K
    (try dsimp only [Act.put, List.setIfInBounds_toArray, List.set_cons_zero, List.set_cons_succ])
    refine wpAnyH_take (i := 12) (oi := _) (v := ?_) rfl (by kernel_rfl) (by kernel_rfl) (by kernel_rfl) (fun _ _ _ h => h) (Or.inl ⟨by kernel_rfl, ?_⟩) hHeld ?_
    rotate_left
    · intro w0 hSw; (try dsimp only at hSw); go_simp; (try with_reducible rfl)
    (try dsimp only [Act.put, List.setIfInBounds_toArray, List.set_cons_zero, List.set_cons_succ])
    refine wpAnyH_take (i := 13) (oi := _) (v := ?_) rfl (by kernel_rfl) (by kernel_rfl) (by kernel_rfl) (fun _ _ _ h => h) (Or.inl ⟨by kernel_rfl, ?_⟩) hHeld ?_
    rotate_left
    · intro w0 hSw; (try dsimp only at hSw); go_simp; (try with_reducible rfl)
    (try dsimp only [Act.put, List.setIfInBounds_toArray, List.set_cons_zero, List.set_cons_succ])
    refine wpAnyH_take (i := 14) (oi := _) (v := ?_) rfl (by kernel_rfl) (by kernel_rfl) (by kernel_rfl) (fun _ _ _ h => h) (Or.inl ⟨by kernel_rfl, ?_⟩) hHeld ?_
    rotate_left
    · intro w0 hSw; (try dsimp only at hSw); go_simp; (try with_reducible rfl)
    (try dsimp only [Act.put, List.setIfInBounds_toArray, List.set_cons_zero, List.set_cons_succ])
    refine wpAnyH_take (i := 15) (oi := _) (v := ?_) rfl (by kernel_rfl) (by kernel_rfl) (by kernel_rfl) (fun _ _ _ h => h) (Or.inl ⟨by kernel_rfl, ?_⟩) hHeld ?_
    rotate_left
    · intro w0 hSw; (try dsimp only at hSw); go_simp; (try with_reducible rfl)
    (try dsimp only [Act.put, List.setIfInBounds_toArray, List.set_cons_zero, List.set_cons_succ])
    refine wpAnyH_done (by kernel_rfl) ?_ _
    go_simp
    have B7 := Lib.hid (B5.out.trans (((Below.refl w5.heap.size w5).drew.trans (hb6.trans (hb7.mono hb6.size))).mono B5.out.size))
    clear hb6 hb7 hm hn hHeld
    go_wp2_with fail
    go_ret3
    exact ⟨by rw [HP.out]; exact .inl ⟨HSC.out, HZ0.out, by rw [HE12.out, HW1.out]; rfl⟩, hX ▸ B7.out⟩
  · rw [if_neg hk2] at HKT
    rw [HCZ.out] at hp2
    rw [HCI.out, if_neg hk2] at hp2
    have hm := fun V => mColsS k a c V
    have hn := fun V => mNilS k a c V
    rw [HKT.out] at HKI
    generalize symZ x = z at *
    have HCS := Lib.hid (fun (V : World) => stackedCols_any hk a c z V)
    generalize 15 + 11 * (fco k + 2) = cc at *
    go_wp2_with fail
    refine wp_region_S (S := (fun w' => Below w5.heap.size w5 w')) 16 rfl (by kernel_rfl) ?_ (fun hHeld => ?_)
    · (try dsimp only); exact (Below.refl _ _).drew
    refine wpAnyH_take (i := 0) (oi := _) (v := ?_) rfl (by kernel_rfl) (by kernel_rfl) (by kernel_rfl) (fun _ _ _ h => h) (Or.inl ⟨by kernel_rfl, ?_⟩) hHeld ?_
    rotate_left
    · intro w0 hSw; (try dsimp only at hSw); go_simp; (try with_reducible rfl)
    (try dsimp only [Act.put, List.setIfInBounds_toArray, List.set_cons_zero, List.set_cons_succ])
    refine wpAnyH_take (i := 1) (oi := _) (v := ?_) rfl (by kernel_rfl) (by kernel_rfl) (by kernel_rfl) (fun _ _ _ h => h) (Or.inl ⟨by kernel_rfl, ?_⟩) hHeld ?_
    rotate_left
    · intro w0 hSw; (try dsimp only at hSw); go_simp; (try with_reducible rfl)
    (try dsimp only [Act.put, List.setIfInBounds_toArray, List.set_cons_zero, List.set_cons_succ])
    refine wpAnyH_take (i := 2) (oi := _) (v := ?_) rfl (by kernel_rfl) (by kernel_rfl) (by kernel_rfl) (fun _ _ _ h => h) (Or.inl ⟨by kernel_rfl, ?_⟩) hHeld ?_
    rotate_left
    · intro w0 hSw; (try dsimp only at hSw); go_simp; (try with_reducible rfl)
    (try dsimp only [Act.put, List.setIfInBounds_toArray, List.set_cons_zero, List.set_cons_succ])
    refine wpAnyH_take (i := 3) (oi := _) (v := ?_) rfl (by kernel_rfl) (by kernel_rfl) (by kernel_rfl) (fun _ _ _ h => h) (Or.inl ⟨by kernel_rfl, ?_⟩) hHeld ?_
    rotate_left
    · intro w0 hSw; (try dsimp only at hSw); have FF := FQ5.out.below hSw; have II := I5.out.below hSw; have r0 := II.c3; go_simp; (try with_reducible rfl)
    (try dsimp only [Act.put, List.setIfInBounds_toArray, List.set_cons_zero, List.set_cons_succ])
    refine wpAnyH_take (i := 4) (oi := _) (v := ?_) rfl (by kernel_rfl) (by kernel_rfl) (by kernel_rfl) (fun _ _ _ h => h) (Or.inl ⟨by kernel_rfl, ?_⟩) hHeld ?_
    rotate_left
    · intro w0 hSw; (try dsimp only at hSw); go_simp; (try with_reducible rfl)
    (try dsimp only [Act.put, List.setIfInBounds_toArray, List.set_cons_zero, List.set_cons_succ])
    refine wpAnyH_take (i := 5) (oi := _) (v := ?_) rfl (by kernel_rfl) (by kernel_rfl) (by kernel_rfl) (fun _ _ _ h => h) (Or.inl ⟨by kernel_rfl, ?_⟩) hHeld ?_
    rotate_left
    · intro w0 hSw; (try dsimp only at hSw); have FF := FQ5.out.below hSw; have II := I5.out.below hSw; have r0 := FF.c0; have r1 := FF.c1; have r2 := FF.c2; have r3 := FF.c3; have r4 := FF.c4; have r5 := FF.c5; have r6 := FF.c6; have r7 := FF.c7; go_simp; (try with_reducible rfl)
    (try dsimp only [Act.put, List.setIfInBounds_toArray, List.set_cons_zero, List.set_cons_succ])
    refine wpAnyH_take (i := 7) (oi := _) (v := ?_) rfl (by kernel_rfl) (by kernel_rfl) (by kernel_rfl) (fun _ _ _ h => h) (Or.inl ⟨by kernel_rfl, ?_⟩) hHeld ?_
    rotate_left
    · intro w0 hSw; (try dsimp only at hSw); go_simp; (try with_reducible rfl)
    (try dsimp only [Act.put, List.setIfInBounds_toArray, List.set_cons_zero, List.set_cons_succ])
    refine wpAnyH_take (i := 9) (oi := _) (v := ?_) rfl (by kernel_rfl) (by kernel_rfl) (by kernel_rfl) (fun _ _ _ h => h) (Or.inl ⟨by kernel_rfl, ?_⟩) hHeld ?_
    rotate_left
    · intro w0 hSw; (try dsimp only at hSw); go_simp; (try with_reducible rfl)
    (try dsimp only [Act.put, List.setIfInBounds_toArray, List.set_cons_zero, List.set_cons_succ])
    refine wpAnyH_take (i := 10) (oi := _) (v := ?_) rfl (by kernel_rfl) (by kernel_rfl) (by kernel_rfl) (fun _ _ _ h => h) (Or.inl ⟨by kernel_rfl, ?_⟩) hHeld ?_
    rotate_left
    · intro w0 hSw; (try dsimp only at hSw); go_simp; (try with_reducible rfl)
    (try dsimp only [Act.put, List.setIfInBounds_toArray, List.set_cons_zero, List.set_cons_succ])
    refine wpAnyH_take (i := 11) (oi := _) (v := ?_) rfl (by kernel_rfl) (by kernel_rfl) (by kernel_rfl) (fun _ _ _ h => h) (Or.inl ⟨by kernel_rfl, ?_⟩) hHeld ?_
    rotate_left
    · intro w0 hSw; (try dsimp only at hSw); have FF := FQ5.out.below hSw; have II := I5.out.below hSw; have r0 := II.c3; go_simp; (try with_reducible rfl)
    (try dsimp only [Act.put, List.setIfInBounds_toArray, List.set_cons_zero, List.set_cons_succ])
    refine wpAnyH_ready (rs := [6]) (by kernel_rfl) (by simp) ?_
    refine AllReadyH.cons (o := _) rfl (fun K hK => ?_) AllReadyH.nil
    go_simp
    refine (HKI.out _).mono ?_
    rintro e w6 ⟨rfl, hb6⟩
    go_wp2_with fail
    refine hK.out _ _ ?_ (fun hHeld => ?_)
    · (try dsimp only); exact hHeld.trans (hb6.mono hHeld.size)
    clear hK K
    (try dsimp only [Act.put, List.setIfInBounds_toArray, List.set_cons_zero, List.set_cons_succ])
    refine wpAnyH_ready (rs := [8]) (by kernel_rfl) (by simp) ?_
    refine AllReadyH.cons (o := _) rfl (fun K hK => ?_) AllReadyH.nil
    go_simp
    refine (HCS.out _).mono ?_
    rintro e w7 ⟨rfl, hb7⟩
    go_wp2_with fail
    refine hK.out _ _ ?_ (fun hHeld => ?_)
    · (try dsimp only); exact hHeld.trans (hb7.mono hHeld.size)
    clear hK K
    (try dsimp only [Act.put, List.setIfInBounds_toArray, List.set_cons_zero, List.set_cons_succ])
    refine wpAnyH_take (i := 12) (oi := _) (v := ?_) rfl (by kernel_rfl) (by kernel_rfl) (by kernel_rfl) (fun _ _ _ h => h) (Or.inl ⟨by kernel_rfl, ?_⟩) hHeld ?_
    rotate_left
    · intro w0 hSw; (try dsimp only at hSw); go_simp; (try with_reducible rfl)
    (try dsimp only [Act.put, List.setIfInBounds_toArray, List.set_cons_zero, List.set_cons_succ])
    refine wpAnyH_take (i := 13) (oi := _) (v := ?_) rfl (by kernel_rfl) (by kernel_rfl) (by kernel_rfl) (fun _ _ _ h => h) (Or.inl ⟨by kernel_rfl, ?_⟩) hHeld ?_
    rotate_left
    · intro w0 hSw; (try dsimp only at hSw); go_simp; (try with_reducible rfl)
    (try dsimp only [Act.put, List.setIfInBounds_toArray, List.set_cons_zero, List.set_cons_succ])
    refine wpAnyH_take (i := 14) (oi := _) (v := ?_) rfl (by kernel_rfl) (by kernel_rfl) (by kernel_rfl) (fun _ _ _ h => h) (Or.inl ⟨by kernel_rfl, ?_⟩) hHeld ?_
    rotate_left
    · intro w0 hSw; (try dsimp only at hSw); go_simp; (try with_reducible rfl)
    (try dsimp only [Act.put, List.setIfInBounds_toArray, List.set_cons_zero, List.set_cons_succ])
    refine wpAnyH_take (i := 15) (oi := _) (v := ?_) rfl (by kernel_rfl) (by kernel_rfl) (by kernel_rfl) (fun _ _ _ h => h) (Or.inl ⟨by kernel_rfl, ?_⟩) hHeld ?_
    rotate_left
    · intro w0 hSw; (try dsimp only at hSw); go_simp; (try with_reducible rfl)
    (try dsimp only [Act.put, List.setIfInBounds_toArray, List.set_cons_zero, List.set_cons_succ])
    refine wpAnyH_done (by kernel_rfl) ?_ _
    go_simp
    have B7 := Lib.hid (B5.out.trans (((Below.refl w5.heap.size w5).drew.trans (hb6.trans (hb7.mono hb6.size))).mono B5.out.size))
    clear hb6 hb7 hm hn hHeld
    go_wp2_with fail
    go_ret3
    exact ⟨by rw [HP.out]; exact .inl ⟨HSC.out, HZ0.out, by rw [HW1.out, HW2.out]; rfl⟩, hX ▸ B7.out⟩
abbrev TxT : TypeId := 104
abbrev LnT : TypeId := 105
abbrev SyT : TypeId := 106
theorem mBoxT (x : It) (w : World) : (method 362 TxT (itV x) "loop.example/g00879/impl.box").run Tryz.prog w = .ok (109, itV x) w := by kernel_rfl
theorem mBoxNT (x : It) (w : World) : (nilAhead 362 TxT (itV x) "loop.example/g00879/impl.box").run Tryz.prog w = .ok (some false) w := by kernel_rfl
theorem mBoxL (x : It) (w : World) : (method 362 LnT (itV x) "loop.example/g00879/impl.box").run Tryz.prog w = .ok (112, itV x) w := by kernel_rfl
theorem mBoxNL (x : It) (w : World) : (nilAhead 362 LnT (itV x) "loop.example/g00879/impl.box").run Tryz.prog w = .ok (some false) w := by kernel_rfl
theorem mBoxS (x : It) (w : World) : (method 362 SyT (itV x) "loop.example/g00879/impl.box").run Tryz.prog w = .ok (115, itV x) w := by kernel_rfl
theorem mBoxNS (x : It) (w : World) : (nilAhead 362 SyT (itV x) "loop.example/g00879/impl.box").run Tryz.prog w = .ok (some false) w := by kernel_rfl
/-- What thing hands back. -/
def ThE (x : It) (e : Ending) : Prop := (x.kd = 1 ∧ e = .returned (.tuple #[.iface TxT (itV x), .bool true])) ∨ (x.kd = 2 ∧ e = .returned (.tuple #[.iface LnT (itV x), .bool true])) ∨
  (x.kd = 3 ∧ e = .returned (.tuple #[.iface SyT (itV x), .bool true])) ∨ (x.kd ≠ 1 ∧ x.kd ≠ 2 ∧ x.kd ≠ 3 ∧ e = .returned (.tuple #[.iface LnT (itV x), .bool false]))
set_option maxHeartbeats 8000000 in
set_option maxRecDepth 100000 in
theorem thing_any (x : It) (w : World) :
    Calls Tryz.prog 48 #[itV x] w fun e w' => ThE x e ∧ Below w.heap.size w w' := by
  have I0 := Lib.hid (ItB.new w x ITy)
  have B0 := Lib.hid (below1 w (.cells (itL x).toArray ITy))
  have HP := Lib.hid (show ∀ e, ThE x e = ((x.kd = 1 ∧ e = .returned (.tuple #[.iface TxT (itV x), .bool true])) ∨ (x.kd = 2 ∧ e = .returned (.tuple #[.iface LnT (itV x), .bool true])) ∨
    (x.kd = 3 ∧ e = .returned (.tuple #[.iface SyT (itV x), .bool true])) ∨ (x.kd ≠ 1 ∧ x.kd ≠ 2 ∧ x.kd ≠ 3 ∧ e = .returned (.tuple #[.iface LnT (itV x), .bool false]))) from fun _ => rfl)
  go_enter Tryz.func48, Tryz.ntmps48
  obtain ⟨X, hX⟩ : ∃ X, w.heap.size = X := ⟨_, rfl⟩
  obtain ⟨w1, hw1⟩ : ∃ w1, w.alloc (.cells (itL x).toArray ITy) = w1 := ⟨_, rfl⟩
  rw [hw1, hX] at I0
  rw [hw1] at B0
  have hX1 := I0.out.lt
  have i0 := I0.out.c0
  have i1 := I0.out.c1
  have i2 := I0.out.c2
  have i3 := I0.out.c3
  have i4 := I0.out.c4
  have i5 := I0.out.c5
  have i6 := I0.out.c6
  have i7 := I0.out.c7
  have i8 := I0.out.c8
  by_cases k1 : x.kd = 1
  · have e1 : (x.kd == 1) = true := by simp [k1]
    have HK := Lib.hid k1
    clear k1
    go_wp2_with fail
    go_ret2
    exact ⟨by rw [HP.out]; exact .inl ⟨HK.out, rfl⟩, hX ▸ B0.out⟩
  have e1 : (x.kd == 1) = false := by simp [k1]
  by_cases k2 : x.kd = 2
  · have e2 : (x.kd == 2) = true := by simp [k2]
    have HK := Lib.hid k2
    clear k1 k2
    go_wp2_with fail
    go_ret2
    exact ⟨by rw [HP.out]; exact .inr (.inl ⟨HK.out, rfl⟩), hX ▸ B0.out⟩
  have e2 : (x.kd == 2) = false := by simp [k2]
  by_cases k3 : x.kd = 3
  · have e3 : (x.kd == 3) = true := by simp [k3]
    have HK := Lib.hid k3
    clear k1 k2 k3
    go_wp2_with fail
    go_ret2
    exact ⟨by rw [HP.out]; exact .inr (.inr (.inl ⟨HK.out, rfl⟩)), hX ▸ B0.out⟩
  have e3 : (x.kd == 3) = false := by simp [k3]
  have HK := Lib.hid (show x.kd ≠ 1 ∧ x.kd ≠ 2 ∧ x.kd ≠ 3 from ⟨k1, k2, k3⟩)
  clear k1 k2 k3
  go_wp2_with fail
  go_ret2
  exact ⟨by rw [HP.out]; exact .inr (.inr (.inr ⟨HK.out.1, HK.out.2.1, HK.out.2.2, rfl⟩)), hX ▸ B0.out⟩
set_option maxHeartbeats 8000000 in
set_option maxRecDepth 100000 in
theorem itemBox_any (x : It) (hl : x.tx.length ≤ 1048576) (w : World) :
    Calls Tryz.prog 34 #[itV x] w fun e w' => e = .returned (.tuple #[.int .i64 (boxR x), .int .i64 (boxC x), .bool (boxB x)]) ∧ Below w.heap.size w w' := by
  have I0 := Lib.hid (ItB.new w x ITy)
  have B0 := Lib.hid (below1 w (.cells (itL x).toArray ITy))
  have HTX := Lib.hid (fun (V : World) => textBox_any x hl V)
  have HLN := Lib.hid (fun (V : World) => lineBox_any x V)
  have HSY := Lib.hid (fun (V : World) => symbolBox_any x V)
  have HK1 := Lib.hid (fun h => box_k1 (x := x) h)
  have HK2 := Lib.hid (fun h => box_k2 (x := x) h)
  have HK3 := Lib.hid (fun h => box_k3 (x := x) h)
  have HK0 := Lib.hid (fun h1 h2 h3 => box_k0 (x := x) h1 h2 h3)
  have HNB := Lib.hid (fun h => box_no (x := x) h)
  go_enter Tryz.func34, Tryz.ntmps34
  obtain ⟨X, hX⟩ : ∃ X, w.heap.size = X := ⟨_, rfl⟩
  obtain ⟨w1, hw1⟩ : ∃ w1, w.alloc (.cells (itL x).toArray ITy) = w1 := ⟨_, rfl⟩
  rw [hw1, hX] at I0
  rw [hw1] at B0
  have hX1 := I0.out.lt
  have i0 := I0.out.c0
  have i1 := I0.out.c1
  have i2 := I0.out.c2
  have i3 := I0.out.c3
  have i4 := I0.out.c4
  have i5 := I0.out.c5
  have i6 := I0.out.c6
  have i7 := I0.out.c7
  have i8 := I0.out.c8
  go_wp2_with fail
  refine (thing_any x _).mono ?_
  rintro e w2 ⟨hth, hb2⟩
  have B2 := Lib.hid (B0.out.trans (hb2.mono B0.out.size))
  clear hb2 hw1 I0 B0 hX1 i0 i1 i2 i3 i4 i5 i6 i7 i8
  rcases hth with ⟨hk, rfl⟩ | ⟨hk, rfl⟩ | ⟨hk, rfl⟩ | ⟨hk1, hk2, hk3, rfl⟩
  · have HK := Lib.hid (HK1.out hk)
    have hm := fun V => mBoxT x V
    have hn := fun V => mBoxNT x V
    clear hk
    go_wp2_with fail
    refine (HTX.out _).mono ?_
    rintro e w3 ⟨hb, hb3⟩
    have B3 := Lib.hid (B2.out.trans (hb3.mono B2.out.size))
    clear hb3 hm hn
    rcases hb with ⟨h1, h2, h3, rfl⟩ | ⟨h1, rfl⟩
    · have hB : boxB x = true := by rw [HK.out.1, h1, h2, h3]; rfl
      have HY := Lib.hid (show (boxR x = 5 * x.sc ∧ boxC x = (4 * (x.tx.length : Int) - 1) * x.sc ∧ boxE x = 0) ∧ boxB x = true from ⟨HK.out.2 hB, hB⟩)
      clear h1 h2 h3 hB
      go_wp2_with fail
      go_ret3
      exact ⟨by rw [HY.out.1.1, HY.out.1.2.1, HY.out.2]; rfl, hX ▸ B3.out⟩
    · have hB : boxB x = false := by rw [HK.out.1, h1]
      have HY := Lib.hid (show (boxR x = 0 ∧ boxC x = 0 ∧ boxE x = 1) ∧ boxB x = false from ⟨HNB.out hB, hB⟩)
      clear h1 hB
      go_wp2_with fail
      go_ret3
      exact ⟨by rw [HY.out.1.1, HY.out.1.2.1, HY.out.2]; rfl, hX ▸ B3.out⟩
  · have HK := Lib.hid (HK2.out hk)
    have hm := fun V => mBoxL x V
    have hn := fun V => mBoxNL x V
    clear hk
    go_wp2_with fail
    refine (HLN.out _).mono ?_
    rintro e w3 ⟨hb, hb3⟩
    have B3 := Lib.hid (B2.out.trans (hb3.mono B2.out.size))
    clear hb3 hm hn
    rcases hb with ⟨h1, rfl⟩ | ⟨h1, rfl⟩
    · have hB : boxB x = true := by rw [HK.out.1, h1]
      have HY := Lib.hid (show (boxR x = x.tl ∧ boxC x = x.wd ∧ boxE x = 0) ∧ boxB x = true from ⟨HK.out.2 hB, hB⟩)
      clear h1 hB
      go_wp2_with fail
      go_ret3
      exact ⟨by rw [HY.out.1.1, HY.out.1.2.1, HY.out.2]; rfl, hX ▸ B3.out⟩
    · have hB : boxB x = false := by rw [HK.out.1, h1]
      have HY := Lib.hid (show (boxR x = 0 ∧ boxC x = 0 ∧ boxE x = 1) ∧ boxB x = false from ⟨HNB.out hB, hB⟩)
      clear h1 hB
      go_wp2_with fail
      go_ret3
      exact ⟨by rw [HY.out.1.1, HY.out.1.2.1, HY.out.2]; rfl, hX ▸ B3.out⟩
  · have HK := Lib.hid (HK3.out hk)
    have hm := fun V => mBoxS x V
    have hn := fun V => mBoxNS x V
    clear hk
    go_wp2_with fail
    refine (HSY.out _).mono ?_
    rintro e w3 ⟨hb, hb3⟩
    have B3 := Lib.hid (B2.out.trans (hb3.mono B2.out.size))
    clear hb3 hm hn
    rcases hb with ⟨h1, h2, rfl⟩ | ⟨h1, rfl⟩
    · have hB : boxB x = true := by rw [HK.out.1, h1, decide_eq_true h2]; rfl
      have HY := Lib.hid (show (boxR x = symZ x * x.sc ∧ boxC x = colZ x * x.sc ∧ boxE x = 0) ∧ boxB x = true from ⟨by obtain ⟨a1, a2, a3⟩ := HK.out.2 hB; exact ⟨by rw [a1, Int.mul_comm], by rw [a2, Int.mul_comm], a3⟩, hB⟩)
      clear h1 h2 hB
      go_wp2_with fail
      go_ret3
      exact ⟨by rw [HY.out.1.1, HY.out.1.2.1, HY.out.2]; rfl, hX ▸ B3.out⟩
    · have hB : boxB x = false := by rw [HK.out.1, h1]
      have HY := Lib.hid (show (boxR x = 0 ∧ boxC x = 0 ∧ boxE x = 1) ∧ boxB x = false from ⟨HNB.out hB, hB⟩)
      clear h1 hB
      go_wp2_with fail
      go_ret3
      exact ⟨by rw [HY.out.1.1, HY.out.1.2.1, HY.out.2]; rfl, hX ▸ B3.out⟩
  · have hB := HK0.out hk1 hk2 hk3
    have HY := Lib.hid (show (boxR x = 0 ∧ boxC x = 0 ∧ boxE x = 1) ∧ boxB x = false from ⟨HNB.out hB, hB⟩)
    clear hk1 hk2 hk3 hB
    go_wp2_with fail
    go_ret3
    exact ⟨by rw [HY.out.1.1, HY.out.1.2.1, HY.out.2]; rfl, hX ▸ B2.out⟩
set_option maxHeartbeats 8000000 in
set_option maxRecDepth 100000 in
theorem implItemBox_any (x : It) (hl : x.tx.length ≤ 1048576) (w : World) :
    Calls Tryz.prog 13 #[itV x] w fun e w' => e = .returned (.tuple #[.int .i64 (boxR x), .int .i64 (boxC x), .int .i64 (boxE x)]) ∧ Below w.heap.size w w' := by
  have I0 := Lib.hid (ItB.new w x ITy)
  have B0 := Lib.hid (below1 w (.cells (itL x).toArray ITy))
  have HBX := Lib.hid (fun (V : World) => itemBox_any x hl V)
  have HE := Lib.hid (show boxE x = if boxB x = true then 0 else 1 from rfl)
  have HNB := Lib.hid (fun h => box_no (x := x) h)
  go_enter Tryz.func13, Tryz.ntmps13
  obtain ⟨X, hX⟩ : ∃ X, w.heap.size = X := ⟨_, rfl⟩
  obtain ⟨w1, hw1⟩ : ∃ w1, w.alloc (.cells (itL x).toArray ITy) = w1 := ⟨_, rfl⟩
  rw [hw1, hX] at I0
  rw [hw1] at B0
  have hX1 := I0.out.lt
  have i0 := I0.out.c0
  have i1 := I0.out.c1
  have i2 := I0.out.c2
  have i3 := I0.out.c3
  have i4 := I0.out.c4
  have i5 := I0.out.c5
  have i6 := I0.out.c6
  have i7 := I0.out.c7
  have i8 := I0.out.c8
  go_wp2_with fail
  refine (HBX.out _).mono ?_
  rintro e w2 ⟨rfl, hb2⟩
  have B2 := Lib.hid (B0.out.trans (hb2.mono B0.out.size))
  clear hb2 hw1 I0 B0 hX1 i0 i1 i2 i3 i4 i5 i6 i7 i8
  cases hB : boxB x with
  | true =>
    rw [hB, if_pos rfl] at HE
    clear hB
    go_wp2_with fail
    go_ret3
    exact ⟨by rw [HE.out]; rfl, hX ▸ B2.out⟩
  | false =>
    have HY := Lib.hid (HNB.out hB)
    clear hB
    go_wp2_with fail
    go_ret3
    exact ⟨by rw [HY.out.1, HY.out.2.1, HY.out.2.2]; rfl, hX ▸ B2.out⟩
end Go.Proofs.YtdcmebegnekkcaaGreat
/-
  Items that come in: their size and their copy.
-/
namespace Go.Proofs.YtdcmebegnekkcaaGreat
open Go.RowKit
set_option linter.unusedVariables false

abbrev LIy : TypeId := 51
/-- What is left behind an item. -/
def szI (x : It) (L : Int) : Int := if L - (x.nm.length : Int) < 0 then -1 else if L - (x.nm.length : Int) - (x.tx.length : Int) < 0 then -1 else L - (x.nm.length : Int) - (x.tx.length : Int)
def ItOk (x : It) : Prop := x.nm.length ≤ 9223372036854775807 ∧ x.tx.length ≤ 9223372036854775807
theorem szI_ok {x : It} {L : Int} (h : 0 ≤ szI x L) : (x.nm.length : Int) + (x.tx.length : Int) ≤ L ∧ szI x L = L - (x.nm.length : Int) - (x.tx.length : Int) := by
  unfold szI at *
  split at h
  · omega
  · split at h
    · omega
    · rename_i h1 h2
      rw [if_neg h1, if_neg h2]
      omega
set_option maxHeartbeats 8000000 in
set_option maxRecDepth 100000 in
theorem szItem_any (x : It) (L : Int) (h0 : 0 ≤ L) (h1 : L ≤ 1048576) (hx : ItOk x) (w : World) :
    Calls Tryz.prog 26 #[itV x, .int .i64 L] w fun e w' => e = .returned (.int .i64 (szI x L)) ∧ Below w.heap.size w w' := by
  obtain ⟨b1, b2⟩ := hx
  have I0 := Lib.hid (ItB.new w x LIy)
  have B0 := Lib.hid (below1 w (.cells (itL x).toArray LIy))
  have s1 := str_size x.nm
  have s2 := str_size x.tx
  have HS := Lib.hid (show szI x L = if L - (x.nm.length : Int) < 0 then -1 else if L - (x.nm.length : Int) - (x.tx.length : Int) < 0 then -1 else L - (x.nm.length : Int) - (x.tx.length : Int) from rfl)
  go_enter Tryz.func26, Tryz.ntmps26
  obtain ⟨X, hX⟩ : ∃ X, w.heap.size = X := ⟨_, rfl⟩
  obtain ⟨w1, hw1⟩ : ∃ w1, w.alloc (.cells (itL x).toArray LIy) = w1 := ⟨_, rfl⟩
  rw [hw1, hX] at I0
  rw [hw1] at B0
  have hX1 := I0.out.lt
  have i6 := I0.out.c6
  have i8 := I0.out.c8
  by_cases c1 : L - (x.nm.length : Int) < 0
  · rw [if_pos c1] at HS
    go_wp2_with fail
    go_ret
    exact ⟨by rw [HS.out]; rfl, hX ▸ B0.out⟩
  · rw [if_neg c1] at HS
    by_cases c2 : L - (x.nm.length : Int) - (x.tx.length : Int) < 0
    · rw [if_pos c2] at HS
      go_wp2_with fail
      go_ret
      exact ⟨by rw [HS.out]; rfl, hX ▸ B0.out⟩
    · rw [if_neg c2] at HS
      go_wp2_with fail
      go_ret
      exact ⟨by rw [HS.out]; rfl, hX ▸ B0.out⟩
abbrev itZ : Array Value := #[.int .i64 0, .int .i64 0, .int .i64 0, .int .i64 0, .int .i64 0, .int .i64 0, .string { data := #[] }, .int .i64 0, .string { data := #[] }]
set_option maxHeartbeats 8000000 in
set_option maxRecDepth 100000 in
theorem toItem_any (x : It) (w : World) :
    Calls Tryz.prog 27 #[itV x] w fun e w' => e = .returned (itV x) ∧ Below w.heap.size w w' := by
  have I0 := Lib.hid (ItB.new w x LIy)
  have B0 := Lib.hid (below1 w (.cells (itL x).toArray LIy))
  have HRES := Lib.hid (show Tryz.f27.results = #[.cell 2 ITy] by kernel_rfl)
  go_enter Tryz.func27, Tryz.ntmps27
  obtain ⟨X, hX⟩ : ∃ X, w.heap.size = X := ⟨_, rfl⟩
  obtain ⟨w1, hw1⟩ : ∃ w1, w.alloc (.cells (itL x).toArray LIy) = w1 := ⟨_, rfl⟩
  rw [hw1, hX] at I0
  rw [hw1] at B0
  have hX1 := I0.out.lt
  have i0 := I0.out.c0
  have i1 := I0.out.c1
  have i2 := I0.out.c2
  have i3 := I0.out.c3
  have i4 := I0.out.c4
  have i5 := I0.out.c5
  have i6 := I0.out.c6
  have i7 := I0.out.c7
  have i8 := I0.out.c8
  go_wp2_with fail
  have HH : ((w1.alloc (.cells (itL x).toArray ITy)).alloc (.cells (itL x).toArray ITy)).heap[w1.heap.size]? = some (.cells (itL x).toArray ITy (0, 0)) := by
    rw [heap_alloc_old _ _ (by simp)]
    exact heap_new _ _
  have HB := B0.out.trans (((below1 w1 (.cells (itL x).toArray ITy)).trans ((below1 (w1.alloc (.cells (itL x).toArray ITy)) (.cells (itL x).toArray ITy)).mono (by simp))).mono B0.out.size)
  exact ret_cell1 HRES.out Tryz.underlying30 rfl (by kernel_rfl) rfl rfl HH ⟨rfl, hX ▸ HB⟩
end Go.Proofs.YtdcmebegnekkcaaGreat
/-
  Opening an item that comes in.
-/
namespace Go.Proofs.YtdcmebegnekkcaaGreat
open Go.ChangeShapes Go.WideShapes Go.ChangeAt Go.RowKit Go.Joins Go.Deep
set_option linter.unusedVariables false

def itTy (j : Nat) : TypeId := if j = 6 then 9 else if j = 8 then 9 else 2
theorem nine_cells {H : Type} {enc : TypeId × Value → H} {W : World} {n : Nat} {cs : List Value} {x : DataW H × List MemPlace} {fs : Array Field} {t : TypeId}
    (he : Tryz.prog.underlying t = some (.struct fs)) (hs : fs.size = 9) (hone : oneCellFields Tryz.prog fs = true) (hty : ∀ (j : Nat) (f : Field), fs[j]? = some f → f.type = itTy j) (hl : cs.length = 9)
    (h : DataW.trod enc Tryz.prog W 0 (fun _ => true) true n t cs = some x) : ∃ y : It, cs = itL y ∧ ItOk y := by
  match cs, hl with
  | [c0, c1, c2, c3, c4, c5, c6, c7, c8], _ =>
    obtain ⟨xs, n', _, hx, _, hlen, hg⟩ := DataW.trod_struct he h
    rw [hs] at hlen
    obtain ⟨y0, y1, y2, y3, y4, y5, y6, y7, y8, rfl⟩ : ∃ y0 y1 y2 y3 y4 y5 y6 y7 y8, xs = [y0, y1, y2, y3, y4, y5, y6, y7, y8] := by match xs, hlen with | [y0, y1, y2, y3, y4, y5, y6, y7, y8], _ => exact ⟨y0, y1, y2, y3, y4, y5, y6, y7, y8, rfl⟩
    have f0 : fs[0]? = some (fs[0]'(by omega)) := Array.getElem?_eq_getElem (by omega)
    obtain ⟨o0, k0⟩ := hone_of hone 0 _ f0
    have g0 := hg 0 _ f0
    rw [hty 0 _ f0] at g0 k0
    rw [o0, k0] at g0
    have f1 : fs[1]? = some (fs[1]'(by omega)) := Array.getElem?_eq_getElem (by omega)
    obtain ⟨o1, k1⟩ := hone_of hone 1 _ f1
    have g1 := hg 1 _ f1
    rw [hty 1 _ f1] at g1 k1
    rw [o1, k1] at g1
    have f2 : fs[2]? = some (fs[2]'(by omega)) := Array.getElem?_eq_getElem (by omega)
    obtain ⟨o2, k2⟩ := hone_of hone 2 _ f2
    have g2 := hg 2 _ f2
    rw [hty 2 _ f2] at g2 k2
    rw [o2, k2] at g2
    have f3 : fs[3]? = some (fs[3]'(by omega)) := Array.getElem?_eq_getElem (by omega)
    obtain ⟨o3, k3⟩ := hone_of hone 3 _ f3
    have g3 := hg 3 _ f3
    rw [hty 3 _ f3] at g3 k3
    rw [o3, k3] at g3
    have f4 : fs[4]? = some (fs[4]'(by omega)) := Array.getElem?_eq_getElem (by omega)
    obtain ⟨o4, k4⟩ := hone_of hone 4 _ f4
    have g4 := hg 4 _ f4
    rw [hty 4 _ f4] at g4 k4
    rw [o4, k4] at g4
    have f5 : fs[5]? = some (fs[5]'(by omega)) := Array.getElem?_eq_getElem (by omega)
    obtain ⟨o5, k5⟩ := hone_of hone 5 _ f5
    have g5 := hg 5 _ f5
    rw [hty 5 _ f5] at g5 k5
    rw [o5, k5] at g5
    have f6 : fs[6]? = some (fs[6]'(by omega)) := Array.getElem?_eq_getElem (by omega)
    obtain ⟨o6, k6⟩ := hone_of hone 6 _ f6
    have g6 := hg 6 _ f6
    rw [hty 6 _ f6] at g6 k6
    rw [o6, k6] at g6
    have f7 : fs[7]? = some (fs[7]'(by omega)) := Array.getElem?_eq_getElem (by omega)
    obtain ⟨o7, k7⟩ := hone_of hone 7 _ f7
    have g7 := hg 7 _ f7
    rw [hty 7 _ f7] at g7 k7
    rw [o7, k7] at g7
    have f8 : fs[8]? = some (fs[8]'(by omega)) := Array.getElem?_eq_getElem (by omega)
    obtain ⟨o8, k8⟩ := hone_of hone 8 _ f8
    have g8 := hg 8 _ f8
    rw [hty 8 _ f8] at g8 k8
    rw [o8, k8] at g8
    obtain ⟨a0, e0, _, _⟩ := DataW.trod_int Tryz.underlying2 (show DataW.trod enc Tryz.prog W 0 (fun _ => true) true n' 2 [c0] = some y0 by simpa [itTy] using g0)
    obtain ⟨a1, e1, _, _⟩ := DataW.trod_int Tryz.underlying2 (show DataW.trod enc Tryz.prog W 0 (fun _ => true) true n' 2 [c1] = some y1 by simpa [itTy] using g1)
    obtain ⟨a2, e2, _, _⟩ := DataW.trod_int Tryz.underlying2 (show DataW.trod enc Tryz.prog W 0 (fun _ => true) true n' 2 [c2] = some y2 by simpa [itTy] using g2)
    obtain ⟨a3, e3, _, _⟩ := DataW.trod_int Tryz.underlying2 (show DataW.trod enc Tryz.prog W 0 (fun _ => true) true n' 2 [c3] = some y3 by simpa [itTy] using g3)
    obtain ⟨a4, e4, _, _⟩ := DataW.trod_int Tryz.underlying2 (show DataW.trod enc Tryz.prog W 0 (fun _ => true) true n' 2 [c4] = some y4 by simpa [itTy] using g4)
    obtain ⟨a5, e5, _, _⟩ := DataW.trod_int Tryz.underlying2 (show DataW.trod enc Tryz.prog W 0 (fun _ => true) true n' 2 [c5] = some y5 by simpa [itTy] using g5)
    obtain ⟨s6, e6, -, b6⟩ := DataW.trod_string Tryz.underlying9 (show DataW.trod enc Tryz.prog W 0 (fun _ => true) true n' 9 [c6] = some y6 by simpa [itTy] using g6)
    obtain ⟨a7, e7, _, _⟩ := DataW.trod_int Tryz.underlying2 (show DataW.trod enc Tryz.prog W 0 (fun _ => true) true n' 2 [c7] = some y7 by simpa [itTy] using g7)
    obtain ⟨s8, e8, -, b8⟩ := DataW.trod_string Tryz.underlying9 (show DataW.trod enc Tryz.prog W 0 (fun _ => true) true n' 9 [c8] = some y8 by simpa [itTy] using g8)
    simp only [List.cons.injEq, and_true] at e0 e1 e2 e3 e4 e5 e6 e7 e8
    obtain ⟨l6, rfl⟩ := str_of s6
    obtain ⟨l8, rfl⟩ := str_of s8
    rw [str_size] at b6 b8
    unfold maxLen at b6 b8
    exact ⟨⟨a0, a1, a2, a3, a4, a5, l6, a7, l8⟩, by rw [e0, e1, e2, e3, e4, e5, e6, e7, e8]; rfl, by show l6.length ≤ _; omega, by show l8.length ≤ _; omega⟩
theorem item_cells {H : Type} {enc : TypeId × Value → H} {W : World} {n : Nat} {cs : List Value} {x : DataW H × List MemPlace} (hl : cs.length = 9)
    (h : DataW.trod enc Tryz.prog W 0 (fun _ => true) true n LIy cs = some x) : ∃ y : It, cs = itL y ∧ ItOk y :=
  nine_cells Tryz.underlying51 rfl (by kernel_rfl) (by
    intro j f hj
    match j with
    | 0 => simp at hj; rw [← hj]; rfl
    | 1 => simp at hj; rw [← hj]; rfl
    | 2 => simp at hj; rw [← hj]; rfl
    | 3 => simp at hj; rw [← hj]; rfl
    | 4 => simp at hj; rw [← hj]; rfl
    | 5 => simp at hj; rw [← hj]; rfl
    | 6 => simp at hj; rw [← hj]; rfl
    | 7 => simp at hj; rw [← hj]; rfl
    | 8 => simp at hj; rw [← hj]; rfl
    | j + 9 => simp at hj) hl h
theorem cells_item : Tryz.prog.cellsOf LIy = 9 := by kernel_rfl
end Go.Proofs.YtdcmebegnekkcaaGreat
