/-
  The reference's table of the best segmentations: the walk.
-/
import Derived.Test.YtdcmebegnekkcaaGreatSega
namespace Go.Proofs.YtdcmebegnekkcaaGreat
open Go.RowKit
set_option linter.unusedVariables false

set_option maxHeartbeats 8000000 in
set_option maxRecDepth 100000 in
theorem l10Table_any (l : List UInt8) (hl : l.length ≤ 400) (w : World) :
    Calls Tryz.prog 73 #[.string (str l)] w fun e w' => ∃ B, e = .returned (.slice (some ⟨B, 0, none⟩) (l.length + 1) (l.length + 1)) ∧ Below w.heap.size w w' ∧ w.heap.size ≤ B ∧ Tf w' B (4 * (l.length + 1)) SCT (segF (tabU l 0)) := by
  have hsz := str_size l
  have hmk := fun w => run_make_seg w (l.length + 1) (by omega)
  have T0 := Lib.hid (((Tf.made w #[.int .i64 0, .int .i64 0, .int .i64 0, .int .i64 0] ((l.length + 1) * 4) SCT (.int .i64 0) (by decide) (fun i hi => by have hi : i < 4 := hi; rcases (show i = 0 ∨ i = 1 ∨ i = 2 ∨ i = 3 by omega) with rfl | rfl | rfl | rfl <;> rfl)).congr (g := segF (tabU l l.length)) fun i hi => by
    unfold segF
    rw [tabU_top l _ (by omega)]
    unfold fld zeroC
    simp))
  have B0 := Lib.hid (below1 w (.cells (madeCells #[.int .i64 0, .int .i64 0, .int .i64 0, .int .i64 0] ((l.length + 1) * 4)) SCT))
  rw [show (l.length + 1) * 4 = 4 * (l.length + 1) by omega] at T0 B0
  simp only [show (l.length + 1) * 4 = 4 * (l.length + 1) by omega] at hmk
  push_cast at hmk
  go_enter Tryz.func73, Tryz.ntmps73
  go_wp2_with fail
  clear hmk
  obtain ⟨X, hX⟩ : ∃ X, w.heap.size = X := ⟨_, rfl⟩
  rw [hX] at T0 B0
  rw [hX]
  go_loopw [5] (fun ti wr => ∃ j : Nat, j ≤ l.length ∧ ti = .int .i64 ((j : Int) - 1) ∧ Hid (Tf wr X (4 * (l.length + 1)) SCT (segF (tabU l j))) ∧ Hid (Below X w wr)) (fun ti _ => (intOf ti + 1).toNat)
  case atStart => exact ⟨l.length, Nat.le_refl _, rfl, T0, B0⟩
  case round =>
    clear T0 B0
    obtain ⟨j, hj, rfl, hT, hB⟩ := hrel
    by_cases hj0 : j = 0
    · subst hj0
      go_wp2_with fail
      go_ret
      exact ⟨X, rfl, hX ▸ hB.out, by omega, hT.out⟩
    · obtain ⟨q, rfl⟩ : ∃ q, j = q + 1 := ⟨j - 1, by omega⟩
      rw [show ((q + 1 : Nat) : Int) - 1 = (q : Int) by omega]
      clear hj0
      have hq : q < l.length := hj
      obtain ⟨aO, aI, rch, HQ⟩ := segQ hl hq
      have HQ := Lib.hid HQ
      have T1 := Lib.hid (hT.out.congr (g := segF (tabT l q (aO 0))) fun i hi => by unfold segF; rw [tabT_start, HQ.out.z])
      have hz : aO 0 = zeroC := HQ.out.z
      clear hT
      go_wp2_with fail
      go_loopw [6, 7] (fun tf tm ws => ∃ k : Nat, k ≤ 4 ∧ tf = .bool (fndB (aO k)) ∧ tm = .int .i64 ((k : Int) + 1) ∧ Hid (Tf ws X (4 * (l.length + 1)) SCT (segF (tabT l q (aO k)))) ∧ Hid (Below X w ws)) (fun _ tm _ => (5 - intOf tm).toNat)
      case atStart => exact ⟨0, by omega, by rw [hz]; rfl, rfl, T1, hB⟩
      case round =>
        clear T1 hB hz
        obtain ⟨k, hk, rfl, rfl, hT2, hB2⟩ := hrel
        by_cases hk4 : k < 4
        · have T3 := Lib.hid (hT2.out.congr (g := segF (tabT l q (aI k 0))) fun i hi => by rw [HQ.out.i0])
          have HI0 := Lib.hid (HQ.out.i0 k)
          have hk5 : (k : Int) + 1 ≤ 4 := by omega
          clear hT2
          go_wp2_with fail
          go_loopw [6, 8] (fun tf ts wt => ∃ n : Nat, n ≤ rch k ∧ tf = .bool (fndB (aI k n)) ∧ ts = .int .i64 ((n : Int) + 1) ∧ Hid (Tf wt X (4 * (l.length + 1)) SCT (segF (tabT l q (aI k n)))) ∧ Hid (Below X w wt)) (fun _ ts _ => (256 - intOf ts).toNat)
          case atStart => exact ⟨0, by omega, by rw [HI0.out], rfl, T3, hB2⟩
          case round =>
            clear T3 hB2
            obtain ⟨n, hn, rfl, rfl, hT3, hB3⟩ := hrel
            have hr1 := HQ.out.r255 k
            have hr2 := HQ.out.rN k
            by_cases h255 : n < 255
            · by_cases hend : q + (n + 1) ≤ l.length
              · have x1 : (n : Int) + 1 ≤ 255 := by omega
                have x2 : (q : Int) + ((n : Int) + 1) ≤ (l.length : Int) := by omega
                have hqn : q + n < l.length := by omega
                have hbl := l[q + n].toNat_lt
                have HV := Lib.hid (show wrap64 ((((str l)[q + n]'(by rw [hsz]; exact hqn)).toNat : Int)) = (l[q + n].toNat : Int) from by rw [str_get]; exact IntWalk.wrap64_in _ (by omega))
                have hkm : (1 : Int) ≤ (k : Int) + 1 ∧ (k : Int) + 1 ≤ 4 := by omega
                go_wp2_with fail
                refine (specCharVal_any hkm l[q + n] _ HV.out _).mono ?_
                rintro e w5 ⟨rfl, rfl⟩
                cases hok : okM ((k : Int) + 1) l[q + n] with
                | false =>
                  have hv := valM_neg hok
                  have hst := HQ.out.stop k n hn hqn hok
                  have T4 := Lib.hid (hT3.out.congr (g := segF (tabT l q (aO (k + 1)))) fun i hi => by rw [HQ.out.s, ← hst])
                  have E4 := Lib.hid (show aI k n = aO (k + 1) from by rw [HQ.out.s, ← hst])
                  clear hst hok
                  go_wp2_with fail
                  go_roundw
                  case rel => exact ⟨k + 1, by omega, by rw [E4.out], by go_num, T4, hB3⟩
                  case measure => simp [intOf]; omega
                | true =>
                  have hv := valM_pos hok
                  have hmore := HQ.out.more k n hn h255 hqn hok
                  have HI1 := Lib.hid (HQ.out.i1 k n (by omega))
                  obtain ⟨o, ho⟩ : ∃ o, (q + (n + 1)) * 4 = o := ⟨_, rfl⟩
                  have hcT : tabT l q (aI k n) (q + (n + 1)) = tcC l (q + (n + 1)) := by unfold tabT tcC; rw [if_neg (by omega), if_neg (by omega)]
                  have hcok := tab_ok hl (q + (n + 1))
                  have hcok : okC (tcC l (q + (n + 1))) := hcok
                  have r0 := seg_c0 hT3.out (i := q + (n + 1)) (o := o) (by omega) ho.symm
                  have r1 := seg_c1 hT3.out (i := q + (n + 1)) (o := o + 1) (by omega) (by omega)
                  have r2 := seg_c2 hT3.out (i := q + (n + 1)) (o := o + 2) (by omega) (by omega)
                  have r3 := seg_c3 hT3.out (i := q + (n + 1)) (o := o + 3) (by omega) (by omega)
                  rw [hcT] at r0 r1 r2 r3
                  have haok := HQ.out.ok k n hk4 (by omega)
                  have hwb := segW_bd ((k : Int) + 1) (n + 1)
                  have hlt := hT3.out.lt
                  clear hcT hok
                  generalize tcC l (q + (n + 1)) = c at *
                  go_wp2_with fail
                  clear r0 r1 r2 r3 ho hv
                  obtain ⟨W1, hW1⟩ : ∃ W1, wr.alloc (.cells #[.int .i64 c.len, .int .i64 c.cnt, .int .i64 c.size, .int .i64 c.mode] SCT) = W1 := ⟨_, rfl⟩
                  obtain ⟨Y1, hY1⟩ : ∃ Y1, wr.heap.size = Y1 := ⟨_, rfl⟩
                  have C1 := Lib.hid (show Tf W1 Y1 4 SCT (fun i => #[Value.int .i64 c.len, .int .i64 c.cnt, .int .i64 c.size, .int .i64 c.mode][i]!) from by rw [← hW1, ← hY1]; exact Tf.mkd wr _ SCT)
                  have b1 : Below Y1 wr W1 := by rw [← hW1, ← hY1]; exact below1 _ _
                  have TX1 := Lib.hid (hT3.out.below b1 (by omega))
                  have BX1 := Lib.hid (hB3.out.trans (b1.mono (by omega)))
                  have hXW : X < W1.heap.size := TX1.out.lt
                  rw [hW1, hY1]
                  clear hW1 hY1 b1 hT3 hB3
                  have d0 : W1.drew.cell? ⟨Y1, 0, none⟩ = some (.int .i64 c.len) := C1.out.drew.cell (by omega)
                  have d1 : W1.drew.cell? ⟨Y1, 1, none⟩ = some (.int .i64 c.cnt) := C1.out.drew.cell (by omega)
                  have TX1 := Lib.hid TX1.out.drew
                  have BX1 := Lib.hid (BX1.out.drew)
                  have hXW : X < W1.drew.heap.size := hXW
                  obtain ⟨aw, hawdef⟩ : ∃ aw, aw = segW ((k : Int) + 1) (n + 1) := ⟨_, rfl⟩
                  have HL := Lib.hid (fun (W : World) => hawdef ▸ l09Length_any hkm (n + 1) (by omega) ((n : Int) + 1) (by push_cast; rfl) W)
                  rw [← hawdef] at HI1 hwb
                  have y1 : -1000000000000 ≤ aw + c.len ∧ aw + c.len ≤ 1000000000000 := by obtain ⟨h1, h2, _⟩ := hcok; omega
                  have y2 : -1000000000000 ≤ c.cnt + 1 ∧ c.cnt + 1 ≤ 1000000000000 := by obtain ⟨h1, h2, h3, h4, _⟩ := hcok; omega
                  have hnl : q < l.length + 1 := by omega
                  clear hawdef hbl HV hkm hr1 hr2
                  obtain ⟨v1, v2⟩ := wrp y1
                  obtain ⟨v3, v4⟩ := wrp y2
                  clear y1 y2
                  refine wp_region_last (S := (fun w' => w'.cell? ⟨Y1, 0, none⟩ = some (.int .i64 c.len) ∧ w'.cell? ⟨Y1, 1, none⟩ = some (.int .i64 c.cnt))) 13 (by kernel_rfl) rfl (by kernel_rfl) ?_ (fun hHeld => ?_)
                  · first | (exact ⟨d0, d1⟩) | ((try dsimp only); exact ⟨d0, d1⟩)
                  simp only [List.take_succ_cons, List.take_zero]
                  refine wpAnyH_take (i := 0) (oi := _) (v := ?_) rfl (by kernel_rfl) (by kernel_rfl) (by kernel_rfl) (fun _ _ _ h => h) (Or.inl ⟨by kernel_rfl, ?_⟩) hHeld ?_
                  rotate_left
                  · intro w0 hSw; (try dsimp only at hSw); go_simp; (try with_reducible rfl)
                  (try dsimp only [Act.put, List.setIfInBounds_toArray, List.set_cons_zero, List.set_cons_succ])
                  refine wpAnyH_take (i := 1) (oi := _) (v := ?_) rfl (by kernel_rfl) (by kernel_rfl) (by kernel_rfl) (fun _ _ _ h => h) (Or.inl ⟨by kernel_rfl, ?_⟩) hHeld ?_
                  rotate_left
                  · intro w0 hSw; (try dsimp only at hSw); go_simp; (try with_reducible rfl)
                  (try dsimp only [Act.put, List.setIfInBounds_toArray, List.set_cons_zero, List.set_cons_succ])
                  refine wpAnyH_take (i := 3) (oi := _) (v := ?_) rfl (by kernel_rfl) (by kernel_rfl) (by kernel_rfl) (fun _ _ _ h => h) (Or.inl ⟨by kernel_rfl, ?_⟩) hHeld ?_
                  rotate_left
                  · intro w0 hSw; (try dsimp only at hSw); go_simp; (try with_reducible rfl)
                  (try dsimp only [Act.put, List.setIfInBounds_toArray, List.set_cons_zero, List.set_cons_succ])
                  refine wpAnyH_take (i := 4) (oi := _) (v := ?_) rfl (by kernel_rfl) (by kernel_rfl) (by kernel_rfl) (fun _ _ _ h => h) (Or.inl ⟨by kernel_rfl, ?_⟩) hHeld ?_
                  rotate_left
                  · intro w0 hSw; (try dsimp only at hSw); go_simp; (try with_reducible rfl)
                  (try dsimp only [Act.put, List.setIfInBounds_toArray, List.set_cons_zero, List.set_cons_succ])
                  refine wpAnyH_take (i := 6) (oi := _) (v := ?_) rfl (by kernel_rfl) (by kernel_rfl) (by kernel_rfl) (fun _ _ _ h => h) (Or.inl ⟨by kernel_rfl, ?_⟩) hHeld ?_
                  rotate_left
                  · intro w0 hSw; (try dsimp only at hSw); go_simp; (try with_reducible rfl)
                  (try dsimp only [Act.put, List.setIfInBounds_toArray, List.set_cons_zero, List.set_cons_succ])
                  refine wpAnyH_take (i := 7) (oi := _) (v := ?_) rfl (by kernel_rfl) (by kernel_rfl) (by kernel_rfl) (fun _ _ _ h => h) (Or.inl ⟨by kernel_rfl, ?_⟩) hHeld ?_
                  rotate_left
                  · intro w0 hSw; (try dsimp only at hSw); go_simp; (try with_reducible rfl)
                  (try dsimp only [Act.put, List.setIfInBounds_toArray, List.set_cons_zero, List.set_cons_succ])
                  refine wpAnyH_take (i := 8) (oi := _) (v := ?_) rfl (by kernel_rfl) (by kernel_rfl) (by kernel_rfl) (fun _ _ _ h => h) (Or.inl ⟨by kernel_rfl, ?_⟩) hHeld ?_
                  rotate_left
                  · intro w0 hSw; (try dsimp only at hSw); go_simp; (try with_reducible rfl)
                  (try dsimp only [Act.put, List.setIfInBounds_toArray, List.set_cons_zero, List.set_cons_succ])
                  refine wpAnyH_take (i := 9) (oi := _) (v := ?_) rfl (by kernel_rfl) (by kernel_rfl) (by kernel_rfl) (fun _ _ _ h => h) (Or.inl ⟨by kernel_rfl, ?_⟩) hHeld ?_
                  rotate_left
                  · intro w0 hSw; (try dsimp only at hSw); go_simp; (try with_reducible rfl)
                  (try dsimp only [Act.put, List.setIfInBounds_toArray, List.set_cons_zero, List.set_cons_succ])
                  refine wpAnyH_take (i := 10) (oi := _) (v := ?_) rfl (by kernel_rfl) (by kernel_rfl) (by kernel_rfl) (fun _ _ _ h => h) (Or.inl ⟨by kernel_rfl, ?_⟩) hHeld ?_
                  rotate_left
                  · intro w0 hSw; (try dsimp only at hSw); go_simp; (try with_reducible rfl)
                  (try dsimp only [Act.put, List.setIfInBounds_toArray, List.set_cons_zero, List.set_cons_succ])
                  refine wpAnyH_ready (rs := [2, 12]) (by kernel_rfl) (by simp) ?_
                  refine AllReadyH.cons (o := _) rfl (fun K hK => ?_) (AllReadyH.cons (o := _) rfl (fun K hK => ?_) AllReadyH.nil)
                  · go_simp
                    refine (HL.out _).mono ?_
                    rintro e w5 ⟨rfl, hb5⟩
                    go_wp2_with fail
                    refine hK.out _ _ ?_ (fun hHeld => ?_)
                    · first | (exact ⟨keep_cell hb5 hHeld.1, keep_cell hb5 hHeld.2⟩) | ((try dsimp only); exact ⟨keep_cell hb5 hHeld.1, keep_cell hb5 hHeld.2⟩)
                    clear hK K
                    (try dsimp only [Act.put, List.setIfInBounds_toArray, List.set_cons_zero, List.set_cons_succ])
                    refine wpAnyH_take (i := 5) (oi := _) (v := ?_) rfl (by kernel_rfl) (by kernel_rfl) (by kernel_rfl) (fun _ _ _ h => h) (Or.inl ⟨by kernel_rfl, ?_⟩) hHeld ?_
                    rotate_left
                    · intro w0 hSw; (try dsimp only at hSw); go_simp; (try with_reducible rfl)
                    (try dsimp only [Act.put, List.setIfInBounds_toArray, List.set_cons_zero, List.set_cons_succ])
                    refine wpAnyH_take (i := 11) (oi := _) (v := ?_) rfl (by kernel_rfl) (by kernel_rfl) (by kernel_rfl) (fun _ _ _ h => h) (Or.inl ⟨by kernel_rfl, ?_⟩) hHeld ?_
                    rotate_left
                    · intro w0 hSw; (try dsimp only at hSw); go_simp; (try with_reducible rfl)
                    (try dsimp only [Act.put, List.setIfInBounds_toArray, List.set_cons_zero, List.set_cons_succ])
                    refine wpAnyH_ready (rs := [12]) (by kernel_rfl) (by simp) ?_
                    refine AllReadyH.cons (o := _) rfl (fun K hK => ?_) AllReadyH.nil
                    go_simp
                    refine hK.out _ _ ?_ (fun hHeld => ?_)
                    · first | (exact ⟨keep_cell (below1 w5 _) hHeld.1, keep_cell (below1 w5 _) hHeld.2⟩) | ((try dsimp only); exact ⟨keep_cell (below1 w5 _) hHeld.1, keep_cell (below1 w5 _) hHeld.2⟩)
                    clear hK K
                    (try dsimp only [Act.put, List.setIfInBounds_toArray, List.set_cons_zero, List.set_cons_succ])
                    refine wpAnyH_done (by kernel_rfl) (lastQ_normal ?_) _
                    go_simp
                    clear v1 v2 v3 v4 hHeld d0 d1
                    have TX5 := TX1.out.below hb5 hXW
                    have BX5 := BX1.out.trans (hb5.mono (Nat.le_of_lt hXW))
                    have hX5 : X < w5.heap.size := TX5.lt
                    have TX6 := Lib.hid (TX5.below (below1 w5 (.cells #[.int .i64 0, .int .i64 0, .int .i64 0, .int .i64 0] SCT)) hX5)
                    have BX6 := Lib.hid (BX5.trans ((below1 w5 (.cells #[.int .i64 0, .int .i64 0, .int .i64 0, .int .i64 0] SCT)).mono (Nat.le_of_lt hX5)))
                    have TY6 := Lib.hid (show Tf (w5.alloc (.cells #[.int .i64 0, .int .i64 0, .int .i64 0, .int .i64 0] SCT)) w5.heap.size (4 * 1) SCT (segF fun _ => zeroC) from ((Tf.mkd w5 #[.int .i64 0, .int .i64 0, .int .i64 0, .int .i64 0] SCT).congr (g := segF fun _ => zeroC) fun i hi => by have hi : i < 4 := hi; rcases (show i = 0 ∨ i = 1 ∨ i = 2 ∨ i = 3 by omega) with rfl | rfl | rfl | rfl <;> rfl))
                    clear TX5 BX5 hb5
                    obtain ⟨Y, hY⟩ : ∃ Y, w5.heap.size = Y := ⟨_, rfl⟩
                    obtain ⟨W6, hW6⟩ : ∃ W6, w5.alloc (.cells #[.int .i64 0, .int .i64 0, .int .i64 0, .int .i64 0] SCT) = W6 := ⟨_, rfl⟩
                    rw [hW6] at TX6 BX6 TY6
                    rw [hY] at TY6 hX5
                    rw [hW6, hY]
                    have hXY : X < Y := hX5
                    clear hW6 hY hX5
                    have y0 := TY6.out.cell (i := 0) (by omega)
                    have y1 := TY6.out.cell (i := 1) (by omega)
                    have y2 := TY6.out.cell (i := 2) (by omega)
                    have y3 := TY6.out.cell (i := 3) (by omega)
                    have f0 := TY6.out.fz 0
                    have f1 := TY6.out.fz 1
                    have f2 := TY6.out.fz 2
                    have f3 := TY6.out.fz 3
                    have HCC := Lib.hid (show fndB (⟨aw + c.len, c.cnt + 1, (n : Int) + 1, (k : Int) + 1⟩ : SegC) = true from by unfold fndB; simp only [decide_eq_true_eq]; obtain ⟨_, _, h3, _⟩ := hcok; omega)
                    obtain ⟨W7, hW7⟩ : ∃ W7, ((((W6.setCell ⟨Y, 0, none⟩ (.int .i64 (aw + c.len))).setCell ⟨Y, 1, none⟩ (.int .i64 (c.cnt + 1))).setCell ⟨Y, 2, none⟩ (.int .i64 ((n : Int) + 1))).setCell ⟨Y, 3, none⟩ (.int .i64 ((k : Int) + 1))) = W7 := ⟨_, rfl⟩
                    have TY7 := Lib.hid ((show Tf W7 Y (4 * 1) SCT (segF (fun x => if x = 0 then (⟨aw + c.len, c.cnt + 1, (n : Int) + 1, (k : Int) + 1⟩ : SegC) else zeroC)) from by rw [← hW7]; exact seg_set TY6.out (⟨aw + c.len, c.cnt + 1, (n : Int) + 1, (k : Int) + 1⟩ : SegC) 0 (o := 0) rfl).congr (g := segF fun _ => (⟨aw + c.len, c.cnt + 1, (n : Int) + 1, (k : Int) + 1⟩ : SegC)) fun i hi => by show fld (if i / 4 = 0 then (⟨aw + c.len, c.cnt + 1, (n : Int) + 1, (k : Int) + 1⟩ : SegC) else zeroC) (i % 4) = fld (⟨aw + c.len, c.cnt + 1, (n : Int) + 1, (k : Int) + 1⟩ : SegC) (i % 4); rw [if_pos (by omega)])
                    have TX7 := Lib.hid (show Tf W7 X (4 * (l.length + 1)) SCT (segF (tabT l q (aI k n))) from by rw [← hW7]; exact (((TX6.out.other (by omega) _ _).other (by omega) _ _).other (by omega) _ _).other (by omega) _ _)
                    have BX7 := Lib.hid (show Below X w W7 from by rw [← hW7]; exact (((BX6.out.setCell (p := ⟨Y, 0, none⟩) (Nat.le_of_lt hXY) _).setCell (p := ⟨Y, 1, none⟩) (Nat.le_of_lt hXY) _).setCell (p := ⟨Y, 2, none⟩) (Nat.le_of_lt hXY) _).setCell (p := ⟨Y, 3, none⟩) (Nat.le_of_lt hXY) _)
                    go_wp2_with fail
                    (try rw [hW7])
                    clear hW7 y0 y1 y2 y3 f0 f1 f2 f3 TX6 TY6 BX6
                    have TY8 := TY7
                    have TX8 := TX7
                    have BX8 := BX7
                    clear TY7 TX7 BX7
                    cases hfb : fndB (aI k n) with
                    | false =>
                      have ES := Lib.hid (show aI k (n + 1) = (⟨aw + c.len, c.cnt + 1, (n : Int) + 1, (k : Int) + 1⟩ : SegC) from by rw [HI1.out]; unfold stepC; rw [if_pos (.inl (by unfold fndB at hfb; simpa using hfb))])
                      clear hfb
                      refine wp_region_S (S := (fun _ => True)) 10 rfl (by kernel_rfl) ?_ (fun hHeld => ?_)
                      · (try dsimp only); all_goals trivial
                      refine wpAnyH_take (i := 0) (oi := _) (v := ?_) rfl (by kernel_rfl) (by kernel_rfl) (by kernel_rfl) (fun _ _ _ h => h) (Or.inl ⟨by kernel_rfl, ?_⟩) hHeld ?_
                      rotate_left
                      · intro w0 hSw; (try dsimp only at hSw); go_simp; (try with_reducible rfl)
                      (try dsimp only [Act.put, List.setIfInBounds_toArray, List.set_cons_zero, List.set_cons_succ])
                      refine wpAnyH_take (i := 1) (oi := _) (v := .bool true) rfl (by kernel_rfl) (by kernel_rfl) (by kernel_rfl) (fun _ _ _ h => h) (Or.inl ⟨by kernel_rfl, ?_⟩) hHeld ?_
                      · intro w0 hSw; (try dsimp only at hSw); go_simp <;> (first | done | rfl)
                      (try dsimp only [Act.put, List.setIfInBounds_toArray, List.set_cons_zero, List.set_cons_succ])
                      refine wpAnyH_take (i := 2) (oi := _) (v := .bool true) rfl (by kernel_rfl) (by kernel_rfl) (by kernel_rfl) (fun _ _ _ h => h) (Or.inl ⟨by kernel_rfl, ?_⟩) hHeld ?_
                      · intro w0 hSw; (try dsimp only at hSw); go_simp <;> (first | done | rfl)
                      (try dsimp only [Act.put, List.setIfInBounds_toArray, List.set_cons_zero, List.set_cons_succ])
                      refine wpAnyH_take (i := 3) (oi := _) (v := undef) rfl (by kernel_rfl) (by kernel_rfl) (by kernel_rfl) (fun _ _ _ h => h) (Or.inr ⟨by kernel_rfl, rfl⟩) hHeld ?_
                      (try dsimp only [Act.put, List.setIfInBounds_toArray, List.set_cons_zero, List.set_cons_succ])
                      refine wpAnyH_take (i := 4) (oi := _) (v := undef) rfl (by kernel_rfl) (by kernel_rfl) (by kernel_rfl) (fun _ _ _ h => h) (Or.inr ⟨by kernel_rfl, rfl⟩) hHeld ?_
                      (try dsimp only [Act.put, List.setIfInBounds_toArray, List.set_cons_zero, List.set_cons_succ])
                      refine wpAnyH_take (i := 5) (oi := _) (v := undef) rfl (by kernel_rfl) (by kernel_rfl) (by kernel_rfl) (fun _ _ _ h => h) (Or.inr ⟨by kernel_rfl, rfl⟩) hHeld ?_
                      (try dsimp only [Act.put, List.setIfInBounds_toArray, List.set_cons_zero, List.set_cons_succ])
                      refine wpAnyH_take (i := 6) (oi := _) (v := undef) rfl (by kernel_rfl) (by kernel_rfl) (by kernel_rfl) (fun _ _ _ h => h) (Or.inr ⟨by kernel_rfl, rfl⟩) hHeld ?_
                      (try dsimp only [Act.put, List.setIfInBounds_toArray, List.set_cons_zero, List.set_cons_succ])
                      refine wpAnyH_take (i := 7) (oi := _) (v := undef) rfl (by kernel_rfl) (by kernel_rfl) (by kernel_rfl) (fun _ _ _ h => h) (Or.inr ⟨by kernel_rfl, rfl⟩) hHeld ?_
                      (try dsimp only [Act.put, List.setIfInBounds_toArray, List.set_cons_zero, List.set_cons_succ])
                      refine wpAnyH_take (i := 8) (oi := _) (v := undef) rfl (by kernel_rfl) (by kernel_rfl) (by kernel_rfl) (fun _ _ _ h => h) (Or.inr ⟨by kernel_rfl, rfl⟩) hHeld ?_
                      (try dsimp only [Act.put, List.setIfInBounds_toArray, List.set_cons_zero, List.set_cons_succ])
                      refine wpAnyH_take (i := 9) (oi := _) (v := ?_) rfl (by kernel_rfl) (by kernel_rfl) (by kernel_rfl) (fun _ _ _ h => h) (Or.inl ⟨by kernel_rfl, ?_⟩) hHeld ?_
                      rotate_left
                      · intro w0 hSw; (try dsimp only at hSw); go_simp; (try with_reducible rfl)
                      (try dsimp only [Act.put, List.setIfInBounds_toArray, List.set_cons_zero, List.set_cons_succ])
                      refine wpAnyH_done (by kernel_rfl) ?_ _
                      go_simp
                      obtain ⟨o2, ho2⟩ : ∃ o2, q * 4 = o2 := ⟨_, rfl⟩
                      have e0 : W7.cell? ⟨Y, 0, none⟩ = some (.int .i64 (aw + c.len)) := TY8.out.cell (i := 0) (by omega)
                      have e1 : W7.cell? ⟨Y, 1, none⟩ = some (.int .i64 (c.cnt + 1)) := TY8.out.cell (i := 1) (by omega)
                      have e2 : W7.cell? ⟨Y, 2, none⟩ = some (.int .i64 ((n : Int) + 1)) := TY8.out.cell (i := 2) (by omega)
                      have e3 : W7.cell? ⟨Y, 3, none⟩ = some (.int .i64 ((k : Int) + 1)) := TY8.out.cell (i := 3) (by omega)
                      have u0 := TX8.out.cell (i := o2) (by omega)
                      have g0 := TX8.out.fz o2
                      have U0 := TX8.out.set o2 (.int .i64 (aw + c.len))
                      have u1 := U0.cell (i := o2 + 1) (by omega)
                      have g1 := U0.fz (o2 + 1)
                      have U1 := U0.set (o2 + 1) (.int .i64 (c.cnt + 1))
                      have u2 := U1.cell (i := o2 + 2) (by omega)
                      have g2 := U1.fz (o2 + 2)
                      have U2 := U1.set (o2 + 2) (.int .i64 ((n : Int) + 1))
                      have u3 := U2.cell (i := o2 + 3) (by omega)
                      have g3 := U2.fz (o2 + 3)
                      have T9 := Lib.hid (show Tf (((((W7.setCell ⟨X, o2, none⟩ (.int .i64 (aw + c.len))).setCell ⟨X, o2 + 1, none⟩ (.int .i64 (c.cnt + 1))).setCell ⟨X, o2 + 2, none⟩ (.int .i64 ((n : Int) + 1))).setCell ⟨X, o2 + 3, none⟩ (.int .i64 ((k : Int) + 1)))).drew X (4 * (l.length + 1)) SCT (segF (tabT l q (aI k (n + 1)))) from (((seg_set TX8.out (⟨aw + c.len, c.cnt + 1, (n : Int) + 1, (k : Int) + 1⟩ : SegC) q (o := o2) ho2.symm).congr fun i hi => by rw [ES.out]; show fld (if i / 4 = q then (⟨aw + c.len, c.cnt + 1, (n : Int) + 1, (k : Int) + 1⟩ : SegC) else tabT l q (aI k n) (i / 4)) (i % 4) = _; rw [tabT_put]; rfl)).drew)
                      have B9 := Lib.hid (show Below X w (((((W7.setCell ⟨X, o2, none⟩ (.int .i64 (aw + c.len))).setCell ⟨X, o2 + 1, none⟩ (.int .i64 (c.cnt + 1))).setCell ⟨X, o2 + 2, none⟩ (.int .i64 ((n : Int) + 1))).setCell ⟨X, o2 + 3, none⟩ (.int .i64 ((k : Int) + 1)))).drew from (((((BX8.out.setCell (p := ⟨X, o2, none⟩) (Nat.le_refl _) _).setCell (p := ⟨X, o2 + 1, none⟩) (Nat.le_refl _) _).setCell (p := ⟨X, o2 + 2, none⟩) (Nat.le_refl _) _).setCell (p := ⟨X, o2 + 3, none⟩) (Nat.le_refl _) _)).drew)
                      have hfn := Lib.hid (show fndB (aI k (n + 1)) = true from by rw [ES.out]; exact HCC.out)
                      clear U0 U1 U2 TX8 TY8 BX8
                      go_wp2_with fail
                      go_roundw
                      case rel => exact ⟨n + 1, hmore, by rw [hfn.out], by go_num, T9, B9⟩
                      case measure => simp [intOf]; omega
                    | true =>
                      have hcnt : (aI k n).cnt ≠ 0 := by unfold fndB at hfb; simpa using hfb
                      have q0 : W7.drew.cell? ⟨Y, 0, none⟩ = some (.int .i64 (aw + c.len)) := TY8.out.drew.cell (i := 0) (by omega)
                      have q1 : W7.drew.cell? ⟨Y, 1, none⟩ = some (.int .i64 (c.cnt + 1)) := TY8.out.drew.cell (i := 1) (by omega)
                      have q2 : W7.drew.cell? ⟨Y, 2, none⟩ = some (.int .i64 ((n : Int) + 1)) := TY8.out.drew.cell (i := 2) (by omega)
                      have q3 : W7.drew.cell? ⟨Y, 3, none⟩ = some (.int .i64 ((k : Int) + 1)) := TY8.out.drew.cell (i := 3) (by omega)
                      have haq : tabT l q (aI k n) q = aI k n := by unfold tabT; rw [if_neg (by omega), if_pos rfl]
                      have q4 := seg_c0 TX8.out.drew (i := q) (o := q * 4) hnl rfl
                      have q5 := seg_c1 TX8.out.drew (i := q) (o := q * 4 + 1) hnl rfl
                      have q6 := seg_c2 TX8.out.drew (i := q) (o := q * 4 + 2) hnl rfl
                      have q7 := seg_c3 TX8.out.drew (i := q) (o := q * 4 + 3) hnl rfl
                      rw [haq] at q4 q5 q6 q7
                      have hqi : (q : Int) < (l.length : Int) + 1 := by omega
                      have TY9 := Lib.hid TY8.out.drew
                      have TX9 := Lib.hid TX8.out.drew
                      have BX9 := Lib.hid BX8.out.drew
                      have HBT := Lib.hid (show btr (⟨aw + c.len, c.cnt + 1, (n : Int) + 1, (k : Int) + 1⟩ : SegC) (aI k n) = true → aI k (n + 1) = (⟨aw + c.len, c.cnt + 1, (n : Int) + 1, (k : Int) + 1⟩ : SegC) from fun h => by rw [HI1.out]; unfold stepC; rw [if_pos (.inr h)])
                      have HBF := Lib.hid (show btr (⟨aw + c.len, c.cnt + 1, (n : Int) + 1, (k : Int) + 1⟩ : SegC) (aI k n) = false → aI k (n + 1) = aI k n from fun h => by rw [HI1.out]; unfold stepC; rw [if_neg (by rw [h]; simpa using hcnt)])
                      have hF : fndB (aI k n) = true := hfb
                      have HF := Lib.hid hF
                      clear TX8 TY8 BX8 hfb hcnt haq hF
                      refine wp_region_S (S := (fun w' => w'.cell? ⟨Y, 0, none⟩ = some ((.int .i64 (aw + c.len))) ∧ w'.cell? ⟨Y, 1, none⟩ = some ((.int .i64 (c.cnt + 1))) ∧ w'.cell? ⟨Y, 2, none⟩ = some ((.int .i64 ((n : Int) + 1))) ∧ w'.cell? ⟨Y, 3, none⟩ = some ((.int .i64 ((k : Int) + 1))) ∧ w'.cell? ⟨X, q * 4, none⟩ = some (.int .i64 (aI k n).len) ∧ w'.cell? ⟨X, q * 4 + 1, none⟩ = some (.int .i64 (aI k n).cnt) ∧ w'.cell? ⟨X, q * 4 + 2, none⟩ = some (.int .i64 (aI k n).size) ∧ w'.cell? ⟨X, q * 4 + 3, none⟩ = some (.int .i64 (aI k n).mode))) 10 rfl (by kernel_rfl) ?_ (fun hHeld => ?_)
                      · (try dsimp only); exact ⟨q0, q1, q2, q3, q4, q5, q6, q7⟩
                      refine wpAnyH_take (i := 0) (oi := _) (v := ?_) rfl (by kernel_rfl) (by kernel_rfl) (by kernel_rfl) (fun _ _ _ h => h) (Or.inl ⟨by kernel_rfl, ?_⟩) hHeld ?_
                      rotate_left
                      · intro w0 hSw; (try dsimp only at hSw); go_simp; (try with_reducible rfl)
                      (try dsimp only [Act.put, List.setIfInBounds_toArray, List.set_cons_zero, List.set_cons_succ])
                      refine wpAnyH_take (i := 1) (oi := _) (v := .bool false) rfl (by kernel_rfl) (by kernel_rfl) (by kernel_rfl) (fun _ _ _ h => h) (Or.inl ⟨by kernel_rfl, ?_⟩) hHeld ?_
                      · intro w0 hSw; (try dsimp only at hSw); go_simp <;> (first | done | rfl)
                      (try dsimp only [Act.put, List.setIfInBounds_toArray, List.set_cons_zero, List.set_cons_succ])
                      refine wpAnyH_take (i := 2) (oi := _) (v := .bool false) rfl (by kernel_rfl) (by kernel_rfl) (by kernel_rfl) (fun _ _ _ h => h) (Or.inl ⟨by kernel_rfl, ?_⟩) hHeld ?_
                      · intro w0 hSw; (try dsimp only at hSw); go_simp <;> (first | done | rfl)
                      (try dsimp only [Act.put, List.setIfInBounds_toArray, List.set_cons_zero, List.set_cons_succ])
                      refine wpAnyH_take (i := 3) (oi := _) (v := ?_) rfl (by kernel_rfl) (by kernel_rfl) (by kernel_rfl) (fun _ _ _ h => h) (Or.inl ⟨by kernel_rfl, ?_⟩) hHeld ?_
                      rotate_left
                      · intro w0 hSw; (try dsimp only at hSw); go_simp; (try with_reducible rfl)
                      (try dsimp only [Act.put, List.setIfInBounds_toArray, List.set_cons_zero, List.set_cons_succ])
                      refine wpAnyH_take (i := 4) (oi := _) (v := ?_) rfl (by kernel_rfl) (by kernel_rfl) (by kernel_rfl) (fun _ _ _ h => h) (Or.inl ⟨by kernel_rfl, ?_⟩) hHeld ?_
                      rotate_left
                      · intro w0 hSw; (try dsimp only at hSw); go_simp; (try with_reducible rfl)
                      (try dsimp only [Act.put, List.setIfInBounds_toArray, List.set_cons_zero, List.set_cons_succ])
                      refine wpAnyH_take (i := 5) (oi := _) (v := ?_) rfl (by kernel_rfl) (by kernel_rfl) (by kernel_rfl) (fun _ _ _ h => h) (Or.inl ⟨by kernel_rfl, ?_⟩) hHeld ?_
                      rotate_left
                      · intro w0 hSw; (try dsimp only at hSw); go_simp; (try with_reducible rfl)
                      (try dsimp only [Act.put, List.setIfInBounds_toArray, List.set_cons_zero, List.set_cons_succ])
                      refine wpAnyH_take (i := 6) (oi := _) (v := ?_) rfl (by kernel_rfl) (by kernel_rfl) (by kernel_rfl) (fun _ _ _ h => h) (Or.inl ⟨by kernel_rfl, ?_⟩) hHeld ?_
                      rotate_left
                      · intro w0 hSw; (try dsimp only at hSw); go_simp; (try with_reducible rfl)
                      (try dsimp only [Act.put, List.setIfInBounds_toArray, List.set_cons_zero, List.set_cons_succ])
                      refine wpAnyH_take (i := 7) (oi := _) (v := ?_) rfl (by kernel_rfl) (by kernel_rfl) (by kernel_rfl) (fun _ _ _ h => h) (Or.inl ⟨by kernel_rfl, ?_⟩) hHeld ?_
                      rotate_left
                      · intro w0 hSw; (try dsimp only at hSw); go_simp; (try with_reducible rfl)
                      (try dsimp only [Act.put, List.setIfInBounds_toArray, List.set_cons_zero, List.set_cons_succ])
                      refine wpAnyH_ready (rs := [8]) (by kernel_rfl) (by simp) ?_
                      refine AllReadyH.cons (o := _) rfl (fun K hK => ?_) AllReadyH.nil
                      go_simp
                      refine (l10Better_any (⟨aw + c.len, c.cnt + 1, (n : Int) + 1, (k : Int) + 1⟩ : SegC) (aI k n) _).mono ?_
                      rintro e w8 ⟨rfl, hb8⟩
                      go_wp2_with fail
                      refine hK.out _ _ ?_ (fun hHeld => ?_)
                      · (try dsimp only); exact ⟨keep_cell hb8 hHeld.1, keep_cell hb8 hHeld.2.1, keep_cell hb8 hHeld.2.2.1, keep_cell hb8 hHeld.2.2.2.1, keep_cell hb8 hHeld.2.2.2.2.1, keep_cell hb8 hHeld.2.2.2.2.2.1, keep_cell hb8 hHeld.2.2.2.2.2.2.1, keep_cell hb8 hHeld.2.2.2.2.2.2.2⟩
                      clear hK K
                      (try dsimp only [Act.put, List.setIfInBounds_toArray, List.set_cons_zero, List.set_cons_succ])
                      refine wpAnyH_take (i := 9) (oi := _) (v := ?_) rfl (by kernel_rfl) (by kernel_rfl) (by kernel_rfl) (fun _ _ _ h => h) (Or.inl ⟨by kernel_rfl, ?_⟩) hHeld ?_
                      rotate_left
                      · intro w0 hSw; (try dsimp only at hSw); go_simp; (try with_reducible rfl)
                      (try dsimp only [Act.put, List.setIfInBounds_toArray, List.set_cons_zero, List.set_cons_succ])
                      refine wpAnyH_done (by kernel_rfl) ?_ _
                      go_simp
                      clear q0 q1 q2 q3 q4 q5 q6 q7 hHeld
                      have TX8 := Lib.hid (TX9.out.below hb8 TX9.out.lt)
                      have TY8 := Lib.hid (TY9.out.below hb8 TY9.out.lt)
                      have BX8 := Lib.hid (BX9.out.trans (hb8.mono (Nat.le_of_lt TX9.out.lt)))
                      clear hb8 TX9 TY9 BX9
                      cases hbt : btr (⟨aw + c.len, c.cnt + 1, (n : Int) + 1, (k : Int) + 1⟩ : SegC) (aI k n) with
                      | true =>
                        have ES := Lib.hid (HBT.out hbt)
                        clear hbt
                        obtain ⟨o2, ho2⟩ : ∃ o2, q * 4 = o2 := ⟨_, rfl⟩
                        have e0 : w8.cell? ⟨Y, 0, none⟩ = some (.int .i64 (aw + c.len)) := TY8.out.cell (i := 0) (by omega)
                        have e1 : w8.cell? ⟨Y, 1, none⟩ = some (.int .i64 (c.cnt + 1)) := TY8.out.cell (i := 1) (by omega)
                        have e2 : w8.cell? ⟨Y, 2, none⟩ = some (.int .i64 ((n : Int) + 1)) := TY8.out.cell (i := 2) (by omega)
                        have e3 : w8.cell? ⟨Y, 3, none⟩ = some (.int .i64 ((k : Int) + 1)) := TY8.out.cell (i := 3) (by omega)
                        have u0 := TX8.out.cell (i := o2) (by omega)
                        have g0 := TX8.out.fz o2
                        have U0 := TX8.out.set o2 (.int .i64 (aw + c.len))
                        have u1 := U0.cell (i := o2 + 1) (by omega)
                        have g1 := U0.fz (o2 + 1)
                        have U1 := U0.set (o2 + 1) (.int .i64 (c.cnt + 1))
                        have u2 := U1.cell (i := o2 + 2) (by omega)
                        have g2 := U1.fz (o2 + 2)
                        have U2 := U1.set (o2 + 2) (.int .i64 ((n : Int) + 1))
                        have u3 := U2.cell (i := o2 + 3) (by omega)
                        have g3 := U2.fz (o2 + 3)
                        have T9 := Lib.hid (show Tf ((((w8.setCell ⟨X, o2, none⟩ (.int .i64 (aw + c.len))).setCell ⟨X, o2 + 1, none⟩ (.int .i64 (c.cnt + 1))).setCell ⟨X, o2 + 2, none⟩ (.int .i64 ((n : Int) + 1))).setCell ⟨X, o2 + 3, none⟩ (.int .i64 ((k : Int) + 1))) X (4 * (l.length + 1)) SCT (segF (tabT l q (aI k (n + 1)))) from (((seg_set TX8.out (⟨aw + c.len, c.cnt + 1, (n : Int) + 1, (k : Int) + 1⟩ : SegC) q (o := o2) ho2.symm).congr fun i hi => by rw [ES.out]; show fld (if i / 4 = q then (⟨aw + c.len, c.cnt + 1, (n : Int) + 1, (k : Int) + 1⟩ : SegC) else tabT l q (aI k n) (i / 4)) (i % 4) = _; rw [tabT_put]; rfl)))
                        have B9 := Lib.hid (show Below X w ((((w8.setCell ⟨X, o2, none⟩ (.int .i64 (aw + c.len))).setCell ⟨X, o2 + 1, none⟩ (.int .i64 (c.cnt + 1))).setCell ⟨X, o2 + 2, none⟩ (.int .i64 ((n : Int) + 1))).setCell ⟨X, o2 + 3, none⟩ (.int .i64 ((k : Int) + 1))) from (((((BX8.out.setCell (p := ⟨X, o2, none⟩) (Nat.le_refl _) _).setCell (p := ⟨X, o2 + 1, none⟩) (Nat.le_refl _) _).setCell (p := ⟨X, o2 + 2, none⟩) (Nat.le_refl _) _).setCell (p := ⟨X, o2 + 3, none⟩) (Nat.le_refl _) _)))
                        have hfn := Lib.hid (show fndB (aI k (n + 1)) = true from by rw [ES.out]; exact HCC.out)
                        clear U0 U1 U2 TX8 TY8 BX8
                        go_wp2_with fail
                        go_roundw
                        case rel => exact ⟨n + 1, hmore, by rw [hfn.out], by go_num, T9, B9⟩
                        case measure => simp [intOf]; omega
                      | false =>
                        have ES := Lib.hid (HBF.out hbt)
                        have T9 := Lib.hid (TX8.out.congr (g := segF (tabT l q (aI k (n + 1)))) fun i hi => by rw [ES.out])
                        clear hbt
                        go_wp2_with fail
                        go_roundw
                        case rel => exact ⟨n + 1, hmore, by rw [ES.out, HF.out], by go_num, T9, BX8⟩
                        case measure => simp [intOf]; omega
                  · go_simp
                    refine hK.out _ _ ?_ (fun hHeld => ?_)
                    · first | (exact ⟨keep_cell (below1 W1.drew _) hHeld.1, keep_cell (below1 W1.drew _) hHeld.2⟩) | ((try dsimp only); exact ⟨keep_cell (below1 W1.drew _) hHeld.1, keep_cell (below1 W1.drew _) hHeld.2⟩)
                    clear hK K
                    (try dsimp only [Act.put, List.setIfInBounds_toArray, List.set_cons_zero, List.set_cons_succ])
                    refine wpAnyH_ready (rs := [2]) (by kernel_rfl) (by simp) ?_
                    refine AllReadyH.cons (o := _) rfl (fun K hK => ?_) AllReadyH.nil
                    go_simp
                    refine (HL.out _).mono ?_
                    rintro e w5 ⟨rfl, hb5⟩
                    go_wp2_with fail
                    refine hK.out _ _ ?_ (fun hHeld => ?_)
                    · first | (exact ⟨keep_cell hb5 hHeld.1, keep_cell hb5 hHeld.2⟩) | ((try dsimp only); exact ⟨keep_cell hb5 hHeld.1, keep_cell hb5 hHeld.2⟩)
                    clear hK K
                    (try dsimp only [Act.put, List.setIfInBounds_toArray, List.set_cons_zero, List.set_cons_succ])
                    refine wpAnyH_take (i := 5) (oi := _) (v := ?_) rfl (by kernel_rfl) (by kernel_rfl) (by kernel_rfl) (fun _ _ _ h => h) (Or.inl ⟨by kernel_rfl, ?_⟩) hHeld ?_
                    rotate_left
                    · intro w0 hSw; (try dsimp only at hSw); go_simp; (try with_reducible rfl)
                    (try dsimp only [Act.put, List.setIfInBounds_toArray, List.set_cons_zero, List.set_cons_succ])
                    refine wpAnyH_take (i := 11) (oi := _) (v := ?_) rfl (by kernel_rfl) (by kernel_rfl) (by kernel_rfl) (fun _ _ _ h => h) (Or.inl ⟨by kernel_rfl, ?_⟩) hHeld ?_
                    rotate_left
                    · intro w0 hSw; (try dsimp only at hSw); go_simp; (try with_reducible rfl)
                    (try dsimp only [Act.put, List.setIfInBounds_toArray, List.set_cons_zero, List.set_cons_succ])
                    refine wpAnyH_done (by kernel_rfl) (lastQ_normal ?_) _
                    go_simp
                    clear v1 v2 v3 v4 hHeld d0 d1
                    have hXW1 : X < W1.heap.size := hXW
                    have TV := TX1.out.below (below1 W1.drew (.cells #[.int .i64 0, .int .i64 0, .int .i64 0, .int .i64 0] SCT)) hXW
                    have BV := BX1.out.trans ((below1 W1.drew (.cells #[.int .i64 0, .int .i64 0, .int .i64 0, .int .i64 0] SCT)).mono (Nat.le_of_lt hXW))
                    have TYV := (show Tf (W1.drew.alloc (.cells #[.int .i64 0, .int .i64 0, .int .i64 0, .int .i64 0] SCT)) W1.drew.heap.size (4 * 1) SCT (segF fun _ => zeroC) from ((Tf.mkd W1.drew #[.int .i64 0, .int .i64 0, .int .i64 0, .int .i64 0] SCT).congr (g := segF fun _ => zeroC) fun i hi => by have hi : i < 4 := hi; rcases (show i = 0 ∨ i = 1 ∨ i = 2 ∨ i = 3 by omega) with rfl | rfl | rfl | rfl <;> rfl))
                    have TX6 := Lib.hid (TV.below hb5 TV.lt)
                    have BX6 := Lib.hid (BV.trans (hb5.mono (Nat.le_of_lt TV.lt)))
                    have TY6 := Lib.hid (show Tf w5 W1.heap.size (4 * 1) SCT (segF fun _ => zeroC) from TYV.below hb5 TYV.lt)
                    clear TV BV TYV hb5
                    obtain ⟨Y, hY⟩ : ∃ Y, W1.heap.size = Y := ⟨_, rfl⟩
                    rw [hY] at TY6 hXW1
                    rw [hY]
                    have hXY : X < Y := hXW1
                    clear hY hXW1
                    have y0 := TY6.out.cell (i := 0) (by omega)
                    have y1 := TY6.out.cell (i := 1) (by omega)
                    have y2 := TY6.out.cell (i := 2) (by omega)
                    have y3 := TY6.out.cell (i := 3) (by omega)
                    have f0 := TY6.out.fz 0
                    have f1 := TY6.out.fz 1
                    have f2 := TY6.out.fz 2
                    have f3 := TY6.out.fz 3
                    have HCC := Lib.hid (show fndB (⟨aw + c.len, c.cnt + 1, (n : Int) + 1, (k : Int) + 1⟩ : SegC) = true from by unfold fndB; simp only [decide_eq_true_eq]; obtain ⟨_, _, h3, _⟩ := hcok; omega)
                    obtain ⟨W7, hW7⟩ : ∃ W7, ((((w5.setCell ⟨Y, 0, none⟩ (.int .i64 (aw + c.len))).setCell ⟨Y, 1, none⟩ (.int .i64 (c.cnt + 1))).setCell ⟨Y, 2, none⟩ (.int .i64 ((n : Int) + 1))).setCell ⟨Y, 3, none⟩ (.int .i64 ((k : Int) + 1))) = W7 := ⟨_, rfl⟩
                    have TY7 := Lib.hid ((show Tf W7 Y (4 * 1) SCT (segF (fun x => if x = 0 then (⟨aw + c.len, c.cnt + 1, (n : Int) + 1, (k : Int) + 1⟩ : SegC) else zeroC)) from by rw [← hW7]; exact seg_set TY6.out (⟨aw + c.len, c.cnt + 1, (n : Int) + 1, (k : Int) + 1⟩ : SegC) 0 (o := 0) rfl).congr (g := segF fun _ => (⟨aw + c.len, c.cnt + 1, (n : Int) + 1, (k : Int) + 1⟩ : SegC)) fun i hi => by show fld (if i / 4 = 0 then (⟨aw + c.len, c.cnt + 1, (n : Int) + 1, (k : Int) + 1⟩ : SegC) else zeroC) (i % 4) = fld (⟨aw + c.len, c.cnt + 1, (n : Int) + 1, (k : Int) + 1⟩ : SegC) (i % 4); rw [if_pos (by omega)])
                    have TX7 := Lib.hid (show Tf W7 X (4 * (l.length + 1)) SCT (segF (tabT l q (aI k n))) from by rw [← hW7]; exact (((TX6.out.other (by omega) _ _).other (by omega) _ _).other (by omega) _ _).other (by omega) _ _)
                    have BX7 := Lib.hid (show Below X w W7 from by rw [← hW7]; exact (((BX6.out.setCell (p := ⟨Y, 0, none⟩) (Nat.le_of_lt hXY) _).setCell (p := ⟨Y, 1, none⟩) (Nat.le_of_lt hXY) _).setCell (p := ⟨Y, 2, none⟩) (Nat.le_of_lt hXY) _).setCell (p := ⟨Y, 3, none⟩) (Nat.le_of_lt hXY) _)
                    go_wp2_with fail
                    (try rw [hW7])
                    clear hW7 y0 y1 y2 y3 f0 f1 f2 f3 TX6 TY6 BX6
                    have TY8 := TY7
                    have TX8 := TX7
                    have BX8 := BX7
                    clear TY7 TX7 BX7
                    cases hfb : fndB (aI k n) with
                    | false =>
                      have ES := Lib.hid (show aI k (n + 1) = (⟨aw + c.len, c.cnt + 1, (n : Int) + 1, (k : Int) + 1⟩ : SegC) from by rw [HI1.out]; unfold stepC; rw [if_pos (.inl (by unfold fndB at hfb; simpa using hfb))])
                      clear hfb
                      refine wp_region_S (S := (fun _ => True)) 10 rfl (by kernel_rfl) ?_ (fun hHeld => ?_)
                      · (try dsimp only); all_goals trivial
                      refine wpAnyH_take (i := 0) (oi := _) (v := ?_) rfl (by kernel_rfl) (by kernel_rfl) (by kernel_rfl) (fun _ _ _ h => h) (Or.inl ⟨by kernel_rfl, ?_⟩) hHeld ?_
                      rotate_left
                      · intro w0 hSw; (try dsimp only at hSw); go_simp; (try with_reducible rfl)
                      (try dsimp only [Act.put, List.setIfInBounds_toArray, List.set_cons_zero, List.set_cons_succ])
                      refine wpAnyH_take (i := 1) (oi := _) (v := .bool true) rfl (by kernel_rfl) (by kernel_rfl) (by kernel_rfl) (fun _ _ _ h => h) (Or.inl ⟨by kernel_rfl, ?_⟩) hHeld ?_
                      · intro w0 hSw; (try dsimp only at hSw); go_simp <;> (first | done | rfl)
                      (try dsimp only [Act.put, List.setIfInBounds_toArray, List.set_cons_zero, List.set_cons_succ])
                      refine wpAnyH_take (i := 2) (oi := _) (v := .bool true) rfl (by kernel_rfl) (by kernel_rfl) (by kernel_rfl) (fun _ _ _ h => h) (Or.inl ⟨by kernel_rfl, ?_⟩) hHeld ?_
                      · intro w0 hSw; (try dsimp only at hSw); go_simp <;> (first | done | rfl)
                      (try dsimp only [Act.put, List.setIfInBounds_toArray, List.set_cons_zero, List.set_cons_succ])
                      refine wpAnyH_take (i := 3) (oi := _) (v := undef) rfl (by kernel_rfl) (by kernel_rfl) (by kernel_rfl) (fun _ _ _ h => h) (Or.inr ⟨by kernel_rfl, rfl⟩) hHeld ?_
                      (try dsimp only [Act.put, List.setIfInBounds_toArray, List.set_cons_zero, List.set_cons_succ])
                      refine wpAnyH_take (i := 4) (oi := _) (v := undef) rfl (by kernel_rfl) (by kernel_rfl) (by kernel_rfl) (fun _ _ _ h => h) (Or.inr ⟨by kernel_rfl, rfl⟩) hHeld ?_
                      (try dsimp only [Act.put, List.setIfInBounds_toArray, List.set_cons_zero, List.set_cons_succ])
                      refine wpAnyH_take (i := 5) (oi := _) (v := undef) rfl (by kernel_rfl) (by kernel_rfl) (by kernel_rfl) (fun _ _ _ h => h) (Or.inr ⟨by kernel_rfl, rfl⟩) hHeld ?_
                      (try dsimp only [Act.put, List.setIfInBounds_toArray, List.set_cons_zero, List.set_cons_succ])
                      refine wpAnyH_take (i := 6) (oi := _) (v := undef) rfl (by kernel_rfl) (by kernel_rfl) (by kernel_rfl) (fun _ _ _ h => h) (Or.inr ⟨by kernel_rfl, rfl⟩) hHeld ?_
                      (try dsimp only [Act.put, List.setIfInBounds_toArray, List.set_cons_zero, List.set_cons_succ])
                      refine wpAnyH_take (i := 7) (oi := _) (v := undef) rfl (by kernel_rfl) (by kernel_rfl) (by kernel_rfl) (fun _ _ _ h => h) (Or.inr ⟨by kernel_rfl, rfl⟩) hHeld ?_
                      (try dsimp only [Act.put, List.setIfInBounds_toArray, List.set_cons_zero, List.set_cons_succ])
                      refine wpAnyH_take (i := 8) (oi := _) (v := undef) rfl (by kernel_rfl) (by kernel_rfl) (by kernel_rfl) (fun _ _ _ h => h) (Or.inr ⟨by kernel_rfl, rfl⟩) hHeld ?_
                      (try dsimp only [Act.put, List.setIfInBounds_toArray, List.set_cons_zero, List.set_cons_succ])
                      refine wpAnyH_take (i := 9) (oi := _) (v := ?_) rfl (by kernel_rfl) (by kernel_rfl) (by kernel_rfl) (fun _ _ _ h => h) (Or.inl ⟨by kernel_rfl, ?_⟩) hHeld ?_
                      rotate_left
                      · intro w0 hSw; (try dsimp only at hSw); go_simp; (try with_reducible rfl)
                      (try dsimp only [Act.put, List.setIfInBounds_toArray, List.set_cons_zero, List.set_cons_succ])
                      refine wpAnyH_done (by kernel_rfl) ?_ _
                      go_simp
                      obtain ⟨o2, ho2⟩ : ∃ o2, q * 4 = o2 := ⟨_, rfl⟩
                      have e0 : W7.cell? ⟨Y, 0, none⟩ = some (.int .i64 (aw + c.len)) := TY8.out.cell (i := 0) (by omega)
                      have e1 : W7.cell? ⟨Y, 1, none⟩ = some (.int .i64 (c.cnt + 1)) := TY8.out.cell (i := 1) (by omega)
                      have e2 : W7.cell? ⟨Y, 2, none⟩ = some (.int .i64 ((n : Int) + 1)) := TY8.out.cell (i := 2) (by omega)
                      have e3 : W7.cell? ⟨Y, 3, none⟩ = some (.int .i64 ((k : Int) + 1)) := TY8.out.cell (i := 3) (by omega)
                      have u0 := TX8.out.cell (i := o2) (by omega)
                      have g0 := TX8.out.fz o2
                      have U0 := TX8.out.set o2 (.int .i64 (aw + c.len))
                      have u1 := U0.cell (i := o2 + 1) (by omega)
                      have g1 := U0.fz (o2 + 1)
                      have U1 := U0.set (o2 + 1) (.int .i64 (c.cnt + 1))
                      have u2 := U1.cell (i := o2 + 2) (by omega)
                      have g2 := U1.fz (o2 + 2)
                      have U2 := U1.set (o2 + 2) (.int .i64 ((n : Int) + 1))
                      have u3 := U2.cell (i := o2 + 3) (by omega)
                      have g3 := U2.fz (o2 + 3)
                      have T9 := Lib.hid (show Tf (((((W7.setCell ⟨X, o2, none⟩ (.int .i64 (aw + c.len))).setCell ⟨X, o2 + 1, none⟩ (.int .i64 (c.cnt + 1))).setCell ⟨X, o2 + 2, none⟩ (.int .i64 ((n : Int) + 1))).setCell ⟨X, o2 + 3, none⟩ (.int .i64 ((k : Int) + 1)))).drew X (4 * (l.length + 1)) SCT (segF (tabT l q (aI k (n + 1)))) from (((seg_set TX8.out (⟨aw + c.len, c.cnt + 1, (n : Int) + 1, (k : Int) + 1⟩ : SegC) q (o := o2) ho2.symm).congr fun i hi => by rw [ES.out]; show fld (if i / 4 = q then (⟨aw + c.len, c.cnt + 1, (n : Int) + 1, (k : Int) + 1⟩ : SegC) else tabT l q (aI k n) (i / 4)) (i % 4) = _; rw [tabT_put]; rfl)).drew)
                      have B9 := Lib.hid (show Below X w (((((W7.setCell ⟨X, o2, none⟩ (.int .i64 (aw + c.len))).setCell ⟨X, o2 + 1, none⟩ (.int .i64 (c.cnt + 1))).setCell ⟨X, o2 + 2, none⟩ (.int .i64 ((n : Int) + 1))).setCell ⟨X, o2 + 3, none⟩ (.int .i64 ((k : Int) + 1)))).drew from (((((BX8.out.setCell (p := ⟨X, o2, none⟩) (Nat.le_refl _) _).setCell (p := ⟨X, o2 + 1, none⟩) (Nat.le_refl _) _).setCell (p := ⟨X, o2 + 2, none⟩) (Nat.le_refl _) _).setCell (p := ⟨X, o2 + 3, none⟩) (Nat.le_refl _) _)).drew)
                      have hfn := Lib.hid (show fndB (aI k (n + 1)) = true from by rw [ES.out]; exact HCC.out)
                      clear U0 U1 U2 TX8 TY8 BX8
                      go_wp2_with fail
                      go_roundw
                      case rel => exact ⟨n + 1, hmore, by rw [hfn.out], by go_num, T9, B9⟩
                      case measure => simp [intOf]; omega
                    | true =>
                      have hcnt : (aI k n).cnt ≠ 0 := by unfold fndB at hfb; simpa using hfb
                      have q0 : W7.drew.cell? ⟨Y, 0, none⟩ = some (.int .i64 (aw + c.len)) := TY8.out.drew.cell (i := 0) (by omega)
                      have q1 : W7.drew.cell? ⟨Y, 1, none⟩ = some (.int .i64 (c.cnt + 1)) := TY8.out.drew.cell (i := 1) (by omega)
                      have q2 : W7.drew.cell? ⟨Y, 2, none⟩ = some (.int .i64 ((n : Int) + 1)) := TY8.out.drew.cell (i := 2) (by omega)
                      have q3 : W7.drew.cell? ⟨Y, 3, none⟩ = some (.int .i64 ((k : Int) + 1)) := TY8.out.drew.cell (i := 3) (by omega)
                      have haq : tabT l q (aI k n) q = aI k n := by unfold tabT; rw [if_neg (by omega), if_pos rfl]
                      have q4 := seg_c0 TX8.out.drew (i := q) (o := q * 4) hnl rfl
                      have q5 := seg_c1 TX8.out.drew (i := q) (o := q * 4 + 1) hnl rfl
                      have q6 := seg_c2 TX8.out.drew (i := q) (o := q * 4 + 2) hnl rfl
                      have q7 := seg_c3 TX8.out.drew (i := q) (o := q * 4 + 3) hnl rfl
                      rw [haq] at q4 q5 q6 q7
                      have hqi : (q : Int) < (l.length : Int) + 1 := by omega
                      have TY9 := Lib.hid TY8.out.drew
                      have TX9 := Lib.hid TX8.out.drew
                      have BX9 := Lib.hid BX8.out.drew
                      have HBT := Lib.hid (show btr (⟨aw + c.len, c.cnt + 1, (n : Int) + 1, (k : Int) + 1⟩ : SegC) (aI k n) = true → aI k (n + 1) = (⟨aw + c.len, c.cnt + 1, (n : Int) + 1, (k : Int) + 1⟩ : SegC) from fun h => by rw [HI1.out]; unfold stepC; rw [if_pos (.inr h)])
                      have HBF := Lib.hid (show btr (⟨aw + c.len, c.cnt + 1, (n : Int) + 1, (k : Int) + 1⟩ : SegC) (aI k n) = false → aI k (n + 1) = aI k n from fun h => by rw [HI1.out]; unfold stepC; rw [if_neg (by rw [h]; simpa using hcnt)])
                      have hF : fndB (aI k n) = true := hfb
                      have HF := Lib.hid hF
                      clear TX8 TY8 BX8 hfb hcnt haq hF
                      refine wp_region_S (S := (fun w' => w'.cell? ⟨Y, 0, none⟩ = some ((.int .i64 (aw + c.len))) ∧ w'.cell? ⟨Y, 1, none⟩ = some ((.int .i64 (c.cnt + 1))) ∧ w'.cell? ⟨Y, 2, none⟩ = some ((.int .i64 ((n : Int) + 1))) ∧ w'.cell? ⟨Y, 3, none⟩ = some ((.int .i64 ((k : Int) + 1))) ∧ w'.cell? ⟨X, q * 4, none⟩ = some (.int .i64 (aI k n).len) ∧ w'.cell? ⟨X, q * 4 + 1, none⟩ = some (.int .i64 (aI k n).cnt) ∧ w'.cell? ⟨X, q * 4 + 2, none⟩ = some (.int .i64 (aI k n).size) ∧ w'.cell? ⟨X, q * 4 + 3, none⟩ = some (.int .i64 (aI k n).mode))) 10 rfl (by kernel_rfl) ?_ (fun hHeld => ?_)
                      · (try dsimp only); exact ⟨q0, q1, q2, q3, q4, q5, q6, q7⟩
                      refine wpAnyH_take (i := 0) (oi := _) (v := ?_) rfl (by kernel_rfl) (by kernel_rfl) (by kernel_rfl) (fun _ _ _ h => h) (Or.inl ⟨by kernel_rfl, ?_⟩) hHeld ?_
                      rotate_left
                      · intro w0 hSw; (try dsimp only at hSw); go_simp; (try with_reducible rfl)
                      (try dsimp only [Act.put, List.setIfInBounds_toArray, List.set_cons_zero, List.set_cons_succ])
                      refine wpAnyH_take (i := 1) (oi := _) (v := .bool false) rfl (by kernel_rfl) (by kernel_rfl) (by kernel_rfl) (fun _ _ _ h => h) (Or.inl ⟨by kernel_rfl, ?_⟩) hHeld ?_
                      · intro w0 hSw; (try dsimp only at hSw); go_simp <;> (first | done | rfl)
                      (try dsimp only [Act.put, List.setIfInBounds_toArray, List.set_cons_zero, List.set_cons_succ])
                      refine wpAnyH_take (i := 2) (oi := _) (v := .bool false) rfl (by kernel_rfl) (by kernel_rfl) (by kernel_rfl) (fun _ _ _ h => h) (Or.inl ⟨by kernel_rfl, ?_⟩) hHeld ?_
                      · intro w0 hSw; (try dsimp only at hSw); go_simp <;> (first | done | rfl)
                      (try dsimp only [Act.put, List.setIfInBounds_toArray, List.set_cons_zero, List.set_cons_succ])
                      refine wpAnyH_take (i := 3) (oi := _) (v := ?_) rfl (by kernel_rfl) (by kernel_rfl) (by kernel_rfl) (fun _ _ _ h => h) (Or.inl ⟨by kernel_rfl, ?_⟩) hHeld ?_
                      rotate_left
                      · intro w0 hSw; (try dsimp only at hSw); go_simp; (try with_reducible rfl)
                      (try dsimp only [Act.put, List.setIfInBounds_toArray, List.set_cons_zero, List.set_cons_succ])
                      refine wpAnyH_take (i := 4) (oi := _) (v := ?_) rfl (by kernel_rfl) (by kernel_rfl) (by kernel_rfl) (fun _ _ _ h => h) (Or.inl ⟨by kernel_rfl, ?_⟩) hHeld ?_
                      rotate_left
                      · intro w0 hSw; (try dsimp only at hSw); go_simp; (try with_reducible rfl)
                      (try dsimp only [Act.put, List.setIfInBounds_toArray, List.set_cons_zero, List.set_cons_succ])
                      refine wpAnyH_take (i := 5) (oi := _) (v := ?_) rfl (by kernel_rfl) (by kernel_rfl) (by kernel_rfl) (fun _ _ _ h => h) (Or.inl ⟨by kernel_rfl, ?_⟩) hHeld ?_
                      rotate_left
                      · intro w0 hSw; (try dsimp only at hSw); go_simp; (try with_reducible rfl)
                      (try dsimp only [Act.put, List.setIfInBounds_toArray, List.set_cons_zero, List.set_cons_succ])
                      refine wpAnyH_take (i := 6) (oi := _) (v := ?_) rfl (by kernel_rfl) (by kernel_rfl) (by kernel_rfl) (fun _ _ _ h => h) (Or.inl ⟨by kernel_rfl, ?_⟩) hHeld ?_
                      rotate_left
                      · intro w0 hSw; (try dsimp only at hSw); go_simp; (try with_reducible rfl)
                      (try dsimp only [Act.put, List.setIfInBounds_toArray, List.set_cons_zero, List.set_cons_succ])
                      refine wpAnyH_take (i := 7) (oi := _) (v := ?_) rfl (by kernel_rfl) (by kernel_rfl) (by kernel_rfl) (fun _ _ _ h => h) (Or.inl ⟨by kernel_rfl, ?_⟩) hHeld ?_
                      rotate_left
                      · intro w0 hSw; (try dsimp only at hSw); go_simp; (try with_reducible rfl)
                      (try dsimp only [Act.put, List.setIfInBounds_toArray, List.set_cons_zero, List.set_cons_succ])
                      refine wpAnyH_ready (rs := [8]) (by kernel_rfl) (by simp) ?_
                      refine AllReadyH.cons (o := _) rfl (fun K hK => ?_) AllReadyH.nil
                      go_simp
                      refine (l10Better_any (⟨aw + c.len, c.cnt + 1, (n : Int) + 1, (k : Int) + 1⟩ : SegC) (aI k n) _).mono ?_
                      rintro e w8 ⟨rfl, hb8⟩
                      go_wp2_with fail
                      refine hK.out _ _ ?_ (fun hHeld => ?_)
                      · (try dsimp only); exact ⟨keep_cell hb8 hHeld.1, keep_cell hb8 hHeld.2.1, keep_cell hb8 hHeld.2.2.1, keep_cell hb8 hHeld.2.2.2.1, keep_cell hb8 hHeld.2.2.2.2.1, keep_cell hb8 hHeld.2.2.2.2.2.1, keep_cell hb8 hHeld.2.2.2.2.2.2.1, keep_cell hb8 hHeld.2.2.2.2.2.2.2⟩
                      clear hK K
                      (try dsimp only [Act.put, List.setIfInBounds_toArray, List.set_cons_zero, List.set_cons_succ])
                      refine wpAnyH_take (i := 9) (oi := _) (v := ?_) rfl (by kernel_rfl) (by kernel_rfl) (by kernel_rfl) (fun _ _ _ h => h) (Or.inl ⟨by kernel_rfl, ?_⟩) hHeld ?_
                      rotate_left
                      · intro w0 hSw; (try dsimp only at hSw); go_simp; (try with_reducible rfl)
                      (try dsimp only [Act.put, List.setIfInBounds_toArray, List.set_cons_zero, List.set_cons_succ])
                      refine wpAnyH_done (by kernel_rfl) ?_ _
                      go_simp
                      clear q0 q1 q2 q3 q4 q5 q6 q7 hHeld
                      have TX8 := Lib.hid (TX9.out.below hb8 TX9.out.lt)
                      have TY8 := Lib.hid (TY9.out.below hb8 TY9.out.lt)
                      have BX8 := Lib.hid (BX9.out.trans (hb8.mono (Nat.le_of_lt TX9.out.lt)))
                      clear hb8 TX9 TY9 BX9
                      cases hbt : btr (⟨aw + c.len, c.cnt + 1, (n : Int) + 1, (k : Int) + 1⟩ : SegC) (aI k n) with
                      | true =>
                        have ES := Lib.hid (HBT.out hbt)
                        clear hbt
                        obtain ⟨o2, ho2⟩ : ∃ o2, q * 4 = o2 := ⟨_, rfl⟩
                        have e0 : w8.cell? ⟨Y, 0, none⟩ = some (.int .i64 (aw + c.len)) := TY8.out.cell (i := 0) (by omega)
                        have e1 : w8.cell? ⟨Y, 1, none⟩ = some (.int .i64 (c.cnt + 1)) := TY8.out.cell (i := 1) (by omega)
                        have e2 : w8.cell? ⟨Y, 2, none⟩ = some (.int .i64 ((n : Int) + 1)) := TY8.out.cell (i := 2) (by omega)
                        have e3 : w8.cell? ⟨Y, 3, none⟩ = some (.int .i64 ((k : Int) + 1)) := TY8.out.cell (i := 3) (by omega)
                        have u0 := TX8.out.cell (i := o2) (by omega)
                        have g0 := TX8.out.fz o2
                        have U0 := TX8.out.set o2 (.int .i64 (aw + c.len))
                        have u1 := U0.cell (i := o2 + 1) (by omega)
                        have g1 := U0.fz (o2 + 1)
                        have U1 := U0.set (o2 + 1) (.int .i64 (c.cnt + 1))
                        have u2 := U1.cell (i := o2 + 2) (by omega)
                        have g2 := U1.fz (o2 + 2)
                        have U2 := U1.set (o2 + 2) (.int .i64 ((n : Int) + 1))
                        have u3 := U2.cell (i := o2 + 3) (by omega)
                        have g3 := U2.fz (o2 + 3)
                        have T9 := Lib.hid (show Tf ((((w8.setCell ⟨X, o2, none⟩ (.int .i64 (aw + c.len))).setCell ⟨X, o2 + 1, none⟩ (.int .i64 (c.cnt + 1))).setCell ⟨X, o2 + 2, none⟩ (.int .i64 ((n : Int) + 1))).setCell ⟨X, o2 + 3, none⟩ (.int .i64 ((k : Int) + 1))) X (4 * (l.length + 1)) SCT (segF (tabT l q (aI k (n + 1)))) from (((seg_set TX8.out (⟨aw + c.len, c.cnt + 1, (n : Int) + 1, (k : Int) + 1⟩ : SegC) q (o := o2) ho2.symm).congr fun i hi => by rw [ES.out]; show fld (if i / 4 = q then (⟨aw + c.len, c.cnt + 1, (n : Int) + 1, (k : Int) + 1⟩ : SegC) else tabT l q (aI k n) (i / 4)) (i % 4) = _; rw [tabT_put]; rfl)))
                        have B9 := Lib.hid (show Below X w ((((w8.setCell ⟨X, o2, none⟩ (.int .i64 (aw + c.len))).setCell ⟨X, o2 + 1, none⟩ (.int .i64 (c.cnt + 1))).setCell ⟨X, o2 + 2, none⟩ (.int .i64 ((n : Int) + 1))).setCell ⟨X, o2 + 3, none⟩ (.int .i64 ((k : Int) + 1))) from (((((BX8.out.setCell (p := ⟨X, o2, none⟩) (Nat.le_refl _) _).setCell (p := ⟨X, o2 + 1, none⟩) (Nat.le_refl _) _).setCell (p := ⟨X, o2 + 2, none⟩) (Nat.le_refl _) _).setCell (p := ⟨X, o2 + 3, none⟩) (Nat.le_refl _) _)))
                        have hfn := Lib.hid (show fndB (aI k (n + 1)) = true from by rw [ES.out]; exact HCC.out)
                        clear U0 U1 U2 TX8 TY8 BX8
                        go_wp2_with fail
                        go_roundw
                        case rel => exact ⟨n + 1, hmore, by rw [hfn.out], by go_num, T9, B9⟩
                        case measure => simp [intOf]; omega
                      | false =>
                        have ES := Lib.hid (HBF.out hbt)
                        have T9 := Lib.hid (TX8.out.congr (g := segF (tabT l q (aI k (n + 1)))) fun i hi => by rw [ES.out])
                        clear hbt
                        go_wp2_with fail
                        go_roundw
                        case rel => exact ⟨n + 1, hmore, by rw [ES.out, HF.out], by go_num, T9, BX8⟩
                        case measure => simp [intOf]; omega
              · have x1 : (n : Int) + 1 ≤ 255 := by omega
                have x2 : ¬ (q : Int) + ((n : Int) + 1) ≤ (l.length : Int) := by omega
                have T4 := Lib.hid (hT3.out.congr (g := segF (tabT l q (aO (k + 1)))) fun i hi => by rw [HQ.out.s, show rch k = n by omega])
                have E4 := Lib.hid (show aI k n = aO (k + 1) from by rw [HQ.out.s, show rch k = n by omega])
                go_wp2_with fail
                go_roundw
                case rel => exact ⟨k + 1, by omega, by rw [E4.out], by go_num, T4, hB3⟩
                case measure => simp [intOf]; omega
            · have x1 : ¬ (n : Int) + 1 ≤ 255 := by omega
              have T4 := Lib.hid (hT3.out.congr (g := segF (tabT l q (aO (k + 1)))) fun i hi => by rw [HQ.out.s, show rch k = n by omega])
              have E4 := Lib.hid (show aI k n = aO (k + 1) from by rw [HQ.out.s, show rch k = n by omega])
              go_wp2_with fail
              go_roundw
              case rel => exact ⟨k + 1, by omega, by rw [E4.out], by go_num, T4, hB3⟩
              case measure => simp [intOf]; omega
        · obtain rfl : k = 4 := by omega
          have T3 := Lib.hid (hT2.out.congr (g := segF (tabU l q)) fun i hi => by unfold segF; rw [HQ.out.fin])
          go_wp2_with fail
          go_roundw
          case rel => exact ⟨q, by omega, rfl, T3, hB2⟩
          case measure => simp [intOf]
def bestP (l : List UInt8) : Int := (tcC l 0).len
theorem bestP_bd {l : List UInt8} (hl : l.length ≤ 400) : 0 ≤ bestP l ∧ bestP l ≤ 1200000 := by
  have h := tab_ok hl 0
  exact ⟨h.1, h.2.1⟩
theorem specBestLength_any (l : List UInt8) (hl : l.length ≤ 400) (w : World) :
    Calls Tryz.prog 66 #[.string (str l)] w fun e w' => e = .returned (.tuple #[.int .i64 (bestP l), .int .i64 0]) ∧ Below w.heap.size w w' := by
  have hsz := str_size l
  have h1 : ¬ (400 : Int) < (l.length : Int) := by omega
  go_enter Tryz.func66, Tryz.ntmps66
  go_wp2_with fail
  refine (l10Table_any l hl _).mono ?_
  rintro e w1 ⟨B, rfl, hb1, hB, hT⟩
  have c0 := seg_c0 hT (i := 0) (o := 0) (by omega) rfl
  rw [show (tabU l 0 0).len = bestP l from by rw [tabU_zero]; rfl] at c0
  have hB1 := Lib.hid hb1
  have h2 : (0 : Int) < (l.length : Int) + 1 := by omega
  have h3 : 0 < l.length + 1 := by omega
  clear hT hb1 hB
  go_wp2_with fail
  go_ret2
  exact ⟨rfl, hB1.out⟩
end Go.Proofs.YtdcmebegnekkcaaGreat
