/-
  The program's table of the best segmentations: the walk.
-/
import Derived.Test.YtdcmebegnekkcaaGreatSegc
import Derived.Test.YtdcmebegnekkcaaGreatSegU
namespace Go.Proofs.YtdcmebegnekkcaaGreat
open Go.RowKit
set_option linter.unusedVariables false

set_option maxHeartbeats 8000000 in
set_option maxRecDepth 100000 in
theorem choices_any (l : List UInt8) (hl : l.length ≤ 400) (w : World) :
    Calls Tryz.prog 153 #[.string (str l)] w fun e w' => ∃ B, e = .returned (.slice (some ⟨B, 0, none⟩) (l.length + 1) (l.length + 1)) ∧ Below w.heap.size w w' ∧ w.heap.size ≤ B ∧ Tf w' B (4 * (l.length + 1)) ChT (segF (tabU l 0)) := by
  have hsz := str_size l
  have hmk := fun w => run_make_cho w (l.length + 1) (by omega)
  have T0 := Lib.hid (((Tf.made w #[.int .i64 0, .int .i64 0, .int .i64 0, .int .i64 0] ((l.length + 1) * 4) ChT (.int .i64 0) (by decide) (fun i hi => by have hi : i < 4 := hi; rcases (show i = 0 ∨ i = 1 ∨ i = 2 ∨ i = 3 by omega) with rfl | rfl | rfl | rfl <;> rfl)).congr (g := segF (tabU l l.length)) fun i hi => by
    unfold segF
    rw [tabU_top l _ (by omega)]
    unfold fld zeroC
    simp))
  have B0 := Lib.hid (below1 w (.cells (madeCells #[.int .i64 0, .int .i64 0, .int .i64 0, .int .i64 0] ((l.length + 1) * 4)) ChT))
  rw [show (l.length + 1) * 4 = 4 * (l.length + 1) by omega] at T0 B0
  simp only [show (l.length + 1) * 4 = 4 * (l.length + 1) by omega] at hmk
  push_cast at hmk
  go_enter Tryz.func153, Tryz.ntmps153
  go_wp2_with fail
  refine (widthsOfSegments_any _).mono ?_
  rintro e w2 ⟨Wd, rfl, hb2, hWd, hT2⟩
  clear hmk
  obtain ⟨X, hX⟩ : ∃ X, w.heap.size = X := ⟨_, rfl⟩
  have hWd1 : X + 1 ≤ Wd := by simp at hWd; omega
  have BX2 := (B0.out.trans (hb2.mono (by simp)))
  have TX2 := T0.out.below hb2 T0.out.lt
  have hWd2 : Wd < w2.heap.size := hT2.lt
  have C3 := Lib.hid (show Ch3 w (w2.alloc (.cells #[.int .i64 0, .int .i64 0, .int .i64 0, .int .i64 0, .int .i64 0] ReT)) l.length X Wd w2.heap.size (tabU l l.length) (rchU l l.length) from
    ⟨hX ▸ TX2.below (below1 w2 _) TX2.lt, hT2.below (below1 w2 _) hT2.lt, (tf_zeros w2 #[.int .i64 0, .int .i64 0, .int .i64 0, .int .i64 0, .int .i64 0] ReT 5 rfl (by decide)).congr fun i _ => by unfold rcF; rw [← rchU_top]; rfl,
     hX ▸ BX2.alloc (by have := TX2.lt; omega) _, by omega, hWd2⟩)
  rw [hX]
  clear hb2 hT2 T0 B0 BX2 TX2 hWd
  obtain ⟨Rb, hRb⟩ : ∃ Rb, w2.heap.size = Rb := ⟨_, rfl⟩
  rw [hRb] at C3
  go_wp2_with fail
  (try rw [hRb])
  clear hRb hWd1 hWd2
  obtain ⟨W3, hW3⟩ : ∃ W3, w2.alloc (.cells #[.int .i64 0, .int .i64 0, .int .i64 0, .int .i64 0, .int .i64 0] ReT) = W3 := ⟨_, rfl⟩
  rw [hW3] at C3
  (try rw [hW3])
  clear hW3
  go_loopw [6] (fun ti wr => ∃ j : Nat, j ≤ l.length ∧ ti = .int .i64 ((j : Int) - 1) ∧ Hid (Ch3 w wr l.length X Wd Rb (tabU l j) (rchU l j))) (fun ti _ => (intOf ti + 1).toNat)
  case atStart => exact ⟨l.length, Nat.le_refl _, rfl, C3⟩
  case round =>
    clear C3
    obtain ⟨j, hj, rfl, hC⟩ := hrel
    by_cases hj0 : j = 0
    · subst hj0
      go_wp2_with fail
      go_ret
      exact ⟨X, rfl, hX ▸ hC.out.bel, by omega, hC.out.tab⟩
    · obtain ⟨q, rfl⟩ : ∃ q, j = q + 1 := ⟨j - 1, by omega⟩
      rw [show ((q + 1 : Nat) : Int) - 1 = (q : Int) by omega]
      clear hj0
      have hq : q < l.length := hj
      obtain ⟨aO, aI, rch, HQ⟩ := segQ hl hq
      have HQ := Lib.hid HQ
      have hqs : q < (str l).size := by rw [hsz]; exact hq
      have HV := Lib.hid (show ((((str l)[q]'hqs).toNat : Int)) = ((l[q]'hq).toNat : Int) from by rw [str_get])
      have C4 := hC.out.alloc (.cells #[.int .i64 0, .int .i64 0, .int .i64 0, .int .i64 0] ChT)
      have TY4 := Lib.hid ((Tf.mkd wr #[.int .i64 0, .int .i64 0, .int .i64 0, .int .i64 0] ChT).congr (g := segF fun _ => zeroC) fun i hi => by have hi : i < 4 := hi; rcases (show i = 0 ∨ i = 1 ∨ i = 2 ∨ i = 3 by omega) with rfl | rfl | rfl | rfl <;> rfl)
      have hRY : Rb < wr.heap.size := hC.out.lt
      go_wp2_with fail
      refine (take_any C4.rea (fun i => rchU_le l (q + 1) i) (l[q]'hq) _ HV.out).mono ?_
      rintro e w4 ⟨rfl, hd4, hT4⟩
      have C5 := Lib.hid ((C4.dr hd4 hT4).congr (u' := tabU l (q + 1)) (rr' := rchU l q) (fun _ => rfl) (fun i _ => rchU_take l hq i))
      have TY5 := Lib.hid (TY4.out.dr hd4 (by omega))
      obtain ⟨Yb, hYb⟩ : ∃ Yb, wr.heap.size = Yb := ⟨_, rfl⟩
      rw [hYb] at TY5 hRY
      rw [hYb]
      have hz : aO 0 = zeroC := HQ.out.z
      clear hd4 hT4 C4 TY4 hC HV hYb
      have T5 : Tf w4 Yb (4 * 1) ChT (segF fun _ => aO 0) := by rw [hz]; exact TY5.out
      have T5 := Lib.hid T5
      clear TY5
      go_wp2_with fail
      go_loopw [8] (fun tm ws => ∃ k : Nat, k ≤ 4 ∧ tm = .int .i64 ((k : Int) + 1) ∧ Hid (Ch3 w ws l.length X Wd Rb (tabU l (q + 1)) (rchU l q)) ∧ Hid (Tf ws Yb (4 * 1) ChT (segF fun _ => aO k))) (fun tm _ => (5 - intOf tm).toNat)
      case atStart => exact ⟨0, by omega, rfl, C5, T5⟩
      case round =>
        clear C5 T5 hz
        obtain ⟨k, hk, rfl, hC2, hT2⟩ := hrel
        by_cases hk4 : k < 4
        · have hk5 : (k : Int) + 1 ≤ 4 := by omega
          have hk6 : (k : Int) + 1 < 5 := by omega
          have T3 := Lib.hid (show Tf wr Yb (4 * 1) ChT (segF fun _ => aI k 0) from by rw [HQ.out.i0]; exact hT2.out)
          clear hT2
          go_wp2_with fail
          go_loopw [9] (fun tn wt => ∃ n : Nat, n ≤ rch k ∧ tn = .int .i64 ((n : Int) + 1) ∧ Hid (Ch3 w wt l.length X Wd Rb (tabU l (q + 1)) (rchU l q)) ∧ Hid (Tf wt Yb (4 * 1) ChT (segF fun _ => aI k n))) (fun tn _ => (256 - intOf tn).toNat)
          case atStart => exact ⟨0, by omega, rfl, hC2, T3⟩
          case round =>
            clear T3 hC2
            obtain ⟨n, hn, rfl, hC3, hT3⟩ := hrel
            have hr1 := HQ.out.r255 k
            have hr2 := HQ.out.rN k
            have cR : wr.cell? ⟨Rb, k + 1, none⟩ = some (.int .i64 ((rch k : Nat) : Int)) := by
              rw [hC3.out.rea.cell (by omega)]
              unfold rcF rchU
              rw [if_pos (by omega), HQ.out.r]; rfl
            by_cases hnr : n < rch k
            · have x1 : (n : Int) + 1 ≤ ((rch k : Nat) : Int) := by omega
              have HI1 := Lib.hid (HQ.out.i1 k n hnr)
              obtain ⟨o, ho⟩ : ∃ o, (q + (n + 1)) * 4 = o := ⟨_, rfl⟩
              have hcT : tabU l (q + 1) (q + (n + 1)) = tcC l (q + (n + 1)) := by unfold tabU tcC; rw [if_neg (by omega)]
              have hcok : okC (tcC l (q + (n + 1))) := tab_ok hl (q + (n + 1))
              have r0 := seg_c0 hC3.out.tab (i := q + (n + 1)) (o := o) (by omega) ho.symm
              have r1 := seg_c1 hC3.out.tab (i := q + (n + 1)) (o := o + 1) (by omega) (by omega)
              have r2 := seg_c2 hC3.out.tab (i := q + (n + 1)) (o := o + 2) (by omega) (by omega)
              have r3 := seg_c3 hC3.out.tab (i := q + (n + 1)) (o := o + 3) (by omega) (by omega)
              rw [hcT] at r0 r1 r2 r3
              have haok := HQ.out.ok k n hk4 (by omega)
              have hwb := segW_bd ((k : Int) + 1) (n + 1)
              have hlt := hC3.out.tab.lt
              clear hcT
              generalize tcC l (q + (n + 1)) = c at *
              go_wp2_with fail
              clear r0 r1 r2 r3 ho
              obtain ⟨W1, hW1⟩ : ∃ W1, wr.alloc (.cells #[.int .i64 c.len, .int .i64 c.cnt, .int .i64 c.size, .int .i64 c.mode] ChT) = W1 := ⟨_, rfl⟩
              obtain ⟨Y1, hY1⟩ : ∃ Y1, wr.heap.size = Y1 := ⟨_, rfl⟩
              have D1 : Tf W1 Y1 4 ChT (fun i => #[Value.int .i64 c.len, .int .i64 c.cnt, .int .i64 c.size, .int .i64 c.mode][i]!) := by rw [← hW1, ← hY1]; exact Tf.mkd wr _ ChT
              have C1 := Lib.hid (show Ch3 w W1 l.length X Wd Rb (tabU l (q + 1)) (rchU l q) from by rw [← hW1]; exact hC3.out.alloc _)
              have T1 := Lib.hid (show Tf W1 Yb (4 * 1) ChT (segF fun _ => aI k n) from by rw [← hW1]; exact hT3.out.below (below1 wr _) hT3.out.lt)
              have hYY : Yb < Y1 := by rw [← hY1]; exact hT3.out.lt
              have hYW : Y1 < W1.heap.size := D1.lt
              rw [hW1, hY1]
              clear hW1 hY1 hC3 hT3 cR
              have d0 : W1.cell? ⟨Y1, 0, none⟩ = some (.int .i64 c.len) := D1.cell (by omega)
              have d1 : W1.cell? ⟨Y1, 1, none⟩ = some (.int .i64 c.cnt) := D1.cell (by omega)
              have d2 : W1.cell? ⟨Wd, (k + 1) * 256 + (n + 1), none⟩ = some (.int .i64 (segW ((k : Int) + 1) (n + 1))) := by
                rw [C1.out.wid.cell (by omega), wdF_at (by omega) (by omega) (by omega) (by omega)]; push_cast; rfl
              have hWdW : Wd < W1.heap.size := C1.out.wid.lt
              have i2 : (n : Int) + 1 < 256 := by omega
              have i3 : (0 : Int) ≤ (k : Int) + 1 := by omega
              have i4 : (0 : Int) ≤ (n : Int) + 1 := by omega
              obtain ⟨aw, hawdef⟩ : ∃ aw, aw = segW ((k : Int) + 1) (n + 1) := ⟨_, rfl⟩
              rw [← hawdef] at HI1 hwb d2
              have y1 : -1000000000000 ≤ aw + c.len ∧ aw + c.len ≤ 1000000000000 := by obtain ⟨h1, h2, _⟩ := hcok; omega
              have y2 : -1000000000000 ≤ c.cnt + 1 ∧ c.cnt + 1 ≤ 1000000000000 := by obtain ⟨h1, h2, h3, h4, _⟩ := hcok; omega
              clear hawdef D1
              obtain ⟨v1, v2⟩ := wrp y1
              obtain ⟨v3, v4⟩ := wrp y2
              clear y1 y2
              go_region
              go_simp
              obtain ⟨W2, hW2⟩ : ∃ W2, W1.alloc (.cells #[(.int .i64 (aw + c.len)), (.int .i64 (c.cnt + 1)), (.int .i64 ((n : Int) + 1)), (.int .i64 ((k : Int) + 1))] ChT) = W2 := ⟨_, rfl⟩
              obtain ⟨Y2, hY2⟩ : ∃ Y2, W1.heap.size = Y2 := ⟨_, rfl⟩
              have TY := Lib.hid (show Tf W2 Y2 (4 * 1) ChT (segF fun _ => (⟨aw + c.len, c.cnt + 1, (n : Int) + 1, (k : Int) + 1⟩ : SegC)) from by rw [← hW2, ← hY2]; exact (Tf.mkd W1 #[(.int .i64 (aw + c.len)), (.int .i64 (c.cnt + 1)), (.int .i64 ((n : Int) + 1)), (.int .i64 ((k : Int) + 1))] ChT).congr fun i hi => by have hi : i < 4 := hi; rcases (show i = 0 ∨ i = 1 ∨ i = 2 ∨ i = 3 by omega) with rfl | rfl | rfl | rfl <;> rfl)
              have CH := Lib.hid (show Ch3 w W2 l.length X Wd Rb (tabU l (q + 1)) (rchU l q) from by rw [← hW2]; exact C1.out.alloc _)
              have TB := Lib.hid (show Tf W2 Yb (4 * 1) ChT (segF fun _ => aI k n) from by rw [← hW2]; exact T1.out.below (below1 W1 _) T1.out.lt)
              rw [hY2]
              rw [hY2] at hYW hWdW
              (try rw [hW2])
              have hBY : Yb < Y2 := by omega
              clear hW2 hY2 C1 T1 d0 d1 d2 v1 v2 v3 v4
              have b1 := seg_c1 TB.out (i := 0) (o := 1) (by omega) rfl
              by_cases hcnt : (aI k n).cnt = 0
              · have hc0 : ((aI k n).cnt == 0) = true := by simp [hcnt]
                have ES := Lib.hid (show aI k (n + 1) = (⟨aw + c.len, c.cnt + 1, (n : Int) + 1, (k : Int) + 1⟩ : SegC) from by rw [HI1.out]; unfold stepC; rw [if_pos (.inl hcnt)])
                clear hcnt b1
                have e0 : W2.cell? ⟨Y2, 0, none⟩ = some (.int .i64 (aw + c.len)) := TY.out.cell (i := 0) (by omega)
                have e1 : W2.cell? ⟨Y2, 1, none⟩ = some (.int .i64 (c.cnt + 1)) := TY.out.cell (i := 1) (by omega)
                have e2 : W2.cell? ⟨Y2, 2, none⟩ = some (.int .i64 ((n : Int) + 1)) := TY.out.cell (i := 2) (by omega)
                have e3 : W2.cell? ⟨Y2, 3, none⟩ = some (.int .i64 ((k : Int) + 1)) := TY.out.cell (i := 3) (by omega)
                have b0 := seg_c0 TB.out (i := 0) (o := 0) (by omega) rfl
                have b1 := seg_c1 TB.out (i := 0) (o := 1) (by omega) rfl
                have b2 := seg_c2 TB.out (i := 0) (o := 2) (by omega) rfl
                have b3 := seg_c3 TB.out (i := 0) (o := 3) (by omega) rfl
                have f0 := TB.out.fz 0
                have f1 := TB.out.fz 1
                have f2 := TB.out.fz 2
                have f3 := TB.out.fz 3
                have TS : Tf ((((W2.setCell ⟨Yb, 0, none⟩ (.int .i64 (aw + c.len))).setCell ⟨Yb, 1, none⟩ (.int .i64 (c.cnt + 1))).setCell ⟨Yb, 2, none⟩ (.int .i64 ((n : Int) + 1))).setCell ⟨Yb, 3, none⟩ (.int .i64 ((k : Int) + 1))) Yb (4 * 1) ChT (segF (fun x => if x = 0 then (⟨aw + c.len, c.cnt + 1, (n : Int) + 1, (k : Int) + 1⟩ : SegC) else aI k n)) := seg_set TB.out (⟨aw + c.len, c.cnt + 1, (n : Int) + 1, (k : Int) + 1⟩ : SegC) 0 (o := 0) rfl
                have T9 := Lib.hid (show Tf (((((W2.setCell ⟨Yb, 0, none⟩ (.int .i64 (aw + c.len))).setCell ⟨Yb, 1, none⟩ (.int .i64 (c.cnt + 1))).setCell ⟨Yb, 2, none⟩ (.int .i64 ((n : Int) + 1))).setCell ⟨Yb, 3, none⟩ (.int .i64 ((k : Int) + 1)))).drew Yb (4 * 1) ChT (segF fun _ => aI k (n + 1)) from ((TS.congr fun i hi => by rw [ES.out]; show fld (if i / 4 = 0 then (⟨aw + c.len, c.cnt + 1, (n : Int) + 1, (k : Int) + 1⟩ : SegC) else aI k n) (i % 4) = fld (⟨aw + c.len, c.cnt + 1, (n : Int) + 1, (k : Int) + 1⟩ : SegC) (i % 4); rw [if_pos (by omega)])).drew)
                have C9 := Lib.hid (show Ch3 w (((((W2.setCell ⟨Yb, 0, none⟩ (.int .i64 (aw + c.len))).setCell ⟨Yb, 1, none⟩ (.int .i64 (c.cnt + 1))).setCell ⟨Yb, 2, none⟩ (.int .i64 ((n : Int) + 1))).setCell ⟨Yb, 3, none⟩ (.int .i64 ((k : Int) + 1)))).drew l.length X Wd Rb (tabU l (q + 1)) (rchU l q) from (((((CH.out.other hRY 0 _).other hRY 1 _).other hRY 2 _).other hRY 3 _)).drew)
                clear TS TY TB CH
                go_wp2_with fail
                go_roundw
                case rel => exact ⟨n + 1, hnr, by go_num, C9, T9⟩
                case measure => simp [intOf]; omega
              · have hc0 : ((aI k n).cnt == 0) = false := by simp [hcnt]
                have HBT := Lib.hid (show btr (⟨aw + c.len, c.cnt + 1, (n : Int) + 1, (k : Int) + 1⟩ : SegC) (aI k n) = true → aI k (n + 1) = (⟨aw + c.len, c.cnt + 1, (n : Int) + 1, (k : Int) + 1⟩ : SegC) from fun h => by rw [HI1.out]; unfold stepC; rw [if_pos (.inr h)])
                have HBF := Lib.hid (show btr (⟨aw + c.len, c.cnt + 1, (n : Int) + 1, (k : Int) + 1⟩ : SegC) (aI k n) = false → aI k (n + 1) = aI k n from fun h => by rw [HI1.out]; unfold stepC; rw [if_neg (by rw [h]; simpa using hcnt)])
                have b0 := seg_c0 TB.out (i := 0) (o := 0) (by omega) rfl
                have b2 := seg_c2 TB.out (i := 0) (o := 2) (by omega) rfl
                have b3 := seg_c3 TB.out (i := 0) (o := 3) (by omega) rfl
                have e0 : W2.cell? ⟨Y2, 0, none⟩ = some (.int .i64 (aw + c.len)) := TY.out.cell (i := 0) (by omega)
                have e1 : W2.cell? ⟨Y2, 1, none⟩ = some (.int .i64 (c.cnt + 1)) := TY.out.cell (i := 1) (by omega)
                have e2 : W2.cell? ⟨Y2, 2, none⟩ = some (.int .i64 ((n : Int) + 1)) := TY.out.cell (i := 2) (by omega)
                have e3 : W2.cell? ⟨Y2, 3, none⟩ = some (.int .i64 ((k : Int) + 1)) := TY.out.cell (i := 3) (by omega)
                clear hcnt
                go_wp2_with fail
                refine (better_any (⟨aw + c.len, c.cnt + 1, (n : Int) + 1, (k : Int) + 1⟩ : SegC) (aI k n) _).mono ?_
                rintro e w8 ⟨rfl, hb8⟩
                have CH := Lib.hid (CH.out.drew.below hb8)
                have TY := Lib.hid (TY.out.drew.below hb8 TY.out.drew.lt)
                have TB := Lib.hid (TB.out.drew.below hb8 TB.out.drew.lt)
                clear hb8 b0 b1 b2 b3 e0 e1 e2 e3
                cases hbt : btr (⟨aw + c.len, c.cnt + 1, (n : Int) + 1, (k : Int) + 1⟩ : SegC) (aI k n) with
                | true =>
                  have ES := Lib.hid (HBT.out hbt)
                  clear hbt
                  have e0 : w8.cell? ⟨Y2, 0, none⟩ = some (.int .i64 (aw + c.len)) := TY.out.cell (i := 0) (by omega)
                  have e1 : w8.cell? ⟨Y2, 1, none⟩ = some (.int .i64 (c.cnt + 1)) := TY.out.cell (i := 1) (by omega)
                  have e2 : w8.cell? ⟨Y2, 2, none⟩ = some (.int .i64 ((n : Int) + 1)) := TY.out.cell (i := 2) (by omega)
                  have e3 : w8.cell? ⟨Y2, 3, none⟩ = some (.int .i64 ((k : Int) + 1)) := TY.out.cell (i := 3) (by omega)
                  have b0 := seg_c0 TB.out (i := 0) (o := 0) (by omega) rfl
                  have b1 := seg_c1 TB.out (i := 0) (o := 1) (by omega) rfl
                  have b2 := seg_c2 TB.out (i := 0) (o := 2) (by omega) rfl
                  have b3 := seg_c3 TB.out (i := 0) (o := 3) (by omega) rfl
                  have f0 := TB.out.fz 0
                  have f1 := TB.out.fz 1
                  have f2 := TB.out.fz 2
                  have f3 := TB.out.fz 3
                  have TS : Tf ((((w8.setCell ⟨Yb, 0, none⟩ (.int .i64 (aw + c.len))).setCell ⟨Yb, 1, none⟩ (.int .i64 (c.cnt + 1))).setCell ⟨Yb, 2, none⟩ (.int .i64 ((n : Int) + 1))).setCell ⟨Yb, 3, none⟩ (.int .i64 ((k : Int) + 1))) Yb (4 * 1) ChT (segF (fun x => if x = 0 then (⟨aw + c.len, c.cnt + 1, (n : Int) + 1, (k : Int) + 1⟩ : SegC) else aI k n)) := seg_set TB.out (⟨aw + c.len, c.cnt + 1, (n : Int) + 1, (k : Int) + 1⟩ : SegC) 0 (o := 0) rfl
                  have T9 := Lib.hid (show Tf ((((w8.setCell ⟨Yb, 0, none⟩ (.int .i64 (aw + c.len))).setCell ⟨Yb, 1, none⟩ (.int .i64 (c.cnt + 1))).setCell ⟨Yb, 2, none⟩ (.int .i64 ((n : Int) + 1))).setCell ⟨Yb, 3, none⟩ (.int .i64 ((k : Int) + 1))) Yb (4 * 1) ChT (segF fun _ => aI k (n + 1)) from ((TS.congr fun i hi => by rw [ES.out]; show fld (if i / 4 = 0 then (⟨aw + c.len, c.cnt + 1, (n : Int) + 1, (k : Int) + 1⟩ : SegC) else aI k n) (i % 4) = fld (⟨aw + c.len, c.cnt + 1, (n : Int) + 1, (k : Int) + 1⟩ : SegC) (i % 4); rw [if_pos (by omega)])))
                  have C9 := Lib.hid (show Ch3 w ((((w8.setCell ⟨Yb, 0, none⟩ (.int .i64 (aw + c.len))).setCell ⟨Yb, 1, none⟩ (.int .i64 (c.cnt + 1))).setCell ⟨Yb, 2, none⟩ (.int .i64 ((n : Int) + 1))).setCell ⟨Yb, 3, none⟩ (.int .i64 ((k : Int) + 1))) l.length X Wd Rb (tabU l (q + 1)) (rchU l q) from (((((CH.out.other hRY 0 _).other hRY 1 _).other hRY 2 _).other hRY 3 _)))
                  clear TS TY TB CH
                  go_wp2_with fail
                  go_roundw
                  case rel => exact ⟨n + 1, hnr, by go_num, C9, T9⟩
                  case measure => simp [intOf]; omega
                | false =>
                  have ES := Lib.hid (HBF.out hbt)
                  have T9 := Lib.hid (show Tf w8 Yb (4 * 1) ChT (segF fun _ => aI k (n + 1)) from by rw [ES.out]; exact TB.out)
                  clear hbt
                  go_wp2_with fail
                  go_roundw
                  case rel => exact ⟨n + 1, hnr, by go_num, CH, T9⟩
                  case measure => simp [intOf]; omega
            · obtain rfl : n = rch k := by omega
              have x1 : ¬ ((rch k : Nat) : Int) + 1 ≤ ((rch k : Nat) : Int) := by omega
              have T4 := Lib.hid (show Tf wr Yb (4 * 1) ChT (segF fun _ => aO (k + 1)) from by rw [HQ.out.s]; exact hT3.out)
              go_wp2_with fail
              go_roundw
              case rel => exact ⟨k + 1, by omega, by go_num, hC3, T4⟩
              case measure => simp [intOf]; omega
        · obtain rfl : k = 4 := by omega
          have T4 := Lib.hid hT2.out
          have b0 := seg_c0 hT2.out (i := 0) (o := 0) (by omega) rfl
          have b1 := seg_c1 hT2.out (i := 0) (o := 1) (by omega) rfl
          have b2 := seg_c2 hT2.out (i := 0) (o := 2) (by omega) rfl
          have b3 := seg_c3 hT2.out (i := 0) (o := 3) (by omega) rfl
          clear T4 hT2
          generalize hA : aO 4 = A at *
          have hqi : (q : Int) < (l.length : Int) + 1 := by omega
          have hqn : q < l.length + 1 := by omega
          obtain ⟨o2, ho2⟩ : ∃ o2, q * 4 = o2 := ⟨_, rfl⟩
          have u0 := hC2.out.tab.cell (i := o2) (by omega)
          have g0 := hC2.out.tab.fz o2
          have U0 := hC2.out.tab.set o2 (.int .i64 A.len)
          have u1 := U0.cell (i := o2 + 1) (by omega)
          have g1 := U0.fz (o2 + 1)
          have U1 := U0.set (o2 + 1) (.int .i64 A.cnt)
          have u2 := U1.cell (i := o2 + 2) (by omega)
          have g2 := U1.fz (o2 + 2)
          have U2 := U1.set (o2 + 2) (.int .i64 A.size)
          have u3 := U2.cell (i := o2 + 3) (by omega)
          have g3 := U2.fz (o2 + 3)
          have hxw := hC2.out.xw
          have hwr := hC2.out.wr
          have C9 := Lib.hid (show Ch3 w ((((wr.setCell ⟨X, o2, none⟩ (.int .i64 A.len)).setCell ⟨X, o2 + 1, none⟩ (.int .i64 A.cnt)).setCell ⟨X, o2 + 2, none⟩ (.int .i64 A.size)).setCell ⟨X, o2 + 3, none⟩ (.int .i64 A.mode)) l.length X Wd Rb (tabU l q) (rchU l q) from
            ⟨(seg_set hC2.out.tab A q (o := o2) ho2.symm).congr fun i _ => by show fld (if i / 4 = q then A else tabU l (q + 1) (i / 4)) (i % 4) = fld (tabU l q (i / 4)) (i % 4); rw [tabT_start, tabT_put, ← hA, HQ.out.fin],
             (((hC2.out.wid.other (by omega) _ _).other (by omega) _ _).other (by omega) _ _).other (by omega) _ _,
             (((hC2.out.rea.other (by omega) _ _).other (by omega) _ _).other (by omega) _ _).other (by omega) _ _,
             (((hC2.out.bel.setCell (p := ⟨X, o2, none⟩) (Nat.le_refl _) _).setCell (p := ⟨X, o2 + 1, none⟩) (Nat.le_refl _) _).setCell (p := ⟨X, o2 + 2, none⟩) (Nat.le_refl _) _).setCell (p := ⟨X, o2 + 3, none⟩) (Nat.le_refl _) _, hxw, hwr⟩)
          clear U0 U1 U2 hC2 hA
          go_wp2_with fail
          go_roundw
          case rel => exact ⟨q, by omega, rfl, C9⟩
          case measure => simp [intOf]
theorem implBestLength_any (l : List UInt8) (hl : l.length ≤ 400) (w : World) :
    Calls Tryz.prog 138 #[.string (str l)] w fun e w' => e = .returned (.int .i64 (bestP l)) ∧ Below w.heap.size w w' := by
  have hsz := str_size l
  go_enter Tryz.func138, Tryz.ntmps138
  go_wp2_with fail
  refine (choices_any l hl _).mono ?_
  rintro e w1 ⟨B, rfl, hb1, hB, hT⟩
  have c0 := seg_c0 hT (i := 0) (o := 0) (by omega) rfl
  rw [show (tabU l 0 0).len = bestP l from by rw [tabU_zero]; rfl] at c0
  have hB1 := Lib.hid hb1
  have h2 : (0 : Int) < (l.length : Int) + 1 := by omega
  have h3 : 0 < l.length + 1 := by omega
  clear hT hb1 hB
  go_wp2_with fail
  go_ret
  exact ⟨rfl, hB1.out⟩
theorem isMessage_any (l : List UInt8) (w : World) :
    Calls Tryz.prog 126 #[.string (str l)] w fun e w' => e = .returned (.bool (decide (l.length ≤ 400))) ∧ w = w' := by
  have hsz := str_size l
  have e1 : (decide ((l.length : Int) ≤ 400)) = decide (l.length ≤ 400) := decide_eq_decide.2 (by omega)
  go_enter Tryz.func126, Tryz.ntmps126
  go_wp2_with fail
  go_ret
  exact ⟨by rw [← e1]; rfl, rfl⟩
end Go.Proofs.YtdcmebegnekkcaaGreat
