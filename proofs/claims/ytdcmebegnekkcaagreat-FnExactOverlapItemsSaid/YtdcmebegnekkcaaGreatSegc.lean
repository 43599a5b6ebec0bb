/-
  The parts SegL, SegM.
-/
import Derived.Test.YtdcmebegnekkcaaGreatSegb
/-
  The program's count of the reach, and its comparison of choices.
-/
namespace Go.Proofs.YtdcmebegnekkcaaGreat
open Go.RowKit
set_option linter.unusedVariables false

abbrev ReT : TypeId := 215
def rcF (R : Nat → Nat) (i : Nat) : Value := .int .i64 ((R i : Nat) : Int)
/-- One byte more. -/
def stepR (R : Nat → Nat) (b : UInt8) (i : Nat) : Nat := if okM (i : Int) b = true then min (R i + 1) 255 else 0
def tkF (R : Nat → Nat) (b : UInt8) (k : Nat) (i : Nat) : Nat := if 1 ≤ i ∧ i < k then stepR R b i else R i
theorem tkF_one (R : Nat → Nat) (b : UInt8) : tkF R b 1 = R := by funext i; unfold tkF; rw [if_neg (by omega)]
theorem tkF_at (R : Nat → Nat) (b : UInt8) (k : Nat) : tkF R b k k = R k := by unfold tkF; rw [if_neg (by omega)]
theorem tkF_set (R : Nat → Nat) (b : UInt8) {k : Nat} (hk : 1 ≤ k) (i : Nat) : upd (rcF (tkF R b k)) k (.int .i64 ((stepR R b k : Nat) : Int)) i = rcF (tkF R b (k + 1)) i := by
  unfold upd rcF tkF
  by_cases e : i = k
  · subst e; rw [if_pos rfl, if_pos (by omega)]
  · rw [if_neg e]
    by_cases h : 1 ≤ i ∧ i < k
    · rw [if_pos h, if_pos (by omega)]
    · rw [if_neg h, if_neg (by omega)]
set_option maxHeartbeats 8000000 in
set_option maxRecDepth 100000 in
theorem take_any {w : World} {B : Nat} {R : Nat → Nat} (hT0 : Tf w B 5 ReT (rcF R)) (hR : ∀ i, R i ≤ 255) (b : UInt8) (z : Int) (hz : z = (b.toNat : Int)) :
    Calls Tryz.prog 163 #[.pointer (some ⟨B, 0, none⟩), .int .u8 z] w fun e w' => e = .returned (.tuple #[]) ∧ Dr B w w' ∧ Tf w' B 5 ReT (rcF (tkF R b 5)) := by
  have hzb : 0 ≤ z ∧ z ≤ 255 := by have := b.toNat_lt; omega
  have HZ := Lib.hid hz
  have hw1 : wrap64 z = z := (wrp (by omega)).1
  clear hz
  have T0 := Lib.hid (hT0.congr (g := rcF (tkF R b 1)) fun i _ => by rw [tkF_one])
  have D0 := Lib.hid (Dr.refl B w)
  clear hT0
  go_enter Tryz.func163, Tryz.ntmps163
  go_wp2_with fail
  go_loopw [4] (fun tk wr => ∃ k : Nat, 1 ≤ k ∧ k ≤ 5 ∧ tk = .int .i64 (k : Int) ∧ Hid (Tf wr B 5 ReT (rcF (tkF R b k))) ∧ Hid (Dr B w wr)) (fun tk _ => (5 - intOf tk).toNat)
  case atStart => exact ⟨1, by omega, by omega, rfl, T0, D0⟩
  case round =>
    clear T0 D0
    obtain ⟨k, hk1, hk5, rfl, hT, hD⟩ := hrel
    by_cases hk : k < 5
    · have hk4 : (k : Int) ≤ 4 := by omega
      have i1 : (k : Int) < 5 := by omega
      go_wp2_with fail
      refine (modeOf_any (m := (k : Int)) ⟨by omega, by omega⟩ _).mono ?_
      rintro e w3 ⟨v, rfl, hb3, hv3, -⟩
      have T3 := Lib.hid (hT.out.below hb3 hT.out.lt)
      have D3 := Lib.hid (hD.out.more hb3)
      have hV := modeValue_of hv3
      clear hb3 hv3 hT hD
      have HK := Lib.hid (show ∀ W : World, Tf W B 5 ReT (rcF (tkF R b k)) → Dr B w W → True from fun _ _ _ => trivial)
      rcases hV with ⟨hm4, rfl⟩ | ⟨hm4, bb, nn, rfl⟩
      · have hmv := mValueP
        have E4 := Lib.hid (show valM (k : Int) b = z from by rw [hm4, HZ.out]; rfl)
        have HP4 := Lib.hid (fun (W : World) => (show Calls Tryz.prog 217 #[.agg #[], .int .i64 z] W (fun e w' => e = .returned (.int .i64 (valM (k : Int) b)) ∧ Below W.heap.size W w') from (plainValue_any z W).mono fun e w' h => by rw [E4.out]; exact h))
        clear hm4
        go_wp2_with fail
        refine (HP4.out _).mono ?_
        rintro e w4 ⟨rfl, hb4⟩
        have T4 := T3.out.below hb4 T3.out.lt
        have D4 := D3.out.more hb4
        clear T3 D3 hb4
        cases hok : okM (k : Int) b with
        | false =>
          have hneg := valM_neg hok
          have HS := Lib.hid (show stepR R b k = 0 from by unfold stepR; rw [if_neg (by rw [hok]; simp)])
          have c4 := T4.cell (i := k) hk
          have f4 := T4.fz k
          have T5 := Lib.hid ((T4.set k (.int .i64 0)).congr (g := rcF (tkF R b (k + 1))) fun i _ => by rw [← tkF_set R b hk1 i, HS.out]; rfl)
          have D5 := Lib.hid (D4.trans (Dr.set B k w4 (.int .i64 0)))
          clear hok T4 D4
          go_wp2_with fail
          go_roundw
          case rel => exact ⟨k + 1, by omega, by omega, by go_num, T5, D5⟩
          case measure => simp [intOf]; omega
        | true =>
          have hpos := valM_pos hok
          have hnn : ¬ valM (k : Int) b < 0 := by omega
          have hRk := hR k
          have hat : w4.cell? ⟨B, k, none⟩ = some (.int .i64 ((R k : Nat) : Int)) := by have := T4.cell (i := k) hk; rw [this]; show some (Value.int .i64 ((tkF R b k k : Nat) : Int)) = _; rw [tkF_at]
          have T5 := Lib.hid T4
          have D5 := Lib.hid D4
          have HS := Lib.hid (show stepR R b k = min (R k + 1) 255 from by unfold stepR; rw [if_pos hok])
          clear hok T4 D4 hpos
          go_wp2_with fail
          by_cases hmin : ¬ 255 < R k + 1
          · have hmi : ¬ 255 < ((R k : Nat) : Int) + 1 := by omega
            have y1 : -1000000000000 ≤ ((R k : Nat) : Int) + 1 ∧ ((R k : Nat) : Int) + 1 ≤ 1000000000000 := by omega
            have HS2 := Lib.hid (show ((stepR R b k : Nat) : Int) = ((R k : Nat) : Int) + 1 from by rw [HS.out]; omega)
            obtain ⟨v1, v2⟩ := wrp y1
            clear y1 hmin hRk
            have c5 := T5.out.cell (i := k) hk
            have f5 := T5.out.fz k
            have T6 := Lib.hid ((T5.out.set k (.int .i64 (((R k : Nat) : Int) + 1))).congr (g := rcF (tkF R b (k + 1))) fun i _ => by rw [← tkF_set R b hk1 i, HS2.out])
            have D6 := Lib.hid (D5.out.trans (Dr.set B k w4 (.int .i64 (((R k : Nat) : Int) + 1))))
            clear T5 D5 c5
            go_region
            go_wp2_with fail
            go_roundw
            case rel => exact ⟨k + 1, by omega, by omega, by go_num, Lib.hid T6.out.drew, Lib.hid (D6.out.drew (drew1 _))⟩
            case measure => simp [intOf]; omega
          · have hmi : 255 < ((R k : Nat) : Int) + 1 := by omega
            have y1 : -1000000000000 ≤ ((R k : Nat) : Int) + 1 ∧ ((R k : Nat) : Int) + 1 ≤ 1000000000000 := by omega
            have HS2 := Lib.hid (show ((stepR R b k : Nat) : Int) = 255 from by rw [HS.out]; omega)
            obtain ⟨v1, v2⟩ := wrp y1
            clear y1 hmin hRk
            have c5 := T5.out.cell (i := k) hk
            have f5 := T5.out.fz k
            have T6 := Lib.hid ((T5.out.set k (.int .i64 255)).congr (g := rcF (tkF R b (k + 1))) fun i _ => by rw [← tkF_set R b hk1 i, HS2.out])
            have D6 := Lib.hid (D5.out.trans (Dr.set B k w4 (.int .i64 255)))
            clear T5 D5 c5
            go_region
            go_wp2_with fail
            go_roundw
            case rel => exact ⟨k + 1, by omega, by omega, by go_num, Lib.hid T6.out.drew, Lib.hid (D6.out.drew (drew1 _))⟩
            case measure => simp [intOf]; omega
      · have hmv := mValueL (str (setM (k : Int))) (some ⟨bb, 0, none⟩) nn nn
        have HL4 := Lib.hid (fun (W : World) => listedValue_any hm4 (some ⟨bb, 0, none⟩) nn nn b z HZ.out W)
        clear hm4
        go_wp2_with fail
        refine (HL4.out _).mono ?_
        rintro e w4 ⟨rfl, hb4⟩
        have T4 := T3.out.below hb4 T3.out.lt
        have D4 := D3.out.more hb4
        clear T3 D3 hb4
        cases hok : okM (k : Int) b with
        | false =>
          have hneg := valM_neg hok
          have HS := Lib.hid (show stepR R b k = 0 from by unfold stepR; rw [if_neg (by rw [hok]; simp)])
          have c4 := T4.cell (i := k) hk
          have f4 := T4.fz k
          have T5 := Lib.hid ((T4.set k (.int .i64 0)).congr (g := rcF (tkF R b (k + 1))) fun i _ => by rw [← tkF_set R b hk1 i, HS.out]; rfl)
          have D5 := Lib.hid (D4.trans (Dr.set B k w4 (.int .i64 0)))
          clear hok T4 D4
          go_wp2_with fail
          go_roundw
          case rel => exact ⟨k + 1, by omega, by omega, by go_num, T5, D5⟩
          case measure => simp [intOf]; omega
        | true =>
          have hpos := valM_pos hok
          have hnn : ¬ valM (k : Int) b < 0 := by omega
          have hRk := hR k
          have hat : w4.cell? ⟨B, k, none⟩ = some (.int .i64 ((R k : Nat) : Int)) := by have := T4.cell (i := k) hk; rw [this]; show some (Value.int .i64 ((tkF R b k k : Nat) : Int)) = _; rw [tkF_at]
          have T5 := Lib.hid T4
          have D5 := Lib.hid D4
          have HS := Lib.hid (show stepR R b k = min (R k + 1) 255 from by unfold stepR; rw [if_pos hok])
          clear hok T4 D4 hpos
          go_wp2_with fail
          by_cases hmin : ¬ 255 < R k + 1
          · have hmi : ¬ 255 < ((R k : Nat) : Int) + 1 := by omega
            have y1 : -1000000000000 ≤ ((R k : Nat) : Int) + 1 ∧ ((R k : Nat) : Int) + 1 ≤ 1000000000000 := by omega
            have HS2 := Lib.hid (show ((stepR R b k : Nat) : Int) = ((R k : Nat) : Int) + 1 from by rw [HS.out]; omega)
            obtain ⟨v1, v2⟩ := wrp y1
            clear y1 hmin hRk
            have c5 := T5.out.cell (i := k) hk
            have f5 := T5.out.fz k
            have T6 := Lib.hid ((T5.out.set k (.int .i64 (((R k : Nat) : Int) + 1))).congr (g := rcF (tkF R b (k + 1))) fun i _ => by rw [← tkF_set R b hk1 i, HS2.out])
            have D6 := Lib.hid (D5.out.trans (Dr.set B k w4 (.int .i64 (((R k : Nat) : Int) + 1))))
            clear T5 D5 c5
            go_region
            go_wp2_with fail
            go_roundw
            case rel => exact ⟨k + 1, by omega, by omega, by go_num, Lib.hid T6.out.drew, Lib.hid (D6.out.drew (drew1 _))⟩
            case measure => simp [intOf]; omega
          · have hmi : 255 < ((R k : Nat) : Int) + 1 := by omega
            have y1 : -1000000000000 ≤ ((R k : Nat) : Int) + 1 ∧ ((R k : Nat) : Int) + 1 ≤ 1000000000000 := by omega
            have HS2 := Lib.hid (show ((stepR R b k : Nat) : Int) = 255 from by rw [HS.out]; omega)
            obtain ⟨v1, v2⟩ := wrp y1
            clear y1 hmin hRk
            have c5 := T5.out.cell (i := k) hk
            have f5 := T5.out.fz k
            have T6 := Lib.hid ((T5.out.set k (.int .i64 255)).congr (g := rcF (tkF R b (k + 1))) fun i _ => by rw [← tkF_set R b hk1 i, HS2.out])
            have D6 := Lib.hid (D5.out.trans (Dr.set B k w4 (.int .i64 255)))
            clear T5 D5 c5
            go_region
            go_wp2_with fail
            go_roundw
            case rel => exact ⟨k + 1, by omega, by omega, by go_num, Lib.hid T6.out.drew, Lib.hid (D6.out.drew (drew1 _))⟩
            case measure => simp [intOf]; omega
    · obtain rfl : k = 5 := by omega
      go_wp2_with fail
      refine bodyPost_end (results_none rfl _ _ _) rfl ?_
      exact ⟨rfl, hD.out, hT.out⟩
end Go.Proofs.YtdcmebegnekkcaaGreat
/-
  The program's table of the best segmentations: the walk.
-/
namespace Go.Proofs.YtdcmebegnekkcaaGreat
open Go.RowKit
set_option linter.unusedVariables false

abbrev ChT : TypeId := 200
set_option maxHeartbeats 4000000 in
theorem better_any (a b : SegC) (w : World) :
    Calls Tryz.prog 164 #[segV a, segV b] w fun e w' => e = .returned (.bool (btr a b)) ∧ Below w.heap.size w w' := by
  have HB := Lib.hid (below2 w (.cells #[.int .i64 a.len, .int .i64 a.cnt, .int .i64 a.size, .int .i64 a.mode] ChT) (.cells #[.int .i64 b.len, .int .i64 b.cnt, .int .i64 b.size, .int .i64 b.mode] ChT))
  have HT := Lib.hid (show btr a b = _ from rfl)
  unfold btr at HT
  obtain ⟨a1, a2, a3, a4⟩ := a
  obtain ⟨b1, b2, b3, b4⟩ := b
  go_enter Tryz.func164, Tryz.ntmps164
  by_cases h1 : a1 = b1
  · have e1 : (a1 == b1) = true := by simp [h1]
    by_cases h2 : a2 = b2
    · have e2 : (a2 == b2) = true := by simp [h2]
      by_cases h3 : a3 = b3
      · have e3 : (a3 == b3) = true := by simp [h3]
        have HX := Lib.hid (show btr ⟨a1, a2, a3, a4⟩ ⟨b1, b2, b3, b4⟩ = decide (a4 < b4) from by simp [btr, h1, h2, h3])
        clear h1 h2 h3
        go_wp2_with fail
        go_ret
        exact ⟨by rw [HX.out]; rfl, HB.out⟩
      · have e3 : (a3 == b3) = false := by simp [h3]
        have HX := Lib.hid (show btr ⟨a1, a2, a3, a4⟩ ⟨b1, b2, b3, b4⟩ = decide (b3 < a3) from by simp [btr, h1, h2, h3])
        clear h1 h2 h3
        go_wp2_with fail
        go_ret
        exact ⟨by rw [HX.out]; rfl, HB.out⟩
    · have e2 : (a2 == b2) = false := by simp [h2]
      have HX := Lib.hid (show btr ⟨a1, a2, a3, a4⟩ ⟨b1, b2, b3, b4⟩ = decide (a2 < b2) from by simp [btr, h1, h2])
      clear h1 h2
      go_wp2_with fail
      go_ret
      exact ⟨by rw [HX.out]; rfl, HB.out⟩
  · have e1 : (a1 == b1) = false := by simp [h1]
    have HX := Lib.hid (show btr ⟨a1, a2, a3, a4⟩ ⟨b1, b2, b3, b4⟩ = decide (a1 < b1) from by simp [btr, h1])
    clear h1
    go_wp2_with fail
    go_ret
    exact ⟨by rw [HX.out]; rfl, HB.out⟩
theorem info_cho : (Tryz.prog.info? ChT).map (fun i => (i.zero, i.size, i.bytes)) = some (some (.agg #[.int .i64 0, .int .i64 0, .int .i64 0, .int .i64 0]), 4, 32) := by kernel_rfl
theorem run_make_cho (w : World) (n : Nat) (hn : n ≤ 1000000) :
    (Instr.makeSlice 201 (.int .i64 (n : Int)) (.int .i64 (n : Int))).run Tryz.prog w = .ok (.slice (some ⟨w.heap.size, 0, none⟩) n n) (w.alloc (.cells (madeCells #[.int .i64 0, .int .i64 0, .int .i64 0, .int .i64 0] (n * 4)) ChT)) := by
  obtain ⟨i0, hi, hz0, hz1, hz2⟩ := info_parts info_cho
  have := run_make (P := Tryz.prog) w _ ChT i0 _ Tryz.underlying201 hi hz0 .i64 .i64 n n (by omega) (Int.le_refl _) (by rw [hz2]; omega) (by omega)
  rw [hz1] at this
  exact this
/-- The blocks of the walk: the table, the widths, the reach. -/
structure Ch3 (W0 W : World) (N X Wd Rb : Nat) (u : Nat → SegC) (rr : Nat → Nat) : Prop where
  tab : Tf W X (4 * (N + 1)) ChT (segF u)
  wid : Tf W Wd 1280 SwT (wdF 5 1)
  rea : Tf W Rb 5 ReT (rcF rr)
  bel : Below X W0 W
  xw : X < Wd
  wr : Wd < Rb
section
variable {W0 W W' : World} {N X Wd Rb : Nat} {u : Nat → SegC} {rr : Nat → Nat}
theorem Ch3.lt (h : Ch3 W0 W N X Wd Rb u rr) : Rb < W.heap.size := h.rea.lt
theorem Ch3.below (h : Ch3 W0 W N X Wd Rb u rr) (hb : Below W.heap.size W W') : Ch3 W0 W' N X Wd Rb u rr :=
  ⟨h.tab.below hb h.tab.lt, h.wid.below hb h.wid.lt, h.rea.below hb h.rea.lt, h.bel.trans (hb.mono (Nat.le_of_lt h.tab.lt)), h.xw, h.wr⟩
theorem Ch3.alloc (h : Ch3 W0 W N X Wd Rb u rr) (o : Obj) : Ch3 W0 (W.alloc o) N X Wd Rb u rr := h.below (below1 _ _)
theorem Ch3.other (h : Ch3 W0 W N X Wd Rb u rr) {H : Nat} (hH : Rb < H) (o : Nat) (v : Value) : Ch3 W0 (W.setCell ⟨H, o, none⟩ v) N X Wd Rb u rr :=
  have h1 := h.xw
  have h2 := h.wr
  ⟨h.tab.other (by omega) o v, h.wid.other (by omega) o v, h.rea.other (by omega) o v, h.bel.setCell (p := ⟨H, o, none⟩) (by show X ≤ H; omega) v, h.xw, h.wr⟩
theorem Ch3.dr (h : Ch3 W0 W N X Wd Rb u rr) (hd : Dr Rb W W') {rr' : Nat → Nat} (hr : Tf W' Rb 5 ReT (rcF rr')) : Ch3 W0 W' N X Wd Rb u rr' :=
  have h1 := h.xw
  have h2 := h.wr
  ⟨h.tab.dr hd (by omega), h.wid.dr hd (by omega), hr, h.bel.trans (hd.below (by omega) (Nat.le_of_lt h.tab.lt)), h.xw, h.wr⟩
theorem Ch3.drew (h : Ch3 W0 W N X Wd Rb u rr) : Ch3 W0 W.drew N X Wd Rb u rr := h.below (Drew.below (drew1 _) _)
theorem Ch3.congr (h : Ch3 W0 W N X Wd Rb u rr) {u' : Nat → SegC} {rr' : Nat → Nat} (hu : ∀ x, u x = u' x) (hr : ∀ i, i < 5 → rr i = rr' i) : Ch3 W0 W N X Wd Rb u' rr' :=
  ⟨h.tab.congr fun i _ => by unfold segF; rw [hu], h.wid, h.rea.congr fun i hi => by unfold rcF; rw [hr i hi], h.bel, h.xw, h.wr⟩
/-- The reach at an index. -/
def rchU (l : List UInt8) (j : Nat) (i : Nat) : Nat := if 1 ≤ i ∧ i < 5 then reachM (i : Int) (l.drop j) else 0
theorem rchU_le (l : List UInt8) (j i : Nat) : rchU l j i ≤ 255 := by
  unfold rchU; split
  · exact (reachM_le _ _).1
  · omega
theorem rchU_top (l : List UInt8) (i : Nat) : 0 = rchU l l.length i := by
  unfold rchU; split
  · rw [List.drop_length]; rfl
  · rfl
theorem rchU_take (l : List UInt8) {q : Nat} (hq : q < l.length) (i : Nat) : tkF (rchU l (q + 1)) l[q] 5 i = rchU l q i := by
  unfold tkF rchU stepR
  by_cases h : 1 ≤ i ∧ i < 5
  · rw [if_pos h, if_pos h, List.drop_eq_getElem_cons hq]
    simp only [if_pos h]
    rfl
  · rw [if_neg h, if_neg h, if_neg h]
end
end Go.Proofs.YtdcmebegnekkcaaGreat
