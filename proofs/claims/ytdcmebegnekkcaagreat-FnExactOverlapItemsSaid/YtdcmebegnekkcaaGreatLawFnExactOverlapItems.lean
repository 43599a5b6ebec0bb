/-
  The walk of the law FnExactOverlapItems.
-/
import Derived.Test.YtdcmebegnekkcaaGreatOvx
namespace Go.Proofs.YtdcmebegnekkcaaGreat
open Go.RowKit
set_option linter.unusedVariables false

set_option maxHeartbeats 16000000 in
set_option maxRecDepth 100000 in
theorem lawFnExactOverlapItems (R C : Int) (a : Option Addr) (n cap : Nat) (zs : List It) (w : World) (hr : ItsAt w a n zs) (hok : ItsOk zs) :
    Calls Tryz.prog 5 #[lbV R C (.slice a n cap)] w fun e w' => e = .returned (.bool true) ∧ Below w.heap.size w w' := by
  have L0 := Lib.hid (LbB.new w R C (.slice a n cap) LLT)
  have B0 := Lib.hid (below1 w (.cells #[.int .i64 R, .int .i64 C, .slice a n cap] LLT))
  have A0 := Lib.hid (hr.below (below1 w (.cells #[.int .i64 R, .int .i64 C, .slice a n cap] LLT)))
  have HOK := Lib.hid hok
  have HLN := Lib.hid hr.len
  have HL2 := Lib.hid (ovR_two R C zs)
  have hls := ovR_small R C zs
  clear hr hok
  go_enter Tryz.func5, Tryz.ntmps5
  obtain ⟨X, hX⟩ : ∃ X, w.heap.size = X := ⟨_, rfl⟩
  obtain ⟨w1, hw1⟩ : ∃ w1, w.alloc (.cells #[.int .i64 R, .int .i64 C, .slice a n cap] LLT) = w1 := ⟨_, rfl⟩
  rw [hw1] at L0 B0 A0
  rw [hX] at L0
  have l0 := L0.out.c0
  have l1 := L0.out.c1
  have l2 := L0.out.c2
  have hX1 := L0.out.lt
  go_wp2_with fail
  (try rw [show w.alloc (.cells #[.int .i64 R, .int .i64 C, .slice a n cap] LLT) = w1 from hw1])
  clear hw1
  refine (szLabel_any R C A0.out HOK.out).mono ?_
  rintro e w2 ⟨⟨z, rfl, hz1, hzz⟩, hb2⟩
  have HZ := Lib.hid hzz
  clear hzz
  have L2 := Lib.hid (L0.out.below hb2)
  have A2 := Lib.hid (A0.out.below hb2)
  have B2 := Lib.hid (B0.out.trans (hb2.mono B0.out.size))
  clear hb2 l0 l1 l2 hX1 L0 A0 B0
  have l0 := L2.out.c0
  have l1 := L2.out.c1
  have l2 := L2.out.c2
  have hX1 := L2.out.lt
  by_cases hz : z < 0
  · go_wp2_with fail
    go_ret
    exact ⟨rfl, hX ▸ B2.out⟩
  obtain ⟨hn, htx⟩ := HZ.out (by omega)
  have HN := Lib.hid hn
  have HTX := Lib.hid htx
  clear hn htx
  go_wp2_with fail
  refine (toLabel_any R C A2.out HN.out).mono ?_
  rintro e w3 ⟨⟨K, rfl, hK, hT⟩, hb3⟩
  have S3 := Lib.hid (its_at hT HLN.out HN.out)
  clear hT hK
  have L3 := Lib.hid (L2.out.below hb3)
  have A3 := Lib.hid (A2.out.below hb3)
  have B3 := Lib.hid (B2.out.trans (hb3.mono B2.out.size))
  clear hb3 l0 l1 l2 hX1 L2 A2 B2
  have l0 := L3.out.c0
  have l1 := L3.out.c1
  have l2 := L3.out.c2
  have hX1 := L3.out.lt
  go_wp2_with fail
  refine (specOverlap_any R C S3.out HTX.out).mono ?_
  rintro e w4 ⟨⟨v4, rfl, hq4⟩, hb4⟩
  obtain ⟨m, hm⟩ : ∃ m, (ovR R C zs).length = m := ⟨_, rfl⟩
  have HM := Lib.hid hm
  rw [hm] at hls
  clear hm
  obtain ⟨a4, c4, G4, p4, rfl, ht4⟩ := Tq.of' hq4 HL2.out HM.out
  have T4 := Lib.hid ht4
  clear S3 hq4 ht4
  have L4 := Lib.hid (L3.out.below hb4)
  have A4 := Lib.hid (A3.out.below hb4)
  have B4 := Lib.hid (B3.out.trans (hb4.mono B3.out.size))
  clear hb4 l0 l1 l2 hX1 L3 A3 B3
  have l0 := L4.out.c0
  have l1 := L4.out.c1
  have l2 := L4.out.c2
  have hX1 := L4.out.lt
  clear hX1
  go_wp2_with fail
  refine (toLabel_any R C A4.out HN.out).mono ?_
  rintro e w5 ⟨⟨K2, rfl, hK, hT⟩, hb5⟩
  have S5 := Lib.hid (its_at hT HLN.out HN.out)
  have F5 := Lib.hid hT
  have C5 := Lib.hid hb5
  have HK := Lib.hid hK
  clear hT hK hb5 l0 l1 l2
  have D6 := Lib.hid (LbB.new w5 R C (.slice (some ⟨K2, 0, none⟩) n n) LbT)
  have hb6 := below1 w5 (.cells #[.int .i64 R, .int .i64 C, .slice (some ⟨K2, 0, none⟩) n n] LbT)
  have S6 := Lib.hid (S5.out.below hb6)
  have F6 := Lib.hid (F5.out.below hb6 F5.out.lt)
  have C6 := Lib.hid (C5.out.trans (hb6.mono C5.out.size))
  clear hb6
  go_upto_region 7 with (fail)
  obtain ⟨w6, hw6⟩ : ∃ w6, w5.alloc (.cells #[.int .i64 R, .int .i64 C, .slice (some ⟨K2, 0, none⟩) n n] LbT) = w6 := ⟨_, rfl⟩
  rw [hw6] at D6 S6 F6 C6
  rw [hw6]
  clear hw6
  generalize w5.heap.size = D at *
  clear S5 F5 C5
  have d0 := D6.out.c0
  have d1 := D6.out.c1
  have d2 := D6.out.c2
  have hD1 := D6.out.lt
  go_wp2_with fail
  refine (implOverlap_any R C S6.out HTX.out).mono ?_
  rintro e w7 ⟨⟨v7, rfl, hq7⟩, hb7⟩
  obtain ⟨a7, c7, G7, p7, rfl, ht7⟩ := Tq.of' hq7 HL2.out HM.out
  have T7 := Lib.hid ht7
  have HB7 := Lib.hid (show K2 < w6.heap.size ∧ w4.heap.size ≤ w6.heap.size from ⟨F6.out.lt, C6.out.size⟩)
  have C7 := Lib.hid (C6.out.trans (hb7.mono C6.out.size))
  have S7 := Lib.hid (S6.out.below hb7)
  have F7 := Lib.hid (F6.out.below hb7 F6.out.lt)
  have D7 := Lib.hid (D6.out.below hb7)
  have HS7 := Lib.hid (show w6.heap.size ≤ w7.heap.size from hb7.size)
  clear hq7 ht7 hb7 C6 S6 F6 D6 d0 d1 d2 hD1
  obtain ⟨B7, hB7⟩ : ∃ B7, w6.heap.size = B7 := ⟨_, rfl⟩
  rw [hB7] at T7 HB7 HS7
  clear hB7
  obtain ⟨oc, hoc⟩ : ∃ oc, ovC R C zs = oc := ⟨_, rfl⟩
  have HOC := Lib.hid hoc
  have hbb : (oc != oc) = false := by simp
  rw [hoc]
  clear hoc
  go_wp2_with fail
  refine (eqTab_same T7.out (T4.out.below C7.out) hls).mono ?_
  rintro e w8 ⟨rfl, hb8⟩
  have C8 := Lib.hid (C7.out.trans (hb8.mono C7.out.size))
  have S8 := Lib.hid (S7.out.below hb8)
  have F8 := Lib.hid (F7.out.below hb8 F7.out.lt)
  have D8 := Lib.hid (D7.out.below hb8)
  have T8 := Lib.hid (T7.out.below hb8)
  have HS8 := Lib.hid (Nat.le_trans HS7.out hb8.size)
  clear hb8 C7 S7 F7 D7 T7
  have L8 := Lib.hid (L4.out.below C8.out)
  have A8 := Lib.hid (A4.out.below C8.out)
  have l0 := L8.out.c0
  have l1 := L8.out.c1
  have l2 := L8.out.c2
  have hX1 := L8.out.lt
  have d0 := D8.out.c0
  have d1 := D8.out.c1
  have d2 := D8.out.c2
  have hD1 := D8.out.lt
  go_wp2_with fail
  have AD := Lib.hid (show ItsAt w8.drew a n zs from A8.out.below (Below.refl _ _).drew)
  have SD := Lib.hid (show ItsAt w8.drew (some ⟨K2, 0, none⟩) n zs from S8.out.below (Below.refl _ _).drew)
  refine wp_region_S (S := (fun w' => w'.cell? ⟨D, 0, none⟩ = some (.int .i64 R) ∧ w'.cell? ⟨D, 1, none⟩ = some (.int .i64 C) ∧ w'.cell? ⟨D, 2, none⟩ = some (.slice (some ⟨K2, 0, none⟩) n n) ∧ w'.cell? ⟨X, 0, none⟩ = some (.int .i64 R) ∧ w'.cell? ⟨X, 1, none⟩ = some (.int .i64 C) ∧ w'.cell? ⟨X, 2, none⟩ = some (.slice a n cap))) 5 rfl (by kernel_rfl) ?_ (fun hHeld => ?_)
  · (try dsimp only); exact ⟨d0, d1, d2, l0, l1, l2⟩
  refine wpAnyH_take (i := 0) (oi := _) (v := ?_) rfl (by kernel_rfl) (by kernel_rfl) (by kernel_rfl) (fun _ _ _ h => h) (Or.inl ⟨by kernel_rfl, ?_⟩) hHeld ?_
  rotate_left
  · intro w0 hSw; (try dsimp only at hSw); go_simp; (try with_reducible rfl)
  (try dsimp only [Act.put, List.setIfInBounds_toArray, List.set_cons_zero, List.set_cons_succ])
  refine wpAnyH_take (i := 1) (oi := _) (v := ?_) rfl (by kernel_rfl) (by kernel_rfl) (by kernel_rfl) (fun _ _ _ h => h) (Or.inl ⟨by kernel_rfl, ?_⟩) hHeld ?_
  rotate_left
  · intro w0 hSw; (try dsimp only at hSw); go_simp; (try with_reducible rfl)
  (try dsimp only [Act.put, List.setIfInBounds_toArray, List.set_cons_zero, List.set_cons_succ])
  refine wpAnyH_ready (rs := [2]) (by kernel_rfl) (by simp) ?_
  refine AllReadyH.cons (o := _) rfl (fun K hK => ?_) AllReadyH.nil
  go_simp
  refine (toLabel_any R C AD.out HN.out).mono ?_
  rintro e w9 ⟨⟨K3, rfl, hK, hT⟩, hb9⟩
  have S9 := Lib.hid (its_at hT HLN.out HN.out)
  have SE := Lib.hid (SD.out.below hb9)
  clear hT hK
  go_wp2_with fail
  refine hK.out _ _ ?_ (fun hHeld => ?_)
  · (try dsimp only); exact ⟨keep_cell hb9 hHeld.1, keep_cell hb9 hHeld.2.1, keep_cell hb9 hHeld.2.2.1, keep_cell hb9 hHeld.2.2.2.1, keep_cell hb9 hHeld.2.2.2.2.1, keep_cell hb9 hHeld.2.2.2.2.2⟩
  clear hK K
  (try dsimp only [Act.put, List.setIfInBounds_toArray, List.set_cons_zero, List.set_cons_succ])
  refine wpAnyH_ready (rs := [3]) (by kernel_rfl) (by simp) ?_
  refine AllReadyH.cons (o := _) rfl (fun K hK => ?_) AllReadyH.nil
  go_simp
  refine (eqLabel_same R C SE.out S9.out HN.out).mono ?_
  rintro e w10 ⟨rfl, hb10⟩
  go_wp2_with fail
  refine hK.out _ _ ?_ (fun hHeld => ?_)
  · (try dsimp only); exact ⟨keep_cell hb10 hHeld.1, keep_cell hb10 hHeld.2.1, keep_cell hb10 hHeld.2.2.1, keep_cell hb10 hHeld.2.2.2.1, keep_cell hb10 hHeld.2.2.2.2.1, keep_cell hb10 hHeld.2.2.2.2.2⟩
  clear hK K
  (try dsimp only [Act.put, List.setIfInBounds_toArray, List.set_cons_zero, List.set_cons_succ])
  refine wpAnyH_take (i := 4) (oi := _) (v := ?_) rfl (by kernel_rfl) (by kernel_rfl) (by kernel_rfl) (fun _ _ _ h => h) (Or.inl ⟨by kernel_rfl, ?_⟩) hHeld ?_
  rotate_left
  · intro w0 hSw; (try dsimp only at hSw); go_simp; (try with_reducible rfl)
  (try dsimp only [Act.put, List.setIfInBounds_toArray, List.set_cons_zero, List.set_cons_succ])
  refine wpAnyH_done (by kernel_rfl) ?_ _
  go_simp
  have hb := (Below.refl w8.heap.size w8).drew.trans (hb9.trans (hb10.mono hb9.size))
  have C10 := Lib.hid (C8.out.trans (hb.mono C8.out.size))
  have F10 := Lib.hid (F8.out.below hb F8.out.lt)
  have D10 := Lib.hid (D8.out.below hb)
  have T10 := Lib.hid (T8.out.below hb)
  have HS10 := Lib.hid (Nat.le_trans HS8.out hb.size)
  clear hHeld hb9 hb10 hb C8 S8 F8 D8 T8 L8 A8 AD SD S9 SE d0 d1 d2 hD1 l0 l1 l2 hX1
  have d0 := D10.out.c0
  have d1 := D10.out.c1
  have d2 := D10.out.c2
  have hD1 := D10.out.lt
  go_wp2_with fail
  refine (markLabel_any R C F10.out HN.out).mono ?_
  rintro e w11 ⟨rfl, hd11⟩
  have C11 := Lib.hid (C10.out.trans (hd11.below HK.out C10.out.size))
  have T11 := Lib.hid (T10.out.dr hd11 HB7.out.1)
  have HS11 := Lib.hid (Nat.le_trans HS10.out hd11.size)
  clear hd11 C10 F10 D10 T10 d0 d1 d2 hD1
  obtain ⟨mk, hmk⟩ : ∃ mk : Int, ((1 + 9 * n : Nat) : Int) = mk := ⟨_, rfl⟩
  have hmk0 : ¬ mk < 0 := by rw [← hmk]; omega
  rw [hmk]
  clear hmk
  go_wp2_with fail
  refine (eqTab_same T11.out (T4.out.below C11.out) hls).mono ?_
  rintro e w12 ⟨rfl, hb12⟩
  have C12 := Lib.hid (C11.out.trans (hb12.mono C11.out.size))
  have T12 := Lib.hid (T11.out.below hb12)
  have HS12 := Lib.hid (Nat.le_trans HS11.out hb12.size)
  clear hb12 C11 T11
  go_wp2_with fail
  refine (markTab T12.out hls HS12.out).mono ?_
  rintro e w13 ⟨rfl, hb13, ht13⟩
  have C13 := Lib.hid (C12.out.trans (hb13.mono HB7.out.2))
  have T13 := Lib.hid ht13
  clear hb13 ht13 C12 T12
  obtain ⟨z2, hz2⟩ : ∃ z2 : Int, ((1 + 2 * m : Nat) : Int) = z2 := ⟨_, rfl⟩
  have hz20 : ¬ z2 < 0 := by rw [← hz2]; omega
  have hz2n : (z2 != z2) = false := by simp
  rw [hz2]
  have HZ2 := Lib.hid hz2
  clear hz2
  go_wp2_with fail
  refine (heldTab T13.out hls).mono ?_
  rintro e w13' ⟨rfl, rfl⟩
  rw [HZ2.out]
  have L13 := Lib.hid (L4.out.below C13.out)
  have A13 := Lib.hid (A4.out.below C13.out)
  have l0 := L13.out.c0
  have l1 := L13.out.c1
  have l2 := L13.out.c2
  have hX1 := L13.out.lt
  go_wp2_with fail
  refine (toLabel_any R C A13.out HN.out).mono ?_
  rintro e w14 ⟨⟨K4, rfl, hK4, hT4⟩, hb14⟩
  have S14 := Lib.hid (its_at hT4 HLN.out HN.out)
  have C14 := Lib.hid (C13.out.trans (hb14.mono C13.out.size))
  have T14 := Lib.hid (T13.out.below hb14)
  clear hK4 hT4 hb14 C13 T13 L13 A13 l0 l1 l2 hX1
  go_wp2_with fail
  refine (implOverlap_any R C S14.out HTX.out).mono ?_
  rintro e w15 ⟨⟨v15, rfl, hq15⟩, hb15⟩
  obtain ⟨a15, c15, G15, p15, rfl, ht15⟩ := Tq.of' hq15 HL2.out HM.out
  have U15 := Lib.hid ht15
  have C15 := Lib.hid (C14.out.trans (hb15.mono C14.out.size))
  have T15 := Lib.hid (T14.out.below hb15)
  clear hq15 ht15 hb15 C14 T14 S14
  rw [HOC.out]
  go_wp2_with fail
  refine (eqTab_same U15.out (T4.out.below C15.out) hls).mono ?_
  rintro e w16 ⟨rfl, hb16⟩
  have C16 := Lib.hid (C15.out.trans (hb16.mono C15.out.size))
  have T16 := Lib.hid (T15.out.below hb16)
  clear hb16 C15 T15 U15
  go_wp2_with fail
  refine (heldTab T16.out hls).mono ?_
  rintro e w16' ⟨rfl, rfl⟩
  rw [HZ2.out]
  have B16 := Lib.hid (B4.out.trans (C16.out.mono B4.out.size))
  go_wp2_with fail
  go_ret
  exact ⟨rfl, hX ▸ B16.out⟩
end Go.Proofs.YtdcmebegnekkcaaGreat
