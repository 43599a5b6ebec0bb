/-
  What a law of polynomials draws.
-/
import Derived.Test.YtnhpdenneplapaaDraw5a
import Derived.Test.YtnhpdenneplapaaTwoR
import Derived.Test.YtnhpdenneplapaaPeel2
namespace Go.Proofs.Ytnhpdenneplapaa
open Go.RowKit
set_option linter.unusedVariables false

theorem Two.dr {s : Nat} {w w' : World} {B : Nat} {v v2 : Value} {zs zs2 : List Int} (h : Two w B v v2 zs zs2) (hd : Dr s w w') (hs : s < B) : Hid (Two w' B v v2 zs zs2) := Lib.hid ⟨h.one.dr hd hs, h.two.dr hd hs, h.dis⟩
set_option maxHeartbeats 4000000 in
theorem DrawPolyFit_any {w : World} {c : Option Addr} {n cap : Nat} {bs : List Int} (hr : RowB w c n bs) :
    Calls Try.prog 52 #[.slice c n cap] w fun e w' => ∃ p pw g v v2, e = .returned (.tuple #[fV p pw g, v, v2]) ∧ Below w.heap.size w w' ∧ ∃ zs zs2, OwnL w' w.heap.size v zs ∧ OwnL w' w.heap.size v2 zs2 ∧ zs.length ≤ 1000 ∧ zs2.length ≤ 1000 := by
  have B0 := Lib.hid (below1 w (.cells #[.int .i64 0, .int .i64 0, .int .i64 0] FTa))
  have HR := Lib.hid (hr.below' B0.out)
  have F0 := Lib.hid (FB.new w 0 0 0)
  have HRES := Lib.hid (show Try.f52.results = #[.cell 2 FTa, .tmp 3, .tmp 4] by kernel_rfl)
  clear hr
  go_enter Try.func52, Try.ntmps52
  go_wp2_with fail
  generalize w.alloc (.cells #[.int .i64 0, .int .i64 0, .int .i64 0] FTa) = w1 at *
  refine (l01From_any HR.out).mono ?_
  rintro e w2 ⟨s, rfl, hs, hb2, hsrc⟩
  have F2 := Lib.hid (F0.out.below hb2 F0.out.lt)
  have B2 := Lib.hid (B0.out.trans (hb2.mono B0.out.size))
  have hR : w.heap.size < s := Nat.lt_of_lt_of_le F0.out.lt hs
  have S2 := Lib.hid hsrc
  clear hb2 hsrc F0 B0 HR hs
  go_wp2_with fail
  refine (l02DrawAny_any S2.out).mono ?_
  rintro e w3 ⟨p, pw, g, rfl, hd, hs3⟩
  have T4 := Lib.hid (show DSt w (w3.alloc (.cells #[.int .i64 p, .int .i64 pw, .int .i64 g] FTa)) w.heap.size w3.heap.size s p pw g from
    ⟨(F2.out.dr hd (by omega)).below (below1 w3 _) (F2.out.dr hd (by omega)).lt, FB.new w3 p pw g, hs3.alloc _, (B2.out.trans (hd.below (by omega) B2.out.size)).alloc (Nat.le_trans B2.out.size hd.size) _, rfl, hR, hs3.lt⟩)
  obtain ⟨X, hX⟩ : ∃ X, X = w3.heap.size := ⟨_, rfl⟩
  rw [← hX] at T4
  clear hd hs3 F2 B2 S2
  go_wp2_with fail
  rw [← hX]
  have HW4 := Lib.hid (show (w3.alloc (.cells #[.int .i64 p, .int .i64 pw, .int .i64 g] FTa)).heap.size = X + 1 by rw [hX]; simp)
  clear hX
  generalize w3.alloc (.cells #[.int .i64 p, .int .i64 pw, .int .i64 g] FTa) = w4 at *
  have hXK := T4.out.fld.lt
  have hsX := T4.out.sx
  obtain ⟨K, hK⟩ : ∃ K, K = w4.heap.size := ⟨_, rfl⟩
  have hK4 : K ≤ w4.heap.size := Nat.le_of_eq hK
  rw [← hK] at hXK
  clear hK
  have c0 := T4.out.fld.c0
  have c1 := T4.out.fld.c1
  have c2 := T4.out.fld.c2
  have T5 := Lib.hid ((T4.out.below ((Below.refl _ _).alloc (Nat.le_refl _) (.cells #[] 2))).below ((Below.refl _ _).alloc (Nat.le_refl _) (.cells #[] 2)))
  have hE5 : (w4.alloc (.cells #[] 2)).heap.size = w4.heap.size + 1 := by simp
  have W5 := Lib.hid (show Two ((w4.alloc (.cells #[] 2)).alloc (.cells #[] 2)) K (.slice (some ⟨w4.heap.size, 0, none⟩) 0 0) (.slice (some ⟨w4.heap.size + 1, 0, none⟩) 0 0) [] [] from
    ⟨(OwnL.empty w4 K hK4 w4.heap.size rfl).below ((Below.refl _ _).alloc (Nat.le_refl _) (.cells #[] 2)), OwnL.empty (w4.alloc (.cells #[] 2)) K (by rw [hE5]; omega) (w4.heap.size + 1) hE5.symm, fun k h1 h2 => by
      have e1 : w4.heap.size = k := by simpa [Value.ownBlock] using h1
      have e2 : w4.heap.size + 1 = k := by simpa [Value.ownBlock] using h2
      omega⟩)
  rw [HW4.out] at W5
  clear T4 c0 c1 c2 hE5
  have c0 := T5.out.fld.c0
  have c1 := T5.out.fld.c1
  have c2 := T5.out.fld.c2
  go_wp2_with fail
  obtain ⟨vx, hvx⟩ : ∃ v, v = Value.slice (some ⟨X + 1, 0, none⟩) 0 0 := ⟨_, rfl⟩
  obtain ⟨vy, hvy⟩ : ∃ v, v = Value.slice (some ⟨X + 1 + 1, 0, none⟩) 0 0 := ⟨_, rfl⟩
  rw [← hvx, ← hvy] at W5
  rw [← hvx, ← hvy]
  clear hvx hvy
  generalize (w4.alloc (.cells #[] 2)).alloc (.cells #[] 2) = w5 at *
  refine (l02DrawElement_any T5.out.src p pw g).mono ?_
  rintro e w6 ⟨y6, rfl, hd, hs⟩
  have T6 := Lib.hid (T5.out.drS hd hs)
  have W6 := (W5.out.dr hd (by omega))
  clear hd hs T5 W5 c0 c1 c2
  have c0 := T6.out.fld.c0
  have c1 := T6.out.fld.c1
  have c2 := T6.out.fld.c2
  go_wp2_with fail
  refine (next_any T6.out.src 6 (by omega) (by omega)).mono ?_
  rintro e w7 ⟨n7, rfl, hn7, hd, hs⟩
  have T7 := Lib.hid (T6.out.drS hd hs)
  have W7 := (W6.out.dr hd (by omega))
  clear hd hs T6 W6 c0 c1 c2
  have hszb := sizeR_bd p pw g
  have HSZ := Lib.hid (fun W => specFieldSize_any p pw g W)
  generalize sizeR p pw g = sz at *
  go_wp2_with fail
  go_loopw [7, 8, 9, 10] (fun a b t u wr => ∃ (k : Nat) (y : Int) (zs zs2 : List Int), k ≤ 5 ∧ u = .int .i64 k ∧ t = .int .i64 y ∧ Hid (zs.length + k ≤ 100) ∧ Hid (zs2.length + k ≤ 100) ∧ Hid (Two wr K a b zs zs2) ∧ Hid (DSt w wr w.heap.size X s p pw g)) (fun _ _ _ u _ => (intOf u).toNat)
  case atStart => exact ⟨n7, y6, [], [], by omega, rfl, rfl, Lib.hid (by simp; omega), Lib.hid (by simp; omega), W7, T7⟩
  case round =>
    clear T7 W7
    obtain ⟨k, y, zs, zs2, hk, rfl, rfl, hl1, hl2, W8, T8⟩ := hrel
    have hK8 : K ≤ wr.heap.size := W8.out.one.1
    by_cases hk0 : 0 < k
    · have hk1 : (0 : Int) < (k : Int) := by omega
      have hla : zs.length ≤ 16777216 := by have := hl1.out; omega
      have hlb : zs2.length ≤ 16777216 := by have := hl2.out; omega
      have e1 : (k : Int) - 1 = ((k - 1 : Nat) : Int) := by omega
      go_wp2_with (at_builtin; refine append_one_two rfl _ _ _ rfl Try.underlying26 y W8.out rfl _ rfl rfl hla ?_; intro va w9 hown9 hb9; have T9 := T8.out.lo hXK hb9; have c0 := T9.fld.c0; have c1 := T9.fld.c1; have c2 := T9.fld.c2)
      have T9 := Lib.hid T9
      have W9 := Lib.hid hown9
      clear hown9 hb9 T8 W8
      refine (l02DrawElement_any T9.out.src p pw g).mono ?_
      rintro e w10 ⟨y10, rfl, hd, hs⟩
      have T10 := Lib.hid (T9.out.drS hd hs)
      have W10 := (W9.out.dr hd (by omega)).out.symm
      clear hd hs T9 W9 c0 c1 c2
      go_wp2_with (at_builtin; refine append_one_two rfl _ _ _ rfl Try.underlying26 y10 W10 rfl _ rfl rfl hlb ?_; intro vb w11 hown11 hb11)
      have T11 := Lib.hid (T10.out.lo hXK hb11)
      have W11 := Lib.hid hown11.symm
      clear hown11 hb11 T10 W10
      have c0 := T11.out.fld.c0
      have c1 := T11.out.fld.c1
      have c2 := T11.out.fld.c2
      have TD := Lib.hid (T11.out.below (Drew.below (drew1 w11) _))
      by_cases hm : 3 < sz
      · have hm0 : ¬ sz = 0 := by omega
        go_wp2_with fail
        refine wp_region_lastW (S := (fun w' => w'.cell? ⟨X, 0, none⟩ = some (.int .i64 p) ∧ w'.cell? ⟨X, 1, none⟩ = some (.int .i64 pw) ∧ w'.cell? ⟨X, 2, none⟩ = some (.int .i64 g))) 9 (by kernel_rfl) rfl (by kernel_rfl) ?_ (fun hHeld => ?_)
        · (try dsimp only); exact ⟨c0, c1, c2⟩
        simp only [List.take_succ_cons, List.take_zero]
        refine wpAnyH_take (i := 0) (oi := _) (v := ?_) rfl (by kernel_rfl) (by kernel_rfl) (by kernel_rfl) (fun _ _ _ h => h) (Or.inl ⟨by rfl, ?_⟩) hHeld ?_
        rotate_left
        · intro w0 hSw; (try dsimp only at hSw); go_simp; (try with_reducible rfl)
        (try dsimp only [Act.put, List.setIfInBounds_toArray, List.set_cons_zero, List.set_cons_succ])
        refine wpAnyH_take (i := 1) (oi := _) (v := ?_) rfl (by kernel_rfl) (by kernel_rfl) (by kernel_rfl) (fun _ _ _ h => h) (Or.inl ⟨by rfl, ?_⟩) hHeld ?_
        rotate_left
        · intro w0 hSw; (try dsimp only at hSw); go_simp; (try with_reducible rfl)
        (try dsimp only [Act.put, List.setIfInBounds_toArray, List.set_cons_zero, List.set_cons_succ])
        refine wpAnyH_take (i := 2) (oi := _) (v := ?_) rfl (by kernel_rfl) (by kernel_rfl) (by kernel_rfl) (fun _ _ _ h => h) (Or.inl ⟨by rfl, ?_⟩) hHeld ?_
        rotate_left
        · intro w0 hSw; (try dsimp only at hSw); go_simp; (try with_reducible rfl)
        (try dsimp only [Act.put, List.setIfInBounds_toArray, List.set_cons_zero, List.set_cons_succ])
        refine wpAnyH_take (i := 5) (oi := _) (v := ?_) rfl (by kernel_rfl) (by kernel_rfl) (by kernel_rfl) (fun _ _ _ h => h) (Or.inl ⟨by rfl, ?_⟩) hHeld ?_
        rotate_left
        · intro w0 hSw; (try dsimp only at hSw); go_simp; (try with_reducible rfl)
        (try dsimp only [Act.put, List.setIfInBounds_toArray, List.set_cons_zero, List.set_cons_succ])
        refine wpAnyH_ready (rs := [3]) (by kernel_rfl) (by simp) ?_
        refine AllReadyH.cons (o := _) rfl (fun K hK => ?_) AllReadyH.nil
        go_simp
        refine (next_any TD.out.src 3 (by omega) (by omega)).mono ?_
        rintro e w12 ⟨q, rfl, hq, hd12, hs12⟩
        have T12 := TD.out.drS hd12 hs12
        go_wp2_with fail
        refine hK.out _ _ ?_ (fun hHeld => ?_)
        · (try dsimp only); exact ⟨T12.fld.c0, T12.fld.c1, T12.fld.c2⟩
        clear hK K
        (try dsimp only [Act.put, List.setIfInBounds_toArray, List.set_cons_zero, List.set_cons_succ])
        refine wpAnyH_take (i := 4) (oi := _) (v := ?_) rfl (by kernel_rfl) (by kernel_rfl) (by kernel_rfl) (fun _ _ _ h => h) (Or.inl ⟨by rfl, ?_⟩) hHeld ?_
        rotate_left
        · intro w0 hSw; (try dsimp only at hSw); go_simp; (try with_reducible rfl)
        (try dsimp only [Act.put, List.setIfInBounds_toArray, List.set_cons_zero, List.set_cons_succ])
        refine wpAnyH_ready (rs := [6]) (by kernel_rfl) (by simp) ?_
        refine AllReadyH.cons (o := _) rfl (fun K hK => ?_) AllReadyH.nil
        go_simp
        refine (HSZ.out _).mono ?_
        rintro e w13 ⟨rfl, hb13⟩
        have T13 := Lib.hid (T12.below hb13)
        have W13 := Lib.hid (((W11.out.below (Drew.below (drew1 w11) _)).dr hd12 (by omega)).out.below hb13)
        go_wp2_with fail
        refine hK.out _ _ ?_ (fun hHeld => ?_)
        · (try dsimp only); exact ⟨keep_cell hb13 hHeld.1, keep_cell hb13 hHeld.2.1, keep_cell hb13 hHeld.2.2⟩
        clear hK K
        (try dsimp only [Act.put, List.setIfInBounds_toArray, List.set_cons_zero, List.set_cons_succ])
        refine wpAnyH_take (i := 7) (oi := _) (v := ?_) rfl (by kernel_rfl) (by kernel_rfl) (by kernel_rfl) (fun _ _ _ h => h) (Or.inl ⟨by rfl, ?_⟩) hHeld ?_
        rotate_left
        · intro w0 hSw; (try dsimp only at hSw); go_simp; (try with_reducible rfl)
        (try dsimp only [Act.put, List.setIfInBounds_toArray, List.set_cons_zero, List.set_cons_succ])
        refine wpAnyH_take (i := 8) (oi := _) (v := ?_) rfl (by kernel_rfl) (by kernel_rfl) (by kernel_rfl) (fun _ _ _ h => h) (Or.inl ⟨by rfl, ?_⟩) hHeld ?_
        rotate_left
        · intro w0 hSw; (try dsimp only at hSw); go_simp; (try with_reducible rfl)
        (try dsimp only [Act.put, List.setIfInBounds_toArray, List.set_cons_zero, List.set_cons_succ])
        refine wpAnyH_done (by kernel_rfl) (lastQ_normalW ?_) _
        go_wp2_with fail
        go_roundw
        case rel => exact ⟨k - 1, _, _, _, by omega, rfl, rfl, Lib.hid (by have := hl1.out; simp; omega), Lib.hid (by have := hl2.out; simp; omega), W13, T13⟩
        case measure => simp [intOf]; omega
      · have hm0 : ¬ (3 : Int) = 0 := by omega
        have hm3 : (if 3 < sz then sz else 3) = 3 := if_neg hm
        have hm4 : sz ≤ 3 := by omega
        go_wp2_with fail
        refine wp_region_lastW (S := (fun w' => w'.cell? ⟨X, 0, none⟩ = some (.int .i64 p) ∧ w'.cell? ⟨X, 1, none⟩ = some (.int .i64 pw) ∧ w'.cell? ⟨X, 2, none⟩ = some (.int .i64 g))) 9 (by kernel_rfl) rfl (by kernel_rfl) ?_ (fun hHeld => ?_)
        · (try dsimp only); exact ⟨c0, c1, c2⟩
        simp only [List.take_succ_cons, List.take_zero]
        refine wpAnyH_take (i := 0) (oi := _) (v := ?_) rfl (by kernel_rfl) (by kernel_rfl) (by kernel_rfl) (fun _ _ _ h => h) (Or.inl ⟨by rfl, ?_⟩) hHeld ?_
        rotate_left
        · intro w0 hSw; (try dsimp only at hSw); go_simp; (try with_reducible rfl)
        (try dsimp only [Act.put, List.setIfInBounds_toArray, List.set_cons_zero, List.set_cons_succ])
        refine wpAnyH_take (i := 1) (oi := _) (v := ?_) rfl (by kernel_rfl) (by kernel_rfl) (by kernel_rfl) (fun _ _ _ h => h) (Or.inl ⟨by rfl, ?_⟩) hHeld ?_
        rotate_left
        · intro w0 hSw; (try dsimp only at hSw); go_simp; (try with_reducible rfl)
        (try dsimp only [Act.put, List.setIfInBounds_toArray, List.set_cons_zero, List.set_cons_succ])
        refine wpAnyH_take (i := 2) (oi := _) (v := ?_) rfl (by kernel_rfl) (by kernel_rfl) (by kernel_rfl) (fun _ _ _ h => h) (Or.inl ⟨by rfl, ?_⟩) hHeld ?_
        rotate_left
        · intro w0 hSw; (try dsimp only at hSw); go_simp; (try with_reducible rfl)
        (try dsimp only [Act.put, List.setIfInBounds_toArray, List.set_cons_zero, List.set_cons_succ])
        refine wpAnyH_take (i := 5) (oi := _) (v := ?_) rfl (by kernel_rfl) (by kernel_rfl) (by kernel_rfl) (fun _ _ _ h => h) (Or.inl ⟨by rfl, ?_⟩) hHeld ?_
        rotate_left
        · intro w0 hSw; (try dsimp only at hSw); go_simp; (try with_reducible rfl)
        (try dsimp only [Act.put, List.setIfInBounds_toArray, List.set_cons_zero, List.set_cons_succ])
        refine wpAnyH_ready (rs := [3]) (by kernel_rfl) (by simp) ?_
        refine AllReadyH.cons (o := _) rfl (fun K hK => ?_) AllReadyH.nil
        go_simp
        refine (next_any TD.out.src 3 (by omega) (by omega)).mono ?_
        rintro e w12 ⟨q, rfl, hq, hd12, hs12⟩
        have T12 := TD.out.drS hd12 hs12
        go_wp2_with fail
        refine hK.out _ _ ?_ (fun hHeld => ?_)
        · (try dsimp only); exact ⟨T12.fld.c0, T12.fld.c1, T12.fld.c2⟩
        clear hK K
        (try dsimp only [Act.put, List.setIfInBounds_toArray, List.set_cons_zero, List.set_cons_succ])
        refine wpAnyH_take (i := 4) (oi := _) (v := ?_) rfl (by kernel_rfl) (by kernel_rfl) (by kernel_rfl) (fun _ _ _ h => h) (Or.inl ⟨by rfl, ?_⟩) hHeld ?_
        rotate_left
        · intro w0 hSw; (try dsimp only at hSw); go_simp; (try with_reducible rfl)
        (try dsimp only [Act.put, List.setIfInBounds_toArray, List.set_cons_zero, List.set_cons_succ])
        refine wpAnyH_ready (rs := [6]) (by kernel_rfl) (by simp) ?_
        refine AllReadyH.cons (o := _) rfl (fun K hK => ?_) AllReadyH.nil
        go_simp
        refine (HSZ.out _).mono ?_
        rintro e w13 ⟨rfl, hb13⟩
        have T13 := Lib.hid (T12.below hb13)
        have W13 := Lib.hid (((W11.out.below (Drew.below (drew1 w11) _)).dr hd12 (by omega)).out.below hb13)
        go_wp2_with fail
        refine hK.out _ _ ?_ (fun hHeld => ?_)
        · (try dsimp only); exact ⟨keep_cell hb13 hHeld.1, keep_cell hb13 hHeld.2.1, keep_cell hb13 hHeld.2.2⟩
        clear hK K
        (try dsimp only [Act.put, List.setIfInBounds_toArray, List.set_cons_zero, List.set_cons_succ])
        refine wpAnyH_take (i := 7) (oi := _) (v := ?_) rfl (by kernel_rfl) (by kernel_rfl) (by kernel_rfl) (fun _ _ _ h => h) (Or.inl ⟨by rfl, ?_⟩) hHeld ?_
        rotate_left
        · intro w0 hSw; (try dsimp only at hSw); go_simp; (try with_reducible rfl)
        (try dsimp only [Act.put, List.setIfInBounds_toArray, List.set_cons_zero, List.set_cons_succ])
        refine wpAnyH_take (i := 8) (oi := _) (v := ?_) rfl (by kernel_rfl) (by kernel_rfl) (by kernel_rfl) (fun _ _ _ h => h) (Or.inl ⟨by rfl, ?_⟩) hHeld ?_
        rotate_left
        · intro w0 hSw; (try dsimp only at hSw); go_simp; (try with_reducible rfl)
        (try dsimp only [Act.put, List.setIfInBounds_toArray, List.set_cons_zero, List.set_cons_succ])
        refine wpAnyH_done (by kernel_rfl) (lastQ_normalW ?_) _
        go_wp2_with fail
        go_roundw
        case rel => exact ⟨k - 1, _, _, _, by omega, rfl, rfl, Lib.hid (by have := hl1.out; simp; omega), Lib.hid (by have := hl2.out; simp; omega), W13, T13⟩
        case measure => simp [intOf]; omega
    · obtain rfl : k = 0 := by omega
      have hla : zs.length ≤ 100 := by have := hl1.out; omega
      have hlb : zs2.length ≤ 100 := by have := hl2.out; omega
      have hlb6 : zs2.length ≤ 16777216 := by omega
      go_wp2_with fail
      refine (next_any T8.out.src 20 (by omega) (by omega)).mono ?_
      rintro e w9 ⟨q, rfl, hq, hd, hs⟩
      have T9 := Lib.hid (T8.out.drS hd hs)
      have W9 := (W8.out.dr hd (by omega))
      have hK9 : K ≤ w9.heap.size := W9.out.one.1
      clear hd hs T8 W8
      rcases (show q = 0 ∨ q = 1 ∨ 2 ≤ q by omega) with rfl | rfl | hq2
      · have W9s := W9.out.symm
        go_wp2_with (at_builtin; refine append_one_two rfl _ _ _ rfl Try.underlying26 1 W9s rfl _ rfl rfl hlb6 ?_; intro vb w11 hown11 hb11; have T11 := T9.out.lo hXK hb11; have c0 := T11.fld.c0; have c1 := T11.fld.c1; have c2 := T11.fld.c2; have r0 := T11.res.c0; have r1 := T11.res.c1; have r2 := T11.res.c2; have f0 := T11.res.fz 0; have f1 := T11.res.fz 1; have f2 := T11.res.fz 2)
        have T11 := Lib.hid T11
        have OA := Lib.hid hown11.two
        have OB := Lib.hid hown11.one
        clear hown11 hb11 T9 W9 W9s
        have c0 := T11.out.fld.c0
        have c1 := T11.out.fld.c1
        have c2 := T11.out.fld.c2
        have hlc : (zs2 ++ [(1 : Int)]).length ≤ 1000 := by simp; omega
        have hRK : w.heap.size < K := by have := T11.out.r0; have := T11.out.rs; omega
        have hKw : w.heap.size ≤ K := by omega
        have r0 := T11.out.res.c0
        have r1 := T11.out.res.c1
        have r2 := T11.out.res.c2
        have f0 := T11.out.res.fz 0
        have f1 := T11.out.res.fz 1
        have f2 := T11.out.res.fz 2
        have FF := Lib.hid (T11.out.res.set p pw g)
        have BF := Lib.hid T11.out.fin
        go_wp2_with fail
        (try simp only [Exit.inBlock, Exit.then])
        exact ret_cell3 HRES.out Try.underlying25 rfl (by kernel_rfl) rfl rfl FF.out.blk ⟨_, _, _, _, _, rfl, BF.out, _, _, (OA.out.set3 (R := w.heap.size) hRK _ _ _).lower hKw, (OB.out.set3 (R := w.heap.size) hRK _ _ _).lower hKw, by omega, hlc⟩
      · go_wp2_with fail
        refine (next_any T9.out.src 2 (by omega) (by omega)).mono ?_
        rintro e w10 ⟨q2, rfl, hq2, hd, hs⟩
        have T10 := Lib.hid (T9.out.drS hd hs)
        have OB := Lib.hid (W9.out.dr hd (by omega)).out.two
        have hK10 : K ≤ w10.heap.size := OB.out.1
        clear hd hs T9 W9
        obtain ⟨M, hM, hM2⟩ : ∃ M : Nat, (64 : Int) + (q2 : Int) = (M : Int) ∧ M ≤ 70 := ⟨64 + q2, by omega, by omega⟩
        have hmk := fun w => run_make_ints w 26 Try.underlying26 (M : Int) (by omega) (by omega)
        rw [Int.toNat_natCast] at hmk
        have OA := Lib.hid (OwnL.zeros w10 K hK10 M (by omega))
        have OB := Lib.hid (OB.out.below ((Below.refl _ _).alloc (Nat.le_refl _) (.cells (madeCells #[.int .i64 0] M) 2)))
        have T11 := Lib.hid (T10.out.below ((Below.refl _ _).alloc (Nat.le_refl _) (.cells (madeCells #[.int .i64 0] M) 2)))
        have c0 := T11.out.fld.c0
        have c1 := T11.out.fld.c1
        have c2 := T11.out.fld.c2
        have hlc : (List.replicate M (0 : Int)).length ≤ 1000 := by simp; omega
        have hRK : w.heap.size < K := by have := T11.out.r0; have := T11.out.rs; omega
        have hKw : w.heap.size ≤ K := by omega
        have r0 := T11.out.res.c0
        have r1 := T11.out.res.c1
        have r2 := T11.out.res.c2
        have f0 := T11.out.res.fz 0
        have f1 := T11.out.res.fz 1
        have f2 := T11.out.res.fz 2
        have FF := Lib.hid (T11.out.res.set p pw g)
        have BF := Lib.hid T11.out.fin
        go_wp2_with fail
        (try simp only [Exit.inBlock, Exit.then])
        exact ret_cell3 HRES.out Try.underlying25 rfl (by kernel_rfl) rfl rfl FF.out.blk ⟨_, _, _, _, _, rfl, BF.out, _, _, (OA.out.set3 (R := w.heap.size) hRK _ _ _).lower hKw, (OB.out.set3 (R := w.heap.size) hRK _ _ _).lower hKw, hlc, by omega⟩
      · have q0 : ((q : Int) == 0) = false := by simp; omega
        have q1 : ((q : Int) == 1) = false := by simp; omega
        have c0 := T9.out.fld.c0
        have c1 := T9.out.fld.c1
        have c2 := T9.out.fld.c2
        have OA := Lib.hid W9.out.one
        have OB := Lib.hid W9.out.two
        have hRK : w.heap.size < K := by have := T9.out.r0; have := T9.out.rs; omega
        have hKw : w.heap.size ≤ K := by omega
        have r0 := T9.out.res.c0
        have r1 := T9.out.res.c1
        have r2 := T9.out.res.c2
        have f0 := T9.out.res.fz 0
        have f1 := T9.out.res.fz 1
        have f2 := T9.out.res.fz 2
        have FF := Lib.hid (T9.out.res.set p pw g)
        have BF := Lib.hid T9.out.fin
        go_wp2_with fail
        (try simp only [Exit.inBlock, Exit.then])
        exact ret_cell3 HRES.out Try.underlying25 rfl (by kernel_rfl) rfl rfl FF.out.blk ⟨_, _, _, _, _, rfl, BF.out, _, _, (OA.out.set3 (R := w.heap.size) hRK _ _ _).lower hKw, (OB.out.set3 (R := w.heap.size) hRK _ _ _).lower hKw, by omega, by omega⟩
end Go.Proofs.Ytnhpdenneplapaa
