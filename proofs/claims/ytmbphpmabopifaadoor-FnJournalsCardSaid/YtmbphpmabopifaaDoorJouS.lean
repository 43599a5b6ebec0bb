/-
  The reference's journals: numerals, words, sums, lines, texts.
-/
import Derived.Test.YtmbphpmabopifaaDoorJouP
import Derived.Test.YtmbphpmabopifaaDoorRnd

namespace Go.Proofs.YtmbphpmabopifaaDoor
open Go.RowKit
set_option linter.unusedVariables false

theorem drewB (w : World) (B : Nat) : Below B w w.drew := ⟨rfl, rfl, rfl, Nat.le_refl _, fun _ _ => rfl⟩
theorem lit1 (w : World) (c : UInt8) (z : Int) (hz : z = (c.toNat : Int)) : RowU (w.alloc (.cells #[.int .u8 z] 5)) (some ⟨w.heap.size, 0, none⟩) 1 1 [c] :=
  ⟨rfl, Nat.le_refl _, (fun e => by cases e), by omega, fun ad e => by
    cases e
    refine ⟨by simp, fun j hj => ?_⟩
    match j, hj with
    | 0, _ => subst hz; simp [Addr.add, go_sem]⟩
theorem u8_of {n : Nat} (h : n < 256) : ((UInt8.ofNat n).toNat : Int) = (n : Int) := by
  have : (UInt8.ofNat n).toNat = n := by simp; omega
  rw [this]
/-- A digit. -/
def dg (d : Nat) : UInt8 := UInt8.ofNat (48 + d)
theorem dg_z {d : Nat} (h : d < 10) : (48 + (d : Int)) = ((dg d).toNat : Int) := by unfold dg; rw [u8_of (by omega)]; omega
theorem dec_small {n : Nat} (h : n < 10) : Lib.decDigits n = [dg n] := by rw [Lib.decDigits, dif_pos h]; rfl
theorem dec_big {n : Nat} (h : ¬ n < 10) : Lib.decDigits n = Lib.decDigits (n / 10) ++ [dg (n % 10)] := by rw [Lib.decDigits, dif_neg h]; rfl
theorem run_lit1 (W : World) (d : Nat) (hd : d < 10) : (convert 42 9 (.slice (some ⟨W.heap.size, 0, none⟩) 1 1)).run Tryd.prog (W.alloc (.cells #[.int .u8 (48 + (d : Int))] 5)) = .ok (.string (str [dg d])) (W.alloc (.cells #[.int .u8 (48 + (d : Int))] 5)) :=
  run_str (lit1 W (dg d) (48 + (d : Int)) (dg_z hd))
theorem run_lit1b {W W' : World} (d : Nat) (hd : d < 10) (hb : Below (W.alloc (.cells #[.int .u8 (48 + (d : Int))] 5)).heap.size (W.alloc (.cells #[.int .u8 (48 + (d : Int))] 5)) W') :
    (convert 42 9 (.slice (some ⟨W.heap.size, 0, none⟩) 1 1)).run Tryd.prog W' = .ok (.string (str [dg d])) W' :=
  run_str ((lit1 W (dg d) (48 + (d : Int)) (dg_z hd)).below hb)
theorem dec_le {n : Nat} (hn : n ≤ 1000000000000000) : (Lib.decDigits n).length ≤ 21 := by
  have := Lib.itoa_length_le (n : Int) (by omega) (by omega)
  rw [Lib.itoa_nonneg] at this
  exact this
set_option maxHeartbeats 4000000 in
set_option maxRecDepth 100000 in
theorem l01Dec_any (n : Nat) (hn : n ≤ 1000000000000000) (w : World) :
    Calls Tryd.prog 49 #[.int .i64 (n : Int)] w fun e w' => e = .returned (.string (str (Lib.decDigits n))) ∧ Below w.heap.size w w' := by
  induction n using Nat.strongRecOn generalizing w with
  | _ n ih =>
  by_cases hs : n < 10
  · have hs' : (n : Int) < 10 := by omega
    have HD := Lib.hid (dec_small hs)
    have HS := run_lit1 w n hs
    clear ih
    go_enter Tryd.func49, Tryd.ntmps49
    go_wp2_with fail
    go_ret
    exact ⟨by rw [HD.out]; rfl, below1 _ _⟩
  · have hs' : ¬ (n : Int) < 10 := by omega
    have HD := Lib.hid (dec_big hs)
    obtain ⟨q, hq⟩ : ∃ q, n / 10 = q := ⟨_, rfl⟩
    obtain ⟨d, hd⟩ : ∃ d, n % 10 = d := ⟨_, rfl⟩
    have hd10 : d < 10 := by omega
    have HQ := Lib.hid (ih q (by omega) (by omega))
    have e1 : (n : Int).tdiv 10 = (q : Int) := by rw [← hq]; exact Int.tdiv_eq_ediv_of_nonneg (by omega)
    have e2 : (n : Int).tmod 10 = (d : Int) := by rw [← hd]; exact Int.tmod_eq_emod_of_nonneg (by omega)
    have hln : (Lib.decDigits q).length ≤ 21 := dec_le (by omega)
    have hz : (str (Lib.decDigits q)).size ≤ 21 := by rw [str_size]; exact hln
    have hz2 : (str [dg d]).size ≤ 1 := by simp [str_size]
    have v1 : IntKind.i64.wrap (q : Int) = (q : Int) := IntWalk.i64_in _ (by omega)
    have v2 : IntKind.i64.wrap (48 + (d : Int)) = 48 + (d : Int) := IntWalk.i64_in _ (by omega)
    have v3 : IntKind.u8.wrap (48 + (d : Int)) = 48 + (d : Int) := IntWalk.u8_in _ (by omega)
    have hz3 : ¬ 9223372036854775807 < (str (Lib.decDigits q)).size + (str [dg d]).size := by omega
    have hz4 : (str (Lib.decDigits q)).size + (str [dg d]).size ≤ 9223372036854775807 := by omega
    have hL := lit1 w (dg d) (48 + (d : Int)) (dg_z hd10)
    clear ih hln
    rw [hq, hd] at HD
    clear hq hd
    go_enter Tryd.func49, Tryd.ntmps49
    go_wp2_with fail
    refine wp_region_S (S := (fun _ => True)) 11 rfl (by kernel_rfl) ?_ (fun hHeld => ?_)
    · first | (exact trivial) | ((try dsimp only); exact trivial)
    refine wpAnyH_take (i := 0) (oi := _) (v := ?_) rfl (by kernel_rfl) (by kernel_rfl) (by kernel_rfl) (fun _ _ _ h => h) (Or.inl ⟨by kernel_rfl, ?_⟩) hHeld ?_
    rotate_left
    · intro w0 hSw; (try dsimp only at hSw); go_simp; (try with_reducible rfl)
    (try dsimp only [Act.put, List.setIfInBounds_toArray, List.set_cons_zero, List.set_cons_succ])
    refine wpAnyH_take (i := 1) (oi := _) (v := ?_) rfl (by kernel_rfl) (by kernel_rfl) (by kernel_rfl) (fun _ _ _ h => h) (Or.inl ⟨by kernel_rfl, ?_⟩) hHeld ?_
    rotate_left
    · intro w0 hSw; (try dsimp only at hSw); go_simp; (try with_reducible rfl)
    (try dsimp only [Act.put, List.setIfInBounds_toArray, List.set_cons_zero, List.set_cons_succ])
    refine wpAnyH_take (i := 3) (oi := _) (v := ?_) rfl (by kernel_rfl) (by kernel_rfl) (by kernel_rfl) (fun _ _ _ h => h) (Or.inl ⟨by kernel_rfl, ?_⟩) hHeld ?_
    rotate_left
    · intro w0 hSw; (try dsimp only at hSw); go_simp; (try with_reducible rfl)
    (try dsimp only [Act.put, List.setIfInBounds_toArray, List.set_cons_zero, List.set_cons_succ])
    refine wpAnyH_take (i := 4) (oi := _) (v := ?_) rfl (by kernel_rfl) (by kernel_rfl) (by kernel_rfl) (fun _ _ _ h => h) (Or.inl ⟨by kernel_rfl, ?_⟩) hHeld ?_
    rotate_left
    · intro w0 hSw; (try dsimp only at hSw); go_simp; (try with_reducible rfl)
    (try dsimp only [Act.put, List.setIfInBounds_toArray, List.set_cons_zero, List.set_cons_succ])
    refine wpAnyH_take (i := 5) (oi := _) (v := ?_) rfl (by kernel_rfl) (by kernel_rfl) (by kernel_rfl) (fun _ _ _ h => h) (Or.inl ⟨by kernel_rfl, ?_⟩) hHeld ?_
    rotate_left
    · intro w0 hSw; (try dsimp only at hSw); go_simp; (try with_reducible rfl)
    (try dsimp only [Act.put, List.setIfInBounds_toArray, List.set_cons_zero, List.set_cons_succ])
    refine wpAnyH_take (i := 6) (oi := _) (v := ?_) rfl (by kernel_rfl) (by kernel_rfl) (by kernel_rfl) (fun _ _ _ h => h) (Or.inl ⟨by kernel_rfl, ?_⟩) hHeld ?_
    rotate_left
    · intro w0 hSw; (try dsimp only at hSw); go_simp; (try with_reducible rfl)
    (try dsimp only [Act.put, List.setIfInBounds_toArray, List.set_cons_zero, List.set_cons_succ])
    refine wpAnyH_ready (rs := [2, 7]) (by kernel_rfl) (by simp) ?_
    refine AllReadyH.cons (o := _) rfl (fun K hK => ?_) (AllReadyH.cons (o := _) rfl (fun K hK => ?_) AllReadyH.nil)
    · go_simp
      refine (HQ.out _).mono ?_
      rintro e w2 ⟨rfl, hb⟩
      refine hK.out _ _ ?_ (fun hHeld => ?_)
      · first | (exact trivial) | ((try dsimp only); exact trivial)
      clear hK K
      (try dsimp only [Act.put, List.setIfInBounds_toArray, List.set_cons_zero, List.set_cons_succ])
      refine wpAnyH_ready (rs := [7]) (by kernel_rfl) (by simp) ?_
      refine AllReadyH.cons (o := _) rfl (fun K hK => ?_) AllReadyH.nil
      go_simp
      refine hK.out _ _ ?_ (fun hHeld => ?_)
      · first | (exact trivial) | ((try dsimp only); exact trivial)
      clear hK K
      (try dsimp only [Act.put, List.setIfInBounds_toArray, List.set_cons_zero, List.set_cons_succ])
      refine wpAnyH_ready (rs := [8]) (by kernel_rfl) (by simp) ?_
      refine AllReadyH.cons (o := _) rfl (fun K hK => ?_) AllReadyH.nil
      go_simp
      rw [run_lit1 w2 d hd10]
      refine hK.out _ _ ?_ (fun hHeld => ?_)
      · first | (exact trivial) | ((try dsimp only); exact trivial)
      clear hK K
      (try dsimp only [Act.put, List.setIfInBounds_toArray, List.set_cons_zero, List.set_cons_succ])
      refine wpAnyH_take (i := 9) (oi := _) (v := ?_) rfl (by kernel_rfl) (by kernel_rfl) (by kernel_rfl) (fun _ _ _ h => h) (Or.inl ⟨by kernel_rfl, ?_⟩) hHeld ?_
      rotate_left
      · intro w0 hSw; (try dsimp only at hSw); go_simp; (try with_reducible rfl)
      (try dsimp only [Act.put, List.setIfInBounds_toArray, List.set_cons_zero, List.set_cons_succ])
      refine wpAnyH_take (i := 10) (oi := _) (v := ?_) rfl (by kernel_rfl) (by kernel_rfl) (by kernel_rfl) (fun _ _ _ h => h) (Or.inl ⟨by kernel_rfl, ?_⟩) hHeld ?_
      rotate_left
      · intro w0 hSw; (try dsimp only at hSw); go_simp; (try with_reducible rfl)
      (try dsimp only [Act.put, List.setIfInBounds_toArray, List.set_cons_zero, List.set_cons_succ])
      refine wpAnyH_done (by kernel_rfl) ?_ _
      have BB := Lib.hid (show Below w.heap.size w _ from ((drewB w w.heap.size).trans hb).alloc (by have := hb.size; exact this) (.cells #[.int .u8 (48 + (d : Int))] 5))
      go_simp
      go_wp2_with fail
      go_ret
      exact ⟨by rw [HD.out, ← str_add]; rfl, BB.out⟩
    · go_simp
      refine hK.out _ _ ?_ (fun hHeld => ?_)
      · first | (exact trivial) | ((try dsimp only); exact trivial)
      clear hK K
      (try dsimp only [Act.put, List.setIfInBounds_toArray, List.set_cons_zero, List.set_cons_succ])
      refine wpAnyH_ready (rs := [2, 8]) (by kernel_rfl) (by simp) ?_
      refine AllReadyH.cons (o := _) rfl (fun K hK => ?_) (AllReadyH.cons (o := _) rfl (fun K hK => ?_) AllReadyH.nil)
      · go_simp
        refine (HQ.out _).mono ?_
        rintro e w2 ⟨rfl, hb⟩
        refine hK.out _ _ ?_ (fun hHeld => ?_)
        · first | (exact trivial) | ((try dsimp only); exact trivial)
        clear hK K
        (try dsimp only [Act.put, List.setIfInBounds_toArray, List.set_cons_zero, List.set_cons_succ])
        refine wpAnyH_ready (rs := [8]) (by kernel_rfl) (by simp) ?_
        refine AllReadyH.cons (o := _) rfl (fun K hK => ?_) AllReadyH.nil
        go_simp
        rw [run_str ((hL.below (drewB _ _)).below hb)]
        refine hK.out _ _ ?_ (fun hHeld => ?_)
        · first | (exact trivial) | ((try dsimp only); exact trivial)
        clear hK K
        (try dsimp only [Act.put, List.setIfInBounds_toArray, List.set_cons_zero, List.set_cons_succ])
        refine wpAnyH_take (i := 9) (oi := _) (v := ?_) rfl (by kernel_rfl) (by kernel_rfl) (by kernel_rfl) (fun _ _ _ h => h) (Or.inl ⟨by kernel_rfl, ?_⟩) hHeld ?_
        rotate_left
        · intro w0 hSw; (try dsimp only at hSw); go_simp; (try with_reducible rfl)
        (try dsimp only [Act.put, List.setIfInBounds_toArray, List.set_cons_zero, List.set_cons_succ])
        refine wpAnyH_take (i := 10) (oi := _) (v := ?_) rfl (by kernel_rfl) (by kernel_rfl) (by kernel_rfl) (fun _ _ _ h => h) (Or.inl ⟨by kernel_rfl, ?_⟩) hHeld ?_
        rotate_left
        · intro w0 hSw; (try dsimp only at hSw); go_simp; (try with_reducible rfl)
        (try dsimp only [Act.put, List.setIfInBounds_toArray, List.set_cons_zero, List.set_cons_succ])
        refine wpAnyH_done (by kernel_rfl) ?_ _
        have BB := Lib.hid (show Below w.heap.size w _ from (below1 w _).trans ((drewB _ _).trans (hb.mono (by simp))))
        go_simp
        go_wp2_with fail
        go_ret
        exact ⟨by rw [HD.out, ← str_add]; rfl, BB.out⟩
      · go_simp
        rw [run_str (hL.below (drewB _ _))]
        refine hK.out _ _ ?_ (fun hHeld => ?_)
        · first | (exact trivial) | ((try dsimp only); exact trivial)
        clear hK K
        (try dsimp only [Act.put, List.setIfInBounds_toArray, List.set_cons_zero, List.set_cons_succ])
        refine wpAnyH_ready (rs := [2]) (by kernel_rfl) (by simp) ?_
        refine AllReadyH.cons (o := _) rfl (fun K hK => ?_) AllReadyH.nil
        go_simp
        refine (HQ.out _).mono ?_
        rintro e w2 ⟨rfl, hb⟩
        refine hK.out _ _ ?_ (fun hHeld => ?_)
        · first | (exact trivial) | ((try dsimp only); exact trivial)
        clear hK K
        (try dsimp only [Act.put, List.setIfInBounds_toArray, List.set_cons_zero, List.set_cons_succ])
        refine wpAnyH_take (i := 9) (oi := _) (v := ?_) rfl (by kernel_rfl) (by kernel_rfl) (by kernel_rfl) (fun _ _ _ h => h) (Or.inl ⟨by kernel_rfl, ?_⟩) hHeld ?_
        rotate_left
        · intro w0 hSw; (try dsimp only at hSw); go_simp; (try with_reducible rfl)
        (try dsimp only [Act.put, List.setIfInBounds_toArray, List.set_cons_zero, List.set_cons_succ])
        refine wpAnyH_take (i := 10) (oi := _) (v := ?_) rfl (by kernel_rfl) (by kernel_rfl) (by kernel_rfl) (fun _ _ _ h => h) (Or.inl ⟨by kernel_rfl, ?_⟩) hHeld ?_
        rotate_left
        · intro w0 hSw; (try dsimp only at hSw); go_simp; (try with_reducible rfl)
        (try dsimp only [Act.put, List.setIfInBounds_toArray, List.set_cons_zero, List.set_cons_succ])
        refine wpAnyH_done (by kernel_rfl) ?_ _
        have BB := Lib.hid (show Below w.heap.size w _ from (below1 w _).trans ((drewB _ _).trans (hb.mono (by simp))))
        go_simp
        go_wp2_with fail
        go_ret
        exact ⟨by rw [HD.out, ← str_add]; rfl, BB.out⟩
theorem l32Words_any (w : World) :
    Calls Tryd.prog 50 #[] w fun e w' => e = .returned (.slice (some ⟨w.heap.size, 0, none⟩) 4 4) ∧ Below w.heap.size w w' ∧ ∀ k : Int, 1 ≤ k → k ≤ 4 → w'.cell? ⟨w.heap.size, (k - 1).toNat, none⟩ = some (.string (str (wrdL k))) := by
  go_enter Tryd.func50, Tryd.ntmps50
  go_wp2_with fail
  go_ret
  refine ⟨rfl, below1 _ _, fun k h1 h2 => ?_⟩
  rcases (show k = 1 ∨ k = 2 ∨ k = 3 ∨ k = 4 by omega) with rfl | rfl | rfl | rfl <;> simp [go_sem, wrdL, str]
set_option maxHeartbeats 4000000 in
set_option maxRecDepth 100000 in
theorem l32Sum_any {s : Int} (h0 : 0 ≤ s) (h1 : s < 65521) (l : List UInt8) (hl : l.length ≤ 1000000) (w : World) :
    Calls Tryd.prog 51 #[.int .i64 s, .string (str l)] w fun e w' => e = .returned (.int .i64 (sumL s l)) ∧ w = w' := by
  have hsz := str_size l
  go_enter Tryd.func51, Tryd.ntmps51
  go_wp2_with fail
  go_loopw [0, 5] (fun ts tk wr => ∃ k : Nat, k ≤ l.length ∧ tk = .int .i64 k ∧ ts = .int .i64 (sumL s (l.take k)) ∧ wr = w) (fun _ tk _ => l.length - (intOf tk).toNat)
  case atStart => exact ⟨0, by omega, rfl, by simp [sumL], rfl⟩
  case round =>
    obtain ⟨k, hk, rfl, rfl, rfl⟩ := hrel
    have hb := sumL_bd h0 h1 (l.take k)
    by_cases hlt : k < l.length
    · have hli : (k : Int) < (l.length : Int) := by omega
      have HST := Lib.hid (sumL_take (s := s) hlt)
      have hbt : (l[k].toNat : Int) ≤ 255 := by have := l[k].toNat_lt; omega
      have hbt0 : (0 : Int) ≤ (l[k].toNat : Int) := by omega
      obtain ⟨bt, hbe⟩ : ∃ bt : Int, (l[k].toNat : Int) = bt := ⟨_, rfl⟩
      obtain ⟨sm, hsm⟩ : ∃ sm : Int, sumL s (l.take k) = sm := ⟨_, rfl⟩
      rw [hbe] at hbt hbt0
      rw [hbe, hsm] at HST
      rw [hsm] at hb ⊢
      clear hsm
      go_wp2_with fail
      go_roundw
      case rel =>
        refine ⟨k + 1, by omega, by go_num, ?_, trivial⟩
        rw [HST.out]
        simp only [str_get, hbe]
        rw [IntWalk.wrap64_in bt (by omega), IntWalk.wrap64_in (131 * sm + bt) (by omega), IntWalk.wrap64_in (131 * sm + bt + 1) (by omega), Int.tmod_eq_emod_of_nonneg (by omega)]
      case measure => simp [intOf]; omega
    · have hli : ¬ (k : Int) < (l.length : Int) := by omega
      have hke : k = l.length := by omega
      have HT := Lib.hid (show l.take k = l by rw [hke, List.take_length])
      clear hke
      go_wp2_with fail
      go_ret
      exact ⟨by rw [HT.out]; rfl, rfl⟩
theorem body_str (A W I : List UInt8) : str A ++ ({ data := #[32] } : ByteArray) ++ str W ++ ({ data := #[32] } : ByteArray) ++ str I = str (A ++ [32] ++ W ++ [32] ++ I) := by
  show str A ++ str [32] ++ str W ++ str [32] ++ str I = _
  rw [str_add, str_add, str_add, str_add]
theorem line_str (A I : List UInt8) : str A ++ ({ data := #[32] } : ByteArray) ++ str I = str (A ++ [32] ++ I) := by
  show str A ++ str [32] ++ str I = _
  rw [str_add, str_add]
set_option maxHeartbeats 4000000 in
set_option maxRecDepth 100000 in
theorem l32Line_any (n : Nat) (hn : n ≤ 1000000) {k i : Int} (hv : recB k i = true) {s : Int} (h0 : 0 ≤ s) (h1 : s < 65521) (w : World) :
    Calls Tryd.prog 40 #[.int .i64 (n : Int), rV k i, .int .i64 s] w fun e w' => e = .returned (.tuple #[.string (str (lineL (n : Int) (k, i) s)), .int .i64 (sumL s (bodyL (n : Int) (k, i)))]) ∧ Below w.heap.size w w' := by
  obtain ⟨hk1, hk2, hi1, hi2⟩ := recB_bd hv
  obtain ⟨j, rfl⟩ : ∃ j : Nat, k = (j : Int) + 1 := ⟨(k - 1).toNat, by omega⟩
  obtain ⟨m, rfl⟩ : ∃ m : Nat, i = (m : Int) := ⟨i.toNat, by omega⟩
  have HB1 := Lib.hid (below1 w (.cells #[.int .i64 ((j : Int) + 1), .int .i64 (m : Int)] 36))
  have HX := boxR_new w ((j : Int) + 1) (m : Int) 36
  have c0 := HX.c0
  have c1 := HX.c1
  have HA := Lib.hid (l01Dec_any n (by omega))
  have HI := Lib.hid (l01Dec_any m (by omega))
  have hbL := bodyL_le (n := (n : Int)) (r := ((j : Int) + 1, (m : Int))) (by omega) (by omega) (by show (0 : Int) ≤ (m : Int); omega) (by show (m : Int) ≤ 1000000; omega)
  have HLN := Lib.hid (show lineL (n : Int) ((j : Int) + 1, (m : Int)) s = bodyL (n : Int) ((j : Int) + 1, (m : Int)) ++ [32] ++ Lib.itoa (sumL s (bodyL (n : Int) ((j : Int) + 1, (m : Int)))) from rfl)
  have HBO := Lib.hid (show bodyL (n : Int) ((j : Int) + 1, (m : Int)) = Lib.decDigits n ++ [32] ++ wrdL ((j : Int) + 1) ++ [32] ++ Lib.decDigits m from by unfold bodyL; rw [Lib.itoa_nonneg, Lib.itoa_nonneg])
  have hsb := sumL_bd h0 h1 (bodyL (n : Int) ((j : Int) + 1, (m : Int)))
  have HSM := Lib.hid (l32Sum_any h0 h1 (bodyL (n : Int) ((j : Int) + 1, (m : Int))) (by omega))
  generalize bodyL (n : Int) ((j : Int) + 1, (m : Int)) = BO at *
  have hzB : (str BO).size ≤ 49 := by rw [str_size]; exact hbL
  have hzA : (str (Lib.decDigits n)).size ≤ 21 := by rw [str_size]; exact dec_le (by omega)
  have hzI : (str (Lib.decDigits m)).size ≤ 21 := by rw [str_size]; exact dec_le (by omega)
  have hzW : (str (wrdL ((j : Int) + 1))).size ≤ 5 := by rw [str_size]; exact wrdL_le _
  obtain ⟨sm, hsm⟩ : ∃ sm : Nat, sumL s BO = (sm : Int) := ⟨(sumL s BO).toNat, by omega⟩
  rw [hsm] at hsb HSM HLN ⊢
  have hsm2 : sm ≤ 65521 := by omega
  have HD := Lib.hid (l01Dec_any sm (by omega))
  have hzD : (str (Lib.decDigits sm)).size ≤ 21 := by rw [str_size]; exact dec_le (by omega)
  have hj4 : (j : Int) < 4 := by omega
  have hj4' : j < 4 := by omega
  have g1 : ¬ 9223372036854775807 < (str (Lib.decDigits n)).size + 1 := by omega
  have g2 : ¬ 9223372036854775807 < (str (Lib.decDigits n)).size + 1 + (str (wrdL ((j : Int) + 1))).size := by omega
  have g3 : ¬ 9223372036854775807 < (str (Lib.decDigits n)).size + 1 + (str (wrdL ((j : Int) + 1))).size + 1 := by omega
  have g4 : ¬ 9223372036854775807 < (str (Lib.decDigits n)).size + 1 + (str (wrdL ((j : Int) + 1))).size + 1 + (str (Lib.decDigits m)).size := by omega
  have g5 : ¬ 9223372036854775807 < (str BO).size + 1 := by omega
  have g6 : ¬ 9223372036854775807 < (str BO).size + 1 + (str (Lib.decDigits sm)).size := by omega
  have v1 : IntKind.i64.wrap ((j : Int) + 1 - 1) = (j : Int) := by rw [show (j : Int) + 1 - 1 = (j : Int) by omega]; exact IntWalk.i64_in _ (by omega)
  have v2 : IntKind.i64.wrap (j : Int) = (j : Int) := IntWalk.i64_in _ (by omega)
  clear hsm hbL hv HX hk1 hk2 hi1 hi2
  go_enter Tryd.func40, Tryd.ntmps40
  go_wp2_with fail
  refine wp_region_S (S := (fun w' => w'.cell? ⟨w.heap.size, 0, none⟩ = some (.int .i64 ((j : Int) + 1)) ∧ w'.cell? ⟨w.heap.size, 1, none⟩ = some (.int .i64 (m : Int)))) 16 rfl (by kernel_rfl) ?_ (fun hHeld => ?_)
  · first | (exact ⟨keep_cell (drewB _ _) c0, keep_cell (drewB _ _) c1⟩) | ((try dsimp only); exact ⟨keep_cell (drewB _ _) c0, keep_cell (drewB _ _) c1⟩)
  refine wpAnyH_take (i := 0) (oi := _) (v := ?_) rfl (by kernel_rfl) (by kernel_rfl) (by kernel_rfl) (fun _ _ _ h => h) (Or.inl ⟨by kernel_rfl, ?_⟩) hHeld ?_
  rotate_left
  · intro w0 hSw; (try dsimp only at hSw); go_simp; (try with_reducible rfl)
  (try dsimp only [Act.put, List.setIfInBounds_toArray, List.set_cons_zero, List.set_cons_succ])
  refine wpAnyH_take (i := 4) (oi := _) (v := ?_) rfl (by kernel_rfl) (by kernel_rfl) (by kernel_rfl) (fun _ _ _ h => h) (Or.inl ⟨by kernel_rfl, ?_⟩) hHeld ?_
  rotate_left
  · intro w0 hSw; (try dsimp only at hSw); go_simp; (try with_reducible rfl)
  (try dsimp only [Act.put, List.setIfInBounds_toArray, List.set_cons_zero, List.set_cons_succ])
  refine wpAnyH_take (i := 5) (oi := _) (v := ?_) rfl (by kernel_rfl) (by kernel_rfl) (by kernel_rfl) (fun _ _ _ h => h) (Or.inl ⟨by kernel_rfl, ?_⟩) hHeld ?_
  rotate_left
  · intro w0 hSw; (try dsimp only at hSw); go_simp; (try with_reducible rfl)
  (try dsimp only [Act.put, List.setIfInBounds_toArray, List.set_cons_zero, List.set_cons_succ])
  refine wpAnyH_take (i := 6) (oi := _) (v := ?_) rfl (by kernel_rfl) (by kernel_rfl) (by kernel_rfl) (fun _ _ _ h => h) (Or.inl ⟨by kernel_rfl, ?_⟩) hHeld ?_
  rotate_left
  · intro w0 hSw; (try dsimp only at hSw); go_simp; (try with_reducible rfl)
  (try dsimp only [Act.put, List.setIfInBounds_toArray, List.set_cons_zero, List.set_cons_succ])
  refine wpAnyH_take (i := 11) (oi := _) (v := ?_) rfl (by kernel_rfl) (by kernel_rfl) (by kernel_rfl) (fun _ _ _ h => h) (Or.inl ⟨by kernel_rfl, ?_⟩) hHeld ?_
  rotate_left
  · intro w0 hSw; (try dsimp only at hSw); go_simp; (try with_reducible rfl)
  (try dsimp only [Act.put, List.setIfInBounds_toArray, List.set_cons_zero, List.set_cons_succ])
  refine wpAnyH_take (i := 12) (oi := _) (v := ?_) rfl (by kernel_rfl) (by kernel_rfl) (by kernel_rfl) (fun _ _ _ h => h) (Or.inl ⟨by kernel_rfl, ?_⟩) hHeld ?_
  rotate_left
  · intro w0 hSw; (try dsimp only at hSw); go_simp; (try with_reducible rfl)
  (try dsimp only [Act.put, List.setIfInBounds_toArray, List.set_cons_zero, List.set_cons_succ])
  refine wpAnyH_ready (rs := [1]) (by kernel_rfl) (by simp) ?_
  refine AllReadyH.cons (o := _) rfl (fun K hK => ?_) AllReadyH.nil
  go_simp
  refine (HA.out _).mono ?_
  rintro e w2 ⟨rfl, hb2⟩
  refine hK.out _ _ ?_ (fun hHeld => ?_)
  · first | (exact ⟨keep_cell hb2 hHeld.1, keep_cell hb2 hHeld.2⟩) | ((try dsimp only); exact ⟨keep_cell hb2 hHeld.1, keep_cell hb2 hHeld.2⟩)
  clear hK K
  (try dsimp only [Act.put, List.setIfInBounds_toArray, List.set_cons_zero, List.set_cons_succ])
  refine wpAnyH_take (i := 2) (oi := _) (v := ?_) rfl (by kernel_rfl) (by kernel_rfl) (by kernel_rfl) (fun _ _ _ h => h) (Or.inl ⟨by kernel_rfl, ?_⟩) hHeld ?_
  rotate_left
  · intro w0 hSw; (try dsimp only at hSw); go_simp; (try with_reducible rfl)
  (try dsimp only [Act.put, List.setIfInBounds_toArray, List.set_cons_zero, List.set_cons_succ])
  refine wpAnyH_ready (rs := [3]) (by kernel_rfl) (by simp) ?_
  refine AllReadyH.cons (o := _) rfl (fun K hK => ?_) AllReadyH.nil
  go_simp
  refine (l32Words_any _).mono ?_
  rintro e w3 ⟨rfl, hb3, hc3⟩
  have hcw := hc3 ((j : Int) + 1) (by omega) (by omega)
  rw [show ((j : Int) + 1 - 1).toNat = j by omega] at hcw
  clear hc3
  refine hK.out _ _ ?_ (fun hHeld => ?_)
  · first | (exact ⟨keep_cell hb3 hHeld.1, keep_cell hb3 hHeld.2⟩) | ((try dsimp only); exact ⟨keep_cell hb3 hHeld.1, keep_cell hb3 hHeld.2⟩)
  clear hK K
  (try dsimp only [Act.put, List.setIfInBounds_toArray, List.set_cons_zero, List.set_cons_succ])
  refine wpAnyH_take (i := 7) (oi := _) (v := ?_) rfl (by kernel_rfl) (by kernel_rfl) (by kernel_rfl) (fun _ _ _ h => h) (Or.inl ⟨by kernel_rfl, ?_⟩) hHeld ?_
  rotate_left
  · intro w0 hSw; (try dsimp only at hSw); go_simp; (try with_reducible rfl)
  (try dsimp only [Act.put, List.setIfInBounds_toArray, List.set_cons_zero, List.set_cons_succ])
  refine wpAnyH_ready (rs := [8, 13]) (by kernel_rfl) (by simp) ?_
  refine AllReadyH.cons (o := _) rfl (fun K hK => ?_) (AllReadyH.cons (o := _) rfl (fun K hK => ?_) AllReadyH.nil)
  · go_simp
    refine hK.out _ _ ?_ (fun hHeld => ?_)
    · first | (exact hHeld) | ((try dsimp only); exact hHeld)
    clear hK K
    (try dsimp only [Act.put, List.setIfInBounds_toArray, List.set_cons_zero, List.set_cons_succ])
    refine wpAnyH_take (i := 9) (oi := _) (v := ?_) rfl (by kernel_rfl) (by kernel_rfl) (by kernel_rfl) (fun _ _ _ h => h) (Or.inl ⟨by kernel_rfl, ?_⟩) hHeld ?_
    rotate_left
    · intro w0 hSw; (try dsimp only at hSw); go_simp; (try with_reducible rfl)
    (try dsimp only [Act.put, List.setIfInBounds_toArray, List.set_cons_zero, List.set_cons_succ])
    refine wpAnyH_take (i := 10) (oi := _) (v := ?_) rfl (by kernel_rfl) (by kernel_rfl) (by kernel_rfl) (fun _ _ _ h => h) (Or.inl ⟨by kernel_rfl, ?_⟩) hHeld ?_
    rotate_left
    · intro w0 hSw; (try dsimp only at hSw); go_simp; (try with_reducible rfl)
    (try dsimp only [Act.put, List.setIfInBounds_toArray, List.set_cons_zero, List.set_cons_succ])
    refine wpAnyH_ready (rs := [13]) (by kernel_rfl) (by simp) ?_
    refine AllReadyH.cons (o := _) rfl (fun K hK => ?_) AllReadyH.nil
    go_simp
    refine (HI.out _).mono ?_
    rintro e w4 ⟨rfl, hb4⟩
    refine hK.out _ _ ?_ (fun hHeld => ?_)
    · first | (exact ⟨keep_cell hb4 hHeld.1, keep_cell hb4 hHeld.2⟩) | ((try dsimp only); exact ⟨keep_cell hb4 hHeld.1, keep_cell hb4 hHeld.2⟩)
    clear hK K
    (try dsimp only [Act.put, List.setIfInBounds_toArray, List.set_cons_zero, List.set_cons_succ])
    refine wpAnyH_take (i := 14) (oi := _) (v := ?_) rfl (by kernel_rfl) (by kernel_rfl) (by kernel_rfl) (fun _ _ _ h => h) (Or.inl ⟨by kernel_rfl, ?_⟩) hHeld ?_
    rotate_left
    · intro w0 hSw; (try dsimp only at hSw); go_simp; (try with_reducible rfl)
    (try dsimp only [Act.put, List.setIfInBounds_toArray, List.set_cons_zero, List.set_cons_succ])
    refine wpAnyH_take (i := 15) (oi := _) (v := ?_) rfl (by kernel_rfl) (by kernel_rfl) (by kernel_rfl) (fun _ _ _ h => h) (Or.inl ⟨by kernel_rfl, ?_⟩) hHeld ?_
    rotate_left
    · intro w0 hSw; (try dsimp only at hSw); go_simp; (try with_reducible rfl)
    (try dsimp only [Act.put, List.setIfInBounds_toArray, List.set_cons_zero, List.set_cons_succ])
    refine wpAnyH_done (by kernel_rfl) ?_ _
    have BB := Lib.hid (show Below w.heap.size w _ from (((HB1.out.trans (drewB _ _)).trans (hb2.mono (HB1.out.trans (drewB _ _)).size)).trans (hb3.mono ((HB1.out.trans (drewB _ _)).trans (hb2.mono (HB1.out.trans (drewB _ _)).size)).size)).trans (hb4.mono (((HB1.out.trans (drewB _ _)).trans (hb2.mono (HB1.out.trans (drewB _ _)).size)).trans (hb3.mono ((HB1.out.trans (drewB _ _)).trans (hb2.mono (HB1.out.trans (drewB _ _)).size)).size)).size))
    go_simp
    rw [body_str, ← HBO.out]
    clear g1 g2 g3 g4
    go_wp2_with fail
    refine (HSM.out _).mono ?_
    rintro e w5 ⟨rfl, rfl⟩
    go_wp2_with fail
    refine (HD.out _).mono ?_
    rintro e w6 ⟨rfl, hb6⟩
    go_wp2_with fail
    go_ret2
    exact ⟨by rw [HLN.out, Lib.itoa_nonneg, ← line_str]; rfl, BB.out.trans (hb6.mono BB.out.size)⟩
  · go_simp
    refine (HI.out _).mono ?_
    rintro e w4 ⟨rfl, hb4⟩
    refine hK.out _ _ ?_ (fun hHeld => ?_)
    · first | (exact ⟨keep_cell hb4 hHeld.1, keep_cell hb4 hHeld.2⟩) | ((try dsimp only); exact ⟨keep_cell hb4 hHeld.1, keep_cell hb4 hHeld.2⟩)
    clear hK K
    (try dsimp only [Act.put, List.setIfInBounds_toArray, List.set_cons_zero, List.set_cons_succ])
    refine wpAnyH_ready (rs := [8]) (by kernel_rfl) (by simp) ?_
    refine AllReadyH.cons (o := _) rfl (fun K hK => ?_) AllReadyH.nil
    have hcw4 := keep_cell hb4 hcw
    go_simp
    refine hK.out _ _ ?_ (fun hHeld => ?_)
    · first | (exact hHeld) | ((try dsimp only); exact hHeld)
    clear hK K
    (try dsimp only [Act.put, List.setIfInBounds_toArray, List.set_cons_zero, List.set_cons_succ])
    refine wpAnyH_take (i := 9) (oi := _) (v := ?_) rfl (by kernel_rfl) (by kernel_rfl) (by kernel_rfl) (fun _ _ _ h => h) (Or.inl ⟨by kernel_rfl, ?_⟩) hHeld ?_
    rotate_left
    · intro w0 hSw; (try dsimp only at hSw); go_simp; (try with_reducible rfl)
    (try dsimp only [Act.put, List.setIfInBounds_toArray, List.set_cons_zero, List.set_cons_succ])
    refine wpAnyH_take (i := 10) (oi := _) (v := ?_) rfl (by kernel_rfl) (by kernel_rfl) (by kernel_rfl) (fun _ _ _ h => h) (Or.inl ⟨by kernel_rfl, ?_⟩) hHeld ?_
    rotate_left
    · intro w0 hSw; (try dsimp only at hSw); go_simp; (try with_reducible rfl)
    (try dsimp only [Act.put, List.setIfInBounds_toArray, List.set_cons_zero, List.set_cons_succ])
    refine wpAnyH_take (i := 14) (oi := _) (v := ?_) rfl (by kernel_rfl) (by kernel_rfl) (by kernel_rfl) (fun _ _ _ h => h) (Or.inl ⟨by kernel_rfl, ?_⟩) hHeld ?_
    rotate_left
    · intro w0 hSw; (try dsimp only at hSw); go_simp; (try with_reducible rfl)
    (try dsimp only [Act.put, List.setIfInBounds_toArray, List.set_cons_zero, List.set_cons_succ])
    refine wpAnyH_take (i := 15) (oi := _) (v := ?_) rfl (by kernel_rfl) (by kernel_rfl) (by kernel_rfl) (fun _ _ _ h => h) (Or.inl ⟨by kernel_rfl, ?_⟩) hHeld ?_
    rotate_left
    · intro w0 hSw; (try dsimp only at hSw); go_simp; (try with_reducible rfl)
    (try dsimp only [Act.put, List.setIfInBounds_toArray, List.set_cons_zero, List.set_cons_succ])
    refine wpAnyH_done (by kernel_rfl) ?_ _
    have BB := Lib.hid (show Below w.heap.size w _ from (((HB1.out.trans (drewB _ _)).trans (hb2.mono (HB1.out.trans (drewB _ _)).size)).trans (hb3.mono ((HB1.out.trans (drewB _ _)).trans (hb2.mono (HB1.out.trans (drewB _ _)).size)).size)).trans (hb4.mono (((HB1.out.trans (drewB _ _)).trans (hb2.mono (HB1.out.trans (drewB _ _)).size)).trans (hb3.mono ((HB1.out.trans (drewB _ _)).trans (hb2.mono (HB1.out.trans (drewB _ _)).size)).size)).size))
    go_simp
    rw [body_str, ← HBO.out]
    clear g1 g2 g3 g4
    go_wp2_with fail
    refine (HSM.out _).mono ?_
    rintro e w5 ⟨rfl, rfl⟩
    go_wp2_with fail
    refine (HD.out _).mono ?_
    rintro e w6 ⟨rfl, hb6⟩
    go_wp2_with fail
    go_ret2
    exact ⟨by rw [HLN.out, Lib.itoa_nonneg, ← line_str]; rfl, BB.out.trans (hb6.mono BB.out.size)⟩

set_option maxHeartbeats 4000000 in
set_option maxRecDepth 100000 in
theorem l32Text_any {w : World} {a : Option Addr} {n cap : Nat} {L : List (Int × Int)} (h : RecsAt w a n L) (hn : n ≤ 400) (hv : ∀ k, k < n → recB (gr L k).1 (gr L k).2 = true) :
    Calls Tryd.prog 30 #[.slice a n cap] w fun e w' => e = .returned (.tuple #[.string (str (jouL L n).1), .int .i64 (jouL L n).2]) ∧ Below w.heap.size w w' := by
  have H := Lib.hid h
  have hl := Lib.hid h.len
  have HV := Lib.hid hv
  have HLE := Lib.hid (fun k (hk : k ≤ n) => jouL_le (L := L) (fun k hk => hv k (by rw [h.len] at hk; exact hk)) (k := k) (by rw [h.len]; exact hk) (by rw [h.len]; omega))
  clear h hv
  have O0 := Lib.hid (OwnB.empty w w.heap.size (Nat.le_refl _) w.heap.size rfl)
  have B0 := Lib.hid (below1 w (.cells #[] 5))
  go_enter Tryd.func30, Tryd.ntmps30
  go_wp2_with fail
  go_loopw [4, 5, 6] (fun tv ts ti wr => ∃ k : Nat, k ≤ n ∧ ts = .int .i64 (jouL L k).2 ∧ ti = .int .i64 k ∧ Hid (OwnB wr w.heap.size tv (jouL L k).1) ∧ Hid (Below w.heap.size w wr)) (fun _ _ ti _ => (n - intOf ti).toNat)
  case atStart => exact ⟨0, by omega, rfl, rfl, O0, B0⟩
  case round =>
    clear O0 B0
    obtain ⟨k, hk, rfl, rfl, ho, hb⟩ := hrel
    by_cases hlt : k < n
    · obtain ⟨b1, o1, rfl, hb1, hcs⟩ := (H.out.below hb.out).at' (by omega)
      obtain ⟨hc0, hc1⟩ := hcs k hlt
      have hvk := HV.out k hlt
      have hs0 := jouL_sum L k
      have hlk := HLE.out k hk
      have HJ1 := Lib.hid (show (jouL L (k + 1)).1 = (jouL L k).1 ++ (lineL (k : Int) (gr L k) (jouL L k).2 ++ [10]) from rfl)
      have HJ2 := Lib.hid (show (jouL L (k + 1)).2 = sumL (jouL L k).2 (bodyL (k : Int) (gr L k)) from rfl)
      have hbd := recB_bd hvk
      have hll := lineL_le (n := (k : Int)) (r := gr L k) (s := (jouL L k).2) (by omega) (by omega) hbd.2.2.1 (by omega) hs0.1 hs0.2
      clear hcs hbd
      generalize gr L k = r at *
      obtain ⟨x, y⟩ := r
      dsimp only at hc0 hc1 hvk
      have HLI := Lib.hid (fun W => l32Line_any k (by omega) hvk hs0.1 hs0.2 W)
      generalize lineL (k : Int) (x, y) (jouL L k).2 = ln at *
      generalize sumL (jouL L k).2 (bodyL (k : Int) (x, y)) = ns at *
      generalize (jouL L k).2 = s at *
      generalize (jouL L k).1 = tx at *
      go_wp2_with fail
      refine (HLI.out _).mono ?_
      rintro e w2 ⟨rfl, hb2⟩
      have O2 := Lib.hid (ho.out.below hb2)
      have B2 := Lib.hid (hb.out.trans (hb2.mono hb.out.size))
      clear hb2 ho hb
      go_wp2_with (at_builtin; refine appendB_str rfl _ _ _ _ rfl Tryd.underlying42 Tryd.underlying9 _ ln rfl O2.out rfl rfl (by omega) (by omega) ?_; intro v' w7 hown7 hb7; refine Hid.out ?_)
      have O7 := Lib.hid hown7
      have B7 := Lib.hid (B2.out.trans hb7)
      have hl7 : (tx ++ ln).length ≤ 16777216 := by rw [List.length_append]; omega
      clear hown7 hb7 O2 B2
      refine Lib.hid ?_
      go_wp2_with (at_builtin; refine appendB_one rfl _ _ _ rfl Tryd.underlying42 10 10 rfl O7.out rfl _ rfl rfl hl7 ?_; intro v8 w8 hown8 hb8; refine Hid.out ?_)
      have O8 := Lib.hid hown8
      have B8 := Lib.hid (B7.out.trans hb8)
      clear hown8 hb8 O7 B7
      refine Lib.hid ?_
      go_wp2_with fail
      go_roundw
      case rel => exact ⟨k + 1, by omega, by rw [HJ2.out], by go_num, by rw [HJ1.out, ← List.append_assoc]; exact O8, B8⟩
      case measure => simp [intOf]; omega
    · obtain rfl : k = n := by omega
      obtain ⟨ad, cp, rfl, hrow, -⟩ := ho.out.row
      have hcv := run_str hrow
      go_wp2_with fail
      go_ret2
      exact ⟨rfl, hb.out⟩
theorem specJournalOf_any {w : World} {a : Option Addr} {n cap : Nat} {L : List (Int × Int)} (h : RecsAt w a n L) :
    Calls Tryd.prog 10 #[.slice a n cap] w fun e w' => e = .returned (.tuple #[.string (str (jofR L)), .int .i64 (recsC L)]) ∧ Below w.heap.size w w' := by
  have H := Lib.hid h
  have hl := Lib.hid h.len
  clear h
  go_enter Tryd.func10, Tryd.ntmps10
  go_wp2_with fail
  refine (l32Code_any H.out).mono ?_
  rintro e w1 ⟨rfl, hb1⟩
  by_cases hc : recsC L = 0
  · obtain ⟨h300, hv⟩ := recsC_zero hc
    have HC := Lib.hid hc
    have HR := Lib.hid (jofR_ok hc)
    rw [hl.out] at h300 hv
    have HT := Lib.hid (l32Text_any (cap := cap) (H.out.below hb1) (by omega) hv)
    rw [hc]
    clear hc
    go_wp2_with fail
    refine HT.out.mono ?_
    rintro e w2 ⟨rfl, hb2⟩
    go_wp2_with fail
    go_ret2
    exact ⟨by rw [HR.out, hl.out, HC.out]; rfl, hb1.trans (hb2.mono hb1.size)⟩
  · have hne : (recsC L != 0) = true := by simp [hc]
    have HR := Lib.hid (jofR_bad hc)
    obtain ⟨cd, hcd⟩ : ∃ cd, recsC L = cd := ⟨_, rfl⟩
    rw [hcd] at hne ⊢
    have HCD := Lib.hid hcd
    clear hc hcd
    go_wp2_with fail
    go_ret2
    exact ⟨by rw [HR.out, HCD.out]; rfl, hb1⟩
end Go.Proofs.YtmbphpmabopifaaDoor
