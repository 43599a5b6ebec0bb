/-
  The parts Times, SpecTimes.
-/
import Derived.Test.YtfhkkpfiflgofaaOwn
import Derived.Test.YtfhkkpfiflgofaaPeel
/-
  The walk of times.
-/
namespace Go.Proofs.Ytfhkkpfiflgofaa
open Go.RowKit
set_option linter.unusedVariables false

theorem drew1 (w : World) : Drew w w.drew := ⟨1, rfl⟩
theorem drew4 (w : World) (q : Nat) : Drew w (w.drewN q) := ⟨q, rfl⟩
theorem mulT_start {V : VF} (p q : List Int) : VF.ps V (p.take 0) * VF.ps V q = 0 := by rw [List.take_zero, VF.ps_nil]; grind
theorem mulT_inner {V : VF} (p q : List Int) (i : Nat) : VF.ps V (p.take i) * VF.ps V q = VF.ps V (p.take i) * VF.ps V q + VF.xp V i * PS.C (VF.of V (gi p i)) * VF.ps V (q.take 0) := by
  rw [List.take_zero, VF.ps_nil]; grind
theorem xp_add (V : VF) (i k : Nat) : VF.xp V (i + k) = VF.xp V i * VF.xp V k := by unfold VF.xp; grind
theorem mulT_next {V : VF} (p q : List Int) (i k : Nat) (hk : k < q.length) (hp : V.F.el (gi p i)) (hq : V.F.el (gi q k)) :
    VF.ps V (p.take i) * VF.ps V q + VF.xp V i * PS.C (VF.of V (gi p i)) * VF.ps V (q.take k) + VF.xp V (i + k) * PS.C (VF.of V (V.F.mul (gi p i) (gi q k))) =
    VF.ps V (p.take i) * VF.ps V q + VF.xp V i * PS.C (VF.of V (gi p i)) * VF.ps V (q.take (k + 1)) := by
  rw [VF.ps_take_succ q k hk, VF.of_mul hp hq, PS.C_mul, xp_add]
  show _ = _ + _ * (_ + _ * PS.C (VF.of V (gi q k)))
  grind
theorem mulT_end {V : VF} (p q : List Int) (i : Nat) (hi : i < p.length) :
    VF.ps V (p.take i) * VF.ps V q + VF.xp V i * PS.C (VF.of V (gi p i)) * VF.ps V (q.take q.length) = VF.ps V (p.take (i + 1)) * VF.ps V q := by
  rw [VF.ps_take_succ p i hi, List.take_length]
  show _ = (_ + _ * PS.C (VF.of V (gi p i))) * _
  grind
set_option maxHeartbeats 2000000 in
theorem times_any {V : VF} {w : World} {b : Nat} (hcal : Cal w b V.F) {a : Option Addr} {n cap : Nat} {xs : List Int} (hr : RowAt w a n xs) (hn : n ≤ 4096)
    {a' : Option Addr} {n' cap' : Nat} {ys : List Int} (hr' : RowAt w a' n' ys) (hn' : n' ≤ 4096) (hx : VF.els V xs) (hy : VF.els V ys) :
    Calls Try.prog 154 #[.slice a n cap, .pointer (some ⟨b, 0, none⟩), .slice a' n' cap'] w fun e w' => ∃ v, e = .returned v ∧ Below w.heap.size w w' ∧ OwnL w' w.heap.size v (VF.lst V (VF.ps V xs * VF.ps V ys)) := by
  have HR := Lib.hid hr
  have HR' := Lib.hid hr'
  have HC := Lib.hid hcal
  have hl := Lib.hid hr.len
  have hl' := Lib.hid hr'.len
  have HX := Lib.hid hx
  have HY := Lib.hid hy
  clear hr hr' hcal hx hy
  by_cases h0 : n = 0
  · subst h0
    have hf := Lib.hid (show VF.lst V (VF.ps V xs * VF.ps V ys) = [] by
      rw [VF.lst_nil VF.mulL, List.eq_nil_of_length_eq_zero hl.out, VF.ps_nil]; grind)
    have hd : (((0 : Nat) : Int) == 0) = true := rfl
    go_enter Try.func154, Try.ntmps154
    go_wp2_with fail
    go_ret
    exact ⟨_, rfl, Below.refl _ _, by rw [hf.out]; exact OwnL.nil _ _ (Nat.le_refl _)⟩
  by_cases h0' : n' = 0
  · subst h0'
    have hf := Lib.hid (show VF.lst V (VF.ps V xs * VF.ps V ys) = [] by
      rw [VF.lst_nil VF.mulL, List.eq_nil_of_length_eq_zero hl'.out, VF.ps_nil]; grind)
    have hd : ((n : Int) == 0) = false := by simp; omega
    go_enter Try.func154, Try.ntmps154
    go_wp2_with fail
    go_ret
    exact ⟨_, rfl, Below.refl _ _, by rw [hf.out]; exact OwnL.nil _ _ (Nat.le_refl _)⟩
  have hd : ((n : Int) == 0) = false := by simp; omega
  have hd' : ((n' : Int) == 0) = false := by simp; omega
  obtain ⟨m, hm⟩ : ∃ m, m = n + n' - 1 := ⟨_, rfl⟩
  have hmk := fun w => run_make_ints w 100 Try.underlying100 ((n : Int) + n' - 1) (by omega) (by omega)
  rw [show ((n : Int) + n' - 1).toNat = m by omega] at hmk
  have hmn : n + n' = m + 1 := by omega
  have HMN := Lib.hid hmn
  clear hm hmn
  go_enter Try.func154, Try.ntmps154
  go_wp2_with fail
  clear hmk hd hd'
  have HO0 := Lib.hid ((OutAt.zeros (V := V) w w.heap.size (Nat.le_refl _) m (by have := HMN.out; omega)).eq (mulT_start xs ys).symm)
  go_loopw [29] (fun t wr => ∃ k : Nat, k ≤ n ∧ t = .int .i64 k ∧ Hid (OutAt V wr w.heap.size w.heap.size m (VF.ps V (xs.take k) * VF.ps V ys)) ∧ Hid (Below w.heap.size w wr)) (fun t _ => (n - intOf t).toNat)
  case atStart => exact ⟨0, by omega, rfl, HO0, Lib.hid (below1 _ _)⟩
  case round =>
    obtain ⟨i, hi, rfl, hout, hbel⟩ := hrel
    clear HO0
    have hrow := HR.out.below' hbel.out
    by_cases hlt : i < n
    · obtain ⟨b1, o1, rfl, hb1, hcs⟩ := hrow.at' (by omega)
      have hcell := hcs i hlt
      have hout2 := Lib.hid (hout.out.eq (mulT_inner xs ys i))
      clear hcs hrow hout
      obtain ⟨wo, rfl⟩ : ∃ wo : World, wo = wr := ⟨_, rfl⟩
      go_wp2_with fail
      go_loopw [36] (fun t wr => ∃ k : Nat, k ≤ n' ∧ t = .int .i64 k ∧ Hid (OutAt V wr w.heap.size w.heap.size m (VF.ps V (xs.take i) * VF.ps V ys + VF.xp V i * PS.C (VF.of V (gi xs i)) * VF.ps V (ys.take k))) ∧ Hid (Below w.heap.size w wr)) (fun t _ => (n' - intOf t).toNat)
      case atStart => exact ⟨0, by omega, rfl, hout2, hbel⟩
      case round =>
        obtain ⟨k, hk, rfl, hout, hbel⟩ := hrel
        clear hout2
        have hrow' := HR'.out.below' hbel.out
        by_cases hlt2 : k < n'
        · obtain ⟨b2, o2, rfl, hb2, hcs⟩ := hrow'.at' (by omega)
          have hcell' := hcs k hlt2
          have hik : i + k < m := by have := HMN.out; omega
          obtain ⟨x, hxe, _, hpl⟩ := hout.out.place hik
          have HPL := Lib.hid hpl
          have HC2 := Lib.hid (HC.out.below hbel.out)
          have HM := Lib.hid (fun W (hd : Drew wr W) => mul_any (hd.cal HC2.out) (gi xs i) (gi ys k) (HX.out.getD i) (HY.out.getD k))
          have HA := Lib.hid (fun W (hd : Drew wr W) => add_any (hd.cal HC2.out) x (V.F.mul (gi xs i) (gi ys k)) hxe (FF.mul_el V.ok _ _))
          have HN := Lib.hid (fun f (h : f = _) => h.trans (mulT_next xs ys i k (by rw [hl'.out]; exact hlt2) (HX.out.getD i) (HY.out.getD k)))
          have hc0 := (HPL.out wr (Below.refl _ _)).cell
          have hf0 := (HPL.out wr (Below.refl _ _)).frozen
          have w1 : IntKind.i64.wrap ((i : Int) + (k : Int)) = (i : Int) + (k : Int) := IntWalk.i64_in _ (by omega)
          have w2 : (0 : Int) ≤ (i : Int) + (k : Int) := by omega
          have w3 : (i : Int) + (k : Int) < (m : Int) := by omega
          have w4 : ((i : Int) + (k : Int)).toNat = i + k := by omega
          have hme := FF.mul_el V.ok (gi xs i) (gi ys k)
          clear hcs hrow' hpl
          generalize V.F.mul (gi xs i) (gi ys k) = y at *
          go_wp2_with fail
          refine wp_region_last (S := (fun w' => w'.cell? ⟨w.heap.size, i + k, none⟩ = some (.int .i64 x))) 17 (by kernel_rfl) rfl (by kernel_rfl) ?_ (fun hHeld => ?_)
          · (try dsimp only); exact hc0
          simp only [List.take_succ_cons, List.take_zero]
          refine wpAnyH_take (i := 0) (oi := _) (v := ?_) rfl (by kernel_rfl) (by kernel_rfl) (by kernel_rfl) (fun _ _ _ h => h) (Or.inl ⟨by rfl, ?_⟩) hHeld ?_
          rotate_left
          · intro w0 hSw; (try dsimp only at hSw); go_simp; (try with_reducible rfl)
          (try dsimp only [Act.put, List.setIfInBounds_toArray, List.set_cons_zero, List.set_cons_succ])
          refine wpAnyH_take (i := 1) (oi := _) (v := ?_) rfl (by kernel_rfl) (by kernel_rfl) (by kernel_rfl) (fun _ _ _ h => h) (Or.inl ⟨by rfl, ?_⟩) hHeld ?_
          rotate_left
          · intro w0 hSw; (try dsimp only at hSw); go_simp; (try with_reducible rfl)
          (try dsimp only [Act.put, List.setIfInBounds_toArray, List.set_cons_zero, List.set_cons_succ])
          refine wpAnyH_take (i := 2) (oi := _) (v := ?_) rfl (by kernel_rfl) (by kernel_rfl) (by kernel_rfl) (fun _ _ _ h => h) (Or.inl ⟨by rfl, ?_⟩) hHeld ?_
          rotate_left
          · intro w0 hSw; (try dsimp only at hSw); go_simp; (try with_reducible rfl)
          (try dsimp only [Act.put, List.setIfInBounds_toArray, List.set_cons_zero, List.set_cons_succ])
          refine wpAnyH_take (i := 3) (oi := _) (v := ?_) rfl (by kernel_rfl) (by kernel_rfl) (by kernel_rfl) (fun _ _ _ h => h) (Or.inl ⟨by rfl, ?_⟩) hHeld ?_
          rotate_left
          · intro w0 hSw; (try dsimp only at hSw); go_simp; (try with_reducible rfl)
          (try dsimp only [Act.put, List.setIfInBounds_toArray, List.set_cons_zero, List.set_cons_succ])
          refine wpAnyH_take (i := 4) (oi := _) (v := ?_) rfl (by kernel_rfl) (by kernel_rfl) (by kernel_rfl) (fun _ _ _ h => h) (Or.inl ⟨by rfl, ?_⟩) hHeld ?_
          rotate_left
          · intro w0 hSw; (try dsimp only at hSw); go_simp; (try with_reducible rfl)
          (try dsimp only [Act.put, List.setIfInBounds_toArray, List.set_cons_zero, List.set_cons_succ])
          refine wpAnyH_take (i := 5) (oi := _) (v := ?_) rfl (by kernel_rfl) (by kernel_rfl) (by kernel_rfl) (fun _ _ _ h => h) (Or.inl ⟨by rfl, ?_⟩) hHeld ?_
          rotate_left
          · intro w0 hSw; (try dsimp only at hSw); go_simp; (try with_reducible rfl)
          (try dsimp only [Act.put, List.setIfInBounds_toArray, List.set_cons_zero, List.set_cons_succ])
          refine wpAnyH_take (i := 6) (oi := _) (v := ?_) rfl (by kernel_rfl) (by kernel_rfl) (by kernel_rfl) (fun _ _ _ h => h) (Or.inl ⟨by rfl, ?_⟩) hHeld ?_
          rotate_left
          · intro w0 hSw; (try dsimp only at hSw); go_simp; (try with_reducible rfl)
          (try dsimp only [Act.put, List.setIfInBounds_toArray, List.set_cons_zero, List.set_cons_succ])
          refine wpAnyH_take (i := 7) (oi := _) (v := ?_) rfl (by kernel_rfl) (by kernel_rfl) (by kernel_rfl) (fun _ _ _ h => h) (Or.inl ⟨by rfl, ?_⟩) hHeld ?_
          rotate_left
          · intro w0 hSw; (try dsimp only at hSw); go_simp; (try with_reducible rfl)
          (try dsimp only [Act.put, List.setIfInBounds_toArray, List.set_cons_zero, List.set_cons_succ])
          refine wpAnyH_take (i := 8) (oi := _) (v := ?_) rfl (by kernel_rfl) (by kernel_rfl) (by kernel_rfl) (fun _ _ _ h => h) (Or.inl ⟨by rfl, ?_⟩) hHeld ?_
          rotate_left
          · intro w0 hSw; (try dsimp only at hSw); go_simp; (try with_reducible rfl)
          (try dsimp only [Act.put, List.setIfInBounds_toArray, List.set_cons_zero, List.set_cons_succ])
          refine wpAnyH_take (i := 9) (oi := _) (v := ?_) rfl (by kernel_rfl) (by kernel_rfl) (by kernel_rfl) (fun _ _ _ h => h) (Or.inl ⟨by rfl, ?_⟩) hHeld ?_
          rotate_left
          · intro w0 hSw; (try dsimp only at hSw); go_simp; (try with_reducible rfl)
          (try dsimp only [Act.put, List.setIfInBounds_toArray, List.set_cons_zero, List.set_cons_succ])
          refine wpAnyH_take (i := 10) (oi := _) (v := ?_) rfl (by kernel_rfl) (by kernel_rfl) (by kernel_rfl) (fun _ _ _ h => h) (Or.inl ⟨by rfl, ?_⟩) hHeld ?_
          rotate_left
          · intro w0 hSw; (try dsimp only at hSw); go_simp; (try with_reducible rfl)
          (try dsimp only [Act.put, List.setIfInBounds_toArray, List.set_cons_zero, List.set_cons_succ])
          refine wpAnyH_take (i := 11) (oi := _) (v := ?_) rfl (by kernel_rfl) (by kernel_rfl) (by kernel_rfl) (fun _ _ _ h => h) (Or.inl ⟨by rfl, ?_⟩) hHeld ?_
          rotate_left
          · intro w0 hSw; (try dsimp only at hSw); go_simp; (try with_reducible rfl)
          (try dsimp only [Act.put, List.setIfInBounds_toArray, List.set_cons_zero, List.set_cons_succ])
          refine wpAnyH_take (i := 12) (oi := _) (v := ?_) rfl (by kernel_rfl) (by kernel_rfl) (by kernel_rfl) (fun _ _ _ h => h) (Or.inl ⟨by rfl, ?_⟩) hHeld ?_
          rotate_left
          · intro w0 hSw; (try dsimp only at hSw); go_simp; (try with_reducible rfl)
          (try dsimp only [Act.put, List.setIfInBounds_toArray, List.set_cons_zero, List.set_cons_succ])
          refine wpAnyH_take (i := 13) (oi := _) (v := ?_) rfl (by kernel_rfl) (by kernel_rfl) (by kernel_rfl) (fun _ _ _ h => h) (Or.inl ⟨by rfl, ?_⟩) hHeld ?_
          rotate_left
          · intro w0 hSw; (try dsimp only at hSw); go_simp; (try with_reducible rfl)
          (try dsimp only [Act.put, List.setIfInBounds_toArray, List.set_cons_zero, List.set_cons_succ])
          refine wpAnyH_ready (rs := [14]) (by kernel_rfl) (by simp) ?_
          refine AllReadyH.cons (o := _) rfl (fun K hK => ?_) AllReadyH.nil
          go_simp
          refine (HM.out _ (drew1 _)).mono ?_
          rintro e w5 ⟨rfl, hd5⟩
          have hd5 : Drew wr w5 := Drew.trans (drew1 wr) hd5
          go_wp2_with fail
          refine hK.out _ _ ?_ (fun hHeld => ?_)
          · (try dsimp only); exact keep_cell (W := wr) (hd5.below _) hc0
          clear hK K
          (try dsimp only [Act.put, List.setIfInBounds_toArray, List.set_cons_zero, List.set_cons_succ])
          refine wpAnyH_ready (rs := [15]) (by kernel_rfl) (by simp) ?_
          refine AllReadyH.cons (o := _) rfl (fun K hK => ?_) AllReadyH.nil
          go_simp
          refine (HA.out _ hd5).mono ?_
          rintro e w6 ⟨rfl, rfl⟩
          go_wp2_with fail
          refine hK.out _ _ ?_ (fun hHeld => ?_)
          · (try dsimp only); exact hHeld
          clear hK K
          (try dsimp only [Act.put, List.setIfInBounds_toArray, List.set_cons_zero, List.set_cons_succ])
          refine wpAnyH_take (i := 16) (oi := _) (v := ?_) rfl (by kernel_rfl) (by kernel_rfl) (by kernel_rfl) (fun _ _ _ h => h) (Or.inl ⟨by rfl, ?_⟩) hHeld ?_
          rotate_left
          · intro w0 hSw; (try dsimp only at hSw); go_simp; (try with_reducible rfl)
          (try dsimp only [Act.put, List.setIfInBounds_toArray, List.set_cons_zero, List.set_cons_succ])
          refine wpAnyH_done (by kernel_rfl) (lastQ_normal ?_) _
          have hp := HPL.out _ (hd5.below wr.heap.size)
          have hf5 := hp.frozen
          have hc5 := hp.cell
          go_wp2_with fail
          have hB5 := Lib.hid ((hbel.out.trans (hd5.below _)).setCell (p := ⟨w.heap.size, i + k, none⟩) (Nat.le_refl _) (.int .i64 (V.F.add x y)))
          have hO5 := Lib.hid ((hp.add hxe hme).eq (HN.out _ rfl))
          exact ⟨⟨k + 1, by omega, by go_num, hO5, hB5⟩, by simp [intOf]; omega⟩
        · obtain rfl : k = n' := by omega
          have hend := Lib.hid (hout.out.eq (f' := VF.ps V (xs.take (i + 1)) * VF.ps V ys) (by have e := mulT_end (V := V) xs ys i (by rw [hl.out]; exact hlt); rw [hl'.out] at e; exact e))
          clear hrow'
          go_wp2_with fail
          go_roundw
          case rel => exact ⟨i + 1, by omega, by go_num, hend, hbel⟩
          case measure => simp [intOf]; omega
    · obtain rfl : i = n := by omega
      obtain ⟨zs, hrz, _, hoz, _⟩ := hout.out.trimmed
      have HT := Lib.hid (trim_any (cap := m) hrz (Nat.le_refl _))
      have HOZ := Lib.hid (show OwnL wr w.heap.size (.slice (some ⟨w.heap.size, 0, none⟩) (VF.tlen zs m) m) (VF.lst V (VF.ps V xs * VF.ps V ys)) by
        have := hoz; rw [List.take_of_length_le (by rw [hl.out]; omega)] at this; exact this)
      clear hrz hoz hrow
      go_wp2_with fail
      refine HT.out.mono ?_
      rintro e w7 ⟨rfl, rfl⟩
      go_wp2_with fail
      go_ret
      exact ⟨_, rfl, hbel.out, HOZ.out⟩
end Go.Proofs.Ytfhkkpfiflgofaa
/-
  The walk of the reference's product.
-/
namespace Go.Proofs.Ytfhkkpfiflgofaa
open Go.RowKit
set_option linter.unusedVariables false

set_option maxRecDepth 20000 in
set_option maxHeartbeats 4000000 in
theorem l03Mul_any (p pw g : Int) (hv : validB p pw g = true) (V : VF) (hV : V.F = ffOf p pw g) {w : World} {a : Option Addr} {n cap : Nat} {xs : List Int} (hr : RowAt w a n xs) (hn : n ≤ 4096)
    {a' : Option Addr} {n' cap' : Nat} {ys : List Int} (hr' : RowAt w a' n' ys) (hn' : n' ≤ 4096) (hx : VF.els V xs) (hy : VF.els V ys) :
    Calls Try.prog 134 #[fV p pw g, .slice a n cap, .slice a' n' cap'] w fun e w' => ∃ v, e = .returned v ∧ Below w.heap.size w w' ∧ OwnL w' w.heap.size v (VF.lst V (VF.ps V xs * VF.ps V ys)) := by
  have HADD := Lib.hid (fun W x y (hx : V.F.el x) (hy : V.F.el y) => by have := l02Add_any p pw g hv x y (by rw [← hV]; exact hx) (by rw [← hV]; exact hy) W; rw [← hV] at this; exact this)
  have HMUL := Lib.hid (fun W x y (hx : V.F.el x) (hy : V.F.el y) => by have := l02Mul_any p pw g hv x y (by rw [← hV]; exact hx) (by rw [← hV]; exact hy) W; rw [← hV] at this; exact this)
  have HR := Lib.hid hr
  have HR' := Lib.hid hr'
  have hl := Lib.hid hr.len
  have hl' := Lib.hid hr'.len
  have HX := Lib.hid hx
  have HY := Lib.hid hy
  clear hr hr' hx hy hv hV
  by_cases h0 : n = 0
  · subst h0
    have hf := Lib.hid (show VF.lst V (VF.ps V xs * VF.ps V ys) = [] by
      rw [VF.lst_nil VF.mulL, List.eq_nil_of_length_eq_zero hl.out, VF.ps_nil]; grind)
    have hd : (((0 : Nat) : Int) == 0) = true := rfl
    go_enter Try.func134, Try.ntmps134
    go_wp2_with fail
    go_ret
    exact ⟨_, rfl, (below1 _ _).alloc (by simp) _, by rw [hf.out]; exact (OwnL.empty _ _ (by simp) _ (by simp)).lower (Nat.le_refl _)⟩
  by_cases h0' : n' = 0
  · subst h0'
    have hf := Lib.hid (show VF.lst V (VF.ps V xs * VF.ps V ys) = [] by
      rw [VF.lst_nil VF.mulL, List.eq_nil_of_length_eq_zero hl'.out, VF.ps_nil]; grind)
    have hd : ((n : Int) == 0) = false := by simp; omega
    go_enter Try.func134, Try.ntmps134
    go_wp2_with fail
    go_ret
    exact ⟨_, rfl, (below1 _ _).alloc (by simp) _, by rw [hf.out]; exact (OwnL.empty _ _ (by simp) _ (by simp)).lower (Nat.le_refl _)⟩
  have hd : ((n : Int) == 0) = false := by simp; omega
  have hd' : ((n' : Int) == 0) = false := by simp; omega
  obtain ⟨m, hm⟩ : ∃ m, m = n + n' - 1 := ⟨_, rfl⟩
  have hmk := fun w => run_make_ints w 26 Try.underlying26 ((n : Int) + n' - 1) (by omega) (by omega)
  rw [show ((n : Int) + n' - 1).toNat = m by omega] at hmk
  have hmn : n + n' = m + 1 := by omega
  have HMN := Lib.hid hmn
  clear hm hmn
  go_enter Try.func134, Try.ntmps134
  go_wp2_with fail
  clear hmk hd hd'
  have HO0 := Lib.hid ((OutAt.zeros (V := V) (w.alloc (.cells #[.int .i64 p, .int .i64 pw, .int .i64 g] FTa)) (w.heap.size + 1) (by simp) m (by have := HMN.out; omega)).eq (mulT_start xs ys).symm)
  have HB0 := Lib.hid ((below1 w (.cells #[.int .i64 p, .int .i64 pw, .int .i64 g] FTa)).alloc (by simp) (.cells (madeCells #[.int .i64 0] m) 2))
  have HX0 := Lib.hid ((box_new w p pw g FTa).below (below1 _ (.cells (madeCells #[.int .i64 0] m) 2)) (by simp))
  have eG : (w.alloc (.cells #[.int .i64 p, .int .i64 pw, .int .i64 g] FTa)).heap.size = w.heap.size + 1 := by simp
  rw [eG] at HO0
  clear eG
  go_loopw [8] (fun t wr => ∃ k : Nat, k ≤ n ∧ t = .int .i64 k ∧ Hid (OutAt V wr (w.heap.size + 1) (w.heap.size + 1) m (VF.ps V (xs.take k) * VF.ps V ys)) ∧ Hid (Below w.heap.size w wr) ∧ Hid (Box wr w.heap.size p pw g)) (fun t _ => (n - intOf t).toNat)
  case atStart => exact ⟨0, by omega, rfl, HO0, HB0, HX0⟩
  case round =>
    obtain ⟨i, hi, rfl, hout, hbel, hbox⟩ := hrel
    clear HO0 HB0 HX0
    by_cases hlt : i < n
    · have hout2 := Lib.hid (hout.out.eq (mulT_inner xs ys i))
      clear hout
      obtain ⟨wo, rfl⟩ : ∃ wo : World, wo = wr := ⟨_, rfl⟩
      go_wp2_with fail
      go_loopw [9] (fun t wr => ∃ k : Nat, k ≤ n' ∧ t = .int .i64 k ∧ Hid (OutAt V wr (w.heap.size + 1) (w.heap.size + 1) m (VF.ps V (xs.take i) * VF.ps V ys + VF.xp V i * PS.C (VF.of V (gi xs i)) * VF.ps V (ys.take k))) ∧ Hid (Below w.heap.size w wr) ∧ Hid (Box wr w.heap.size p pw g)) (fun t _ => (n' - intOf t).toNat)
      case atStart => exact ⟨0, by omega, rfl, hout2, hbel, hbox⟩
      case round =>
        obtain ⟨k, hk, rfl, hout, hbel, hbox⟩ := hrel
        clear hout2
        have hrow := HR.out.below' hbel.out
        have hrow' := HR'.out.below' hbel.out
        by_cases hlt2 : k < n'
        · obtain ⟨b1, o1, rfl, hb1, hcs⟩ := hrow.at' (by omega)
          have hcell := hcs i hlt
          obtain ⟨b2, o2, rfl, hb2, hcs2⟩ := hrow'.at' (by omega)
          have hcell' := hcs2 k hlt2
          obtain ⟨_, _, e1, hbb1, _⟩ := HR.out.at' (by omega)
          obtain ⟨_, _, e2, hbb2, _⟩ := HR'.out.at' (by omega)
          simp only [Option.some.injEq, Addr.mk.injEq, and_true] at e1 e2
          obtain ⟨rfl, rfl⟩ := e1
          obtain ⟨rfl, rfl⟩ := e2
          have ne1 : w.heap.size + 1 ≠ b1 := by omega
          have ne2 : w.heap.size + 1 ≠ b2 := by omega
          have hik : i + k < m := by have := HMN.out; omega
          obtain ⟨x, hxe, _, hpl⟩ := hout.out.place hik
          have HPL := Lib.hid hpl
          obtain ⟨hlx, c0, c1, c2⟩ := hbox.out
          have HM := Lib.hid (fun W => HMUL.out W (gi xs i) (gi ys k) (HX.out.getD i) (HY.out.getD k))
          have HA := Lib.hid (fun W => HADD.out W x (V.F.mul (gi xs i) (gi ys k)) hxe (FF.mul_el V.ok _ _))
          have HN := Lib.hid (fun f (h : f = _) => h.trans (mulT_next xs ys i k (by rw [hl'.out]; exact hlt2) (HX.out.getD i) (HY.out.getD k)))
          have hc0 := (HPL.out wr (Below.refl _ _)).cell
          have hf0 := (HPL.out wr (Below.refl _ _)).frozen
          have w1 : IntKind.i64.wrap ((i : Int) + (k : Int)) = (i : Int) + (k : Int) := IntWalk.i64_in _ (by omega)
          have w2 : (0 : Int) ≤ (i : Int) + (k : Int) := by omega
          have w3 : (i : Int) + (k : Int) < (m : Int) := by omega
          have w4 : ((i : Int) + (k : Int)).toNat = i + k := by omega
          have hme := FF.mul_el V.ok (gi xs i) (gi ys k)
          clear hcs hcs2 hrow hrow' hpl
          generalize V.F.mul (gi xs i) (gi ys k) = y at *
          generalize gi xs i = z1 at *
          generalize gi ys k = z2 at *
          go_wp2_with fail
          refine wp_region_last (S := (fun w' => w'.cell? ⟨w.heap.size + 1, i + k, none⟩ = some (.int .i64 x) ∧ w'.cell? ⟨b1, o1 + i, none⟩ = some (.int .i64 z1) ∧ w'.cell? ⟨b2, o2 + k, none⟩ = some (.int .i64 z2) ∧ w'.cell? ⟨w.heap.size, 0, none⟩ = some (.int .i64 p) ∧ w'.cell? ⟨w.heap.size, 1, none⟩ = some (.int .i64 pw) ∧ w'.cell? ⟨w.heap.size, 2, none⟩ = some (.int .i64 g))) 23 (by kernel_rfl) rfl (by kernel_rfl) ?_ (fun hHeld => ?_)
          · (try dsimp only); exact ⟨hc0, hcell, hcell', c0, c1, c2⟩
          simp only [List.take_succ_cons, List.take_zero]
          refine wpAnyH_take (i := 0) (oi := _) (v := ?_) rfl (by kernel_rfl) (by kernel_rfl) (by kernel_rfl) (fun _ _ _ h => h) (Or.inl ⟨by rfl, ?_⟩) hHeld ?_
          rotate_left
          · intro w0 hSw; (try dsimp only at hSw); go_simp; (try with_reducible rfl)
          (try dsimp only [Act.put, List.setIfInBounds_toArray, List.set_cons_zero, List.set_cons_succ])
          refine wpAnyH_take (i := 1) (oi := _) (v := ?_) rfl (by kernel_rfl) (by kernel_rfl) (by kernel_rfl) (fun _ _ _ h => h) (Or.inl ⟨by rfl, ?_⟩) hHeld ?_
          rotate_left
          · intro w0 hSw; (try dsimp only at hSw); go_simp; (try with_reducible rfl)
          (try dsimp only [Act.put, List.setIfInBounds_toArray, List.set_cons_zero, List.set_cons_succ])
          refine wpAnyH_take (i := 2) (oi := _) (v := ?_) rfl (by kernel_rfl) (by kernel_rfl) (by kernel_rfl) (fun _ _ _ h => h) (Or.inl ⟨by rfl, ?_⟩) hHeld ?_
          rotate_left
          · intro w0 hSw; (try dsimp only at hSw); go_simp; (try with_reducible rfl)
          (try dsimp only [Act.put, List.setIfInBounds_toArray, List.set_cons_zero, List.set_cons_succ])
          refine wpAnyH_take (i := 3) (oi := _) (v := ?_) rfl (by kernel_rfl) (by kernel_rfl) (by kernel_rfl) (fun _ _ _ h => h) (Or.inl ⟨by rfl, ?_⟩) hHeld ?_
          rotate_left
          · intro w0 hSw; (try dsimp only at hSw); go_simp; (try with_reducible rfl)
          (try dsimp only [Act.put, List.setIfInBounds_toArray, List.set_cons_zero, List.set_cons_succ])
          refine wpAnyH_take (i := 4) (oi := _) (v := ?_) rfl (by kernel_rfl) (by kernel_rfl) (by kernel_rfl) (fun _ _ _ h => h) (Or.inl ⟨by rfl, ?_⟩) hHeld ?_
          rotate_left
          · intro w0 hSw; (try dsimp only at hSw); go_simp; (try with_reducible rfl)
          (try dsimp only [Act.put, List.setIfInBounds_toArray, List.set_cons_zero, List.set_cons_succ])
          refine wpAnyH_take (i := 5) (oi := _) (v := ?_) rfl (by kernel_rfl) (by kernel_rfl) (by kernel_rfl) (fun _ _ _ h => h) (Or.inl ⟨by rfl, ?_⟩) hHeld ?_
          rotate_left
          · intro w0 hSw; (try dsimp only at hSw); go_simp; (try with_reducible rfl)
          (try dsimp only [Act.put, List.setIfInBounds_toArray, List.set_cons_zero, List.set_cons_succ])
          refine wpAnyH_take (i := 6) (oi := _) (v := ?_) rfl (by kernel_rfl) (by kernel_rfl) (by kernel_rfl) (fun _ _ _ h => h) (Or.inl ⟨by rfl, ?_⟩) hHeld ?_
          rotate_left
          · intro w0 hSw; (try dsimp only at hSw); go_simp; (try with_reducible rfl)
          (try dsimp only [Act.put, List.setIfInBounds_toArray, List.set_cons_zero, List.set_cons_succ])
          refine wpAnyH_take (i := 7) (oi := _) (v := ?_) rfl (by kernel_rfl) (by kernel_rfl) (by kernel_rfl) (fun _ _ _ h => h) (Or.inl ⟨by rfl, ?_⟩) hHeld ?_
          rotate_left
          · intro w0 hSw; (try dsimp only at hSw); go_simp; (try with_reducible rfl)
          (try dsimp only [Act.put, List.setIfInBounds_toArray, List.set_cons_zero, List.set_cons_succ])
          refine wpAnyH_take (i := 8) (oi := _) (v := ?_) rfl (by kernel_rfl) (by kernel_rfl) (by kernel_rfl) (fun _ _ _ h => h) (Or.inl ⟨by rfl, ?_⟩) hHeld ?_
          rotate_left
          · intro w0 hSw; (try dsimp only at hSw); go_simp; (try with_reducible rfl)
          (try dsimp only [Act.put, List.setIfInBounds_toArray, List.set_cons_zero, List.set_cons_succ])
          refine wpAnyH_take (i := 9) (oi := _) (v := ?_) rfl (by kernel_rfl) (by kernel_rfl) (by kernel_rfl) (fun _ _ _ h => h) (Or.inl ⟨by rfl, ?_⟩) hHeld ?_
          rotate_left
          · intro w0 hSw; (try dsimp only at hSw); go_simp; (try with_reducible rfl)
          (try dsimp only [Act.put, List.setIfInBounds_toArray, List.set_cons_zero, List.set_cons_succ])
          refine wpAnyH_take (i := 10) (oi := _) (v := ?_) rfl (by kernel_rfl) (by kernel_rfl) (by kernel_rfl) (fun _ _ _ h => h) (Or.inl ⟨by rfl, ?_⟩) hHeld ?_
          rotate_left
          · intro w0 hSw; (try dsimp only at hSw); go_simp; (try with_reducible rfl)
          (try dsimp only [Act.put, List.setIfInBounds_toArray, List.set_cons_zero, List.set_cons_succ])
          refine wpAnyH_take (i := 11) (oi := _) (v := ?_) rfl (by kernel_rfl) (by kernel_rfl) (by kernel_rfl) (fun _ _ _ h => h) (Or.inl ⟨by rfl, ?_⟩) hHeld ?_
          rotate_left
          · intro w0 hSw; (try dsimp only at hSw); go_simp; (try with_reducible rfl)
          (try dsimp only [Act.put, List.setIfInBounds_toArray, List.set_cons_zero, List.set_cons_succ])
          refine wpAnyH_take (i := 12) (oi := _) (v := ?_) rfl (by kernel_rfl) (by kernel_rfl) (by kernel_rfl) (fun _ _ _ h => h) (Or.inl ⟨by rfl, ?_⟩) hHeld ?_
          rotate_left
          · intro w0 hSw; (try dsimp only at hSw); go_simp; (try with_reducible rfl)
          (try dsimp only [Act.put, List.setIfInBounds_toArray, List.set_cons_zero, List.set_cons_succ])
          refine wpAnyH_take (i := 13) (oi := _) (v := ?_) rfl (by kernel_rfl) (by kernel_rfl) (by kernel_rfl) (fun _ _ _ h => h) (Or.inl ⟨by rfl, ?_⟩) hHeld ?_
          rotate_left
          · intro w0 hSw; (try dsimp only at hSw); go_simp; (try with_reducible rfl)
          (try dsimp only [Act.put, List.setIfInBounds_toArray, List.set_cons_zero, List.set_cons_succ])
          refine wpAnyH_take (i := 14) (oi := _) (v := ?_) rfl (by kernel_rfl) (by kernel_rfl) (by kernel_rfl) (fun _ _ _ h => h) (Or.inl ⟨by rfl, ?_⟩) hHeld ?_
          rotate_left
          · intro w0 hSw; (try dsimp only at hSw); go_simp; (try with_reducible rfl)
          (try dsimp only [Act.put, List.setIfInBounds_toArray, List.set_cons_zero, List.set_cons_succ])
          refine wpAnyH_take (i := 15) (oi := _) (v := ?_) rfl (by kernel_rfl) (by kernel_rfl) (by kernel_rfl) (fun _ _ _ h => h) (Or.inl ⟨by rfl, ?_⟩) hHeld ?_
          rotate_left
          · intro w0 hSw; (try dsimp only at hSw); go_simp; (try with_reducible rfl)
          (try dsimp only [Act.put, List.setIfInBounds_toArray, List.set_cons_zero, List.set_cons_succ])
          refine wpAnyH_take (i := 16) (oi := _) (v := ?_) rfl (by kernel_rfl) (by kernel_rfl) (by kernel_rfl) (fun _ _ _ h => h) (Or.inl ⟨by rfl, ?_⟩) hHeld ?_
          rotate_left
          · intro w0 hSw; (try dsimp only at hSw); go_simp; (try with_reducible rfl)
          (try dsimp only [Act.put, List.setIfInBounds_toArray, List.set_cons_zero, List.set_cons_succ])
          refine wpAnyH_take (i := 17) (oi := _) (v := ?_) rfl (by kernel_rfl) (by kernel_rfl) (by kernel_rfl) (fun _ _ _ h => h) (Or.inl ⟨by rfl, ?_⟩) hHeld ?_
          rotate_left
          · intro w0 hSw; (try dsimp only at hSw); go_simp; (try with_reducible rfl)
          (try dsimp only [Act.put, List.setIfInBounds_toArray, List.set_cons_zero, List.set_cons_succ])
          refine wpAnyH_take (i := 18) (oi := _) (v := ?_) rfl (by kernel_rfl) (by kernel_rfl) (by kernel_rfl) (fun _ _ _ h => h) (Or.inl ⟨by rfl, ?_⟩) hHeld ?_
          rotate_left
          · intro w0 hSw; (try dsimp only at hSw); go_simp; (try with_reducible rfl)
          (try dsimp only [Act.put, List.setIfInBounds_toArray, List.set_cons_zero, List.set_cons_succ])
          refine wpAnyH_take (i := 19) (oi := _) (v := ?_) rfl (by kernel_rfl) (by kernel_rfl) (by kernel_rfl) (fun _ _ _ h => h) (Or.inl ⟨by rfl, ?_⟩) hHeld ?_
          rotate_left
          · intro w0 hSw; (try dsimp only at hSw); go_simp; (try with_reducible rfl)
          (try dsimp only [Act.put, List.setIfInBounds_toArray, List.set_cons_zero, List.set_cons_succ])
          refine wpAnyH_ready (rs := [20]) (by kernel_rfl) (by simp) ?_
          refine AllReadyH.cons (o := _) rfl (fun K hK => ?_) AllReadyH.nil
          go_simp
          refine (HM.out _).mono ?_
          rintro e w5 ⟨rfl, hbM⟩
          go_wp2_with fail
          refine hK.out _ _ ?_ (fun hHeld => ?_)
          · (try dsimp only); exact ⟨keep_cell hbM hHeld.1, keep_cell hbM hHeld.2.1, keep_cell hbM hHeld.2.2.1, keep_cell hbM hHeld.2.2.2.1, keep_cell hbM hHeld.2.2.2.2.1, keep_cell hbM hHeld.2.2.2.2.2⟩
          clear hK K
          (try dsimp only [Act.put, List.setIfInBounds_toArray, List.set_cons_zero, List.set_cons_succ])
          refine wpAnyH_ready (rs := [21]) (by kernel_rfl) (by simp) ?_
          refine AllReadyH.cons (o := _) rfl (fun K hK => ?_) AllReadyH.nil
          go_simp
          refine (HA.out _).mono ?_
          rintro e w6 ⟨rfl, hbA⟩
          go_wp2_with fail
          refine hK.out _ _ ?_ (fun hHeld => ?_)
          · (try dsimp only); exact ⟨keep_cell hbA hHeld.1, keep_cell hbA hHeld.2.1, keep_cell hbA hHeld.2.2.1, keep_cell hbA hHeld.2.2.2.1, keep_cell hbA hHeld.2.2.2.2.1, keep_cell hbA hHeld.2.2.2.2.2⟩
          clear hK K
          (try dsimp only [Act.put, List.setIfInBounds_toArray, List.set_cons_zero, List.set_cons_succ])
          refine wpAnyH_take (i := 22) (oi := _) (v := ?_) rfl (by kernel_rfl) (by kernel_rfl) (by kernel_rfl) (fun _ _ _ h => h) (Or.inl ⟨by rfl, ?_⟩) hHeld ?_
          rotate_left
          · intro w0 hSw; (try dsimp only at hSw); go_simp; (try with_reducible rfl)
          (try dsimp only [Act.put, List.setIfInBounds_toArray, List.set_cons_zero, List.set_cons_succ])
          refine wpAnyH_done (by kernel_rfl) (lastQ_normal ?_) _
          have hbb := Below.more (Below.trans (Drew.below (drew1 wr) wr.heap.size) hbM) (Nat.le_refl _) hbA
          have hpA := HPL.out _ hbb
          have hcA := hpA.cell
          have hfA := hpA.frozen
          go_wp2_with fail
          have hB5 := Lib.hid ((hbel.out.trans (hbb.mono hbel.out.size)).setCell (p := ⟨w.heap.size + 1, i + k, none⟩) (Nat.le_succ _) (.int .i64 (V.F.add x y)))
          have hX5 := Lib.hid ((hbox.out.below hbb hlx).below ((Below.refl (w.heap.size + 1) w6).setCell (p := ⟨w.heap.size + 1, i + k, none⟩) (Nat.le_refl _) (.int .i64 (V.F.add x y))) (Nat.lt_succ_self _))
          have hO5 := Lib.hid ((hpA.add hxe hme).eq (HN.out _ rfl))
          exact ⟨⟨k + 1, by omega, by go_num, hO5, hB5, hX5⟩, by simp [intOf]; omega⟩
        · obtain rfl : k = n' := by omega
          have hend := Lib.hid (hout.out.eq (f' := VF.ps V (xs.take (i + 1)) * VF.ps V ys) (by have e := mulT_end (V := V) xs ys i (by rw [hl.out]; exact hlt); rw [hl'.out] at e; exact e))
          clear hrow hrow'
          go_wp2_with fail
          go_roundw
          case rel => exact ⟨i + 1, by omega, by go_num, hend, hbel, hbox⟩
          case measure => simp [intOf]; omega
    · obtain rfl : i = n := by omega
      obtain ⟨zs, hrz, _, hoz, htz⟩ := hout.out.trimmed
      have HT := Lib.hid (l03Trim_any (cap := m) hrz (Nat.le_refl _) (by intro h; cases h) (by have := HMN.out; omega))
      have HTZ := Lib.hid (show VF.trim zs = VF.lst V (VF.ps V xs * VF.ps V ys) by
        have := htz; rw [List.take_of_length_le (by rw [hl.out]; omega)] at this; exact this)
      have hs := hbel.out.size
      clear hrz hoz htz
      go_wp2_with fail
      refine HT.out.mono ?_
      rintro e w7 ⟨v, rfl, hb7, ho7⟩
      have HB7 := Lib.hid (hbel.out.trans (hb7.mono hs))
      have HO7 := Lib.hid (show OwnL w7 w.heap.size v (VF.lst V (VF.ps V xs * VF.ps V ys)) by rw [← HTZ.out]; exact ho7.lower hs)
      clear hb7 ho7
      go_wp2_with fail
      go_ret
      exact ⟨_, rfl, HB7.out, HO7.out⟩
end Go.Proofs.Ytfhkkpfiflgofaa
