/-
  The walk of scaled; copies by append out of a slice of another type.
-/
import Derived.Test.YtenlaoadclfmaaaOver
namespace Go.Proofs.Ytenlaoadclfmaaa
open Go.RowKit
set_option linter.unusedVariables false

theorem run_make_ints2 (w : World) (t : TypeId) (ht : Try.prog.underlying t = some (.slice 2)) (n m : Int) (h0 : 0 ≤ n) (hnm : n ≤ m) (hn : m ≤ 16777216) :
    (Instr.makeSlice t (.int .i64 n) (.int .i64 m)).run Try.prog w = .ok (.slice (some ⟨w.heap.size, 0, none⟩) n.toNat m.toNat) (w.alloc (.cells (madeCells #[.int .i64 0] m.toNat) 2)) := by
  obtain ⟨i0, hi, hz0, hz1, hz2⟩ := info_parts info_int
  have := run_make (P := Try.prog) w t 2 i0 _ ht hi hz0 .i64 .i64 n m h0 hnm (by rw [hz2]; omega) (by omega)
  rw [hz1, Nat.mul_one] at this
  exact this
theorem OwnL.zeros2 (w : World) (B : Nat) (hB : B ≤ w.heap.size) (n m : Nat) (hnm : n ≤ m) (hn : m ≤ 16777216) : OwnL (w.alloc (.cells (madeCells #[.int .i64 0] m) 2)) B (.slice (some ⟨w.heap.size, 0, none⟩) n m) (List.replicate n 0) := by
  have h := (OwnL.zeros w B hB m hn).takeN hnm
  rw [List.take_replicate, Nat.min_eq_left hnm] at h
  exact h
set_option maxHeartbeats 1000000 in
theorem scaled_any {V : VF} {w : World} {b : Nat} (hcal : Cal w b V.F) {a : Option Addr} {n cap : Nat} {xs : List Int} (hr : RowAt w a n xs) (hn : n ≤ 4096) (hx : VF.isP V xs) (c : Int) (hc : V.F.el c) (s : Nat) (hs : s ≤ 4096) :
    Calls Try.prog 95 #[.slice a n cap, .pointer (some ⟨b, 0, none⟩), .int .i64 c, .int .i64 s] w fun e w' => ∃ v, e = .returned v ∧ Below w.heap.size w w' ∧ OwnL w' w.heap.size v (VF.lst V (VF.xp V s * (PS.C (VF.of V c) * VF.ps V xs))) := by
  have HR := Lib.hid hr
  have HC := Lib.hid hcal
  have hl := Lib.hid hr.len
  have HX := Lib.hid hx
  clear hr hcal hx
  by_cases h0 : c = 0
  · have hf := Lib.hid (show VF.lst V (VF.xp V s * (PS.C (VF.of V c) * VF.ps V xs)) = [] by
      have e : VF.xp V s * (PS.C (VF.of V c) * VF.ps V xs) = 0 := by rw [h0, VF.of_zero, PS.C_zero]; grind
      rw [e]; exact (VF.lst_nil PS.isPoly_zero).2 rfl)
    have hd : (c == 0) = true := by simp [h0]
    clear h0
    go_enter Try.func95, Try.ntmps95
    go_wp2_with fail
    go_ret
    exact ⟨_, rfl, Below.refl _ _, by rw [hf.out]; exact OwnL.nil _ _ (Nat.le_refl _)⟩
  have hd : (c == 0) = false := by simp [h0]
  by_cases h1 : n = 0
  · subst h1
    have hf := Lib.hid (show VF.lst V (VF.xp V s * (PS.C (VF.of V c) * VF.ps V xs)) = [] by
      have e : VF.xp V s * (PS.C (VF.of V c) * VF.ps V xs) = 0 := by rw [List.eq_nil_of_length_eq_zero hl.out, VF.ps_nil]; grind
      rw [e]; exact (VF.lst_nil PS.isPoly_zero).2 rfl)
    have hd2 : (((0 : Nat) : Int) == 0) = true := rfl
    clear h0
    go_enter Try.func95, Try.ntmps95
    go_wp2_with fail
    go_ret
    exact ⟨_, rfl, Below.refl _ _, by rw [hf.out]; exact OwnL.nil _ _ (Nat.le_refl _)⟩
  have hd2 : ((n : Int) == 0) = false := by simp; omega
  have hne : xs ≠ [] := fun h => h1 (by have := hl.out; rw [h] at this; simpa using this.symm)
  have hf := Lib.hid (show List.replicate s 0 ++ VF.scl V.F c xs = VF.lst V (VF.xp V s * (PS.C (VF.of V c) * VF.ps V xs)) by
    refine (VF.lst_of (VF.isP_shift (VF.scl_isP h0 HX.out) ?_ s) ?_).symm
    · unfold VF.scl; simpa using hne
    · rw [VF.ps_shift, VF.scl_ps hc HX.out.els])
  have hmk := fun w => run_make_ints2 w 67 Try.underlying67 (s : Int) ((s : Int) + n) (by omega) (by omega) (by omega)
  rw [show ((s : Int) + n).toNat = s + n by omega, Int.toNat_natCast] at hmk
  clear h0 hne
  have HO0 := Lib.hid (show OwnL (w.alloc (.cells (madeCells #[.int .i64 0] (s + n)) 2)) w.heap.size (.slice (some ⟨w.heap.size, 0, none⟩) s (s + n)) (List.replicate s 0 ++ VF.scl V.F c (xs.take 0)) by
    simpa [VF.scl] using OwnL.zeros2 w w.heap.size (Nat.le_refl _) s (s + n) (by omega) (by omega))
  go_enter Try.func95, Try.ntmps95
  go_wp2_with fail
  clear hmk
  go_loopw [9, 27] (fun o t wr => ∃ k : Nat, k ≤ n ∧ t = .int .i64 k ∧ Hid (OwnL wr w.heap.size o (List.replicate s 0 ++ VF.scl V.F c (xs.take k))) ∧ Hid (Below w.heap.size w wr)) (fun _ t _ => (n - intOf t).toNat)
  case atStart => exact ⟨0, by omega, rfl, HO0, Lib.hid (below1 _ _)⟩
  case round =>
    obtain ⟨k, hk, rfl, hown, hbel⟩ := hrel
    clear HO0
    by_cases hlt : k < n
    · obtain ⟨b1, o1, rfl, hb1, hcs⟩ := (HR.out.below' hbel.out).at' (by omega)
      have hcell := hcs k hlt
      have HM := Lib.hid (mul_any (HC.out.below hbel.out) (gi xs k) c (HX.out.els.getD k) hc)
      have hst := Lib.hid (show List.replicate s 0 ++ VF.scl V.F c (xs.take (k + 1)) = (List.replicate s 0 ++ VF.scl V.F c (xs.take k)) ++ [V.F.mul (gi xs k) c] by
        rw [VF.take_succ_getD xs k (by rw [hl.out]; exact hlt)]; unfold VF.scl gi; simp)
      have hll : (List.replicate s 0 ++ VF.scl V.F c (xs.take k)).length ≤ 16777216 := by
        unfold VF.scl; simp only [List.length_append, List.length_replicate, List.length_map, List.length_take]; omega
      clear hcs
      generalize V.F.mul (gi xs k) c = y at *
      go_wp2_with fail
      refine HM.out.mono ?_
      rintro e w5 ⟨rfl, hd5⟩
      have hd5 : Drew wr w5 := hd5
      have HO5 := Lib.hid (hown.out.below (hd5.below _))
      have HB5 := Lib.hid (hbel.out.trans (hd5.below _))
      clear hd5
      go_wp2_with (at_builtin; refine append_one rfl _ _ _ rfl Try.underlying67 y HO5.out rfl _ rfl rfl hll ?_; intro v' w6 hown6 hb6)
      have HO6 := Lib.hid (show OwnL w6 w.heap.size v' (List.replicate s 0 ++ VF.scl V.F c (xs.take (k + 1))) by rw [hst.out]; exact hown6)
      have HB6 := Lib.hid (HB5.out.trans hb6)
      clear hown6 hb6
      go_roundw
      case rel => exact ⟨k + 1, by omega, by go_num, HO6, HB6⟩
      case measure => simp [intOf]; omega
    · obtain rfl : k = n := by omega
      have hfin := Lib.hid (by have := hown.out; rw [List.take_of_length_le (by rw [hl.out]; omega), hf.out] at this; exact this)
      go_wp2_with fail
      go_ret
      exact ⟨_, rfl, hbel.out, hfin.out⟩
theorem append_types {P : Program} {w : World} (t t2 ty e e2 : TypeId) (ht : P.underlying t = some (.slice e)) (ht2 : P.underlying t2 = some (.slice e2)) (u v : Value) :
    (Builtin.append_ #[t, t2] ty #[u, v]).run P w = (Builtin.append_ #[t, t] ty #[u, v]).run P w := by
  cases u <;> simp [Builtin.append_, run_underlying ht, run_underlying ht2]
end Go.Proofs.Ytenlaoadclfmaaa
