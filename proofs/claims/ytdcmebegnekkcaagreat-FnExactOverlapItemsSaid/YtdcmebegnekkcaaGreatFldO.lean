/-
  The fields of sizes 16, 32, 64 and 256: both programs find the same ones.
-/
import Derived.Test.YtdcmebegnekkcaaGreatTf
import Derived.Test.YtdcmebegnekkcaaGreatFamP
namespace Go.Proofs.YtdcmebegnekkcaaGreat
open Go.RowKit
set_option linter.unusedVariables false

/-- The field of the size 2 ^ K has the least polynomial g0. -/
structure LeastF (K : Nat) (s g0 : Int) : Prop where
  k3 : 3 ≤ K
  k8 : K ≤ 8
  hs : s = ((2 ^ K : Nat) : Int)
  lo : s ≤ g0
  hi : g0 < 2 * s
  ok : validB 2 (K : Int) g0 = true
  no : ∀ x, s ≤ x → x < g0 → validB 2 (K : Int) x = false
theorem validB_bin (K : Nat) (h3 : 3 ≤ K) (h8 : K ≤ 8) (g : Int) (h1 : ((2 ^ K : Nat) : Int) ≤ g) (h2 : g < 2 * ((2 ^ K : Nat) : Int)) : validB 2 (K : Int) g = goodB (timesB ((2 ^ K : Nat) : Int) g) (2 ^ K - 1) := by
  unfold validB
  cases hg : goodB (timesB ((2 ^ K : Nat) : Int) g) (2 ^ K - 1) with
  | true =>
    simp only [decide_eq_true_eq]
    exact .inr ⟨rfl, by omega, by omega, h1, h2, hg⟩
  | false =>
    simp only [decide_eq_false_iff_not]
    rintro (⟨h, _⟩ | ⟨_, _, _, _, _, h⟩)
    · omega
    · have h : goodB (timesB ((2 ^ K : Nat) : Int) g) (2 ^ K - 1) = true := h
      rw [hg] at h; cases h
theorem least_of {K n : Nat} {s g0 : Int} (h3 : 3 ≤ K) (h8 : K ≤ 8) (hs : s = ((2 ^ K : Nat) : Int)) (hn : g0 = s + n) (hlt : (n : Int) < s) (hg : goodB (timesB s g0) (2 ^ K - 1) = true) (hno : noneC (2 ^ K) s n = true) : LeastF K s g0 := by
  have h0 : (0 : Int) < ((2 ^ K : Nat) : Int) := by have := Nat.two_pow_pos K; omega
  refine ⟨h3, h8, hs, by omega, by omega, ?_, fun x h1 h2 => ?_⟩
  · rw [validB_bin K h3 h8 g0 (by omega) (by omega), ← hs]; exact hg
  · rw [validB_bin K h3 h8 x (by omega) (by omega), ← hs]; exact noneC_at hno h1 (by omega)
theorem lf16 : LeastF 4 16 19 := least_of (n := 3) (by omega) (by omega) rfl rfl (by omega) good16 least16
theorem lf32 : LeastF 5 32 37 := least_of (n := 5) (by omega) (by omega) rfl rfl (by omega) good32 least32
theorem lf64 : LeastF 6 64 67 := least_of (n := 3) (by omega) (by omega) rfl rfl (by omega) good64 least64
theorem lf256 : LeastF 8 256 285 := least_of (n := 29) (by omega) (by omega) rfl rfl (by omega) good256 least256
theorem pow_prime {K : Nat} (h3 : 3 ≤ K) : primeB ((2 ^ K : Nat) : Int) = false := by
  have e : 2 ^ K = 2 * 2 ^ (K - 1) := by rw [← Nat.pow_succ']; congr 1; omega
  have h4 : 2 ^ 2 ≤ 2 ^ (K - 1) := Nat.pow_le_pow_right (by omega) (by omega)
  refine primeB_no (d := 2) (by omega) (by omega) ?_
  omega
set_option maxHeartbeats 4000000 in
theorem specFieldOf_at {K : Nat} {s g0 : Int} (hF : LeastF K s g0) (w : World) :
    Calls Tryz.prog 62 #[.int .i64 s] w fun e w' => e = .returned (.tuple #[fV 2 (K : Int) g0, .int .i64 0]) ∧ Below w.heap.size w w' := by
  have hK3 := hF.k3
  have hK8 := hF.k8
  have hp8 : 2 ^ K ≤ 2 ^ 8 := Nat.pow_le_pow_right (by omega) hK8
  have hp3 : 2 ^ 3 ≤ 2 ^ K := Nat.pow_le_pow_right (by omega) hK3
  have hsv := hF.hs
  have hsb : 8 ≤ s ∧ s ≤ 256 := by omega
  have hpr : primeB s = false := by rw [hsv]; exact pow_prime hK3
  have HP := Lib.hid (fun W => l02Prime_any s (by omega) (by omega) W)
  rw [hpr] at HP
  have HF := Lib.hid hF
  have HSV := Lib.hid hsv
  have hin : inR s 3 1021 = true := inR_true (by omega) (by omega)
  clear hp8 hp3 hsv hpr hF
  have HRES := Lib.hid (show Tryz.f62.results = #[.cell 2 FTa, .tmp 3] by kernel_rfl)
  go_enter Tryz.func62, Tryz.ntmps62
  go_wp2_with fail
  refine (l01In_any _ _ _ _).mono ?_
  rintro e w1 ⟨rfl, rfl⟩
  rw [hin]
  have F0 := Lib.hid (FB.new w 0 0 0)
  have B0 := Lib.hid (below1 w (.cells #[.int .i64 0, .int .i64 0, .int .i64 0] FTa))
  clear hin
  generalize w.alloc (.cells #[.int .i64 0, .int .i64 0, .int .i64 0] FTa) = w1 at *
  go_wp2_with fail
  refine (HP.out _).mono ?_
  rintro e w2 ⟨rfl, rfl⟩
  go_wp2_with fail
  go_loopw [6] (fun t wr => ∃ q : Nat, 3 ≤ q ∧ q ≤ K ∧ t = .int .i64 q ∧ Hid (FB wr w.heap.size 0 0 0) ∧ Hid (Below w.heap.size w wr)) (fun t _ => 9 - (intOf t).toNat)
  case atStart => exact ⟨3, by omega, by omega, rfl, F0, B0⟩
  case round =>
    clear F0 B0
    obtain ⟨q, hq1, hq2, rfl, hfb, hb⟩ := hrel
    have hlt : q ≤ 8 := by omega
    obtain ⟨m, hm⟩ : ∃ m : Nat, m = 2 ^ q := ⟨_, rfl⟩
    have hm8 : m ≤ 2 ^ 8 := by rw [hm]; exact Nat.pow_le_pow_right (by omega) hlt
    have hwm : wrap64 ((2 : Int) ^ q) = (m : Int) := by
      have e : ((2 ^ q : Nat) : Int) = (2 : Int) ^ q := by simp
      rw [← e, ← hm]; exact IntWalk.wrap64_in _ (by omega)
    have hq8 : decide ((q : Int) ≤ 8) = true := by simp; omega
    by_cases hqK : q < K
    · have hne : 2 ^ q < 2 ^ K := Nat.pow_lt_pow_right (by omega) hqK
      have hnm2 : (s != (m : Int)) = true := by
        rw [HSV.out, hm]
        simp only [bne_iff_ne, ne_eq]
        intro h
        have := Int.ofNat_inj.1 h
        omega
      clear hm hm8 hne
      go_wp2_with fail
      go_roundw
      case rel => exact ⟨q + 1, by omega, by omega, by go_num, hfb, hb⟩
      case measure => simp [intOf]; omega
    · have hqe : q = K := by omega
      have hnm2 : (s != (m : Int)) = false := by rw [HSV.out, hm, hqe]; simp
      have HQ := Lib.hid hqe
      clear hm hm8 hqe hqK
      go_wp2_with fail
      (try simp only [hwm])
      have hglo := HF.out.lo
      have hghi := HF.out.hi
      clear hwm hq8 hlt hnm2
      go_loopw [7] (fun t wr => ∃ y : Int, s ≤ y ∧ y ≤ g0 ∧ t = .int .i64 y ∧ Hid (FB wr w.heap.size 0 0 0) ∧ Hid (Below w.heap.size w wr)) (fun t _ => (2 * s - intOf t).toNat)
      case atStart => exact ⟨s, by omega, by omega, rfl, hfb, hb⟩
      case round =>
        clear hfb hb
        obtain ⟨y, hy1, hy2, rfl, hfb, hb⟩ := hrel
        have hlt2 : y < 2 * s := by omega
        have hsz := hfb.out.lt
        have F1 := Lib.hid (hfb.out.below (below1 wr (.cells #[.int .i64 2, .int .i64 q, .int .i64 y] FTa)) hfb.out.lt)
        have B1 := Lib.hid (hb.out.trans ((below1 wr (.cells #[.int .i64 2, .int .i64 q, .int .i64 y] FTa)).mono hb.out.size))
        have X1 := Lib.hid (FB.new wr 2 q y)
        go_wp2_with fail
        refine (isField_any _ _ _ _).mono ?_
        rintro e w5 ⟨rfl, hb5⟩
        have F5 := Lib.hid (F1.out.below hb5 F1.out.lt)
        have B5 := Lib.hid (B1.out.trans (hb5.mono B1.out.size))
        have X5 := X1.out.below hb5 X1.out.lt
        have c0 := X5.c0
        have c1 := X5.c1
        have c2 := X5.c2
        clear X5 hb5
        by_cases hyg : y < g0
        · have hg : validB 2 (q : Int) y = false := by rw [HQ.out]; exact HF.out.no y hy1 hyg
          rw [hg]
          clear hg
          go_wp2_with fail
          go_roundw
          case rel => exact ⟨y + 1, by omega, by omega, rfl, F5, B5⟩
          case measure => simp [intOf]; omega
        · obtain rfl : y = g0 := by omega
          have hg : validB 2 (q : Int) y = true := by rw [HQ.out]; exact HF.out.ok
          rw [hg]
          clear hg
          have r0 := F5.out.c0
          have r1 := F5.out.c1
          have r2 := F5.out.c2
          have f0 := F5.out.fz 0
          have f1 := F5.out.fz 1
          have f2 := F5.out.fz 2
          have FS := Lib.hid (F5.out.set 2 q y)
          have BS := Lib.hid (((B5.out.setCell (p := ⟨w.heap.size, 0, none⟩) (Nat.le_refl _) (.int .i64 2)).setCell (p := ⟨w.heap.size, 1, none⟩) (Nat.le_refl _) (.int .i64 q)).setCell (p := ⟨w.heap.size, 2, none⟩) (Nat.le_refl _) (.int .i64 y))
          go_wp2_with fail
          (try simp only [Exit.inBlock, Exit.then])
          exact ret_cell2 HRES.out Tryz.underlying88 rfl (by kernel_rfl) rfl rfl FS.out.blk ⟨by rw [HQ.out]; rfl, BS.out⟩
set_option maxHeartbeats 4000000 in
theorem implFieldOf_at {K : Nat} {s g0 : Int} (hF : LeastF K s g0) (w : World) :
    Calls Tryz.prog 137 #[.int .i64 s] w fun e w' => e = .returned (.tuple #[fV 2 (K : Int) g0, .int .i64 0]) ∧ Below w.heap.size w w' := by
  have hK3 := hF.k3
  have hK8 := hF.k8
  have hp8 : 2 ^ K ≤ 2 ^ 8 := Nat.pow_le_pow_right (by omega) hK8
  have hp3 : 2 ^ 3 ≤ 2 ^ K := Nat.pow_le_pow_right (by omega) hK3
  have hsv := hF.hs
  have hsb : 8 ≤ s ∧ s ≤ 256 := by omega
  have hpr : primeB s = false := by rw [hsv]; exact pow_prime hK3
  have HP := Lib.hid (fun W => isPrime_any s (by omega) W)
  rw [hpr] at HP
  have HF := Lib.hid hF
  have HSV := Lib.hid hsv
  have hin : inR s 3 1021 = true := inR_true (by omega) (by omega)
  clear hp8 hp3 hsv hpr hF
  have HRES := Lib.hid (show Tryz.f137.results = #[.cell 2 FTa, .tmp 3] by kernel_rfl)
  go_enter Tryz.func137, Tryz.ntmps137
  go_wp2_with fail
  refine (inRange_any _ _ _ _).mono ?_
  rintro e w1 ⟨rfl, rfl⟩
  rw [hin]
  have F0 := Lib.hid (FB.new w 0 0 0)
  have B0 := Lib.hid (below1 w (.cells #[.int .i64 0, .int .i64 0, .int .i64 0] FTa))
  clear hin
  generalize w.alloc (.cells #[.int .i64 0, .int .i64 0, .int .i64 0] FTa) = w1 at *
  go_wp2_with fail
  refine (HP.out _).mono ?_
  rintro e w2 ⟨rfl, rfl⟩
  go_wp2_with fail
  go_loopw [7] (fun t wr => ∃ q : Nat, 3 ≤ q ∧ q ≤ K ∧ t = .int .i64 q ∧ Hid (FB wr w.heap.size 0 0 0) ∧ Hid (Below w.heap.size w wr)) (fun t _ => 9 - (intOf t).toNat)
  case atStart => exact ⟨3, by omega, by omega, rfl, F0, B0⟩
  case round =>
    clear F0 B0
    obtain ⟨q, hq1, hq2, rfl, hfb, hb⟩ := hrel
    have hlt : q ≤ 8 := by omega
    obtain ⟨m, hm⟩ : ∃ m : Nat, m = 2 ^ q := ⟨_, rfl⟩
    have hm8 : m ≤ 2 ^ 8 := by rw [hm]; exact Nat.pow_le_pow_right (by omega) hlt
    have hwm : wrap64 ((2 : Int) ^ q) = (m : Int) := by
      have e : ((2 ^ q : Nat) : Int) = (2 : Int) ^ q := by simp
      rw [← e, ← hm]; exact IntWalk.wrap64_in _ (by omega)
    have hq8 : decide ((q : Int) ≤ 8) = true := by simp; omega
    by_cases hqK : q < K
    · have hne : 2 ^ q < 2 ^ K := Nat.pow_lt_pow_right (by omega) hqK
      have hnm2 : (s != (m : Int)) = true := by
        rw [HSV.out, hm]
        simp only [bne_iff_ne, ne_eq]
        intro h
        have := Int.ofNat_inj.1 h
        omega
      clear hm hm8 hne
      go_wp2_with fail
      go_roundw
      case rel => exact ⟨q + 1, by omega, by omega, by go_num, hfb, hb⟩
      case measure => simp [intOf]; omega
    · have hqe : q = K := by omega
      have hnm2 : (s != (m : Int)) = false := by rw [HSV.out, hm, hqe]; simp
      have HQ := Lib.hid hqe
      clear hm hm8 hqe hqK
      go_wp2_with fail
      (try simp only [hwm])
      have hglo := HF.out.lo
      have hghi := HF.out.hi
      clear hwm hq8 hlt hnm2
      go_loopw [8] (fun t wr => ∃ y : Int, s ≤ y ∧ y ≤ g0 ∧ t = .int .i64 y ∧ Hid (FB wr w.heap.size 0 0 0) ∧ Hid (Below w.heap.size w wr)) (fun t _ => (2 * s - intOf t).toNat)
      case atStart => exact ⟨s, by omega, by omega, rfl, hfb, hb⟩
      case round =>
        clear hfb hb
        obtain ⟨y, hy1, hy2, rfl, hfb, hb⟩ := hrel
        have hlt2 : y < 2 * s := by omega
        have hsz := hfb.out.lt
        have F1 := Lib.hid (hfb.out.below (below1 wr (.cells #[.int .i64 2, .int .i64 q, .int .i64 y] FTa)) hfb.out.lt)
        have B1 := Lib.hid (hb.out.trans ((below1 wr (.cells #[.int .i64 2, .int .i64 q, .int .i64 y] FTa)).mono hb.out.size))
        have X1 := Lib.hid (FB.new wr 2 q y)
        go_wp2_with fail
        refine (implIsField_any _ _ _ _).mono ?_
        rintro e w5 ⟨rfl, hb5⟩
        have F5 := Lib.hid (F1.out.below hb5 F1.out.lt)
        have B5 := Lib.hid (B1.out.trans (hb5.mono B1.out.size))
        have X5 := X1.out.below hb5 X1.out.lt
        have c0 := X5.c0
        have c1 := X5.c1
        have c2 := X5.c2
        clear X5 hb5
        by_cases hyg : y < g0
        · have hg : validB 2 (q : Int) y = false := by rw [HQ.out]; exact HF.out.no y hy1 hyg
          rw [hg]
          clear hg
          go_wp2_with fail
          go_roundw
          case rel => exact ⟨y + 1, by omega, by omega, rfl, F5, B5⟩
          case measure => simp [intOf]; omega
        · obtain rfl : y = g0 := by omega
          have hg : validB 2 (q : Int) y = true := by rw [HQ.out]; exact HF.out.ok
          rw [hg]
          clear hg
          have r0 := F5.out.c0
          have r1 := F5.out.c1
          have r2 := F5.out.c2
          have f0 := F5.out.fz 0
          have f1 := F5.out.fz 1
          have f2 := F5.out.fz 2
          have FS := Lib.hid (F5.out.set 2 q y)
          have BS := Lib.hid (((B5.out.setCell (p := ⟨w.heap.size, 0, none⟩) (Nat.le_refl _) (.int .i64 2)).setCell (p := ⟨w.heap.size, 1, none⟩) (Nat.le_refl _) (.int .i64 q)).setCell (p := ⟨w.heap.size, 2, none⟩) (Nat.le_refl _) (.int .i64 y))
          go_wp2_with fail
          (try simp only [Exit.inBlock, Exit.then])
          exact ret_cell2 HRES.out Tryz.underlying88 rfl (by kernel_rfl) rfl rfl FS.out.blk ⟨by rw [HQ.out]; rfl, BS.out⟩
end Go.Proofs.YtdcmebegnekkcaaGreat
