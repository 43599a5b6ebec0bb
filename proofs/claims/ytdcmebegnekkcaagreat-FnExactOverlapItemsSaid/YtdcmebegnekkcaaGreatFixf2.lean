/-
  The parts Fixp, Fixq, Siza.
-/
import Derived.Test.YtdcmebegnekkcaaGreatFixe2
/-
  The number of data cells: both agree.
-/
namespace Go.Proofs.YtdcmebegnekkcaaGreat
open Go.RowKit
set_option linter.unusedVariables false

theorem takF_in {n r c : Nat} (hr : r < n) (hc : c < n) : takF n (n * n) (r : Int) (c : Int) = patP (n : Int) (r : Int) (c : Int) := by
  unfold takF
  have hlt := rc_lt hr hc
  cases hp : patP (n : Int) (r : Int) (c : Int) with
  | true =>
    rw [List.any_eq_true]
    refine ⟨r * n + c, List.mem_range.2 hlt, ?_⟩
    rw [(rc_div hc).1, (rc_div hc).2, hp]; simp
  | false =>
    rw [List.any_eq_false]
    intro j hj
    rw [List.mem_range] at hj
    intro h
    simp only [Bool.and_eq_true, beq_iff_eq] at h
    obtain ⟨h1, h2, h3⟩ := h
    rw [← h2, ← h3, hp] at h1
    cases h1
def tkq (n : Nat) (r c : Int) : Bool := patP (n : Int) r c || takL (fmtA ++ fmtB (n : Int)) r c
def cntCq (n : Nat) (up : Bool) (right : Int) : Nat → Nat
  | 0 => 0
  | k + 1 => cntCq n up right k + (if tkq n (rowU n up k) (right - ((k % 2 : Nat) : Int)) then 0 else 1)
def restCq (n : Nat) : Nat → Int → Bool → Nat
  | 0, _, _ => 0
  | f + 1, right, up => if right ≤ 0 then 0 else cntCq n up (rgt right) (2 * n) + restCq n f (rgt right - 2) (!up)
theorem cntC_q {n : Nat} (h7 : 7 < n) (up : Bool) {right : Int} (h0 : 0 < right) (h1 : right < n) : ∀ k, k ≤ 2 * n → cntC n up right k = cntCq n up right k := by
  intro k
  induction k with
  | zero => intro _; rfl
  | succ k ih =>
    intro hk
    have e : tak n (rowU n up k) (right - ((k % 2 : Nat) : Int)) = tkq n (rowU n up k) (right - ((k % 2 : Nat) : Int)) := by
      obtain ⟨r, hr, hr2⟩ : ∃ r : Nat, rowU n up k = (r : Int) ∧ r < n := by
        unfold rowU
        cases up with
        | true => exact ⟨n - 1 - k / 2, by simp only [if_true]; omega, by omega⟩
        | false => exact ⟨k / 2, by simp, by omega⟩
      obtain ⟨c, hc, hc2⟩ : ∃ c : Nat, right - ((k % 2 : Nat) : Int) = (c : Int) ∧ c < n := ⟨(right - ((k % 2 : Nat) : Int)).toNat, by omega, by omega⟩
      rw [hr, hc]
      unfold tak tkq
      rw [takF_in hr2 hc2]
    unfold cntC cntCq
    rw [ih (by omega), e]
theorem restC_q {n : Nat} (h7 : 7 < n) : ∀ (f : Nat) (right : Int) (up : Bool), right < n → restC n f right up = restCq n f right up := by
  intro f
  induction f with
  | zero => intro _ _ _; rfl
  | succ f ih =>
    intro right up h
    unfold restC restCq
    split
    · rfl
    · have h1 : 0 < rgt right ∧ rgt right < n := by unfold rgt; split <;> omega
      rw [cntC_q h7 up h1.1 h1.2 _ (Nat.le_refl _), ih _ _ (by omega)]
def cntPq (n : Nat) : Nat := restCq n 50 ((n : Int) - 1) true
theorem cntP_q {n : Nat} (h7 : 7 < n) : cntP n = cntPq n := restC_q h7 50 _ true (by omega)
set_option maxRecDepth 100000 in
theorem cnt17 : (cntP 17 : Int) = cntS 17 := by rw [cntP_q (by omega)]; decide +kernel
set_option maxRecDepth 100000 in
theorem cnt21 : (cntP 21 : Int) = cntS 21 := by rw [cntP_q (by omega)]; decide +kernel
set_option maxRecDepth 100000 in
theorem cnt25 : (cntP 25 : Int) = cntS 25 := by rw [cntP_q (by omega)]; decide +kernel
set_option maxRecDepth 100000 in
theorem cnt29 : (cntP 29 : Int) = cntS 29 := by rw [cntP_q (by omega)]; decide +kernel
set_option maxRecDepth 100000 in
theorem cnt33 : (cntP 33 : Int) = cntS 33 := by rw [cntP_q (by omega)]; decide +kernel
set_option maxRecDepth 100000 in
theorem cnt37 : (cntP 37 : Int) = cntS 37 := by rw [cntP_q (by omega)]; decide +kernel
set_option maxRecDepth 100000 in
theorem cnt41 : (cntP 41 : Int) = cntS 41 := by rw [cntP_q (by omega)]; decide +kernel
end Go.Proofs.YtdcmebegnekkcaaGreat
/-
  DataCount of the program, at the seven sizes.
-/
namespace Go.Proofs.YtdcmebegnekkcaaGreat
open Go.RowKit
set_option linter.unusedVariables false

theorem cnt_all {n : Nat} (h1 : 17 ≤ n) (h2 : n ≤ 41) (h4 : n % 4 = 1) : (cntP n : Int) = cntS n := by
  rcases (show n = 17 ∨ n = 21 ∨ n = 25 ∨ n = 29 ∨ n = 33 ∨ n = 37 ∨ n = 41 by omega) with rfl | rfl | rfl | rfl | rfl | rfl | rfl
  · exact cnt17
  · exact cnt21
  · exact cnt25
  · exact cnt29
  · exact cnt33
  · exact cnt37
  · exact cnt41
theorem dataCount_any {n : Nat} (h1 : 17 ≤ n) (h2 : n ≤ 41) (h4 : n % 4 = 1) (w : World) :
    Calls Tryz.prog 145 #[.int .i64 (n : Int)] w fun e w' => Below w.heap.size w w' ∧ e = .returned (.int .i64 (cntS n)) := by
  have HD := Lib.hid (dataPlaces_any h1 h2)
  have HE := Lib.hid (cnt_all h1 h2 h4)
  have HM := Lib.hid (fun (V : World) => (by
    have := isMatrixSize_any (n : Int) V
    rw [inR_true (by omega) (by omega), show ((n : Int).tmod 4 == 1) = true by rw [Int.tmod_eq_emod_of_nonneg (by omega)]; simp; omega] at this
    exact this : Calls Tryz.prog 135 #[.int .i64 (n : Int)] V fun e w' => e = .returned (.bool true) ∧ V = w'))
  clear h1 h2 h4
  go_enter Tryz.func145, Tryz.ntmps145
  go_wp2_with fail
  refine (HM.out _).mono ?_
  rintro e w1 ⟨rfl, rfl⟩
  go_wp2_with fail
  refine (HD.out _).mono ?_
  rintro e w1 ⟨hb, a, cap, rfl⟩
  have HB := Lib.hid hb
  clear hb
  go_wp2_with fail
  go_ret
  exact ⟨HB.out, by rw [← HE.out]; rfl⟩
end Go.Proofs.YtdcmebegnekkcaaGreat
/-
  Widths and sizes of the five fields.
-/
namespace Go.Proofs.YtdcmebegnekkcaaGreat
open Go.RowKit
set_option linter.unusedVariables false

theorem fval_of {k : Nat} (hk : k < 5) : validB 2 ((fpw k : Nat) : Int) (fg0 k) = true := (flf k).ok
theorem ffsz_of {k : Nat} (hk : k < 5) : (ffOf 2 ((fpw k : Nat) : Int) (fg0 k)).size = ((2 ^ fpw k : Nat) : Int) := by
  rcases (show k = 0 ∨ k = 1 ∨ k = 2 ∨ k = 3 ∨ k = 4 by omega) with rfl | rfl | rfl | rfl | rfl <;> (unfold ffOf; rfl)
theorem shl_w {i : Nat} (h : i ≤ 8) : wrap64 ((2 : Int) * 2 ^ i) = 2 * 2 ^ i := by
  rcases (show i = 0 ∨ i = 1 ∨ i = 2 ∨ i = 3 ∨ i = 4 ∨ i = 5 ∨ i = 6 ∨ i = 7 ∨ i = 8 by omega) with rfl | rfl | rfl | rfl | rfl | rfl | rfl | rfl | rfl <;> exact (wrp (by decide)).1
theorem shl_le {i K : Nat} (h : i < K) : (2 : Int) * 2 ^ i ≤ 2 ^ K := by
  have := Nat.pow_le_pow_right (show 0 < 2 by omega) (show i + 1 ≤ K by omega)
  rw [Nat.pow_succ] at this
  have h2 : 2 * 2 ^ i ≤ 2 ^ K := by omega
  exact_mod_cast h2
theorem shl_gt (K : Nat) : ¬ (2 : Int) * 2 ^ K ≤ 2 ^ K := by
  have := Nat.pow_pos (n := K) (show 0 < 2 by omega)
  have h2 : ¬ 2 * 2 ^ K ≤ 2 ^ K := by omega
  exact_mod_cast h2
set_option maxHeartbeats 4000000 in
theorem l11Width_any {k : Nat} (hk : k < 5) (w : World) :
    Calls Tryz.prog 67 #[fV 2 ((fpw k : Nat) : Int) (fg0 k)] w fun e w' => e = .returned (.int .i64 ((fpw k : Nat) : Int)) ∧ Below w.heap.size w w' := by
  have HS := Lib.hid (fun (V : World) => (ffsz_of hk) ▸ l02Size_any 2 ((fpw k : Nat) : Int) (fg0 k) V (ranged_of (fval_of hk)))
  have hp : fpw k = 4 ∨ fpw k = 5 ∨ fpw k = 6 ∨ fpw k = 8 := by
    rcases (show k = 0 ∨ k = 1 ∨ k = 2 ∨ k = 3 ∨ k = 4 by omega) with rfl | rfl | rfl | rfl | rfl <;> decide
  generalize fpw k = K at *
  generalize fg0 k = g at *
  have B0 := Lib.hid (below_al1 w (.cells #[.int .i64 2, .int .i64 (K : Int), .int .i64 g] FTa))
  have T0 := Lib.hid (Tf.mkd w #[.int .i64 2, .int .i64 (K : Int), .int .i64 g] FTa)
  unfold fV at HS ⊢
  clear hk
  go_enter Tryz.func67, Tryz.ntmps67
  go_wp2_with fail
  go_loopw [3] (fun t wr => ∃ i : Nat, i ≤ K ∧ t = .int .i64 (i : Int) ∧ Hid (Below w.heap.size w wr) ∧ Hid (Tf wr w.heap.size 3 FTa fun i => (#[.int .i64 2, .int .i64 (K : Int), .int .i64 g] : Array Value)[i]!)) (fun t _ => K - (intOf t).toNat)
  case atStart => exact ⟨0, by omega, rfl, B0, T0⟩
  case round =>
    obtain ⟨i, hi, rfl, HB, HT⟩ := hrel
    have c0 : wr.cell? ⟨w.heap.size, 0, none⟩ = some (.int .i64 2) := HT.out.cell (i := 0) (by omega)
    have c1 : wr.cell? ⟨w.heap.size, 1, none⟩ = some (.int .i64 (K : Int)) := HT.out.cell (i := 1) (by omega)
    have c2 : wr.cell? ⟨w.heap.size, 2, none⟩ = some (.int .i64 g) := HT.out.cell (i := 2) (by omega)
    go_wp2_with fail
    refine (HS.out _).mono ?_
    rintro e w1 ⟨rfl, hb1⟩
    have HB1 := Lib.hid (HB.out.trans (hb1.mono HB.out.size))
    have HT1 := Lib.hid (HT.out.below hb1 HT.out.lt)
    clear hb1 c0 c1 c2
    have hw := shl_w (i := i) (by omega)
    by_cases hlt : i < K
    · have hle := shl_le hlt
      go_wp2_with fail
      clear hw hle
      go_roundw
      case rel => exact ⟨i + 1, by omega, by go_num, HB1, HT1⟩
      case measure => simp [intOf]; omega
    · obtain rfl : i = K := by omega
      have hgt := shl_gt i
      go_wp2_with fail
      go_ret
      exact ⟨rfl, HB1.out⟩
end Go.Proofs.YtdcmebegnekkcaaGreat
