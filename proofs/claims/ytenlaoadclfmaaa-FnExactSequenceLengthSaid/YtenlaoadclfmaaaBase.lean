/-
  The walks of the field's small functions.
-/
import Derived.Test.YtenlaoadclfmaaaLists
import Derived.Test.YtenlaoadclfmaaaProg
import Derived.WalkKit
import Derived.WalkSpells
import Derived.WalkLawsBesides
import Derived.Below
import Derived.Lib.Hide
import Derived.Outline
namespace Go.Proofs.Ytenlaoadclfmaaa
open Go.RowKit
set_option linter.unusedVariables false

theorem ret_bool {a b : Bool} (h : a = b) : Ending.returned (.bool a) = .returned (.bool b) := by rw [h]
theorem ret_int {k : IntKind} {a b : Int} (h : a = b) : Ending.returned (.int k a) = .returned (.int k b) := by rw [h]
/-- low <= n <= high, as the program reckons it. -/
def inR (n lo hi : Int) : Bool := decide (lo ≤ n ∧ n ≤ hi)
theorem inR_true {n lo hi : Int} (h1 : lo ≤ n) (h2 : n ≤ hi) : inR n lo hi = true := by unfold inR; simp [h1, h2]
theorem inR_iff {n lo hi : Int} : inR n lo hi = true ↔ lo ≤ n ∧ n ≤ hi := by unfold inR; simp
theorem inR_false {n lo hi : Int} (h : ¬ (lo ≤ n ∧ n ≤ hi)) : inR n lo hi = false := by unfold inR; simp [h]
theorem inR_lo {n lo hi : Int} (h : n < lo) : inR n lo hi = false := inR_false (by omega)
theorem inR_and {n lo hi : Int} (h : lo ≤ n) : inR n lo hi = decide (n ≤ hi) := by unfold inR; simp [h]

theorem inRange_any (n lo hi : Int) (w : World) : Calls Try.prog 119 #[.int .i64 n, .int .i64 lo, .int .i64 hi] w fun e w' => e = .returned (.bool (inR n lo hi)) ∧ w = w' := by
  go_enter Try.func119, Try.ntmps119
  go_wp2
  all_goals go_ret
  · rename_i h; exact ⟨ret_bool (inR_and h).symm, rfl⟩
  · rename_i h; exact ⟨ret_bool (inR_lo h).symm, rfl⟩
theorem l01In_any (n lo hi : Int) (w : World) : Calls Try.prog 84 #[.int .i64 n, .int .i64 lo, .int .i64 hi] w fun e w' => e = .returned (.bool (inR n lo hi)) ∧ w = w' := by
  go_enter Try.func84, Try.ntmps84
  go_wp2
  all_goals go_ret
  · rename_i h; exact ⟨ret_bool (inR_and h).symm, rfl⟩
  · rename_i h; exact ⟨ret_bool (inR_lo h).symm, rfl⟩

open Classical in
/-- Whether no square up to n has a divisor of n as its root. -/
noncomputable def primeB (n : Int) : Bool := decide (2 ≤ n ∧ ∀ d : Int, 2 ≤ d → d * d ≤ n → n % d ≠ 0)

theorem primeB_no {n d : Int} (h2 : 2 ≤ d) (hd : d * d ≤ n) (h : n % d = 0) : primeB n = false := by
  unfold primeB; simp only [decide_eq_false_iff_not]; exact fun hp => hp.2 d h2 hd h
theorem primeB_yes {n d : Int} (hn : 2 ≤ n) (h2 : 2 ≤ d) (hd : n < d * d) (h : ∀ d' : Int, 2 ≤ d' → d' < d → d' * d' ≤ n → n % d' ≠ 0) : primeB n = true := by
  unfold primeB; simp only [decide_eq_true_eq]
  refine ⟨hn, fun d' h1 h3 => h d' h1 ?_ h3⟩
  apply Int.lt_of_not_ge
  intro hge
  have : d * d ≤ d' * d' := Int.mul_le_mul hge hge (by omega) (by omega)
  omega
/-- What is known when the divisors below d have been tried. -/
def Tried (n d : Int) : Prop := ∀ d' : Int, 2 ≤ d' → d' < d → d' * d' ≤ n → n % d' ≠ 0
theorem Tried.next {n d : Int} (h : Tried n d) (hd : n % d ≠ 0) : Tried n (d + 1) := fun d' h1 h2 h3 => by
  by_cases e : d' = d
  · rw [e]; exact hd
  · exact h d' h1 (by omega) h3
theorem sq_bd {n d : Int} (h0 : 2 ≤ d) (h1 : d ≤ n + 1) (hn : n ≤ 1000000) : 4 ≤ d * d ∧ d * d ≤ 1000002000001 := by
  have h2 : d ≤ 1000001 := by omega
  have h3 : d * d ≤ 1000001 * 1000001 := Int.mul_le_mul h2 h2 (by omega) (by omega)
  have h4 : 2 * 2 ≤ d * d := Int.mul_le_mul h0 h0 (by omega) (by omega)
  omega
theorem sq_le {n d : Int} (h0 : 2 ≤ d) (h : d * d ≤ n) : d ≤ n := by
  have : 1 * d ≤ d * d := Int.mul_le_mul (by omega) (Int.le_refl _) (by omega) (by omega)
  omega
theorem isPrime_any (n : Int) (hn : n ≤ 1000000) (w : World) : Calls Try.prog 120 #[.int .i64 n] w fun e w' => e = .returned (.bool (primeB n)) ∧ w = w' := by
  by_cases h2 : n < 2
  · go_enter Try.func120, Try.ntmps120
    go_wp2
    go_ret
    exact ⟨ret_bool (by unfold primeB; simp; intro h; omega), rfl⟩
  · have h2' : 2 ≤ n := by omega
    go_enter Try.func120, Try.ntmps120
    go_wp2
    go_loop [3] (fun t => ∃ d : Int, 2 ≤ d ∧ d ≤ n + 1 ∧ Tried n d ∧ t = .int .i64 d) (fun t => (n + 2 - intOf t).toNat)
    case atStart => exact ⟨2, by omega, by omega, fun d' h1 h3 => by omega, rfl⟩
    case round =>
      obtain ⟨d, hd1, hd2, ht, rfl⟩ := hrel
      have hb := sq_bd hd1 hd2 hn
      have hsq := sq_le (n := n) hd1
      by_cases hlt : d * d ≤ n
      · have hdn := hsq hlt
        clear hsq
        by_cases hm : n % d = 0
        · have hm' : (n % d == 0) = true := by simp [hm]
          have hf := Lib.hid (primeB_no hd1 hlt hm)
          clear hm ht
          go_wp2
          go_ret
          exact ⟨ret_bool hf.out.symm, rfl⟩
        · have hm' : (n % d == 0) = false := by simp [hm]
          go_wp2
          go_round
          case rel => exact ⟨d + 1, by omega, by omega, ht.next hm, rfl⟩
          case measure => simp [intOf]; omega
      · go_wp2
        go_ret
        exact ⟨ret_bool (primeB_yes h2' hd1 (by omega) ht).symm, rfl⟩
theorem l02Prime_any (n : Int) (hn : n ≤ 1000000) (hn0 : 0 ≤ n) (w : World) : Calls Try.prog 85 #[.int .i64 n] w fun e w' => e = .returned (.bool (primeB n)) ∧ w = w' := by
  go_enter Try.func85, Try.ntmps85
  go_wp2
  go_loop [3] (fun t => ∃ d : Int, 2 ≤ d ∧ (d = 2 ∨ d ≤ n + 1) ∧ Tried n d ∧ t = .int .i64 d) (fun t => (n + 2 - intOf t).toNat)
  case atStart => exact ⟨2, by omega, by omega, fun d' h1 h3 => by omega, rfl⟩
  case round =>
    obtain ⟨d, hd1, hd2, ht, rfl⟩ := hrel
    have hb : 4 ≤ d * d ∧ d * d ≤ 1000002000001 := by
      rcases hd2 with e | h
      · rw [e]; omega
      · exact sq_bd hd1 h hn
    have hsq := sq_le (n := n) hd1
    by_cases hlt : d * d ≤ n
    · have hdn := hsq hlt
      clear hsq
      by_cases hm : n % d = 0
      · have hm' : (n % d == 0) = true := by simp [hm]
        have hf := Lib.hid (primeB_no hd1 hlt hm)
        clear hm ht
        go_wp2
        go_ret
        exact ⟨ret_bool hf.out.symm, rfl⟩
      · have hm' : (n % d == 0) = false := by simp [hm]
        go_wp2
        go_round
        case rel => exact ⟨d + 1, by omega, by omega, ht.next hm, rfl⟩
        case measure => simp [intOf]; omega
    · go_wp2
      go_ret
      refine ⟨ret_bool ?_, rfl⟩
      by_cases h2 : 2 ≤ n
      · simp [h2, primeB_yes h2 hd1 (by omega) ht]
      · unfold primeB; simp [h2]
end Go.Proofs.Ytenlaoadclfmaaa
