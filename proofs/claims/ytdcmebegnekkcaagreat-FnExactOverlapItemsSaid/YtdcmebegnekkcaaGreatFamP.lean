/-
  The fields of the library of families: in plain Lean.
-/
import Derived.Test.YtdcmebegnekkcaaGreatSpecFl
import Derived.KernelRfl
namespace Go.Proofs.YtdcmebegnekkcaaGreat
open Go.RowKit
set_option linter.unusedVariables false

/-- A walk along the powers of the generator, n steps from the k-th power x. -/
def runC (T : Int → Int) : Nat → Nat → Int → Bool
  | 0, k, x => decide (x = 1)
  | n + 1, k, x => decide (x ≠ 0) && (decide (k = 0) || decide (x ≠ 1)) && runC T n (k + 1) (T x)
theorem runC_iff (T : Int → Int) : ∀ (n k : Nat), runC T n k (orb T k) = true ↔ (∀ j, k ≤ j → j < k + n → orb T j ≠ 0 ∧ (0 < j → orb T j ≠ 1)) ∧ orb T (k + n) = 1
  | 0, k => by
    unfold runC
    simp only [decide_eq_true_eq, Nat.add_zero]
    exact ⟨fun h => ⟨fun j h1 h2 => by omega, h⟩, fun h => h.2⟩
  | n + 1, k => by
    have ih := runC_iff T n (k + 1)
    have e : T (orb T k) = orb T (k + 1) := rfl
    unfold runC
    rw [e]
    simp only [Bool.and_eq_true, Bool.or_eq_true, decide_eq_true_eq, ih]
    constructor
    · rintro ⟨⟨h1, h2⟩, h3, h4⟩
      refine ⟨fun j hj1 hj2 => ?_, by rw [show k + (n + 1) = k + 1 + n by omega]; exact h4⟩
      by_cases hj : j = k
      · subst hj; exact ⟨h1, fun h0 => h2.resolve_left (by omega)⟩
      · exact h3 j (by omega) (by omega)
    · rintro ⟨h1, h2⟩
      have h0 := h1 k (Nat.le_refl _) (by omega)
      refine ⟨⟨h0.1, ?_⟩, fun j hj1 hj2 => h1 j (by omega) (by omega), by rw [show k + 1 + n = k + (n + 1) by omega]; exact h2⟩
      by_cases hk : k = 0
      · exact .inl hk
      · exact .inr (h0.2 (by omega))
theorem goodB_run (T : Int → Int) (N : Nat) : goodB T N = runC T N 0 1 := by
  have h := runC_iff T N 0
  have e : orb T 0 = 1 := rfl
  rw [e] at h
  simp only [Nat.zero_add, Nat.zero_le, true_implies] at h
  cases hr : runC T N 0 1 with
  | true =>
    simp only [goodB, decide_eq_true_eq]
    exact h.1 hr
  | false =>
    simp only [goodB, decide_eq_false_iff_not]
    intro hg
    rw [h.2 hg] at hr
    cases hr
set_option maxRecDepth 100000 in
theorem good16 : goodB (timesB 16 19) 15 = true := by rw [goodB_run]; decide +kernel
set_option maxRecDepth 100000 in
theorem good32 : goodB (timesB 32 37) 31 = true := by rw [goodB_run]; decide +kernel
set_option maxRecDepth 100000 in
theorem good64 : goodB (timesB 64 67) 63 = true := by rw [goodB_run]; decide +kernel
set_option maxRecDepth 100000 in
theorem good256 : goodB (timesB 256 285) 255 = true := by rw [goodB_run]; decide +kernel
/-- No polynomial that is less is good. -/
def noneC (P : Nat) (s : Int) (n : Nat) : Bool := (List.range n).all fun k => !runC (timesB s (s + k)) (P - 1) 0 1
theorem noneC_at {P : Nat} {s : Int} {n : Nat} (h : noneC P s n = true) {g : Int} (h0 : s ≤ g) (h1 : g < s + n) : goodB (timesB s g) (P - 1) = false := by
  have h2 := List.all_eq_true.1 h (g - s).toNat (List.mem_range.2 (by omega))
  rw [show s + ((g - s).toNat : Int) = g by omega] at h2
  rw [goodB_run]
  simpa using h2
set_option maxRecDepth 100000 in
theorem least16 : noneC 16 16 3 = true := by decide +kernel
set_option maxRecDepth 100000 in
theorem least32 : noneC 32 32 5 = true := by decide +kernel
set_option maxRecDepth 100000 in
theorem least64 : noneC 64 64 3 = true := by decide +kernel
set_option maxRecDepth 100000 in
theorem least256 : noneC 256 256 29 = true := by decide +kernel
end Go.Proofs.YtdcmebegnekkcaaGreat
