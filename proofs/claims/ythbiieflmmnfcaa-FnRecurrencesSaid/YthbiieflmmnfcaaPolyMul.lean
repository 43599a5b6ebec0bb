/-
  The walks of the two PolyMul.
-/
import Derived.Test.YthbiieflmmnfcaaGens
namespace Go.Proofs.Ythbiieflmmnfcaa
open Go.RowKit
set_option linter.unusedVariables false

/-- Whether a product of two lists would be too long. -/
def longB (x y : List Int) : Bool := decide (0 < x.length ∧ 0 < y.length ∧ 513 < x.length + y.length)
noncomputable def mulC (p pw g : Int) (x y : List Int) : Int := if codeP p pw g [x, y] = 0 then (if longB x y = true then 3 else 0) else codeP p pw g [x, y]
noncomputable def mulR (p pw g : Int) (x y : List Int) : List Int := if longB x y = true then [] else onP p pw g [x, y] fun V => VF.lst V (VF.ps V x * VF.ps V y)
theorem mulR_len (p pw g : Int) (x y : List Int) : (mulR p pw g x y).length ≤ 1048576 := by
  unfold mulR
  split
  · simp
  by_cases h : codeP p pw g [x, y] = 0
  · rw [onP_yes h]
    obtain ⟨⟨h1, _⟩, h2, _⟩ := two_mem (codeP_isP h)
    have := VF.lst_mul_len (V := vfOf p pw g (codeP_zero h).1) x y
    omega
  · rw [onP_no h]; simp
theorem mulC_bad {p pw g : Int} {x y : List Int} (h : ¬ codeP p pw g [x, y] = 0) : mulC p pw g x y = codeP p pw g [x, y] ∧ mulR p pw g x y = [] := by
  refine ⟨by unfold mulC; rw [if_neg h], ?_⟩
  unfold mulR
  split
  · rfl
  · exact onP_no h
theorem mulC_long {p pw g : Int} {x y : List Int} (h : codeP p pw g [x, y] = 0) (hl : longB x y = true) : mulC p pw g x y = 3 ∧ mulR p pw g x y = [] := by
  unfold mulC mulR; rw [if_pos h, if_pos hl, if_pos hl]; exact ⟨rfl, rfl⟩
theorem mulC_ok {p pw g : Int} {x y : List Int} (h : codeP p pw g [x, y] = 0) (hl : longB x y = false) : mulC p pw g x y = 0 ∧ mulR p pw g x y = onP p pw g [x, y] fun V => VF.lst V (VF.ps V x * VF.ps V y) := by
  unfold mulC mulR; rw [if_pos h, if_neg (by simp [hl]), if_neg (by simp [hl])]; exact ⟨rfl, rfl⟩
end Go.Proofs.Ythbiieflmmnfcaa
