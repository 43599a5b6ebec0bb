/-
  The walks of SequenceLength.
-/
import Derived.Test.YtnhpdenneplapaaMassey
import Derived.Test.YtnhpdenneplapaaRegs
import Derived.Test.YtnhpdenneplapaaCodes
namespace Go.Proofs.Ytnhpdenneplapaa
open Go.RowKit
set_option linter.unusedVariables false

/-- The length of the shortest recurrence. -/
noncomputable def seqL (p pw g : Int) (zs : List Int) : Int :=
  if h : seqC p pw g zs = 0 then ((bm ⟨ffOf p pw g, ffOf_ok (seqC_zero h).1⟩ (VF.ps ⟨ffOf p pw g, ffOf_ok (seqC_zero h).1⟩ zs) zs.length).L : Int) else 0
theorem seqL_yes {p pw g : Int} {zs : List Int} (h : seqC p pw g zs = 0) : ∃ V : VF, SF V p pw g ∧ zs.length ≤ 64 ∧ VF.els V zs ∧ ((bm V (VF.ps V zs) zs.length).L : Int) = seqL p pw g zs ∧ ∀ w b, Cal w b (ffOf p pw g) → Cal w b V.F :=
  ⟨⟨ffOf p pw g, ffOf_ok (seqC_zero h).1⟩, SF.of (seqC_zero h).1, (seqC_zero h).2.1, (seqC_zero h).2.2, by unfold seqL; rw [dif_pos h], fun _ _ h => h⟩
theorem seqL_no {p pw g : Int} {zs : List Int} (h : ¬ seqC p pw g zs = 0) : seqL p pw g zs = 0 := by unfold seqL; rw [dif_neg h]
end Go.Proofs.Ytnhpdenneplapaa
