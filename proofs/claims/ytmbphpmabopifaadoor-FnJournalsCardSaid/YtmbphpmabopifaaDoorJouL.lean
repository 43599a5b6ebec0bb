/-
  The listed tables: what the condition gives, and a world that meets it.
-/
import Derived.Test.YtmbphpmabopifaaDoorJouI
import Derived.Test.YtmbphpmabopifaaDoorRows
import Derived.ProofKit
import Derived.LaidMore
import Derived.Lib.LaidTab
import Derived.MakeChecks
import Derived.OpenShut
import Derived.Stop.Joined
namespace Go.Proofs.YtmbphpmabopifaaDoor
open Go.ChangeShapes Go.WideShapes Go.ChangeAt Go.RowKit
set_option linter.unusedVariables false

theorem pow_global : Tryd.prog.globalNamed "internal/strconv.uint64pow10" = some 1 := by kernel_rfl
theorem pow_type : (Tryd.prog.globals[1]?).map (·.type) = some 117 := by kernel_rfl
theorem pow_data : (Rows.laid_internal_strconv_uint64pow10 : DataW Unit) = Lib.tabData .u64 Lib.pow10Tab := by kernel_rfl
theorem laid_fnExactJournalOf {W : World} (h : laidMetH Tryd.prog Rows.fnExactJournalOfRow.laid W) : Tab W := by
  rw [MakeChecks.laidMetH_plain _ _ _ (by kernel_rfl)] at h
  obtain ⟨ps, ⟨g0, t0, cs0, f0, p0, q0, hg0, ht0, hv0, hd0, ⟨g1, t1, cs1, f1, p1, q1, hg1, ht1, hv1, hd1, ⟨g2, t2, cs2, f2, p2, q2, hg2, ht2, hv2, hd2, _, _⟩, _⟩, _⟩, _, _⟩ := h
  obtain rfl := Option.some.inj (pow_global.symm.trans hg2)
  obtain rfl := Option.some.inj (pow_type.symm.trans ht2)
  unfold Tab Lib.TabIs
  rw [pow_data] at hd2
  rw [hv2, ← Lib.cells_of_tab Tryd.underlying117 Tryd.underlying47 (by kernel_rfl) (by kernel_rfl) hd2]
noncomputable def laidWorld_fnExactJournalOf (os : Os) : World := World.doorLaid Tryd.prog 4000 os
theorem laidMet_fnExactJournalOf (os : Os) (args : Array Value) : laidMetH Tryd.prog Rows.fnExactJournalOfRow.laid ((laidWorld_fnExactJournalOf os).forCall (fun _ _ => 0) ⟨#[], args, []⟩).memory :=
  laidMetH_of_parts (laidMet_of_run' 8 (by kernel_rfl) (by kernel_rfl)) (by kernel_rfl)
end Go.Proofs.YtmbphpmabopifaaDoor
