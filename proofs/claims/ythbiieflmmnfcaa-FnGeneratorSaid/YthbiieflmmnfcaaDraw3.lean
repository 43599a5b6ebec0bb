/-
  The walks of the draws of elements; what the laws of fields draw.
-/
import Derived.Test.YthbiieflmmnfcaaDraw2
namespace Go.Proofs.Ythbiieflmmnfcaa
open Go.RowKit
set_option linter.unusedVariables false

theorem set3_cell {w : World} {R X o : Nat} {v v0 v1 v2 : Value} (hn : X ≠ R) (h : w.cell? ⟨X, o, none⟩ = some v) : (((w.setCell ⟨R, 0, none⟩ v0).setCell ⟨R, 1, none⟩ v1).setCell ⟨R, 2, none⟩ v2).cell? ⟨X, o, none⟩ = some v :=
  ((((Dr.refl R w).trans (.set R 0 w v0)).trans (.set R 1 _ v1)).trans (.set R 2 _ v2)).cell h hn
end Go.Proofs.Ythbiieflmmnfcaa
