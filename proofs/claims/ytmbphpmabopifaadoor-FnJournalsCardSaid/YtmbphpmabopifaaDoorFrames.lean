/-
  The parts LawFieldAdd, Frame, FrameCode.
-/
import Derived.Test.YtmbphpmabopifaaDoorLanes
import Derived.Test.YtmbphpmabopifaaDoorRows
import Derived.ProofKit
import Derived.OpenShut
import Derived.ChangeOld
import Derived.Lib.SmallJoins
import Derived.Carry
import Derived.Test.YtmbphpmabopifaaDoorCodes
import Derived.Test.YtmbphpmabopifaaDoorOwn
import Derived.Deep.Strs
/-
  FieldAdd of the program and FieldAdd of the reference agree at every field and all numbers. No condition.
-/
namespace Go.Proofs.YtmbphpmabopifaaDoor
open Go.ChangeShapes Go.WideShapes Go.ChangeAt Go.RowKit Go.Joins
set_option linter.unusedVariables false

end Go.Proofs.YtmbphpmabopifaaDoor
/-
  Opening the arguments of the laws.
-/
namespace Go.Proofs.YtmbphpmabopifaaDoor
open Go.ChangeShapes Go.WideShapes Go.ChangeAt Go.RowKit Go.Joins
set_option linter.unusedVariables false

theorem addr_add (b off j : Nat) : (⟨b, off, none⟩ : Addr).add j = ⟨b, off + j, none⟩ := by
  unfold Addr.add
  by_cases h : j = 0
  · subst h; simp
  · simp [h]
/-- A slice of integers that came in. -/
theorem open_row {H : Type} {enc : TypeId × Value → H} {W : World} {a : Option Addr} {len cap : Nat} {d : DataW H} {p : List MemPlace}
    (h : DataW.Trod enc Tryd.prog W 0 (fun _ => true) true 89 (.slice a len cap) d p) : ∃ zs, RowAt W a len zs := by
  obtain ⟨fuel, hf⟩ := h
  rcases open_ints Tryd.underlying89 Tryd.underlying2 (by kernel_rfl) hf with ⟨hcs, _⟩ | ⟨x, l, c, zs, hcs, _, hl, hm, hz, _, hcell, hwz⟩
  · simp [Value.cells] at hcs
    obtain ⟨rfl, rfl, rfl⟩ := hcs
    exact ⟨[], rfl, by omega, fun h => by omega⟩
  · simp [Value.cells] at hcs
    obtain ⟨rfl, rfl, rfl⟩ := hcs
    have hz' : zs.length = cap := by simpa using hz
    unfold maxLen at hm
    refine ⟨zs.take len, by rw [List.length_take]; omega, by omega, fun hn => ?_⟩
    obtain ⟨b, off, spot⟩ := x
    have h0 := hcell 0 (by omega)
    have hspot : spot = none := by simpa [Addr.add] using World.cell?_spot h0
    subst hspot
    refine ⟨b, off, rfl, World.block_lt_of_cell? _ ⟨b, off, none⟩ (by simpa [Addr.add] using h0), fun j hj => ?_⟩
    have := hcell j (by omega)
    rw [addr_add] at this
    rw [gi_take hj]
    exact this
end Go.Proofs.YtmbphpmabopifaaDoor
/-
  Opening a code that comes in, and its copy.
-/
namespace Go.Proofs.YtmbphpmabopifaaDoor
open Go.ChangeShapes Go.WideShapes Go.ChangeAt Go.RowKit Go.Joins
set_option linter.unusedVariables false

theorem BoxC.chg {w w' : World} {lo hi B : Nat} {p pw g l c : Int} (h : BoxC w B p pw g l c) (hc : Chg lo hi w w') (hB : B < lo) : BoxC w' B p pw g l c :=
  h.below (hc.below (Nat.le_refl lo)) hB
theorem code_cells (w w1 : World) (p pw g l c : Int) (t t' : TypeId)
    (hb : Below (((w.alloc (.cells #[.int .i64 p, .int .i64 pw, .int .i64 g, .int .i64 l, .int .i64 c] t)).alloc (.cells #[.int .i64 0, .int .i64 0, .int .i64 0, .int .i64 0, .int .i64 0] t')).alloc (.cells #[.int .i64 0, .int .i64 0, .int .i64 0, .int .i64 0, .int .i64 0] t')).heap.size
      (((w.alloc (.cells #[.int .i64 p, .int .i64 pw, .int .i64 g, .int .i64 l, .int .i64 c] t)).alloc (.cells #[.int .i64 0, .int .i64 0, .int .i64 0, .int .i64 0, .int .i64 0] t')).alloc (.cells #[.int .i64 0, .int .i64 0, .int .i64 0, .int .i64 0, .int .i64 0] t')) w1) :
    w1.cell? ⟨w.heap.size, 3, none⟩ = some (.int .i64 l) ∧ w1.cell? ⟨w.heap.size, 4, none⟩ = some (.int .i64 c) ∧
    (∀ i j, i < 2 → j < 5 → w1.cell? ⟨w.heap.size + 1 + i, j, none⟩ = some (.int .i64 0) ∧ w1.frozen? ⟨w.heap.size + 1 + i, j, none⟩ = false) := by
  have hs := hb.size
  simp at hs
  refine ⟨?_, ?_, fun i j hi hj => ?_⟩
  · rw [hb.cell (by simp; omega)]; simp [go_sem]
  · rw [hb.cell (by simp; omega)]; simp [go_sem]
  · rw [hb.cell (by simp; omega), hb.frozen (by simp; omega)]
    rcases (show i = 0 ∨ i = 1 by omega) with rfl | rfl <;>
      rcases (show j = 0 ∨ j = 1 ∨ j = 2 ∨ j = 3 ∨ j = 4 by omega) with rfl | rfl | rfl | rfl | rfl <;> simp [go_sem]
theorem array5 {α : Type} {cs : Array α} (h : cs.size = 5) : ∃ c0 c1 c2 c3 c4, cs = #[c0, c1, c2, c3, c4] := by
  obtain ⟨l⟩ := cs
  match l, h with
  | [c0, c1, c2, c3, c4], _ => exact ⟨c0, c1, c2, c3, c4, rfl⟩
theorem cells_int : Tryd.prog.cellsOf 2 = 1 := by kernel_rfl
end Go.Proofs.YtmbphpmabopifaaDoor
