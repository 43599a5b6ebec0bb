/-
  The parts LawFieldAdd, Frame, FrameCode.
-/
import Derived.Test.YthbiieflmmnfcaaLanes
import Derived.Test.YthbiieflmmnfcaaRows
import Derived.ProofKit
import Derived.OpenShut
import Derived.ChangeOld
import Derived.Lib.SmallJoins
import Derived.Carry
import Derived.Test.YthbiieflmmnfcaaCodes
import Derived.Test.YthbiieflmmnfcaaOwns
import Derived.Deep.Strs
/-
  FieldAdd of the program and FieldAdd of the reference agree at every field and all numbers. No condition.
-/
namespace Go.Proofs.Ythbiieflmmnfcaa
open Go.ChangeShapes Go.WideShapes Go.ChangeAt Go.RowKit Go.Joins
set_option linter.unusedVariables false

theorem toField_any (p pw g : Int) (w : World) :
    Calls Try.prog 72 #[fV p pw g] w fun e w' => e = .returned (fV p pw g) ∧ Below w.heap.size w w' := by
  go_enter Try.func72, Try.ntmps72
  go_wp2
  exact bodyPost_ret (v := fV p pw g) (by simp [results, Try.results72, go_sem]) rfl ⟨rfl, ((below1 _ _).alloc (by simp) _).alloc (by simp; omega) _⟩
end Go.Proofs.Ythbiieflmmnfcaa
/-
  Opening the arguments of the laws.
-/
namespace Go.Proofs.Ythbiieflmmnfcaa
open Go.ChangeShapes Go.WideShapes Go.ChangeAt Go.RowKit Go.Joins
set_option linter.unusedVariables false

theorem addr_add (b off j : Nat) : (⟨b, off, none⟩ : Addr).add j = ⟨b, off + j, none⟩ := by
  unfold Addr.add
  by_cases h : j = 0
  · subst h; simp
  · simp [h]
/-- A slice of integers that came in. -/
theorem open_row {H : Type} {enc : TypeId × Value → H} {W : World} {a : Option Addr} {len cap : Nat} {d : DataW H} {p : List MemPlace}
    (h : DataW.Trod enc Try.prog W 0 (fun _ => true) true 26 (.slice a len cap) d p) : ∃ zs, RowAt W a len zs := by
  obtain ⟨fuel, hf⟩ := h
  rcases open_ints Try.underlying26 Try.underlying2 (by kernel_rfl) hf with ⟨hcs, _⟩ | ⟨x, l, c, zs, hcs, _, hl, hm, hz, _, hcell, hwz⟩
  · simp [Value.cells] at hcs
    obtain ⟨rfl, rfl, rfl⟩ := hcs
    exact ⟨[], rfl, by omega, fun h => by omega⟩
  · simp [Value.cells] at hcs
    obtain ⟨rfl, rfl, rfl⟩ := hcs
    have hz' : zs.length = cap := by simpa using hz
    unfold maxLen at hm
    refine ⟨zs.take len, by rw [List.length_take]; omega, by omega, fun hn => ?_⟩
    obtain ⟨b, off, spot⟩ := x
    have h0 := hcell 0 (by omega)
    have hspot : spot = none := by simpa [Addr.add] using World.cell?_spot h0
    subst hspot
    refine ⟨b, off, rfl, World.block_lt_of_cell? _ ⟨b, off, none⟩ (by simpa [Addr.add] using h0), fun j hj => ?_⟩
    have := hcell j (by omega)
    rw [addr_add] at this
    rw [gi_take hj]
    exact this
end Go.Proofs.Ythbiieflmmnfcaa
/-
  Opening a code that comes in, and its copy.
-/
namespace Go.Proofs.Ythbiieflmmnfcaa
open Go.ChangeShapes Go.WideShapes Go.ChangeAt Go.RowKit Go.Joins
set_option linter.unusedVariables false

theorem BoxC.chg {w w' : World} {lo hi B : Nat} {p pw g l c : Int} (h : BoxC w B p pw g l c) (hc : Chg lo hi w w') (hB : B < lo) : BoxC w' B p pw g l c :=
  h.below (hc.below (Nat.le_refl lo)) hB
theorem code_cells (w w1 : World) (p pw g l c : Int) (t t' : TypeId)
    (hb : Below (((w.alloc (.cells #[.int .i64 p, .int .i64 pw, .int .i64 g, .int .i64 l, .int .i64 c] t)).alloc (.cells #[.int .i64 0, .int .i64 0, .int .i64 0, .int .i64 0, .int .i64 0] t')).alloc (.cells #[.int .i64 0, .int .i64 0, .int .i64 0, .int .i64 0, .int .i64 0] t')).heap.size
      (((w.alloc (.cells #[.int .i64 p, .int .i64 pw, .int .i64 g, .int .i64 l, .int .i64 c] t)).alloc (.cells #[.int .i64 0, .int .i64 0, .int .i64 0, .int .i64 0, .int .i64 0] t')).alloc (.cells #[.int .i64 0, .int .i64 0, .int .i64 0, .int .i64 0, .int .i64 0] t')) w1) :
    w1.cell? ⟨w.heap.size, 3, none⟩ = some (.int .i64 l) ∧ w1.cell? ⟨w.heap.size, 4, none⟩ = some (.int .i64 c) ∧
    (∀ i j, i < 2 → j < 5 → w1.cell? ⟨w.heap.size + 1 + i, j, none⟩ = some (.int .i64 0) ∧ w1.frozen? ⟨w.heap.size + 1 + i, j, none⟩ = false) := by
  have hs := hb.size
  simp at hs
  refine ⟨?_, ?_, fun i j hi hj => ?_⟩
  · rw [hb.cell (by simp; omega)]; simp [go_sem]
  · rw [hb.cell (by simp; omega)]; simp [go_sem]
  · rw [hb.cell (by simp; omega), hb.frozen (by simp; omega)]
    rcases (show i = 0 ∨ i = 1 by omega) with rfl | rfl <;>
      rcases (show j = 0 ∨ j = 1 ∨ j = 2 ∨ j = 3 ∨ j = 4 by omega) with rfl | rfl | rfl | rfl | rfl <;> simp [go_sem]
set_option maxRecDepth 10000 in
theorem toCode_any (p pw g l c : Int) (w : World) :
    Calls Try.prog 58 #[cV p pw g l c] w fun e w' => e = .returned (cV p pw g l c) ∧ Below w.heap.size w w' := by
  go_enter Try.func58, Try.ntmps58
  go_wp2_with fail
  refine (toField_any p pw g _).mono ?_
  rintro e w1 ⟨rfl, hb1⟩
  have hb := Lib.hid (((((below1 w _).alloc (by simp) _).alloc (by simp; omega) _).trans (hb1.mono (by simp; omega)) : Below w.heap.size w w1))
  obtain ⟨c3, c4, hz⟩ := code_cells w w1 p pw g l c _ _ hb1
  obtain ⟨q00, f00⟩ := hz 0 0 (by omega) (by omega)
  obtain ⟨q01, f01⟩ := hz 0 1 (by omega) (by omega)
  obtain ⟨q02, f02⟩ := hz 0 2 (by omega) (by omega)
  obtain ⟨q03, f03⟩ := hz 0 3 (by omega) (by omega)
  obtain ⟨q04, f04⟩ := hz 0 4 (by omega) (by omega)
  obtain ⟨q10, f10⟩ := hz 1 0 (by omega) (by omega)
  obtain ⟨q11, f11⟩ := hz 1 1 (by omega) (by omega)
  obtain ⟨q12, f12⟩ := hz 1 2 (by omega) (by omega)
  obtain ⟨q13, f13⟩ := hz 1 3 (by omega) (by omega)
  obtain ⟨q14, f14⟩ := hz 1 4 (by omega) (by omega)
  simp only [Nat.add_zero] at q00 f00 q01 f01 q02 f02 q03 f03 q04 f04
  clear hz hb1
  go_wp2_with fail
  exact bodyPost_ret (v := cV p pw g l c) (by simp [results, Try.results58, go_sem, *]) rfl ⟨rfl, ((((((((((hb.out.setCell (p := ⟨w.heap.size + 1 + 1, 0, none⟩) (by simp; omega) _).setCell (p := ⟨w.heap.size + 1 + 1, 1, none⟩) (by simp; omega) _).setCell (p := ⟨w.heap.size + 1 + 1, 2, none⟩) (by simp; omega) _).setCell (p := ⟨w.heap.size + 1 + 1, 3, none⟩) (by simp; omega) _).setCell (p := ⟨w.heap.size + 1 + 1, 4, none⟩) (by simp; omega) _).setCell (p := ⟨w.heap.size + 1, 0, none⟩) (by simp) _).setCell (p := ⟨w.heap.size + 1, 1, none⟩) (by simp) _).setCell (p := ⟨w.heap.size + 1, 2, none⟩) (by simp) _).setCell (p := ⟨w.heap.size + 1, 3, none⟩) (by simp) _).setCell (p := ⟨w.heap.size + 1, 4, none⟩) (by simp) _)⟩
theorem array5 {α : Type} {cs : Array α} (h : cs.size = 5) : ∃ c0 c1 c2 c3 c4, cs = #[c0, c1, c2, c3, c4] := by
  obtain ⟨l⟩ := cs
  match l, h with
  | [c0, c1, c2, c3, c4], _ => exact ⟨c0, c1, c2, c3, c4, rfl⟩
theorem cells_code : Try.prog.cellsOf 77 = 5 := by kernel_rfl
theorem cells_field : Try.prog.cellsOf 23 = 3 := by kernel_rfl
theorem cells_int : Try.prog.cellsOf 2 = 1 := by kernel_rfl
set_option maxRecDepth 100000 in
theorem open_code {H : Type} {enc : TypeId × Value → H} {W : World} {r : Reach} {b0 : Nat} {v : Value} {d : DataW H} {p : List MemPlace}
    (hv : Value.okWide Try.prog W r b0 77 v) (h : DataW.Trod enc Try.prog W 0 (fun _ => true) true 77 v d p) :
    ∃ a0 a1 a2 a3 a4 : Int, v = cV a0 a1 a2 a3 a4 ∧ (Lit.int .i64 a0).wf = true ∧ (Lit.int .i64 a1).wf = true ∧ (Lit.int .i64 a2).wf = true ∧ (Lit.int .i64 a3).wf = true ∧ (Lit.int .i64 a4).wf = true := by
  obtain ⟨cs, rfl, hsz⟩ := okWide_struct Try.underlying77 hv
  obtain ⟨c0, c1, c2, c3, c4, rfl⟩ := array5 (hsz.trans cells_code)
  obtain ⟨fuel, hf⟩ := h
  obtain ⟨y0, y1, y2, n, hx, _, h0, h1, h2⟩ := Go.Deep.trod_struct3 Try.underlying77 hf
  simp only [cells_field, cells_int, Value.cells, List.drop_zero, List.take_succ_cons, List.take_zero, List.drop_succ_cons] at h0 h1 h2
  obtain ⟨z0, z1, z2, m, _, _, g0, g1, g2⟩ := Go.Deep.trod_struct3 Try.underlying23 h0
  simp only [cells_int, List.drop_zero, List.take_succ_cons, List.take_zero, List.drop_succ_cons] at g0 g1 g2
  obtain ⟨a0, e0, _, w0⟩ := DataW.trod_int Try.underlying2 g0
  obtain ⟨a1, e1, _, w1⟩ := DataW.trod_int Try.underlying2 g1
  obtain ⟨a2, e2, _, w2⟩ := DataW.trod_int Try.underlying2 g2
  obtain ⟨a3, e3, _, w3⟩ := DataW.trod_int Try.underlying2 h1
  obtain ⟨a4, e4, _, w4⟩ := DataW.trod_int Try.underlying2 h2
  simp only [List.cons.injEq, and_true] at e0 e1 e2 e3 e4
  subst e0 e1 e2 e3 e4
  exact ⟨a0, a1, a2, a3, a4, rfl, w0, w1, w2, w3, w4⟩
end Go.Proofs.Ythbiieflmmnfcaa
