/-
  More functions of a field: products, negatives, inverses, sizes.
-/
import Derived.Test.YthbiieflmmnfcaaProd
import Derived.Test.YthbiieflmmnfcaaSFs
namespace Go.Proofs.Ythbiieflmmnfcaa
open Go.RowKit
set_option linter.unusedVariables false

noncomputable def fmulR (p pw g x y : Int) : Int := if codeE p pw g [x, y] = 0 then (ffOf p pw g).mul x y else 0
noncomputable def fnegR (p pw g x : Int) : Int := if codeE p pw g [x] = 0 then (ffOf p pw g).neg x else 0
noncomputable def finvR (p pw g x : Int) : Int := if codeE p pw g [x] = 0 ∧ x ≠ 0 then (ffOf p pw g).inv x else 0
noncomputable def finvC (p pw g x : Int) : Int := if codeE p pw g [x] = 0 then (if x = 0 then 5 else 0) else codeE p pw g [x]
noncomputable def sizeR (p pw g : Int) : Int := if validB p pw g = true then (ffOf p pw g).size else 0
theorem sizeR_bd (p pw g : Int) : 0 ≤ sizeR p pw g ∧ sizeR p pw g ≤ 1021 := by
  unfold sizeR; split
  · rename_i h; have := (ffOf_ok h).lo; have := (ffOf_ok h).hi; omega
  · omega
theorem specFieldSize_any (p pw g : Int) (w : World) :
    Calls Try.prog 28 #[fV p pw g] w fun e w' => e = .returned (.int .i64 (sizeR p pw g)) ∧ Below w.heap.size w w' := by
  go_enter Try.func28, Try.ntmps28
  go_wp2_with fail
  refine (isField_any p pw g _).mono ?_
  rintro e w1 ⟨rfl, hb1⟩
  have HB := Lib.hid ((below1 w (.cells #[.int .i64 p, .int .i64 pw, .int .i64 g] 29)).trans (hb1.mono (by simp)))
  have HX := (box_new w p pw g 29).below hb1 (by simp)
  obtain ⟨hlt, c0, c1, c2⟩ := HX
  clear hb1
  cases hv : validB p pw g
  · have hf := Lib.hid (show sizeR p pw g = 0 by unfold sizeR; rw [hv]; rfl)
    go_wp2_with fail
    go_ret
    exact ⟨ret_int hf.out.symm, HB.out⟩
  · have hf := Lib.hid (show sizeR p pw g = (ffOf p pw g).size by unfold sizeR; rw [if_pos hv])
    have HS := Lib.hid (fun W => l02Size_any p pw g W (ranged_of hv))
    clear hv
    go_wp2_with fail
    refine (HS.out _).mono ?_
    rintro e w2 ⟨rfl, hb2⟩
    have HB2 := Lib.hid (HB.out.trans (hb2.mono HB.out.size))
    clear hb2
    go_wp2_with fail
    go_ret
    exact ⟨ret_int hf.out.symm, HB2.out⟩
end Go.Proofs.Ythbiieflmmnfcaa
