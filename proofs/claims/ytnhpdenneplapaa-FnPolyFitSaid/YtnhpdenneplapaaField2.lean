/-
  More functions of a field: products, negatives, inverses, sizes.
-/
import Derived.Test.YtnhpdenneplapaaProd
import Derived.Test.YtnhpdenneplapaaSFs
namespace Go.Proofs.Ytnhpdenneplapaa
open Go.RowKit
set_option linter.unusedVariables false

noncomputable def fmulR (p pw g x y : Int) : Int := if codeE p pw g [x, y] = 0 then (ffOf p pw g).mul x y else 0
noncomputable def fnegR (p pw g x : Int) : Int := if codeE p pw g [x] = 0 then (ffOf p pw g).neg x else 0
noncomputable def finvR (p pw g x : Int) : Int := if codeE p pw g [x] = 0 ∧ x ≠ 0 then (ffOf p pw g).inv x else 0
noncomputable def finvC (p pw g x : Int) : Int := if codeE p pw g [x] = 0 then (if x = 0 then 5 else 0) else codeE p pw g [x]
theorem implFieldMul_any (p pw g x y : Int) (w : World) :
    Calls Try.prog 48 #[fV p pw g, .int .i64 x, .int .i64 y] w fun e w' => e = .returned (.tuple #[.int .i64 (fmulR p pw g x y), .int .i64 (codeE p pw g [x, y])]) ∧ Below w.heap.size w w' := by
  go_enter Try.func48, Try.ntmps48
  go_wp2_with fail
  have hrow := row_two (w.alloc (.cells #[.int .i64 p, .int .i64 pw, .int .i64 g] 25)) x y 2 (w.heap.size + 1) (by simp)
  refine (elements_any p pw g _ hrow).mono ?_
  rintro e w1 ⟨v, rfl, hb1, hcal⟩
  have hb : Below w.heap.size w w1 := ((below1 _ _).alloc (by simp) _).trans (hb1.mono (by simp; omega))
  have HB := Lib.hid hb
  have HCAL := Lib.hid hcal
  clear hb1 hb hrow hcal
  by_cases hc : codeE p pw g [x, y] = 0
  · have hne : (codeE p pw g [x, y] != 0) = false := by simp [hc]
    obtain ⟨hv, hz⟩ := codeE_zero hc
    obtain ⟨b, rfl, _, hcl⟩ := HCAL.out hc
    have hf := Lib.hid (show fmulR p pw g x y = (ffOf p pw g).mul x y by unfold fmulR; rw [if_pos hc])
    have HC := Lib.hid hc
    clear hc
    go_wp2_with fail
    refine (mul_any hcl x y (hz x (by simp)) (hz y (by simp))).mono ?_
    rintro e w2 ⟨rfl, q, rfl⟩
    go_wp2_with fail
    go_ret2
    exact ⟨by rw [hf.out, HC.out]; rfl, below_drewN HB.out q⟩
  · have hne : (codeE p pw g [x, y] != 0) = true := by simp [hc]
    have hf := Lib.hid (show fmulR p pw g x y = 0 by unfold fmulR; rw [if_neg hc])
    clear hc
    go_wp2_with fail
    go_ret2
    exact ⟨by rw [hf.out]; rfl, HB.out⟩
noncomputable def sizeR (p pw g : Int) : Int := if validB p pw g = true then (ffOf p pw g).size else 0
theorem sizeR_bd (p pw g : Int) : 0 ≤ sizeR p pw g ∧ sizeR p pw g ≤ 1021 := by
  unfold sizeR; split
  · rename_i h; have := (ffOf_ok h).lo; have := (ffOf_ok h).hi; omega
  · omega
theorem specFieldSize_any (p pw g : Int) (w : World) :
    Calls Try.prog 114 #[fV p pw g] w fun e w' => e = .returned (.int .i64 (sizeR p pw g)) ∧ Below w.heap.size w w' := by
  go_enter Try.func114, Try.ntmps114
  go_wp2_with fail
  refine (isField_any p pw g _).mono ?_
  rintro e w1 ⟨rfl, hb1⟩
  have HB := Lib.hid ((below1 w (.cells #[.int .i64 p, .int .i64 pw, .int .i64 g] 25)).trans (hb1.mono (by simp)))
  have HX := (box_new w p pw g 25).below hb1 (by simp)
  obtain ⟨hlt, c0, c1, c2⟩ := HX
  clear hb1
  cases hv : validB p pw g
  · have hf := Lib.hid (show sizeR p pw g = 0 by unfold sizeR; rw [hv]; rfl)
    go_wp2_with fail
    go_ret
    exact ⟨ret_int hf.out.symm, HB.out⟩
  · have hf := Lib.hid (show sizeR p pw g = (ffOf p pw g).size by unfold sizeR; rw [if_pos hv])
    have HS := Lib.hid (fun W => l02Size_any p pw g W (ranged_of hv))
    clear hv
    go_wp2_with fail
    refine (HS.out _).mono ?_
    rintro e w2 ⟨rfl, hb2⟩
    have HB2 := Lib.hid (HB.out.trans (hb2.mono HB.out.size))
    clear hb2
    go_wp2_with fail
    go_ret
    exact ⟨ret_int hf.out.symm, HB2.out⟩
end Go.Proofs.Ytnhpdenneplapaa
