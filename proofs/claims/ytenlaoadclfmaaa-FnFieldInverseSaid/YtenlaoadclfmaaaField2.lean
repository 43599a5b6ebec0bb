/-
  More functions of a field: products, negatives, inverses, sizes.
-/
import Derived.Test.YtenlaoadclfmaaaProd
import Derived.Test.YtenlaoadclfmaaaSFs
namespace Go.Proofs.Ytenlaoadclfmaaa
open Go.RowKit
set_option linter.unusedVariables false

noncomputable def fmulR (p pw g x y : Int) : Int := if codeE p pw g [x, y] = 0 then (ffOf p pw g).mul x y else 0
noncomputable def fnegR (p pw g x : Int) : Int := if codeE p pw g [x] = 0 then (ffOf p pw g).neg x else 0
noncomputable def finvR (p pw g x : Int) : Int := if codeE p pw g [x] = 0 ∧ x ≠ 0 then (ffOf p pw g).inv x else 0
noncomputable def finvC (p pw g x : Int) : Int := if codeE p pw g [x] = 0 then (if x = 0 then 5 else 0) else codeE p pw g [x]
theorem implFieldMul_any (p pw g x y : Int) (w : World) :
    Calls Try.prog 34 #[fV p pw g, .int .i64 x, .int .i64 y] w fun e w' => e = .returned (.tuple #[.int .i64 (fmulR p pw g x y), .int .i64 (codeE p pw g [x, y])]) ∧ Below w.heap.size w w' := by
  go_enter Try.func34, Try.ntmps34
  go_wp2_with fail
  have hrow := row_two (w.alloc (.cells #[.int .i64 p, .int .i64 pw, .int .i64 g] 27)) x y 2 (w.heap.size + 1) (by simp)
  refine (elements_any p pw g _ hrow).mono ?_
  rintro e w1 ⟨v, rfl, hb1, hcal⟩
  have hb : Below w.heap.size w w1 := ((below1 _ _).alloc (by simp) _).trans (hb1.mono (by simp; omega))
  have HB := Lib.hid hb
  have HCAL := Lib.hid hcal
  clear hb1 hb hrow hcal
  by_cases hc : codeE p pw g [x, y] = 0
  · have hne : (codeE p pw g [x, y] != 0) = false := by simp [hc]
    obtain ⟨hv, hz⟩ := codeE_zero hc
    obtain ⟨b, rfl, _, hcl⟩ := HCAL.out hc
    have hf := Lib.hid (show fmulR p pw g x y = (ffOf p pw g).mul x y by unfold fmulR; rw [if_pos hc])
    have HC := Lib.hid hc
    clear hc
    go_wp2_with fail
    refine (mul_any hcl x y (hz x (by simp)) (hz y (by simp))).mono ?_
    rintro e w2 ⟨rfl, q, rfl⟩
    go_wp2_with fail
    go_ret2
    exact ⟨by rw [hf.out, HC.out]; rfl, below_drewN HB.out q⟩
  · have hne : (codeE p pw g [x, y] != 0) = true := by simp [hc]
    have hf := Lib.hid (show fmulR p pw g x y = 0 by unfold fmulR; rw [if_neg hc])
    clear hc
    go_wp2_with fail
    go_ret2
    exact ⟨by rw [hf.out]; rfl, HB.out⟩
theorem implFieldNeg_any (p pw g x : Int) (w : World) :
    Calls Try.prog 44 #[fV p pw g, .int .i64 x] w fun e w' => e = .returned (.tuple #[.int .i64 (fnegR p pw g x), .int .i64 (codeE p pw g [x])]) ∧ Below w.heap.size w w' := by
  go_enter Try.func44, Try.ntmps44
  go_wp2_with fail
  have hrow := row_one (w.alloc (.cells #[.int .i64 p, .int .i64 pw, .int .i64 g] 27)) x 2 (w.heap.size + 1) (by simp)
  refine (elements_any p pw g _ hrow).mono ?_
  rintro e w1 ⟨v, rfl, hb1, hcal⟩
  have hb : Below w.heap.size w w1 := ((below1 _ _).alloc (by simp) _).trans (hb1.mono (by simp; omega))
  have HB := Lib.hid hb
  have HCAL := Lib.hid hcal
  clear hb1 hb hrow hcal
  by_cases hc : codeE p pw g [x] = 0
  · have hne : (codeE p pw g [x] != 0) = false := by simp [hc]
    obtain ⟨hv, hz⟩ := codeE_zero hc
    obtain ⟨b, rfl, _, hcl⟩ := HCAL.out hc
    have hf := Lib.hid (show fnegR p pw g x = (ffOf p pw g).neg x by unfold fnegR; rw [if_pos hc])
    have HC := Lib.hid hc
    clear hc
    go_wp2_with fail
    refine (neg_any hcl x (hz x (by simp))).mono ?_
    rintro e w2 ⟨rfl, rfl⟩
    go_wp2_with fail
    go_ret2
    exact ⟨by rw [hf.out, HC.out]; rfl, HB.out⟩
  · have hne : (codeE p pw g [x] != 0) = true := by simp [hc]
    have hf := Lib.hid (show fnegR p pw g x = 0 by unfold fnegR; rw [if_neg hc])
    clear hc
    go_wp2_with fail
    go_ret2
    exact ⟨by rw [hf.out]; rfl, HB.out⟩
theorem implFieldInv_any (p pw g x : Int) (w : World) :
    Calls Try.prog 40 #[fV p pw g, .int .i64 x] w fun e w' => e = .returned (.tuple #[.int .i64 (finvR p pw g x), .int .i64 (finvC p pw g x)]) ∧ Below w.heap.size w w' := by
  go_enter Try.func40, Try.ntmps40
  go_wp2_with fail
  have hrow := row_one (w.alloc (.cells #[.int .i64 p, .int .i64 pw, .int .i64 g] 27)) x 2 (w.heap.size + 1) (by simp)
  refine (elements_any p pw g _ hrow).mono ?_
  rintro e w1 ⟨v, rfl, hb1, hcal⟩
  have hb : Below w.heap.size w w1 := ((below1 _ _).alloc (by simp) _).trans (hb1.mono (by simp; omega))
  have HB := Lib.hid hb
  have HCAL := Lib.hid hcal
  clear hb1 hb hrow hcal
  by_cases hc : codeE p pw g [x] = 0
  · have hne : (codeE p pw g [x] != 0) = false := by simp [hc]
    obtain ⟨hv, hz⟩ := codeE_zero hc
    obtain ⟨b, rfl, _, hcl⟩ := HCAL.out hc
    by_cases h0 : x = 0
    · have hx0 : (x == 0) = true := by simp [h0]
      have hf := Lib.hid (show finvR p pw g x = 0 by unfold finvR; rw [if_neg (fun h => h.2 h0)])
      have hf2 := Lib.hid (show finvC p pw g x = 5 by unfold finvC; rw [if_pos hc, if_pos h0])
      clear hc h0
      go_wp2_with fail
      go_ret2
      exact ⟨by rw [hf.out, hf2.out]; rfl, HB.out⟩
    · have hx0 : (x == 0) = false := by simp [h0]
      have hf := Lib.hid (show finvR p pw g x = (ffOf p pw g).inv x by unfold finvR; rw [if_pos ⟨hc, h0⟩])
      have hf2 := Lib.hid (show finvC p pw g x = 0 by unfold finvC; rw [if_pos hc, if_neg h0])
      have HI := Lib.hid (inv_any hcl x (hz x (by simp)) h0)
      clear hc h0
      go_wp2_with fail
      refine HI.out.mono ?_
      rintro e w2 ⟨rfl, q, rfl⟩
      have HB2 := Lib.hid (below_drewN HB.out q)
      go_wp2_with fail
      go_ret2
      exact ⟨by rw [hf.out, hf2.out]; rfl, HB2.out⟩
  · have hne : (codeE p pw g [x] != 0) = true := by simp [hc]
    have hf := Lib.hid (show finvR p pw g x = 0 by unfold finvR; rw [if_neg (fun h => hc h.1)])
    have hf2 := Lib.hid (show finvC p pw g x = codeE p pw g [x] by unfold finvC; rw [if_neg hc])
    clear hc
    go_wp2_with fail
    go_ret2
    exact ⟨by rw [hf.out, hf2.out]; rfl, HB.out⟩
theorem specFieldInv_any (p pw g x : Int) (w : World) :
    Calls Try.prog 41 #[fV p pw g, .int .i64 x] w fun e w' => e = .returned (.tuple #[.int .i64 (finvR p pw g x), .int .i64 (finvC p pw g x)]) ∧ Below w.heap.size w w' := by
  go_enter Try.func41, Try.ntmps41
  go_wp2_with fail
  have hrow := row_one (w.alloc (.cells #[.int .i64 p, .int .i64 pw, .int .i64 g] 27)) x 2 (w.heap.size + 1) (by simp)
  refine (l02Code_any p pw g _ hrow).mono ?_
  rintro e w1 ⟨rfl, hb1⟩
  have hb : Below w.heap.size w w1 := ((below1 _ _).alloc (by simp) _).trans (hb1.mono (by simp; omega))
  have HB := Lib.hid hb
  have hX := ((box_new w p pw g 27).below (Below.refl (w.heap.size + 1) _) (by simp))
  have hX1 := (hX.below ((Below.refl _ _).alloc (Nat.le_refl _) (.cells #[.int .i64 x] 2)) (by simp)).below hb1 (by simp; omega)
  obtain ⟨hlt, c0, c1, c2⟩ := hX1
  clear hb1 hb hX hrow
  by_cases hc : codeE p pw g [x] = 0
  · have hne : (codeE p pw g [x] != 0) = false := by simp [hc]
    obtain ⟨hv, hz⟩ := codeE_zero hc
    by_cases h0 : x = 0
    · have hx0 : (x == 0) = true := by simp [h0]
      have hf := Lib.hid (show finvR p pw g x = 0 by unfold finvR; rw [if_neg (fun h => h.2 h0)])
      have hf2 := Lib.hid (show finvC p pw g x = 5 by unfold finvC; rw [if_pos hc, if_pos h0])
      clear hc h0
      go_wp2_with fail
      go_ret2
      exact ⟨by rw [hf.out, hf2.out]; rfl, HB.out⟩
    · have hx0 : (x == 0) = false := by simp [h0]
      have hf := Lib.hid (show finvR p pw g x = (ffOf p pw g).inv x by unfold finvR; rw [if_pos ⟨hc, h0⟩])
      have hf2 := Lib.hid (show finvC p pw g x = 0 by unfold finvC; rw [if_pos hc, if_neg h0])
      have HI := Lib.hid (fun W => (SF.of hv).inv x (hz x (by simp)) h0 W)
      clear hc h0
      go_wp2_with fail
      refine (HI.out _).mono ?_
      rintro e w2 ⟨rfl, hb2⟩
      have HB2 := Lib.hid (HB.out.trans (hb2.mono HB.out.size))
      clear hb2
      go_wp2_with fail
      go_ret2
      exact ⟨by rw [hf.out, hf2.out]; rfl, HB2.out⟩
  · have hne : (codeE p pw g [x] != 0) = true := by simp [hc]
    have hf := Lib.hid (show finvR p pw g x = 0 by unfold finvR; rw [if_neg (fun h => hc h.1)])
    have hf2 := Lib.hid (show finvC p pw g x = codeE p pw g [x] by unfold finvC; rw [if_neg hc])
    clear hc
    go_wp2_with fail
    go_ret2
    exact ⟨by rw [hf.out, hf2.out]; rfl, HB.out⟩
theorem implIsField_any (p pw g : Int) (w : World) :
    Calls Try.prog 42 #[fV p pw g] w fun e w' => e = .returned (.bool (validB p pw g)) ∧ Below w.heap.size w w' := by
  go_enter Try.func42, Try.ntmps42
  go_wp2_with fail
  refine (calc_any p pw g _).mono ?_
  rintro e w1 ⟨v, rfl, hb1, hcal⟩
  have HB := Lib.hid ((below1 w (.cells #[.int .i64 p, .int .i64 pw, .int .i64 g] 27)).trans (hb1.mono (by simp)))
  clear hb1 hcal
  go_wp2_with fail
  go_ret
  exact ⟨rfl, HB.out⟩
noncomputable def sizeR (p pw g : Int) : Int := if validB p pw g = true then (ffOf p pw g).size else 0
theorem sizeR_bd (p pw g : Int) : 0 ≤ sizeR p pw g ∧ sizeR p pw g ≤ 1021 := by
  unfold sizeR; split
  · rename_i h; have := (ffOf_ok h).lo; have := (ffOf_ok h).hi; omega
  · omega
theorem specFieldSize_any (p pw g : Int) (w : World) :
    Calls Try.prog 33 #[fV p pw g] w fun e w' => e = .returned (.int .i64 (sizeR p pw g)) ∧ Below w.heap.size w w' := by
  go_enter Try.func33, Try.ntmps33
  go_wp2_with fail
  refine (isField_any p pw g _).mono ?_
  rintro e w1 ⟨rfl, hb1⟩
  have HB := Lib.hid ((below1 w (.cells #[.int .i64 p, .int .i64 pw, .int .i64 g] 27)).trans (hb1.mono (by simp)))
  have HX := (box_new w p pw g 27).below hb1 (by simp)
  obtain ⟨hlt, c0, c1, c2⟩ := HX
  clear hb1
  cases hv : validB p pw g
  · have hf := Lib.hid (show sizeR p pw g = 0 by unfold sizeR; rw [hv]; rfl)
    go_wp2_with fail
    go_ret
    exact ⟨ret_int hf.out.symm, HB.out⟩
  · have hf := Lib.hid (show sizeR p pw g = (ffOf p pw g).size by unfold sizeR; rw [if_pos hv])
    have HS := Lib.hid (fun W => l02Size_any p pw g W (ranged_of hv))
    clear hv
    go_wp2_with fail
    refine (HS.out _).mono ?_
    rintro e w2 ⟨rfl, hb2⟩
    have HB2 := Lib.hid (HB.out.trans (hb2.mono HB.out.size))
    clear hb2
    go_wp2_with fail
    go_ret
    exact ⟨ret_int hf.out.symm, HB2.out⟩
end Go.Proofs.Ytenlaoadclfmaaa
