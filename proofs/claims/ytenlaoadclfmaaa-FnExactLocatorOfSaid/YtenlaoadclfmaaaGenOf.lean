/-
  The walks of the two GeneratorOf.
-/
import Derived.Test.YtenlaoadclfmaaaGenerator
namespace Go.Proofs.Ytenlaoadclfmaaa
open Go.RowKit
set_option linter.unusedVariables false

open Classical in
noncomputable def onC (p pw g l c : Int) (f : VF → List Int) : List Int := if h : validC p pw g l c = true then f (vfOf p pw g (validC_iff h).1) else []
theorem onC_no {p pw g l c : Int} {f : VF → List Int} (h : validC p pw g l c = false) : onC p pw g l c f = [] := by unfold onC; rw [dif_neg (by simp [h])]
theorem validC_V {p pw g l c : Int} (h : validC p pw g l c = true) : ∃ V : VF, SC V p pw g l c ∧ ∀ f, onC p pw g l c f = f V :=
  ⟨_, SC.of h, fun f => by unfold onC; rw [dif_pos h]⟩
noncomputable def validI (p pw g l c : Int) : Int := if validC p pw g l c = true then 0 else 1
theorem codeC_nil (p pw g l c : Int) : codeC p pw g l c [] = validI p pw g l c := by
  unfold codeC validI wordsB; simp
noncomputable def genR (p pw g l c : Int) : List Int := onC p pw g l c fun V => VF.lst V (genF V c.toNat)
theorem genR_len (p pw g l c : Int) : (genR p pw g l c).length ≤ 1048576 := by
  unfold genR
  cases h : validC p pw g l c
  · rw [onC_no h]; simp
  · obtain ⟨V, _, hf⟩ := validC_V h
    rw [hf]
    obtain ⟨_, _, hc, _⟩ := validC_iff h
    have := genF_len V c.toNat (by omega)
    omega
theorem specGeneratorOf_any (p pw g l c : Int) (w : World) :
    Calls Try.prog 37 #[cV p pw g l c] w fun e w' => ∃ v, e = .returned (.tuple #[v, .int .i64 (validI p pw g l c)]) ∧ Below w.heap.size w w' ∧ ResL w w' v (genR p pw g l c) := by
  go_enter Try.func37, Try.ntmps37
  go_wp2_with fail
  refine (isCode_any p pw g l c _).mono ?_
  rintro e w1 ⟨rfl, hb1⟩
  have HB := Lib.hid ((below1 w _).trans (hb1.mono (by simp)))
  have HX := Lib.hid ((boxC_new w p pw g l c CT).below hb1 (by simp))
  clear hb1
  cases h : validC p pw g l c
  · have hf0 := Lib.hid (show validI p pw g l c = 1 by unfold validI; rw [h]; rfl)
    have hf1 := Lib.hid (show genR p pw g l c = [] from onC_no h)
    go_wp2_with fail
    go_ret2
    exact ⟨_, by rw [hf0.out]; rfl, HB.out, by rw [hf1.out]; exact ResL.none _ _⟩
  · have hf0 := Lib.hid (show validI p pw g l c = 0 by unfold validI; rw [h]; rfl)
    obtain ⟨V, hs, hon⟩ := validC_V h
    have hf1 := Lib.hid (show genR p pw g l c = _ from hon _)
    have HG := Lib.hid (fun W => l04Generator_any hs W)
    obtain ⟨_, c0, c1, c2, c3, c4⟩ := HX.out
    clear hon
    go_wp2_with fail
    refine (HG.out _).mono ?_
    rintro e w2 ⟨v, rfl, hb2, ho2⟩
    have HB2 := Lib.hid (HB.out.trans (hb2.mono HB.out.size))
    have HO2 := Lib.hid (show ResL w w2 v (genR p pw g l c) by rw [hf1.out]; exact ho2.res HB.out.size)
    clear hb2 ho2
    go_wp2_with fail
    go_ret2
    exact ⟨_, by rw [hf0.out]; rfl, HB2.out, HO2.out⟩
theorem implGeneratorOf_any (p pw g l c : Int) (w : World) :
    Calls Try.prog 38 #[cV p pw g l c] w fun e w' => ∃ v, e = .returned (.tuple #[v, .int .i64 (validI p pw g l c)]) ∧ Below w.heap.size w w' ∧ ResL w w' v (genR p pw g l c) := by
  have ec := Lib.hid (codeC_nil p pw g l c)
  go_enter Try.func38, Try.ntmps38
  go_wp2_with fail
  refine (words_any p pw g l c _ (rows_none _ none)).mono ?_
  rintro e w1 ⟨v, rfl, hb1, hcod⟩
  rw [ec.out] at hcod ⊢
  have HB := Lib.hid ((below1 w _).trans (hb1.mono (by simp)))
  have HCOD := Lib.hid hcod
  clear hb1 hcod
  cases h : validC p pw g l c
  · have e1 : validI p pw g l c = 1 := by unfold validI; rw [h]; rfl
    have hf0 := Lib.hid e1
    have hcn : (validI p pw g l c != 0) = true := by rw [e1]; rfl
    have hf1 := Lib.hid (show genR p pw g l c = [] from onC_no h)
    clear e1
    go_wp2_with fail
    go_ret2
    exact ⟨_, rfl, HB.out, by rw [hf1.out]; exact ResL.none _ _⟩
  · have e1 : validI p pw g l c = 0 := by unfold validI; rw [h]; rfl
    have hf0 := Lib.hid e1
    have hcn : (validI p pw g l c != 0) = false := by rw [e1]; rfl
    obtain ⟨b, rfl, _, hcod⟩ := HCOD.out e1
    obtain ⟨V, hs, hon⟩ := validC_V h
    have hf1 := Lib.hid (show genR p pw g l c = _ from hon _)
    have HG := Lib.hid (generator_any hs hcod)
    clear hon e1 hcod
    go_wp2_with fail
    refine HG.out.mono ?_
    rintro e w2 ⟨v, rfl, hb2, ho2⟩
    have HB2 := Lib.hid (HB.out.trans (hb2.mono HB.out.size))
    have HO2 := Lib.hid (show ResL w w2 v (genR p pw g l c) by rw [hf1.out]; exact ho2.res HB.out.size)
    clear hb2 ho2
    go_wp2_with fail
    go_ret2
    exact ⟨_, by rw [hf0.out]; rfl, HB2.out, HO2.out⟩
end Go.Proofs.Ytenlaoadclfmaaa
