/-
  The walks of SyndromesOf and IsCodeWord, in the program and in the reference.
-/
import Derived.Test.YtfhkkpfiflgofaaGens
namespace Go.Proofs.Ytfhkkpfiflgofaa
open Go.RowKit
set_option linter.unusedVariables false

noncomputable def soR (p pw g l c : Int) (zs : List Int) : List Int := if codeC p pw g l c [zs] = 0 then syn (ffOf p pw g) zs c.toNat else []
noncomputable def icwB (p pw g l c : Int) (zs : List Int) : Bool := decide (codeC p pw g l c [zs] = 0) && zeroB (syn (ffOf p pw g) zs c.toNat)
abbrev T1' : TypeId := 26
theorem codeC_word {p pw g l c : Int} {zs : List Int} (h : codeC p pw g l c [zs] = 0) : validB p pw g = true ∧ 0 ≤ c ∧ c ≤ 64 ∧ ∀ z ∈ zs, (ffOf p pw g).el z := by
  obtain ⟨hv, hw⟩ := codeC_zero h
  obtain ⟨_, hel⟩ := wordB_iff (hw zs (by simp))
  have h2 := validC_iff hv
  exact ⟨h2.1, by omega, by omega, hel⟩
theorem implIsCodeWord_any (p pw g l c : Int) (w : World) {a : Option Addr} {n cap : Nat} {zs : List Int} (hr : RowAt w a n zs) :
    Calls Try.prog 34 #[cV p pw g l c, .slice a n cap] w fun e w' => e = .returned (.bool (icwB p pw g l c zs)) ∧ Below w.heap.size w w' := by
  have HR := Lib.hid hr
  have hrow := hr.below' (below1 w (.cells #[.int .i64 p, .int .i64 pw, .int .i64 g, .int .i64 l, .int .i64 c] CT))
  have HROWS := Lib.hid (rows_one _ T1' a n cap zs hrow (w.heap.size + 1) (by simp))
  clear hr hrow
  go_enter Try.func34, Try.ntmps34
  go_wp2_with fail
  refine (words_any p pw g l c _ HROWS.out).mono ?_
  rintro e w1 ⟨v, rfl, hb1, hcal⟩
  have HB := Lib.hid (((below1 _ _).alloc (by simp) _).trans (hb1.mono (by simp; omega)))
  have HCAL := Lib.hid hcal
  clear hb1 hcal
  by_cases hc : codeC p pw g l c [zs] = 0
  rotate_left
  · have hcn : (codeC p pw g l c [zs] == 0) = false := by simp [hc]
    have hf1 := Lib.hid (show icwB p pw g l c zs = false by unfold icwB; rw [decide_eq_false hc]; rfl)
    clear hc
    go_wp2_with fail
    go_ret
    exact ⟨ret_bool hf1.out.symm, HB.out⟩
  have hcn : (codeC p pw g l c [zs] == 0) = true := by simp [hc]
  obtain ⟨b, rfl, hbb, hcod⟩ := HCAL.out hc
  have HCOD := Lib.hid hcod
  obtain ⟨hv, hc0, hc1, hel⟩ := codeC_word hc
  have hf1 := Lib.hid (show icwB p pw g l c zs = zeroB (syn (ffOf p pw g) zs c.toNat) by unfold icwB; rw [decide_eq_true hc]; rfl)
  have HV := Lib.hid hv
  have HE := Lib.hid hel
  have HR1 := Lib.hid (HR.out.below' HB.out)
  clear hc hv hel hcod
  go_wp2_with fail
  refine (implSyndromes_any p pw g l c hc0 hc1 HV.out HCOD.out HR1.out HE.out).mono ?_
  rintro e w2 ⟨v, rfl, hb2, a', cap', rfl, _, ho2⟩
  have HB2 := Lib.hid (HB.out.trans (hb2.mono HB.out.size))
  have HO2 := Lib.hid ho2.row
  clear hb2 ho2
  go_wp2_with fail
  refine (zero_any _ HO2.out).mono ?_
  rintro e w3 ⟨rfl, rfl⟩
  go_wp2_with fail
  go_ret
  exact ⟨ret_bool hf1.out.symm, HB2.out⟩
end Go.Proofs.Ytfhkkpfiflgofaa
