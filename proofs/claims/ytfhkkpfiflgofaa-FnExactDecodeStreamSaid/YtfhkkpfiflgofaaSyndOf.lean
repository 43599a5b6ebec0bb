/-
  The walks of SyndromesOf and IsCodeWord, in the program and in the reference.
-/
import Derived.Test.YtfhkkpfiflgofaaGens
namespace Go.Proofs.Ytfhkkpfiflgofaa
open Go.RowKit
set_option linter.unusedVariables false

noncomputable def soR (p pw g l c : Int) (zs : List Int) : List Int := if codeC p pw g l c [zs] = 0 then syn (ffOf p pw g) zs c.toNat else []
theorem soR_len (p pw g l c : Int) (zs : List Int) : (soR p pw g l c zs).length ≤ 1048576 := by
  unfold soR
  split
  · rename_i h
    have := validC_iff (codeC_zero h).1
    rw [syn_length]; omega
  · simp
noncomputable def icwB (p pw g l c : Int) (zs : List Int) : Bool := decide (codeC p pw g l c [zs] = 0) && zeroB (syn (ffOf p pw g) zs c.toNat)
abbrev T1' : TypeId := 26
theorem codeC_word {p pw g l c : Int} {zs : List Int} (h : codeC p pw g l c [zs] = 0) : validB p pw g = true ∧ 0 ≤ c ∧ c ≤ 64 ∧ ∀ z ∈ zs, (ffOf p pw g).el z := by
  obtain ⟨hv, hw⟩ := codeC_zero h
  obtain ⟨_, hel⟩ := wordB_iff (hw zs (by simp))
  have h2 := validC_iff hv
  exact ⟨h2.1, by omega, by omega, hel⟩
theorem implSyndromesOf_any (p pw g l c : Int) (w : World) {a : Option Addr} {n cap : Nat} {zs : List Int} (hr : RowAt w a n zs) :
    Calls Try.prog 28 #[cV p pw g l c, .slice a n cap] w fun e w' => ∃ v, e = .returned (.tuple #[v, .int .i64 (codeC p pw g l c [zs])]) ∧ Below w.heap.size w w' ∧ ResL w w' v (soR p pw g l c zs) := by
  have HR := Lib.hid hr
  have hrow := hr.below' (below1 w (.cells #[.int .i64 p, .int .i64 pw, .int .i64 g, .int .i64 l, .int .i64 c] CT))
  have HROWS := Lib.hid (rows_one _ T1' a n cap zs hrow (w.heap.size + 1) (by simp))
  clear hr hrow
  go_enter Try.func28, Try.ntmps28
  go_wp2_with fail
  refine (words_any p pw g l c _ HROWS.out).mono ?_
  rintro e w1 ⟨v, rfl, hb1, hcal⟩
  have HB := Lib.hid (((below1 _ _).alloc (by simp) _).trans (hb1.mono (by simp; omega)))
  have HCAL := Lib.hid hcal
  clear hb1 hcal
  by_cases hc : codeC p pw g l c [zs] = 0
  rotate_left
  · have hcn : (codeC p pw g l c [zs] != 0) = true := by simp [hc]
    have hf1 := Lib.hid (show soR p pw g l c zs = [] by unfold soR; rw [if_neg hc])
    clear hc
    go_wp2_with fail
    go_ret2
    exact ⟨_, rfl, HB.out, by rw [hf1.out]; exact ResL.none _ _⟩
  have hcn : (codeC p pw g l c [zs] != 0) = false := by simp [hc]
  obtain ⟨b, rfl, hbb, hcod⟩ := HCAL.out hc
  have HCOD := Lib.hid hcod
  obtain ⟨hv, hc0, hc1, hel⟩ := codeC_word hc
  have hf1 := Lib.hid (show soR p pw g l c zs = syn (ffOf p pw g) zs c.toNat by unfold soR; rw [if_pos hc])
  have HV := Lib.hid hv
  have HE := Lib.hid hel
  have HC := Lib.hid hc
  have HR1 := Lib.hid (HR.out.below' HB.out)
  clear hc hv hel hcod
  go_wp2_with fail
  refine (implSyndromes_any p pw g l c hc0 hc1 HV.out HCOD.out HR1.out HE.out).mono ?_
  rintro e w2 ⟨v, rfl, hb2, hres⟩
  have HB2 := Lib.hid (HB.out.trans (hb2.mono HB.out.size))
  have hRes := Lib.hid (show ResL w w2 v (soR p pw g l c zs) by
    rw [hf1.out]
    obtain ⟨a', cap', e1, e2, h3⟩ := hres
    exact ⟨a', cap', e1, e2, h3.mono HB.out.size⟩)
  clear hb2 hres
  go_wp2_with fail
  go_ret2
  exact ⟨_, by rw [HC.out]; rfl, HB2.out, hRes.out⟩
theorem implIsCodeWord_any (p pw g l c : Int) (w : World) {a : Option Addr} {n cap : Nat} {zs : List Int} (hr : RowAt w a n zs) :
    Calls Try.prog 34 #[cV p pw g l c, .slice a n cap] w fun e w' => e = .returned (.bool (icwB p pw g l c zs)) ∧ Below w.heap.size w w' := by
  have HR := Lib.hid hr
  have hrow := hr.below' (below1 w (.cells #[.int .i64 p, .int .i64 pw, .int .i64 g, .int .i64 l, .int .i64 c] CT))
  have HROWS := Lib.hid (rows_one _ T1' a n cap zs hrow (w.heap.size + 1) (by simp))
  clear hr hrow
  go_enter Try.func34, Try.ntmps34
  go_wp2_with fail
  refine (words_any p pw g l c _ HROWS.out).mono ?_
  rintro e w1 ⟨v, rfl, hb1, hcal⟩
  have HB := Lib.hid (((below1 _ _).alloc (by simp) _).trans (hb1.mono (by simp; omega)))
  have HCAL := Lib.hid hcal
  clear hb1 hcal
  by_cases hc : codeC p pw g l c [zs] = 0
  rotate_left
  · have hcn : (codeC p pw g l c [zs] == 0) = false := by simp [hc]
    have hf1 := Lib.hid (show icwB p pw g l c zs = false by unfold icwB; rw [decide_eq_false hc]; rfl)
    clear hc
    go_wp2_with fail
    go_ret
    exact ⟨ret_bool hf1.out.symm, HB.out⟩
  have hcn : (codeC p pw g l c [zs] == 0) = true := by simp [hc]
  obtain ⟨b, rfl, hbb, hcod⟩ := HCAL.out hc
  have HCOD := Lib.hid hcod
  obtain ⟨hv, hc0, hc1, hel⟩ := codeC_word hc
  have hf1 := Lib.hid (show icwB p pw g l c zs = zeroB (syn (ffOf p pw g) zs c.toNat) by unfold icwB; rw [decide_eq_true hc]; rfl)
  have HV := Lib.hid hv
  have HE := Lib.hid hel
  have HR1 := Lib.hid (HR.out.below' HB.out)
  clear hc hv hel hcod
  go_wp2_with fail
  refine (implSyndromes_any p pw g l c hc0 hc1 HV.out HCOD.out HR1.out HE.out).mono ?_
  rintro e w2 ⟨v, rfl, hb2, a', cap', rfl, _, ho2⟩
  have HB2 := Lib.hid (HB.out.trans (hb2.mono HB.out.size))
  have HO2 := Lib.hid ho2.row
  clear hb2 ho2
  go_wp2_with fail
  refine (zero_any _ HO2.out).mono ?_
  rintro e w3 ⟨rfl, rfl⟩
  go_wp2_with fail
  go_ret
  exact ⟨ret_bool hf1.out.symm, HB2.out⟩
theorem icwB_no1 {p pw g l c : Int} {zs : List Int} (h : validC p pw g l c = false) : icwB p pw g l c zs = false := by
  unfold icwB codeC; rw [h]; simp
theorem icwB_no2 {p pw g l c : Int} {zs : List Int} (h : wordB (ffOf p pw g) l zs = false) : icwB p pw g l c zs = false := by
  unfold icwB codeC wordsB; simp only [List.all_cons, h]; split <;> simp
theorem codeC_one {p pw g l c : Int} {zs : List Int} (h1 : validC p pw g l c = true) (h2 : wordB (ffOf p pw g) l zs = true) : codeC p pw g l c [zs] = 0 := by
  unfold codeC wordsB; simp only [List.all_cons, List.all_nil, h1, h2]; simp
end Go.Proofs.Ytfhkkpfiflgofaa
