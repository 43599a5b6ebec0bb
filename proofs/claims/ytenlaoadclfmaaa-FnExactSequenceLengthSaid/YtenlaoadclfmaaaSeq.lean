/-
  The walks of the checks of sequences, and of IsSatisfied.
-/
import Derived.Test.YtenlaoadclfmaaaSpecPolys
namespace Go.Proofs.Ytenlaoadclfmaaa
open Go.RowKit
set_option linter.unusedVariables false

abbrev FT' : TypeId := 27
/-- The code of a field and a sequence. -/
noncomputable def seqC (p pw g : Int) (zs : List Int) : Int := if validB p pw g = true then (if zs.length ≤ 64 ∧ allB (ffOf p pw g) zs = true then 0 else 2) else 1
theorem seqC_zero {p pw g : Int} {zs : List Int} (h : seqC p pw g zs = 0) : validB p pw g = true ∧ zs.length ≤ 64 ∧ ∀ z ∈ zs, (ffOf p pw g).el z := by
  unfold seqC at h
  split at h
  · rename_i h1
    split at h
    · rename_i h2; exact ⟨h1, h2.1, allB_iff.1 h2.2⟩
    · omega
  · omega
theorem sequence_any (p pw g : Int) (w : World) {a : Option Addr} {n cap : Nat} {zs : List Int} (hr : RowAt w a n zs) :
    Calls Try.prog 98 #[fV p pw g, .slice a n cap] w fun e w' =>
      ∃ v, e = .returned (.tuple #[v, .int .i64 (seqC p pw g zs)]) ∧ Below w.heap.size w w' ∧ (seqC p pw g zs = 0 → ∃ b, v = .pointer (some ⟨b, 0, none⟩) ∧ w.heap.size ≤ b ∧ Cal w' b (ffOf p pw g)) := by
  have HR := Lib.hid hr
  have hl := hr.len
  have hsm := hr.small
  clear hr
  go_enter Try.func98, Try.ntmps98
  go_wp2_with fail
  refine (calc_any p pw g _).mono ?_
  rintro e w1 ⟨v, rfl, hb1, hcal⟩
  have hb : Below w.heap.size w w1 := (below1 _ _).trans (hb1.mono (by simp))
  have HR1 := Lib.hid (HR.out.below' hb)
  have HB := Lib.hid hb
  have HCAL := Lib.hid hcal
  have hsz : w.heap.size ≤ w1.heap.size := hb.size
  clear hb1 hb hcal
  cases hv : validB p pw g
  · have hf := Lib.hid (show seqC p pw g zs = 1 by unfold seqC; rw [hv]; rfl)
    clear hl
    go_wp2_with fail
    go_ret2
    exact ⟨_, by rw [hf.out]; rfl, HB.out, fun h => by rw [hf.out] at h; omega⟩
  · obtain ⟨b, rfl, hbb, hc⟩ := HCAL.out hv
    have hbb2 : w.heap.size ≤ b := by simp at hbb; omega
    have HC := Lib.hid hc
    clear hbb hc
    by_cases hn : n ≤ 64
    · cases hall : allB (ffOf p pw g) zs
      · have hf := Lib.hid (show seqC p pw g zs = 2 by unfold seqC; rw [hv, hall]; simp)
        clear hl
        go_wp2_with fail
        refine (hasAll_any HC.out HR1.out).mono ?_
        rintro e w2 ⟨rfl, rfl⟩
        go_wp2_with fail
        go_ret2
        exact ⟨_, by rw [hf.out]; rfl, HB.out, fun h => by rw [hf.out] at h; omega⟩
      · have hf := Lib.hid (show seqC p pw g zs = 0 by unfold seqC; rw [hv, hall]; simp; omega)
        clear hl
        go_wp2_with fail
        refine (hasAll_any HC.out HR1.out).mono ?_
        rintro e w2 ⟨rfl, rfl⟩
        go_wp2_with fail
        go_ret2
        exact ⟨_, by rw [hf.out]; rfl, HB.out, fun h => ⟨b, rfl, hbb2, HC.out⟩⟩
    · have hf := Lib.hid (show seqC p pw g zs = 2 by unfold seqC; rw [hv, if_pos rfl, if_neg (by omega)])
      clear hl
      go_wp2_with fail
      go_ret2
      exact ⟨_, by rw [hf.out]; rfl, HB.out, fun h => by rw [hf.out] at h; omega⟩
theorem l06Is_any (p pw g : Int) (hr : Ranged p pw g) (w : World) {a : Option Addr} {n cap : Nat} {zs : List Int} (hrow : RowAt w a n zs) :
    Calls Try.prog 127 #[fV p pw g, .slice a n cap] w fun e w' => e = .returned (.bool (decide (zs.length ≤ 64) && allB (ffOf p pw g) zs)) ∧ Below w.heap.size w w' := by
  have HR := Lib.hid hrow
  have HL := Lib.hid hrow.len
  have hsm := hrow.small
  have HROW := Lib.hid (hrow.below' (below1 w (.cells #[.int .i64 p, .int .i64 pw, .int .i64 g] FT')))
  clear hrow
  by_cases hn : n ≤ 64
  · have hf := Lib.hid (show (decide (zs.length ≤ 64) && allB (ffOf p pw g) zs) = allB (ffOf p pw g) zs by rw [decide_eq_true (by rw [HL.out]; exact hn)]; rfl)
    go_enter Try.func127, Try.ntmps127
    go_wp2_with fail
    refine (l02Is_any p pw g hr _ HROW.out).mono ?_
    rintro e w1 ⟨rfl, hb1⟩
    have HB1 := Lib.hid ((below1 _ _).trans (hb1.mono (by simp)))
    clear hb1
    go_wp2_with fail
    go_ret
    exact ⟨ret_bool hf.out.symm, HB1.out⟩
  · have hf := Lib.hid (show (decide (zs.length ≤ 64) && allB (ffOf p pw g) zs) = false by rw [decide_eq_false (by rw [HL.out]; exact hn)]; rfl)
    go_enter Try.func127, Try.ntmps127
    go_wp2_with fail
    go_ret
    exact ⟨ret_bool hf.out.symm, below1 _ _⟩
theorem l06Code_any (p pw g : Int) (w : World) {a : Option Addr} {n cap : Nat} {zs : List Int} (hrow : RowAt w a n zs) :
    Calls Try.prog 96 #[fV p pw g, .slice a n cap] w fun e w' => e = .returned (.int .i64 (seqC p pw g zs)) ∧ Below w.heap.size w w' := by
  have HROW := Lib.hid hrow
  clear hrow
  go_enter Try.func96, Try.ntmps96
  go_wp2_with fail
  refine (isField_any p pw g _).mono ?_
  rintro e w1 ⟨rfl, hb1⟩
  have HB1 := Lib.hid ((below1 _ _).trans (hb1.mono (by simp)))
  have hX1 := (box_new w p pw g FT').below hb1 (by simp)
  obtain ⟨hlt, c0, c1, c2⟩ := hX1
  clear hb1
  cases hv : validB p pw g
  · have hf := Lib.hid (show seqC p pw g zs = 1 by unfold seqC; rw [hv]; rfl)
    go_wp2_with fail
    go_ret
    exact ⟨ret_int hf.out.symm, HB1.out⟩
  · have hR := ranged_of hv
    have hrow1 := HROW.out.below' HB1.out
    cases hall : (decide (zs.length ≤ 64) && allB (ffOf p pw g) zs)
    · have hf := Lib.hid (show seqC p pw g zs = 2 by
        unfold seqC; rw [hv, if_pos rfl, if_neg]
        intro h; rw [decide_eq_true h.1, h.2] at hall; cases hall)
      go_wp2_with fail
      refine (l06Is_any p pw g hR _ hrow1).mono ?_
      rintro e w2 ⟨rfl, hb2⟩
      have HB2 := Lib.hid (HB1.out.trans (hb2.mono HB1.out.size))
      clear hb2
      rw [hall]
      go_wp2_with fail
      go_ret
      exact ⟨ret_int hf.out.symm, HB2.out⟩
    · have hf := Lib.hid (show seqC p pw g zs = 0 by
        unfold seqC; simp only [Bool.and_eq_true, decide_eq_true_eq] at hall; rw [hv, if_pos rfl, if_pos hall])
      go_wp2_with fail
      refine (l06Is_any p pw g hR _ hrow1).mono ?_
      rintro e w2 ⟨rfl, hb2⟩
      have HB2 := Lib.hid (HB1.out.trans (hb2.mono HB1.out.size))
      clear hb2
      rw [hall]
      go_wp2_with fail
      go_ret
      exact ⟨ret_int hf.out.symm, HB2.out⟩
end Go.Proofs.Ytenlaoadclfmaaa
