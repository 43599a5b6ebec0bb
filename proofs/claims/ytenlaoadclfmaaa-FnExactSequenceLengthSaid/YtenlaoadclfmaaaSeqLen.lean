/-
  The walks of SequenceLength.
-/
import Derived.Test.YtenlaoadclfmaaaMassey
import Derived.Test.YtenlaoadclfmaaaRegister
import Derived.Test.YtenlaoadclfmaaaSeq
namespace Go.Proofs.Ytenlaoadclfmaaa
open Go.RowKit
set_option linter.unusedVariables false

/-- The length of the shortest recurrence. -/
noncomputable def seqL (p pw g : Int) (zs : List Int) : Int :=
  if h : seqC p pw g zs = 0 then ((bm ⟨ffOf p pw g, ffOf_ok (seqC_zero h).1⟩ (VF.ps ⟨ffOf p pw g, ffOf_ok (seqC_zero h).1⟩ zs) zs.length).L : Int) else 0
theorem seqL_yes {p pw g : Int} {zs : List Int} (h : seqC p pw g zs = 0) : ∃ V : VF, SF V p pw g ∧ zs.length ≤ 64 ∧ VF.els V zs ∧ ((bm V (VF.ps V zs) zs.length).L : Int) = seqL p pw g zs ∧ ∀ w b, Cal w b (ffOf p pw g) → Cal w b V.F :=
  ⟨⟨ffOf p pw g, ffOf_ok (seqC_zero h).1⟩, SF.of (seqC_zero h).1, (seqC_zero h).2.1, (seqC_zero h).2.2, by unfold seqL; rw [dif_pos h], fun _ _ h => h⟩
theorem seqL_no {p pw g : Int} {zs : List Int} (h : ¬ seqC p pw g zs = 0) : seqL p pw g zs = 0 := by unfold seqL; rw [dif_neg h]
theorem specSeqLen_any (p pw g : Int) (w : World) {a : Option Addr} {n cap : Nat} {zs : List Int} (hr : RowAt w a n zs) :
    Calls Try.prog 51 #[fV p pw g, .slice a n cap] w fun e w' => e = .returned (.tuple #[.int .i64 (seqL p pw g zs), .int .i64 (seqC p pw g zs)]) ∧ Below w.heap.size w w' := by
  have HR := Lib.hid hr
  have hl := Lib.hid hr.len
  have HR1 := Lib.hid (hr.below' (below1 w (.cells #[.int .i64 p, .int .i64 pw, .int .i64 g] FT')))
  clear hr
  go_enter Try.func51, Try.ntmps51
  go_wp2_with fail
  refine (l06Code_any p pw g _ HR1.out).mono ?_
  rintro e w1 ⟨rfl, hb1⟩
  have hX := (box_new w p pw g FT').below hb1 (by simp)
  have HX := Lib.hid hX
  obtain ⟨hlt, c0, c1, c2⟩ := hX
  have HB1 := Lib.hid ((below1 _ _).trans (hb1.mono (by simp)))
  clear hb1
  by_cases hq : seqC p pw g zs = 0
  · have hqn : (seqC p pw g zs != 0) = false := by simp [hq]
    have HQ := Lib.hid hq
    obtain ⟨V, hs, hn, he, hL, -⟩ := seqL_yes hq
    rw [hl.out] at hn hL
    have hM := (l06Massey_any (cap := cap) hs (HR.out.below' HB1.out) hn he)
    have HL := Lib.hid hL
    clear hq hL
    go_wp2_with fail
    refine hM.mono ?_
    rintro e w2 ⟨v, rfl, hb2, -⟩
    have HB2 := Lib.hid (HB1.out.trans (hb2.mono HB1.out.size))
    clear hb2 hM
    go_wp2_with fail
    go_ret2
    exact ⟨by rw [HQ.out, ← HL.out]; rfl, HB2.out⟩
  · have hqn : (seqC p pw g zs != 0) = true := by simp [hq]
    have hf := Lib.hid (seqL_no hq)
    clear hq
    go_wp2_with fail
    go_ret2
    exact ⟨by rw [hf.out]; rfl, HB1.out⟩
theorem implSeqLen_any (p pw g : Int) (w : World) {a : Option Addr} {n cap : Nat} {zs : List Int} (hr : RowAt w a n zs) :
    Calls Try.prog 52 #[fV p pw g, .slice a n cap] w fun e w' => e = .returned (.tuple #[.int .i64 (seqL p pw g zs), .int .i64 (seqC p pw g zs)]) ∧ Below w.heap.size w w' := by
  have HR := Lib.hid hr
  have hl := Lib.hid hr.len
  have HR1 := Lib.hid (hr.below' (below1 w (.cells #[.int .i64 p, .int .i64 pw, .int .i64 g] FT')))
  clear hr
  go_enter Try.func52, Try.ntmps52
  go_wp2_with fail
  refine (sequence_any p pw g _ HR1.out).mono ?_
  rintro e w1 ⟨v, rfl, hb1, hcal⟩
  have HCAL := Lib.hid hcal
  have HB1 := Lib.hid ((below1 _ _).trans (hb1.mono (by simp)))
  clear hb1 hcal
  by_cases hq : seqC p pw g zs = 0
  · have hqn : (seqC p pw g zs != 0) = false := by simp [hq]
    have HQ := Lib.hid hq
    obtain ⟨b, rfl, hbb, hcal⟩ := HCAL.out hq
    obtain ⟨V, hs, hn, he, hL, hc⟩ := seqL_yes hq
    rw [hl.out] at hn hL
    have hM := (register_any (cap := cap) (hc _ _ hcal) (HR.out.below' HB1.out) hn he)
    have HL := Lib.hid hL
    clear hq hL hcal
    go_wp2_with fail
    refine hM.mono ?_
    rintro e w2 ⟨v, rfl, hb2, -⟩
    have HB2 := Lib.hid (HB1.out.trans (hb2.mono HB1.out.size))
    clear hb2 hM
    go_wp2_with fail
    go_ret2
    exact ⟨by rw [HQ.out, ← HL.out]; rfl, HB2.out⟩
  · have hqn : (seqC p pw g zs != 0) = true := by simp [hq]
    have hf := Lib.hid (seqL_no hq)
    clear hq
    go_wp2_with fail
    go_ret2
    exact ⟨by rw [hf.out]; rfl, HB1.out⟩
end Go.Proofs.Ytenlaoadclfmaaa
