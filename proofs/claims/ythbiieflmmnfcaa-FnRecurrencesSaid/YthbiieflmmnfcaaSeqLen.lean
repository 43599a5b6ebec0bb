/-
  The parts SeqLen, Recur.
-/
import Derived.Test.YthbiieflmmnfcaaMassey
import Derived.Test.YthbiieflmmnfcaaRegs
import Derived.Test.YthbiieflmmnfcaaCodes
/-
  The walks of SequenceLength.
-/
namespace Go.Proofs.Ythbiieflmmnfcaa
open Go.RowKit
set_option linter.unusedVariables false

/-- The length of the shortest recurrence. -/
noncomputable def seqL (p pw g : Int) (zs : List Int) : Int :=
  if h : seqC p pw g zs = 0 then ((bm ⟨ffOf p pw g, ffOf_ok (seqC_zero h).1⟩ (VF.ps ⟨ffOf p pw g, ffOf_ok (seqC_zero h).1⟩ zs) zs.length).L : Int) else 0
theorem seqL_yes {p pw g : Int} {zs : List Int} (h : seqC p pw g zs = 0) : ∃ V : VF, SF V p pw g ∧ zs.length ≤ 64 ∧ VF.els V zs ∧ ((bm V (VF.ps V zs) zs.length).L : Int) = seqL p pw g zs ∧ ∀ w b, Cal w b (ffOf p pw g) → Cal w b V.F :=
  ⟨⟨ffOf p pw g, ffOf_ok (seqC_zero h).1⟩, SF.of (seqC_zero h).1, (seqC_zero h).2.1, (seqC_zero h).2.2, by unfold seqL; rw [dif_pos h], fun _ _ h => h⟩
theorem seqL_no {p pw g : Int} {zs : List Int} (h : ¬ seqC p pw g zs = 0) : seqL p pw g zs = 0 := by unfold seqL; rw [dif_neg h]
theorem implSeqLen_any (p pw g : Int) (w : World) {a : Option Addr} {n cap : Nat} {zs : List Int} (hr : RowAt w a n zs) :
    Calls Try.prog 41 #[fV p pw g, .slice a n cap] w fun e w' => e = .returned (.tuple #[.int .i64 (seqL p pw g zs), .int .i64 (seqC p pw g zs)]) ∧ Below w.heap.size w w' := by
  have HR := Lib.hid hr
  have hl := Lib.hid hr.len
  have HR1 := Lib.hid (hr.below' (below1 w (.cells #[.int .i64 p, .int .i64 pw, .int .i64 g] FT')))
  clear hr
  go_enter Try.func41, Try.ntmps41
  go_wp2_with fail
  refine (sequence_any p pw g _ HR1.out).mono ?_
  rintro e w1 ⟨v, rfl, hb1, hcal⟩
  have HCAL := Lib.hid hcal
  have HB1 := Lib.hid ((below1 _ _).trans (hb1.mono (by simp)))
  clear hb1 hcal
  by_cases hq : seqC p pw g zs = 0
  · have hqn : (seqC p pw g zs != 0) = false := by simp [hq]
    have HQ := Lib.hid hq
    obtain ⟨b, rfl, hbb, hcal⟩ := HCAL.out hq
    obtain ⟨V, hs, hn, he, hL, hc⟩ := seqL_yes hq
    rw [hl.out] at hn hL
    have hM := (register_any (cap := cap) (hc _ _ hcal) (HR.out.below' HB1.out) hn he)
    have HL := Lib.hid hL
    clear hq hL hcal
    go_wp2_with fail
    refine hM.mono ?_
    rintro e w2 ⟨v, rfl, hb2, -⟩
    have HB2 := Lib.hid (HB1.out.trans (hb2.mono HB1.out.size))
    clear hb2 hM
    go_wp2_with fail
    go_ret2
    exact ⟨by rw [HQ.out, ← HL.out]; rfl, HB2.out⟩
  · have hqn : (seqC p pw g zs != 0) = true := by simp [hq]
    have hf := Lib.hid (seqL_no hq)
    clear hq
    go_wp2_with fail
    go_ret2
    exact ⟨by rw [hf.out]; rfl, HB1.out⟩
end Go.Proofs.Ythbiieflmmnfcaa
/-
  The walks of RecurrenceOf.
-/
namespace Go.Proofs.Ythbiieflmmnfcaa
open Go.RowKit
set_option linter.unusedVariables false

noncomputable def recC (p pw g : Int) (zs : List Int) : Int := if seqC p pw g zs = 0 then (if 2 * seqL p pw g zs > zs.length then 5 else 0) else seqC p pw g zs
open Classical in
/-- The shortest recurrence. -/
noncomputable def recR (p pw g : Int) (zs : List Int) : List Int :=
  if h : recC p pw g zs = 0 ∧ seqC p pw g zs = 0 then VF.lst ⟨ffOf p pw g, ffOf_ok (seqC_zero h.2).1⟩ (bm ⟨ffOf p pw g, ffOf_ok (seqC_zero h.2).1⟩ (VF.ps ⟨ffOf p pw g, ffOf_ok (seqC_zero h.2).1⟩ zs) zs.length).now else []
theorem recC_bad {p pw g : Int} {zs : List Int} (h : ¬ seqC p pw g zs = 0) : recC p pw g zs = seqC p pw g zs ∧ recR p pw g zs = [] := by
  refine ⟨by unfold recC; rw [if_neg h], ?_⟩
  unfold recR; rw [dif_neg (fun x => h x.2)]
theorem recC_long {p pw g : Int} {zs : List Int} (h : seqC p pw g zs = 0) (h2 : 2 * seqL p pw g zs > zs.length) : recC p pw g zs = 5 ∧ recR p pw g zs = [] := by
  have : recC p pw g zs = 5 := by unfold recC; rw [if_pos h, if_pos h2]
  refine ⟨this, ?_⟩
  unfold recR; rw [dif_neg (fun x => by rw [this] at x; exact absurd x.1 (by omega))]
theorem recC_ok {p pw g : Int} {zs : List Int} (h : seqC p pw g zs = 0) (h2 : ¬ 2 * seqL p pw g zs > zs.length) : recC p pw g zs = 0 := by unfold recC; rw [if_pos h, if_neg h2]
/-- What is known of a list whose code is 0. -/
structure SeqV (V : VF) (p pw g : Int) (zs : List Int) : Prop where
  sf : SF V p pw g
  len : zs.length ≤ 64
  els : VF.els V zs
  L : ((bm V (VF.ps V zs) zs.length).L : Int) = seqL p pw g zs
  cal : ∀ w b, Cal w b (ffOf p pw g) → Cal w b V.F
  rec' : recC p pw g zs = 0 → recR p pw g zs = VF.lst V (bm V (VF.ps V zs) zs.length).now
theorem seqV {p pw g : Int} {zs : List Int} (h : seqC p pw g zs = 0) : ∃ V : VF, SeqV V p pw g zs :=
  ⟨⟨ffOf p pw g, ffOf_ok (seqC_zero h).1⟩, SF.of (seqC_zero h).1, (seqC_zero h).2.1, (seqC_zero h).2.2, by unfold seqL; rw [dif_pos h], fun _ _ h => h, fun h2 => by unfold recR; rw [dif_pos ⟨h2, h⟩]⟩
theorem recR_len (p pw g : Int) (zs : List Int) : (recR p pw g zs).length ≤ 1048576 := by
  by_cases h : seqC p pw g zs = 0
  · obtain ⟨V, hv⟩ := seqV h
    by_cases h2 : 2 * seqL p pw g zs > zs.length
    · rw [(recC_long h h2).2]; simp
    · rw [hv.rec' (recC_ok h h2)]
      have h3 := bm_ok (V := V) (VF.ps V zs) zs.length
      have h4 := h3.nlen
      have h5 := h3.le
      have h6 := hv.len
      omega
  · rw [(recC_bad h).2]; simp
theorem specRecurrence_any (p pw g : Int) (w : World) {a : Option Addr} {n cap : Nat} {zs : List Int} (hr : RowAt w a n zs) :
    Calls Try.prog 100 #[fV p pw g, .slice a n cap] w fun e w' => ∃ v, e = .returned (.tuple #[v, .int .i64 (recC p pw g zs)]) ∧ Below w.heap.size w w' ∧ ResL w w' v (recR p pw g zs) := by
  have HR := Lib.hid hr
  have hl := Lib.hid hr.len
  have HR1 := Lib.hid (hr.below' (below1 w (.cells #[.int .i64 p, .int .i64 pw, .int .i64 g] FT')))
  clear hr
  go_enter Try.func100, Try.ntmps100
  go_wp2_with fail
  refine (l06Code_any p pw g _ HR1.out).mono ?_
  rintro e w1 ⟨rfl, hb1⟩
  have hX := (box_new w p pw g FT').below hb1 (by simp)
  have HX := Lib.hid hX
  obtain ⟨hlt, c0, c1, c2⟩ := hX
  have HB1 := Lib.hid ((below1 _ _).trans (hb1.mono (by simp)))
  clear hb1
  by_cases hq : seqC p pw g zs = 0
  · have hqn : (seqC p pw g zs != 0) = false := by simp [hq]
    have HQ := Lib.hid hq
    obtain ⟨V, hv⟩ := seqV hq
    have hn := hv.len
    rw [hl.out] at hn
    have HV := Lib.hid hv
    have hM := (l06Massey_any (cap := cap) hv.sf (HR.out.below' HB1.out) hn hv.els)
    have hL := hv.L
    rw [hl.out] at hL
    have hL2 := bm_ok (V := V) (VF.ps V zs) n
    have hL3 := hL2.le
    obtain ⟨L, hLL⟩ : ∃ L, (bm V (VF.ps V zs) n).L = L := ⟨_, rfl⟩
    rw [hLL] at hM hL hL3
    have HL := Lib.hid hL
    have q1 : IntKind.i64.wrap (2 * (L : Int)) = 2 * (L : Int) := IntWalk.i64_in _ (by omega)
    clear hq hL hv hL2 hLL
    go_wp2_with fail
    refine hM.mono ?_
    rintro e w2 ⟨v, rfl, hb2, ho2⟩
    have HB2 := Lib.hid (HB1.out.trans (hb2.mono HB1.out.size))
    have HO2 := Lib.hid (ho2.res (w := w) HB1.out.size)
    clear hb2 hM ho2
    by_cases h2 : 2 * (L : Int) > (n : Int)
    · have f := recC_long (p := p) (pw := pw) (g := g) (zs := zs) HQ.out (by rw [← HL.out, hl.out]; exact h2)
      have hf0 := Lib.hid f.1
      have hf1 := Lib.hid f.2
      have h2' : (n : Int) < 2 * (L : Int) := h2
      clear f h2
      go_wp2_with fail
      go_ret2
      exact ⟨_, by rw [hf0.out]; rfl, HB2.out, by rw [hf1.out]; exact ResL.none _ _⟩
    · have f := recC_ok (p := p) (pw := pw) (g := g) (zs := zs) HQ.out (by rw [← HL.out, hl.out]; exact h2)
      have hf0 := Lib.hid f
      have hf1 := Lib.hid (HV.out.rec' f)
      rw [hl.out] at hf1
      have h2' : ¬ (n : Int) < 2 * (L : Int) := h2
      clear f h2
      go_wp2_with fail
      go_ret2
      exact ⟨_, by rw [hf0.out]; rfl, HB2.out, by rw [hf1.out]; exact HO2.out⟩
  · have hqn : (seqC p pw g zs != 0) = true := by simp [hq]
    have f := recC_bad hq
    have hf0 := Lib.hid f.1
    have hf1 := Lib.hid f.2
    clear hq f
    go_wp2_with fail
    go_ret2
    exact ⟨_, by rw [hf0.out]; rfl, HB1.out, by rw [hf1.out]; exact ResL.none _ _⟩
theorem implRecurrence_any (p pw g : Int) (w : World) {a : Option Addr} {n cap : Nat} {zs : List Int} (hr : RowAt w a n zs) :
    Calls Try.prog 40 #[fV p pw g, .slice a n cap] w fun e w' => ∃ v, e = .returned (.tuple #[v, .int .i64 (recC p pw g zs)]) ∧ Below w.heap.size w w' ∧ ResL w w' v (recR p pw g zs) := by
  have HR := Lib.hid hr
  have hl := Lib.hid hr.len
  have HR1 := Lib.hid (hr.below' (below1 w (.cells #[.int .i64 p, .int .i64 pw, .int .i64 g] FT')))
  clear hr
  go_enter Try.func40, Try.ntmps40
  go_wp2_with fail
  refine (sequence_any p pw g _ HR1.out).mono ?_
  rintro e w1 ⟨v, rfl, hb1, hcal⟩
  have HCAL := Lib.hid hcal
  have HB1 := Lib.hid ((below1 _ _).trans (hb1.mono (by simp)))
  clear hb1 hcal
  by_cases hq : seqC p pw g zs = 0
  · have hqn : (seqC p pw g zs != 0) = false := by simp [hq]
    have HQ := Lib.hid hq
    obtain ⟨b, rfl, hbb, hcal⟩ := HCAL.out hq
    obtain ⟨V, hv⟩ := seqV hq
    have hn := hv.len
    rw [hl.out] at hn
    have HV := Lib.hid hv
    have hM := (register_any (cap := cap) (hv.cal _ _ hcal) (HR.out.below' HB1.out) hn hv.els)
    have hL := hv.L
    rw [hl.out] at hL
    have hL2 := bm_ok (V := V) (VF.ps V zs) n
    have hL3 := hL2.le
    obtain ⟨L, hLL⟩ : ∃ L, (bm V (VF.ps V zs) n).L = L := ⟨_, rfl⟩
    rw [hLL] at hM hL hL3
    have HL := Lib.hid hL
    have q1 : IntKind.i64.wrap (2 * (L : Int)) = 2 * (L : Int) := IntWalk.i64_in _ (by omega)
    clear hq hL hv hL2 hLL hcal
    go_wp2_with fail
    refine hM.mono ?_
    rintro e w2 ⟨v, rfl, hb2, ho2⟩
    have HB2 := Lib.hid (HB1.out.trans (hb2.mono HB1.out.size))
    have HO2 := Lib.hid (ho2.res (w := w) HB1.out.size)
    clear hb2 hM ho2
    by_cases h2 : 2 * (L : Int) > (n : Int)
    · have f := recC_long (p := p) (pw := pw) (g := g) (zs := zs) HQ.out (by rw [← HL.out, hl.out]; exact h2)
      have hf0 := Lib.hid f.1
      have hf1 := Lib.hid f.2
      have h2' : (n : Int) < 2 * (L : Int) := h2
      clear f h2
      go_wp2_with fail
      go_ret2
      exact ⟨_, by rw [hf0.out]; rfl, HB2.out, by rw [hf1.out]; exact ResL.none _ _⟩
    · have f := recC_ok (p := p) (pw := pw) (g := g) (zs := zs) HQ.out (by rw [← HL.out, hl.out]; exact h2)
      have hf0 := Lib.hid f
      have hf1 := Lib.hid (HV.out.rec' f)
      rw [hl.out] at hf1
      have h2' : ¬ (n : Int) < 2 * (L : Int) := h2
      clear f h2
      go_wp2_with fail
      go_ret2
      exact ⟨_, by rw [hf0.out]; rfl, HB2.out, by rw [hf1.out]; exact HO2.out⟩
  · have hqn : (seqC p pw g zs != 0) = true := by simp [hq]
    have f := recC_bad hq
    have hf0 := Lib.hid f.1
    have hf1 := Lib.hid f.2
    clear hq f
    go_wp2_with fail
    go_ret2
    exact ⟨_, by rw [hf0.out]; rfl, HB1.out, by rw [hf1.out]; exact ResL.none _ _⟩
end Go.Proofs.Ythbiieflmmnfcaa
