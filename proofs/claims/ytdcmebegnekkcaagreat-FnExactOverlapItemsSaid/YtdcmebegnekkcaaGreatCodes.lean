/-
  The parts Polys, SpecPolys, PolyEval, Seq, Code.
-/
import Derived.Test.YtdcmebegnekkcaaGreatLanes
/-
  The walks of the checks of lists of polynomials.
-/
namespace Go.Proofs.YtdcmebegnekkcaaGreat
open Go.RowKit
set_option linter.unusedVariables false

/-- A slice of slices of integers. -/
structure RowsAt (w : World) (A : Option Addr) (m : Nat) (L : List (List Int)) : Prop where
  len : L.length = m
  small : m ≤ 1000
  at' : 0 < m → ∃ b off, A = some ⟨b, off, none⟩ ∧ b < w.heap.size ∧ ∀ j, j < m → ∃ a n cap, w.cell? ⟨b, off + j, none⟩ = some (.slice a n cap) ∧ RowAt w a n (L.getD j [])
theorem RowsAt.below {w w' : World} {A : Option Addr} {m : Nat} {L : List (List Int)} (h : RowsAt w A m L) (hb : Below w.heap.size w w') : RowsAt w' A m L :=
  ⟨h.len, h.small, fun hm => by
    obtain ⟨b, off, rfl, hlt, hc⟩ := h.at' hm
    refine ⟨b, off, rfl, by have := hb.size; omega, fun j hj => ?_⟩
    obtain ⟨a, n, cap, h1, h2⟩ := hc j hj
    exact ⟨a, n, cap, (hb.cell (p := ⟨b, off + j, none⟩) hlt).trans h1, h2.below' hb⟩⟩
/-- Whether all lists are polynomials. -/
def polysB (F : FF) (L : List (List Int)) : Bool := L.all (polyB F)
/-- The code of a field and polynomials. -/
noncomputable def codeP (p pw g : Int) (L : List (List Int)) : Int := if validB p pw g = true then (if polysB (ffOf p pw g) L = true then 0 else 1) else 1
theorem codeP_zero {p pw g : Int} {L : List (List Int)} (h : codeP p pw g L = 0) : validB p pw g = true ∧ ∀ zs ∈ L, polyB (ffOf p pw g) zs = true := by
  unfold codeP at h
  split at h
  · rename_i h1
    split at h
    · rename_i h2; exact ⟨h1, List.all_eq_true.1 h2⟩
    · omega
  · omega
end Go.Proofs.YtdcmebegnekkcaaGreat
/-
  The walks of the reference's checks of polynomials.
-/
namespace Go.Proofs.YtdcmebegnekkcaaGreat
open Go.RowKit
set_option linter.unusedVariables false

end Go.Proofs.YtdcmebegnekkcaaGreat
/-
  The walks of the two PolyEval.
-/
namespace Go.Proofs.YtdcmebegnekkcaaGreat
open Go.RowKit
set_option linter.unusedVariables false

/-- The code that PolyEval answers. -/
noncomputable def pevC (p pw g : Int) (zs : List Int) (x : Int) : Int := if codeP p pw g [zs] = 0 then (if hasB (ffOf p pw g) x = true then 0 else 2) else codeP p pw g [zs]
noncomputable def pevR (p pw g : Int) (zs : List Int) (x : Int) : Int := if codeP p pw g [zs] = 0 ∧ hasB (ffOf p pw g) x = true then evI (ffOf p pw g) zs x else 0
abbrev FT : TypeId := 88
end Go.Proofs.YtdcmebegnekkcaaGreat
/-
  The walks of the checks of sequences, and of IsSatisfied.
-/
namespace Go.Proofs.YtdcmebegnekkcaaGreat
open Go.RowKit
set_option linter.unusedVariables false

abbrev FT' : TypeId := 88
/-- The code of a field and a sequence. -/
noncomputable def seqC (p pw g : Int) (zs : List Int) : Int := if validB p pw g = true then (if zs.length ≤ 64 ∧ allB (ffOf p pw g) zs = true then 0 else 2) else 1
end Go.Proofs.YtdcmebegnekkcaaGreat
/-
  Codes: which are valid, and the words of them: the walks of the checks.
-/
namespace Go.Proofs.YtdcmebegnekkcaaGreat
open Go.RowKit
set_option linter.unusedVariables false

/-- A code as a value. -/
abbrev cV (p pw g l c : Int) : Value := .agg #[.int .i64 p, .int .i64 pw, .int .i64 g, .int .i64 l, .int .i64 c]
abbrev CT : TypeId := 133
/-- The box that a code lies in, while it is a parameter. -/
structure BoxC (w : World) (B : Nat) (p pw g l c : Int) : Prop where
  lt : B < w.heap.size
  c0 : w.cell? ⟨B, 0, none⟩ = some (.int .i64 p)
  c1 : w.cell? ⟨B, 1, none⟩ = some (.int .i64 pw)
  c2 : w.cell? ⟨B, 2, none⟩ = some (.int .i64 g)
  c3 : w.cell? ⟨B, 3, none⟩ = some (.int .i64 l)
  c4 : w.cell? ⟨B, 4, none⟩ = some (.int .i64 c)
theorem boxC_new (w : World) (p pw g l c : Int) (t : TypeId) : BoxC (w.alloc (.cells #[.int .i64 p, .int .i64 pw, .int .i64 g, .int .i64 l, .int .i64 c] t)) w.heap.size p pw g l c :=
  ⟨by simp, by simp [go_sem], by simp [go_sem], by simp [go_sem], by simp [go_sem], by simp [go_sem]⟩
theorem BoxC.below {w w' : World} {B C : Nat} {p pw g l c : Int} (h : BoxC w B p pw g l c) (hb : Below C w w') (hC : B < C) : BoxC w' B p pw g l c :=
  ⟨by have := hb.size; have := h.lt; omega, (hb.cell (p := ⟨B, 0, none⟩) hC).trans h.c0, (hb.cell (p := ⟨B, 1, none⟩) hC).trans h.c1, (hb.cell (p := ⟨B, 2, none⟩) hC).trans h.c2,
    (hb.cell (p := ⟨B, 3, none⟩) hC).trans h.c3, (hb.cell (p := ⟨B, 4, none⟩) hC).trans h.c4⟩
/-- Whether a code is valid. -/
noncomputable def validC (p pw g l c : Int) : Bool := validB p pw g && (inR c 1 64 && (inR l (c + 1) 255 && decide (l < (ffOf p pw g).size)))
theorem validC_iff {p pw g l c : Int} (h : validC p pw g l c = true) : validB p pw g = true ∧ 1 ≤ c ∧ c ≤ 64 ∧ c + 1 ≤ l ∧ l ≤ 255 ∧ l < (ffOf p pw g).size := by
  unfold validC at h
  simp only [Bool.and_eq_true, decide_eq_true_eq, inR_iff] at h
  obtain ⟨h1, h2, h3, h4⟩ := h
  exact ⟨h1, by omega, by omega, by omega, by omega, h4⟩
theorem validC_no1 {p pw g l c : Int} (h : validB p pw g = false) : validC p pw g l c = false := by unfold validC; rw [h]; rfl
theorem validC_no2 {p pw g l c : Int} (h : inR c 1 64 = false) : validC p pw g l c = false := by unfold validC; rw [h]; simp
theorem validC_no3 {p pw g l c : Int} (h : inR l (c + 1) 255 = false) : validC p pw g l c = false := by unfold validC; rw [h]; simp
theorem validC_no4 {p pw g l c : Int} (h : ¬ (l < (ffOf p pw g).size)) : validC p pw g l c = false := by unfold validC; rw [decide_eq_false h]; simp
theorem validC_yes {p pw g l c : Int} (h1 : validB p pw g = true) (h2 : inR c 1 64 = true) (h3 : inR l (c + 1) 255 = true) (h4 : l < (ffOf p pw g).size) : validC p pw g l c = true := by
  unfold validC; rw [h1, h2, h3, decide_eq_true h4]; rfl
/-- The code behind a pointer. -/
structure Cod (w : World) (b : Nat) (p pw g l c : Int) : Prop where
  lt : b < w.heap.size
  cal : ∃ bc, w.cell? ⟨b, 0, none⟩ = some (.pointer (some ⟨bc, 0, none⟩)) ∧ Cal w bc (ffOf p pw g)
  len : w.cell? ⟨b, 1, none⟩ = some (.int .i64 l)
  chk : w.cell? ⟨b, 2, none⟩ = some (.int .i64 c)
theorem Cod.below {w w' : World} {b : Nat} {p pw g l c : Int} (h : Cod w b p pw g l c) (hb : Below w.heap.size w w') : Cod w' b p pw g l c := by
  obtain ⟨bc, h1, h2⟩ := h.cal
  exact ⟨by have := hb.size; have := h.lt; omega, ⟨bc, (hb.cell (p := ⟨b, 0, none⟩) h.lt).trans h1, h2.below hb⟩, (hb.cell (p := ⟨b, 1, none⟩) h.lt).trans h.len, (hb.cell (p := ⟨b, 2, none⟩) h.lt).trans h.chk⟩
theorem cod_new (W : World) (bc : Nat) {p pw g : Int} (l c : Int) (hcal : Cal W bc (ffOf p pw g)) (t : TypeId) :
    Cod (W.alloc (.cells #[.pointer (some ⟨bc, 0, none⟩), .int .i64 l, .int .i64 c] t)) W.heap.size p pw g l c :=
  ⟨by simp, ⟨bc, by simp [go_sem], hcal.below ((Below.refl _ _).alloc (Nat.le_refl _) _)⟩, by simp [go_sem], by simp [go_sem]⟩
theorem isCode_any (p pw g l c : Int) (w : World) :
    Calls Tryz.prog 77 #[cV p pw g l c] w fun e w' => e = .returned (.bool (validC p pw g l c)) ∧ Below w.heap.size w w' := by
  go_enter Tryz.func77, Tryz.ntmps77
  go_wp2_with fail
  refine (isField_any p pw g _).mono ?_
  rintro e w1 ⟨rfl, hb1⟩
  have HB1 := Lib.hid ((below1 _ _).trans (hb1.mono (by simp)))
  have hX := (boxC_new w p pw g l c CT).below hb1 (by simp)
  have HX := Lib.hid hX
  obtain ⟨hlt, c0, c1, c2, c3, c4⟩ := hX
  clear hb1
  cases hv : validB p pw g
  · have hf := Lib.hid (validC_no1 (l := l) (c := c) hv)
    go_wp2_with fail
    go_ret
    exact ⟨ret_bool hf.out.symm, HB1.out⟩
  cases h2 : inR c 1 64
  · have hf := Lib.hid (validC_no2 (p := p) (pw := pw) (g := g) (l := l) h2)
    go_wp2_with fail
    refine (l01In_any c 1 64 _).mono ?_
    rintro e w2 ⟨rfl, rfl⟩
    rw [h2]
    go_wp2_with fail
    go_ret
    exact ⟨ret_bool hf.out.symm, HB1.out⟩
  go_wp2_with fail
  refine (l01In_any c 1 64 _).mono ?_
  rintro e w2 ⟨rfl, rfl⟩
  rw [h2]
  obtain ⟨hc1, hc2⟩ := inR_iff.1 h2
  have H2 := Lib.hid h2
  clear h2
  have e1 : IntKind.i64.wrap (c + 1) = c + 1 := IntWalk.i64_in _ (by omega)
  cases h3 : inR l (c + 1) 255
  · have hf := Lib.hid (validC_no3 (p := p) (pw := pw) (g := g) h3)
    go_wp2_with fail
    have HL := Lib.hid (fun W => l01In_any l (c + 1) 255 W)
    rw [h3] at HL
    go_quiet (first | (go_at_call 31; exact Calls.quiet_of_same ((HL.out _).mono fun e w' h => ⟨h.1, h.2.symm⟩)))
    go_wp2_with fail
    go_ret
    exact ⟨ret_bool hf.out.symm, below_drewN HB1.out _⟩
  have HL := Lib.hid (fun W => l01In_any l (c + 1) 255 W)
  rw [h3] at HL
  have H3 := Lib.hid h3
  clear h3
  have hf := Lib.hid (show validC p pw g l c = decide (l < (ffOf p pw g).size) by unfold validC; rw [hv, H2.out, H3.out]; rfl)
  have HS := Lib.hid (fun W => l02Size_any p pw g W (ranged_of hv))
  go_wp2_with fail
  go_region_held3 (fun w' => w'.cell? ⟨w.heap.size, 0, none⟩ = some (.int .i64 p) ∧ w'.cell? ⟨w.heap.size, 1, none⟩ = some (.int .i64 pw) ∧ w'.cell? ⟨w.heap.size, 2, none⟩ = some (.int .i64 g) ∧ w'.cell? ⟨w.heap.size, 3, none⟩ = some (.int .i64 l) ∧ w'.cell? ⟨w.heap.size, 4, none⟩ = some (.int .i64 c))
    (first | go_keep | ((try (dsimp only)); go_split_ands; refine ⟨?_, ?_, ?_, ?_, ?_⟩; all_goals (first | go_keep | (rw [hb2.cell (by simp; omega)]; assumption))))
    (first | (go_at_call 31; refine (HL.out _).mono ?_; rintro e w2 ⟨rfl, rfl⟩) | (go_at_call 74; refine (HS.out _).mono ?_; rintro e w2 ⟨rfl, hb2⟩))
  all_goals
    have HB2 := Lib.hid (HB1.out.trans (((Below.refl _ w1).drew.trans hb2).mono HB1.out.size))
    clear hb2
    go_wp2_with fail
    go_ret
    exact ⟨ret_bool hf.out.symm, HB2.out⟩
theorem coder_any (p pw g l c : Int) (w : World) :
    Calls Tryz.prog 156 #[cV p pw g l c] w fun e w' => ∃ v, e = .returned (.tuple #[v, .bool (validC p pw g l c)]) ∧ Below w.heap.size w w' ∧
      (validC p pw g l c = true → ∃ b, v = .pointer (some ⟨b, 0, none⟩) ∧ w.heap.size ≤ b ∧ Cod w' b p pw g l c) := by
  go_enter Tryz.func156, Tryz.ntmps156
  cases h2 : inR c 1 64
  · have hf := Lib.hid (validC_no2 (p := p) (pw := pw) (g := g) (l := l) h2)
    go_wp2_with fail
    refine (inRange_any c 1 64 _).mono ?_
    rintro e w2 ⟨rfl, rfl⟩
    rw [h2]
    go_wp2_with fail
    go_ret2
    exact ⟨_, by rw [hf.out]; rfl, below1 _ _, fun h => by rw [hf.out] at h; cases h⟩
  go_wp2_with fail
  refine (inRange_any c 1 64 _).mono ?_
  rintro e w2 ⟨rfl, rfl⟩
  rw [h2]
  obtain ⟨hc1, hc2⟩ := inR_iff.1 h2
  have H2 := Lib.hid h2
  clear h2
  cases h3 : inR l (c + 1) 255
  · have hf := Lib.hid (validC_no3 (p := p) (pw := pw) (g := g) h3)
    go_wp2_with fail
    refine (inRange_any l (c + 1) 255 _).mono ?_
    rintro e w2 ⟨rfl, rfl⟩
    rw [h3]
    go_wp2_with fail
    go_ret2
    exact ⟨_, by rw [hf.out]; rfl, below1 _ _, fun h => by rw [hf.out] at h; cases h⟩
  go_wp2_with fail
  refine (inRange_any l (c + 1) 255 _).mono ?_
  rintro e w2 ⟨rfl, rfl⟩
  rw [h3]
  have H3 := Lib.hid h3
  clear h3
  go_wp2_with fail
  refine (calc_any p pw g _).mono ?_
  rintro e w1 ⟨v, rfl, hb1, hcal⟩
  have HB1 := Lib.hid ((below1 _ _).trans (hb1.mono (by simp)))
  have hX := (boxC_new w p pw g l c CT).below hb1 (by simp)
  have HCAL := Lib.hid hcal
  obtain ⟨hlt, c0, c1, c2, c3, c4⟩ := hX
  clear hb1 hcal
  cases hv : validB p pw g
  · have hf := Lib.hid (validC_no1 (l := l) (c := c) hv)
    go_wp2_with fail
    go_quiet (fail)
    go_wp2_with fail
    go_ret2
    exact ⟨_, by rw [hf.out]; rfl, below_drewN HB1.out _, fun h => by rw [hf.out] at h; cases h⟩
  obtain ⟨b, rfl, hbb, hc⟩ := HCAL.out hv
  have HC := Lib.hid hc
  have hsz := hc.size
  clear hc
  by_cases h4 : l < (ffOf p pw g).size
  · have hf := Lib.hid (validC_yes hv H2.out H3.out h4)
    have h4' : ¬ ((ffOf p pw g).size ≤ l) := by omega
    go_wp2_with fail
    go_quiet (fail)
    go_wp2_with fail
    go_ret2
    refine ⟨_, by rw [hf.out]; rfl, ?_, fun _ => ⟨w1.heap.size, rfl, ?_, ?_⟩⟩
    · exact (below_drewN HB1.out _).alloc (by simp; omega) _
    · omega
    · exact cod_new (w1.drewN nq) b l c (HC.out.drewN _) _
  · have hf := Lib.hid (validC_no4 (c := c) h4)
    have h4' : (ffOf p pw g).size ≤ l := by omega
    go_wp2_with fail
    go_quiet (fail)
    go_wp2_with fail
    go_ret2
    exact ⟨_, by rw [hf.out]; rfl, below_drewN HB1.out _, fun h => by rw [hf.out] at h; cases h⟩
/-- Whether a list is a word. -/
def wordB (F : FF) (l : Int) (zs : List Int) : Bool := decide ((zs.length : Int) = l) && allB F zs
def wordsB (F : FF) (l : Int) (L : List (List Int)) : Bool := L.all (wordB F l)
/-- The code of a code and words. -/
noncomputable def codeC (p pw g l c : Int) (L : List (List Int)) : Int := if validC p pw g l c = true then (if wordsB (ffOf p pw g) l L = true then 0 else 2) else 1
end Go.Proofs.YtdcmebegnekkcaaGreat
