/-
  The parts Polys, SpecPolys, PolyEval, Seq, Code.
-/
import Derived.Test.YtmbphpmabopifaaDoorLanes
/-
  The walks of the checks of lists of polynomials.
-/
namespace Go.Proofs.YtmbphpmabopifaaDoor
open Go.RowKit
set_option linter.unusedVariables false

/-- A slice of slices of integers. -/
structure RowsAt (w : World) (A : Option Addr) (m : Nat) (L : List (List Int)) : Prop where
  len : L.length = m
  small : m ≤ 1000
  at' : 0 < m → ∃ b off, A = some ⟨b, off, none⟩ ∧ b < w.heap.size ∧ ∀ j, j < m → ∃ a n cap, w.cell? ⟨b, off + j, none⟩ = some (.slice a n cap) ∧ RowAt w a n (L.getD j [])
theorem RowsAt.below {w w' : World} {A : Option Addr} {m : Nat} {L : List (List Int)} (h : RowsAt w A m L) (hb : Below w.heap.size w w') : RowsAt w' A m L :=
  ⟨h.len, h.small, fun hm => by
    obtain ⟨b, off, rfl, hlt, hc⟩ := h.at' hm
    refine ⟨b, off, rfl, by have := hb.size; omega, fun j hj => ?_⟩
    obtain ⟨a, n, cap, h1, h2⟩ := hc j hj
    exact ⟨a, n, cap, (hb.cell (p := ⟨b, off + j, none⟩) hlt).trans h1, h2.below' hb⟩⟩
theorem rows_none (w : World) (A : Option Addr) : RowsAt w A 0 [] := ⟨rfl, by omega, fun h => by omega⟩
theorem rows_one (W : World) (t : TypeId) (a : Option Addr) (n cap : Nat) (zs : List Int) (h : RowAt W a n zs) (b : Nat) (hb : b = W.heap.size) : RowsAt (W.alloc (.cells #[.slice a n cap] t)) (some ⟨b, 0, none⟩) 1 [zs] := by
  subst hb
  exact ⟨rfl, by omega, fun _ => ⟨_, 0, rfl, by simp, fun j hj => by
    obtain rfl : j = 0 := by omega
    exact ⟨a, n, cap, by simp [go_sem], h.below' (below1 _ _)⟩⟩⟩
theorem rows_two (W : World) (t : TypeId) (a : Option Addr) (n cap : Nat) (zs : List Int) (h : RowAt W a n zs) (a' : Option Addr) (n' cap' : Nat) (zs' : List Int) (h' : RowAt W a' n' zs') (b : Nat) (hb : b = W.heap.size) :
    RowsAt (W.alloc (.cells #[.slice a n cap, .slice a' n' cap'] t)) (some ⟨b, 0, none⟩) 2 [zs, zs'] := by
  subst hb
  exact ⟨rfl, by omega, fun _ => ⟨_, 0, rfl, by simp, fun j hj => by
    rcases (show j = 0 ∨ j = 1 by omega) with rfl | rfl
    · exact ⟨a, n, cap, by simp [go_sem], h.below' (below1 _ _)⟩
    · exact ⟨a', n', cap', by simp [go_sem], h'.below' (below1 _ _)⟩⟩⟩
/-- Whether all lists are polynomials. -/
def polysB (F : FF) (L : List (List Int)) : Bool := L.all (polyB F)
theorem getD_take_succ (L : List (List Int)) (k : Nat) (hk : k < L.length) : L.take (k + 1) = L.take k ++ [L.getD k []] := by
  rw [List.take_succ_eq_append_getElem hk, List.getD_eq_getElem?_getD, List.getElem?_eq_getElem hk]; rfl
theorem polysB_snoc {F : FF} {L : List (List Int)} {k : Nat} (hk : k < L.length) (h : polysB F (L.take k) = true) (h1 : polyB F (L.getD k []) = true) : polysB F (L.take (k + 1)) = true := by
  rw [getD_take_succ L k hk]; unfold polysB at *; rw [List.all_append, h]; simp; simpa using h1
theorem polysB_not {F : FF} {L : List (List Int)} {k : Nat} (hk : k < L.length) (h1 : polyB F (L.getD k []) = false) : polysB F L = false := by
  cases h : polysB F L
  · rfl
  · unfold polysB at h
    rw [List.all_eq_true] at h
    rw [List.getD_eq_getElem?_getD, List.getElem?_eq_getElem hk] at h1
    have := h _ (List.getElem_mem hk)
    simp only [Option.getD_some] at h1
    rw [this] at h1
    cases h1
/-- The code of a field and polynomials. -/
noncomputable def codeP (p pw g : Int) (L : List (List Int)) : Int := if validB p pw g = true then (if polysB (ffOf p pw g) L = true then 0 else 1) else 1
theorem codeP_zero {p pw g : Int} {L : List (List Int)} (h : codeP p pw g L = 0) : validB p pw g = true ∧ ∀ zs ∈ L, polyB (ffOf p pw g) zs = true := by
  unfold codeP at h
  split at h
  · rename_i h1
    split at h
    · rename_i h2; exact ⟨h1, List.all_eq_true.1 h2⟩
    · omega
  · omega
theorem polyB_iff {F : FF} {zs : List Int} (h : polyB F zs = true) : zs.length ≤ 512 ∧ (∀ z ∈ zs, F.el z) ∧ (0 < zs.length → zs.getD (zs.length - 1) 0 ≠ 0) := by
  unfold polyB at h
  simp only [Bool.and_eq_true, decide_eq_true_eq] at h
  refine ⟨h.1, allB_iff.1 h.2.1, fun h0 => ?_⟩
  have := h.2.2
  rw [tightB_last rfl h0] at this
  simpa [gi] using this
end Go.Proofs.YtmbphpmabopifaaDoor
/-
  The walks of the reference's checks of polynomials.
-/
namespace Go.Proofs.YtmbphpmabopifaaDoor
open Go.RowKit
set_option linter.unusedVariables false

end Go.Proofs.YtmbphpmabopifaaDoor
/-
  The walks of the two PolyEval.
-/
namespace Go.Proofs.YtmbphpmabopifaaDoor
open Go.RowKit
set_option linter.unusedVariables false

/-- The code that PolyEval answers. -/
noncomputable def pevC (p pw g : Int) (zs : List Int) (x : Int) : Int := if codeP p pw g [zs] = 0 then (if hasB (ffOf p pw g) x = true then 0 else 2) else codeP p pw g [zs]
noncomputable def pevR (p pw g : Int) (zs : List Int) (x : Int) : Int := if codeP p pw g [zs] = 0 ∧ hasB (ffOf p pw g) x = true then evI (ffOf p pw g) zs x else 0
theorem box_alloc {w : World} {B : Nat} {p pw g : Int} (h : Box w B p pw g) (o : Obj) : Box (w.alloc o) B p pw g := h.below ((Below.refl _ _).alloc (Nat.le_refl _) o) h.lt
end Go.Proofs.YtmbphpmabopifaaDoor
/-
  The walks of the checks of sequences, and of IsSatisfied.
-/
namespace Go.Proofs.YtmbphpmabopifaaDoor
open Go.RowKit
set_option linter.unusedVariables false

/-- The code of a field and a sequence. -/
noncomputable def seqC (p pw g : Int) (zs : List Int) : Int := if validB p pw g = true then (if zs.length ≤ 64 ∧ allB (ffOf p pw g) zs = true then 0 else 2) else 1
theorem seqC_zero {p pw g : Int} {zs : List Int} (h : seqC p pw g zs = 0) : validB p pw g = true ∧ zs.length ≤ 64 ∧ ∀ z ∈ zs, (ffOf p pw g).el z := by
  unfold seqC at h
  split at h
  · rename_i h1
    split at h
    · rename_i h2; exact ⟨h1, h2.1, allB_iff.1 h2.2⟩
    · omega
  · omega
end Go.Proofs.YtmbphpmabopifaaDoor
/-
  Codes: which are valid, and the words of them: the walks of the checks.
-/
namespace Go.Proofs.YtmbphpmabopifaaDoor
open Go.RowKit
set_option linter.unusedVariables false

/-- A code as a value. -/
abbrev cV (p pw g l c : Int) : Value := .agg #[.int .i64 p, .int .i64 pw, .int .i64 g, .int .i64 l, .int .i64 c]
/-- The box that a code lies in, while it is a parameter. -/
structure BoxC (w : World) (B : Nat) (p pw g l c : Int) : Prop where
  lt : B < w.heap.size
  c0 : w.cell? ⟨B, 0, none⟩ = some (.int .i64 p)
  c1 : w.cell? ⟨B, 1, none⟩ = some (.int .i64 pw)
  c2 : w.cell? ⟨B, 2, none⟩ = some (.int .i64 g)
  c3 : w.cell? ⟨B, 3, none⟩ = some (.int .i64 l)
  c4 : w.cell? ⟨B, 4, none⟩ = some (.int .i64 c)
theorem boxC_new (w : World) (p pw g l c : Int) (t : TypeId) : BoxC (w.alloc (.cells #[.int .i64 p, .int .i64 pw, .int .i64 g, .int .i64 l, .int .i64 c] t)) w.heap.size p pw g l c :=
  ⟨by simp, by simp [go_sem], by simp [go_sem], by simp [go_sem], by simp [go_sem], by simp [go_sem]⟩
theorem BoxC.below {w w' : World} {B C : Nat} {p pw g l c : Int} (h : BoxC w B p pw g l c) (hb : Below C w w') (hC : B < C) : BoxC w' B p pw g l c :=
  ⟨by have := hb.size; have := h.lt; omega, (hb.cell (p := ⟨B, 0, none⟩) hC).trans h.c0, (hb.cell (p := ⟨B, 1, none⟩) hC).trans h.c1, (hb.cell (p := ⟨B, 2, none⟩) hC).trans h.c2,
    (hb.cell (p := ⟨B, 3, none⟩) hC).trans h.c3, (hb.cell (p := ⟨B, 4, none⟩) hC).trans h.c4⟩
/-- Whether a code is valid. -/
noncomputable def validC (p pw g l c : Int) : Bool := validB p pw g && (inR c 1 64 && (inR l (c + 1) 255 && decide (l < (ffOf p pw g).size)))
theorem validC_iff {p pw g l c : Int} (h : validC p pw g l c = true) : validB p pw g = true ∧ 1 ≤ c ∧ c ≤ 64 ∧ c + 1 ≤ l ∧ l ≤ 255 ∧ l < (ffOf p pw g).size := by
  unfold validC at h
  simp only [Bool.and_eq_true, decide_eq_true_eq, inR_iff] at h
  obtain ⟨h1, h2, h3, h4⟩ := h
  exact ⟨h1, by omega, by omega, by omega, by omega, h4⟩
theorem validC_no1 {p pw g l c : Int} (h : validB p pw g = false) : validC p pw g l c = false := by unfold validC; rw [h]; rfl
theorem validC_no2 {p pw g l c : Int} (h : inR c 1 64 = false) : validC p pw g l c = false := by unfold validC; rw [h]; simp
theorem validC_no3 {p pw g l c : Int} (h : inR l (c + 1) 255 = false) : validC p pw g l c = false := by unfold validC; rw [h]; simp
theorem validC_no4 {p pw g l c : Int} (h : ¬ (l < (ffOf p pw g).size)) : validC p pw g l c = false := by unfold validC; rw [decide_eq_false h]; simp
theorem validC_yes {p pw g l c : Int} (h1 : validB p pw g = true) (h2 : inR c 1 64 = true) (h3 : inR l (c + 1) 255 = true) (h4 : l < (ffOf p pw g).size) : validC p pw g l c = true := by
  unfold validC; rw [h1, h2, h3, decide_eq_true h4]; rfl
/-- The code behind a pointer. -/
structure Cod (w : World) (b : Nat) (p pw g l c : Int) : Prop where
  lt : b < w.heap.size
  cal : ∃ bc, w.cell? ⟨b, 0, none⟩ = some (.pointer (some ⟨bc, 0, none⟩)) ∧ Cal w bc (ffOf p pw g)
  len : w.cell? ⟨b, 1, none⟩ = some (.int .i64 l)
  chk : w.cell? ⟨b, 2, none⟩ = some (.int .i64 c)
theorem Cod.below {w w' : World} {b : Nat} {p pw g l c : Int} (h : Cod w b p pw g l c) (hb : Below w.heap.size w w') : Cod w' b p pw g l c := by
  obtain ⟨bc, h1, h2⟩ := h.cal
  exact ⟨by have := hb.size; have := h.lt; omega, ⟨bc, (hb.cell (p := ⟨b, 0, none⟩) h.lt).trans h1, h2.below hb⟩, (hb.cell (p := ⟨b, 1, none⟩) h.lt).trans h.len, (hb.cell (p := ⟨b, 2, none⟩) h.lt).trans h.chk⟩
theorem cod_new (W : World) (bc : Nat) {p pw g : Int} (l c : Int) (hcal : Cal W bc (ffOf p pw g)) (t : TypeId) :
    Cod (W.alloc (.cells #[.pointer (some ⟨bc, 0, none⟩), .int .i64 l, .int .i64 c] t)) W.heap.size p pw g l c :=
  ⟨by simp, ⟨bc, by simp [go_sem], hcal.below ((Below.refl _ _).alloc (Nat.le_refl _) _)⟩, by simp [go_sem], by simp [go_sem]⟩
/-- Whether a list is a word. -/
def wordB (F : FF) (l : Int) (zs : List Int) : Bool := decide ((zs.length : Int) = l) && allB F zs
theorem wordB_iff {F : FF} {l : Int} {zs : List Int} (h : wordB F l zs = true) : (zs.length : Int) = l ∧ ∀ z ∈ zs, F.el z := by
  unfold wordB at h
  simp only [Bool.and_eq_true, decide_eq_true_eq] at h
  exact ⟨h.1, allB_iff.1 h.2⟩
def wordsB (F : FF) (l : Int) (L : List (List Int)) : Bool := L.all (wordB F l)
theorem wordsB_snoc {F : FF} {l : Int} {L : List (List Int)} {k : Nat} (hk : k < L.length) (h : wordsB F l (L.take k) = true) (h1 : wordB F l (L.getD k []) = true) : wordsB F l (L.take (k + 1)) = true := by
  rw [getD_take_succ L k hk]; unfold wordsB at *; rw [List.all_append, h]; simp; simpa using h1
theorem wordsB_not {F : FF} {l : Int} {L : List (List Int)} {k : Nat} (hk : k < L.length) (h1 : wordB F l (L.getD k []) = false) : wordsB F l L = false := by
  cases h : wordsB F l L
  · rfl
  · unfold wordsB at h
    rw [List.all_eq_true] at h
    have := h (L.getD k []) (by rw [List.getD_eq_getElem?_getD, List.getElem?_eq_getElem hk]; exact List.getElem_mem hk)
    rw [this] at h1; cases h1
/-- The code of a code and words. -/
noncomputable def codeC (p pw g l c : Int) (L : List (List Int)) : Int := if validC p pw g l c = true then (if wordsB (ffOf p pw g) l L = true then 0 else 2) else 1
theorem codeC_zero {p pw g l c : Int} {L : List (List Int)} (h : codeC p pw g l c L = 0) : validC p pw g l c = true ∧ ∀ zs ∈ L, wordB (ffOf p pw g) l zs = true := by
  unfold codeC at h
  split at h
  · rename_i h1
    split at h
    · rename_i h2; exact ⟨h1, fun zs hz => by unfold wordsB at h2; rw [List.all_eq_true] at h2; exact h2 zs hz⟩
    · omega
  · omega
end Go.Proofs.YtmbphpmabopifaaDoor
