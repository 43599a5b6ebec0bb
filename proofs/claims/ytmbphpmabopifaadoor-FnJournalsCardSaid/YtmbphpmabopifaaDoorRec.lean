/-
  Records: their checks, and their copies.
-/
import Derived.Test.YtmbphpmabopifaaDoorSpecFl
namespace Go.Proofs.YtmbphpmabopifaaDoor
open Go.RowKit
set_option linter.unusedVariables false

/-- A record as a value. -/
abbrev rV (k i : Int) : Value := .agg #[.int .i64 k, .int .i64 i]
/-- Whether a record is valid. -/
def recB (k i : Int) : Bool := inR k 1 4 && inR i 0 199
theorem recB_no {k i : Int} (h : inR k 1 4 = false) : recB k i = false := by unfold recB; rw [h]; rfl
theorem recB_yes {k i : Int} (h : inR k 1 4 = true) : recB k i = inR i 0 199 := by unfold recB; rw [h]; rfl
theorem implIsRecord_any (k i : Int) (w : World) :
    Calls Tryd.prog 37 #[rV k i] w fun e w' => e = .returned (.bool (recB k i)) ∧ Below w.heap.size w w' := by
  cases h : inR k 1 4
  · have hf := Lib.hid (recB_no (i := i) h)
    go_enter Tryd.func37, Tryd.ntmps37
    go_wp2_with fail
    refine (inRange_any _ _ _ _).mono ?_
    rintro e w1 ⟨rfl, rfl⟩
    rw [h]
    go_wp2_with fail
    go_ret
    exact ⟨ret_bool hf.out.symm, below1 _ _⟩
  · have hf := Lib.hid (recB_yes (i := i) h)
    go_enter Tryd.func37, Tryd.ntmps37
    go_wp2_with fail
    refine (inRange_any _ _ _ _).mono ?_
    rintro e w1 ⟨rfl, rfl⟩
    rw [h]
    go_wp2_with fail
    refine (inRange_any _ _ _ _).mono ?_
    rintro e w1 ⟨rfl, rfl⟩
    go_wp2_with fail
    go_ret
    exact ⟨ret_bool hf.out.symm, below1 _ _⟩
theorem specIsRecord_any (k i : Int) (w : World) :
    Calls Tryd.prog 36 #[rV k i] w fun e w' => e = .returned (.bool (recB k i)) ∧ Below w.heap.size w w' := by
  cases h : inR k 1 4
  · have hf := Lib.hid (recB_no (i := i) h)
    go_enter Tryd.func36, Tryd.ntmps36
    go_wp2_with fail
    refine (l01In_any _ _ _ _).mono ?_
    rintro e w1 ⟨rfl, rfl⟩
    rw [h]
    go_wp2_with fail
    go_ret
    exact ⟨ret_bool hf.out.symm, below1 _ _⟩
  · have hf := Lib.hid (recB_yes (i := i) h)
    go_enter Tryd.func36, Tryd.ntmps36
    go_wp2_with fail
    refine (l01In_any _ _ _ _).mono ?_
    rintro e w1 ⟨rfl, rfl⟩
    rw [h]
    go_wp2_with fail
    refine (l01In_any _ _ _ _).mono ?_
    rintro e w1 ⟨rfl, rfl⟩
    go_wp2_with fail
    go_ret
    exact ⟨ret_bool hf.out.symm, below1 _ _⟩
theorem toRecord_any (k i : Int) (w : World) :
    Calls Tryd.prog 19 #[rV k i] w fun e w' => e = .returned (rV k i) ∧ Below w.heap.size w w' := by
  go_enter Tryd.func19, Tryd.ntmps19
  go_wp2
  exact bodyPost_ret (v := rV k i) (by simp [results, Tryd.results19, go_sem]) rfl ⟨rfl, ((below1 _ _).alloc (by simp) _).alloc (by simp; omega) _⟩
/-- The box that a record lies in, while it is a parameter. -/
structure BoxR (w : World) (B : Nat) (k i : Int) : Prop where
  lt : B < w.heap.size
  c0 : w.cell? ⟨B, 0, none⟩ = some (.int .i64 k)
  c1 : w.cell? ⟨B, 1, none⟩ = some (.int .i64 i)
theorem boxR_new (w : World) (k i : Int) (t : TypeId) : BoxR (w.alloc (.cells #[.int .i64 k, .int .i64 i] t)) w.heap.size k i :=
  ⟨by simp, by simp [go_sem], by simp [go_sem]⟩
theorem BoxR.below {w w' : World} {B C : Nat} {k i : Int} (h : BoxR w B k i) (hb : Below C w w') (hC : B < C) : BoxR w' B k i :=
  ⟨by have := hb.size; have := h.lt; omega, (hb.cell (p := ⟨B, 0, none⟩) hC).trans h.c0, (hb.cell (p := ⟨B, 1, none⟩) hC).trans h.c1⟩
end Go.Proofs.YtmbphpmabopifaaDoor
