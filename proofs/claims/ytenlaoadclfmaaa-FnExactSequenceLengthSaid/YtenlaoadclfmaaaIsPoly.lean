/-
  The walks of the checks of polynomials.
-/
import Derived.Test.YtenlaoadclfmaaaSlices2
namespace Go.Proofs.Ytenlaoadclfmaaa
open Go.RowKit
set_option linter.unusedVariables false

/-- No zero at the end, as a Bool. -/
def tightB (zs : List Int) : Bool := zs.length == 0 || gi zs (zs.length - 1) != 0
/-- Whether a list is a polynomial. -/
def polyB (F : FF) (zs : List Int) : Bool := decide (zs.length ≤ 512) && (allB F zs && tightB zs)
theorem polyB_long {F : FF} {zs : List Int} (h : 512 < zs.length) : polyB F zs = false := by
  unfold polyB; rw [decide_eq_false (by omega)]; rfl
theorem polyB_all {F : FF} {zs : List Int} (h : allB F zs = false) : polyB F zs = false := by
  unfold polyB; rw [h]; simp
theorem polyB_rest {F : FF} {zs : List Int} (h : zs.length ≤ 512) (h2 : allB F zs = true) : polyB F zs = tightB zs := by
  unfold polyB; rw [decide_eq_true h, h2]; rfl
theorem tightB_nil {zs : List Int} (h : zs.length = 0) : tightB zs = true := by unfold tightB; simp [h]
theorem tightB_last {zs : List Int} {n : Nat} (hn : zs.length = n) (h : 0 < n) : tightB zs = (gi zs (n - 1) != 0) := by
  unfold tightB; rw [hn]
  have : (n == 0) = false := by simp; omega
  rw [this]; rfl
theorem isOver_any {w : World} {b : Nat} {F : FF} (hc : Cal w b F) {a : Option Addr} {n cap : Nat} {zs : List Int} (hr : RowAt w a n zs) :
    Calls Try.prog 109 #[.slice a n cap, .pointer (some ⟨b, 0, none⟩)] w fun e w' => e = .returned (.bool (polyB F zs)) ∧ w = w' := by
  have HR := Lib.hid hr
  have hl := hr.len
  have hsm := hr.small
  clear hr
  by_cases h1 : n ≤ 512
  · cases hall : allB F zs
    · have hf := Lib.hid (polyB_all hall)
      clear hl
      go_enter Try.func109, Try.ntmps109
      go_wp2_with fail
      refine (hasAll_any hc HR.out).mono ?_
      rintro e w' ⟨rfl, rfl⟩
      go_wp2_with fail
      go_ret
      exact ⟨ret_bool hf.out.symm, rfl⟩
    · by_cases h0 : n = 0
      · subst h0
        have hf := Lib.hid ((polyB_rest (by omega) hall).trans (tightB_nil hl))
        clear hl
        go_enter Try.func109, Try.ntmps109
        go_wp2_with fail
        refine (hasAll_any hc HR.out).mono ?_
        rintro e w' ⟨rfl, rfl⟩
        go_wp2_with fail
        go_ret
        exact ⟨ret_bool hf.out.symm, rfl⟩
      · have hf := Lib.hid ((polyB_rest (by omega) hall).trans (tightB_last hl (by omega)))
        obtain ⟨b1, o1, rfl, hb1, hcs⟩ := HR.out.at' (by omega)
        have hcell := hcs (n - 1) (by omega)
        have hn0 : ((n : Int) == 0) = false := by simp; omega
        have ei : ((n : Int) - 1).toNat = n - 1 := by omega
        clear hcs hl
        go_enter Try.func109, Try.ntmps109
        go_wp2_with fail
        refine (hasAll_any hc HR.out).mono ?_
        rintro e w' ⟨rfl, rfl⟩
        go_wp2_with fail
        go_ret
        exact ⟨ret_bool hf.out.symm, rfl⟩
  · have hf := Lib.hid (polyB_long (F := F) (show 512 < zs.length by omega))
    clear hl
    go_enter Try.func109, Try.ntmps109
    go_wp2_with fail
    go_ret
    exact ⟨ret_bool hf.out.symm, rfl⟩
end Go.Proofs.Ytenlaoadclfmaaa
