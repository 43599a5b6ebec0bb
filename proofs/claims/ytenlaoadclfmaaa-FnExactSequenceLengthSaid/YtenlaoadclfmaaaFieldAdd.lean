/-
  The program's FieldAdd and the reference's; the law that they agree.
-/
import Derived.Test.YtenlaoadclfmaaaSpecEl
namespace Go.Proofs.Ytenlaoadclfmaaa
open Go.RowKit
set_option linter.unusedVariables false

theorem row_one (W : World) (x : Int) (t : TypeId) (b : Nat) (hb : b = W.heap.size) : RowAt (W.alloc (.cells #[.int .i64 x] t)) (some ⟨b, 0, none⟩) 1 [x] := by
  subst hb
  exact ⟨rfl, by omega, fun _ => ⟨_, 0, rfl, by simp, fun j hj => by
    obtain rfl : j = 0 := by omega
    simp [go_sem]; rfl⟩⟩
theorem row_two (W : World) (x y : Int) (t : TypeId) (b : Nat) (hb : b = W.heap.size) : RowAt (W.alloc (.cells #[.int .i64 x, .int .i64 y] t)) (some ⟨b, 0, none⟩) 2 [x, y] := by
  subst hb
  exact ⟨rfl, by omega, fun _ => ⟨_, 0, rfl, by simp, fun j hj => by
    rcases (show j = 0 ∨ j = 1 by omega) with rfl | rfl
    · simp [go_sem]; rfl
    · simp [go_sem]; rfl⟩⟩
theorem codeE_zero {p pw g : Int} {zs : List Int} (h : codeE p pw g zs = 0) : validB p pw g = true ∧ ∀ z ∈ zs, (ffOf p pw g).el z := by
  unfold codeE at h
  split at h
  · rename_i h1
    split at h
    · rename_i h2; exact ⟨h1, allB_iff.1 h2⟩
    · omega
  · omega
/-- What FieldAdd answers. -/
noncomputable def faddR (p pw g x y : Int) : Int := if codeE p pw g [x, y] = 0 then (ffOf p pw g).add x y else 0
theorem specFieldAdd_any (p pw g x y : Int) (w : World) :
    Calls Try.prog 30 #[fV p pw g, .int .i64 x, .int .i64 y] w fun e w' => e = .returned (.tuple #[.int .i64 (faddR p pw g x y), .int .i64 (codeE p pw g [x, y])]) ∧ Below w.heap.size w w' := by
  go_enter Try.func30, Try.ntmps30
  go_wp2_with fail
  have hrow := row_two (w.alloc (.cells #[.int .i64 p, .int .i64 pw, .int .i64 g] 27)) x y 2 (w.heap.size + 1) (by simp)
  refine (l02Code_any p pw g _ hrow).mono ?_
  rintro e w1 ⟨rfl, hb1⟩
  have hb : Below w.heap.size w w1 := ((below1 _ _).alloc (by simp) _).trans (hb1.mono (by simp; omega))
  have HB := Lib.hid hb
  have hX := ((box_new w p pw g 27).below (Below.refl (w.heap.size + 1) _) (by simp))
  have hX1 := (hX.below ((Below.refl _ _).alloc (Nat.le_refl _) (.cells #[.int .i64 x, .int .i64 y] 2)) (by simp)).below hb1 (by simp; omega)
  obtain ⟨hlt, c0, c1, c2⟩ := hX1
  clear hb1 hb hX hrow
  by_cases hc : codeE p pw g [x, y] = 0
  · have hne : (codeE p pw g [x, y] != 0) = false := by simp [hc]
    obtain ⟨hv, hz⟩ := codeE_zero hc
    have hf := Lib.hid (show faddR p pw g x y = (ffOf p pw g).add x y by unfold faddR; rw [if_pos hc])
    have HC := Lib.hid hc
    clear hc
    go_wp2_with fail
    refine (l02Add_any p pw g hv x y (hz x (by simp)) (hz y (by simp)) _).mono ?_
    rintro e w2 ⟨rfl, hb2⟩
    have HB2 := Lib.hid (HB.out.trans (hb2.mono (by omega)))
    clear hb2
    go_wp2_with fail
    go_ret2
    exact ⟨by rw [hf.out, HC.out]; rfl, HB2.out⟩
  · have hne : (codeE p pw g [x, y] != 0) = true := by simp [hc]
    have hf := Lib.hid (show faddR p pw g x y = 0 by unfold faddR; rw [if_neg hc])
    clear hc
    go_wp2_with fail
    go_ret2
    exact ⟨by rw [hf.out]; rfl, HB.out⟩
/-- What 'elements' leaves. -/
def ElemPost (p pw g : Int) (zs : List Int) (w : World) (e : Ending) (w' : World) : Prop :=
  ∃ v, e = .returned (.tuple #[v, .int .i64 (codeE p pw g zs)]) ∧ Below w.heap.size w w' ∧ (codeE p pw g zs = 0 → ∃ b, v = .pointer (some ⟨b, 0, none⟩) ∧ w.heap.size ≤ b ∧ Cal w' b (ffOf p pw g))
theorem elements_any (p pw g : Int) (w : World) {a : Option Addr} {n cap : Nat} {zs : List Int} (hrow : RowAt w a n zs) :
    Calls Try.prog 71 #[fV p pw g, .slice a n cap] w (ElemPost p pw g zs w) := by
  have HROW := Lib.hid hrow
  clear hrow
  go_enter Try.func71, Try.ntmps71
  go_wp2_with fail
  refine (calc_any p pw g _).mono ?_
  rintro e w1 ⟨v, rfl, hb1, hcal⟩
  have hb : Below w.heap.size w w1 := (below1 _ _).trans (hb1.mono (by simp))
  have hrow1 := HROW.out.below' hb
  have HB := Lib.hid hb
  have HCAL := Lib.hid hcal
  have hsz : w.heap.size ≤ w1.heap.size := hb.size
  clear hb1 hb hcal
  cases hv : validB p pw g
  · have hf := Lib.hid (show codeE p pw g zs = 1 by unfold codeE; rw [hv]; rfl)
    go_wp2_with fail
    go_ret2
    exact ⟨_, by rw [hf.out]; rfl, HB.out, fun h => by rw [hf.out] at h; omega⟩
  · obtain ⟨b, rfl, hbb, hc⟩ := HCAL.out hv
    cases hall : allB (ffOf p pw g) zs
    · have hf := Lib.hid (show codeE p pw g zs = 2 by unfold codeE; rw [hv, hall]; rfl)
      go_wp2_with fail
      refine (hasAll_any hc hrow1).mono ?_
      rintro e w2 ⟨rfl, rfl⟩
      go_wp2_with fail
      go_ret2
      exact ⟨_, by rw [hf.out]; rfl, HB.out, fun h => by rw [hf.out] at h; omega⟩
    · have hf := Lib.hid (show codeE p pw g zs = 0 by unfold codeE; rw [hv, hall]; rfl)
      go_wp2_with fail
      refine (hasAll_any hc hrow1).mono ?_
      rintro e w2 ⟨rfl, rfl⟩
      have HC := Lib.hid hc
      have hbb2 : w.heap.size ≤ b := by simp at hbb; omega
      clear hc hbb
      go_wp2_with fail
      go_ret2
      exact ⟨_, by rw [hf.out]; rfl, HB.out, fun h => ⟨b, rfl, hbb2, HC.out⟩⟩
theorem implFieldAdd_any (p pw g x y : Int) (w : World) :
    Calls Try.prog 29 #[fV p pw g, .int .i64 x, .int .i64 y] w fun e w' => e = .returned (.tuple #[.int .i64 (faddR p pw g x y), .int .i64 (codeE p pw g [x, y])]) ∧ Below w.heap.size w w' := by
  go_enter Try.func29, Try.ntmps29
  go_wp2_with fail
  have hrow := row_two (w.alloc (.cells #[.int .i64 p, .int .i64 pw, .int .i64 g] 27)) x y 2 (w.heap.size + 1) (by simp)
  refine (elements_any p pw g _ hrow).mono ?_
  rintro e w1 ⟨v, rfl, hb1, hcal⟩
  have hb : Below w.heap.size w w1 := ((below1 _ _).alloc (by simp) _).trans (hb1.mono (by simp; omega))
  have HB := Lib.hid hb
  have HCAL := Lib.hid hcal
  clear hb1 hb hrow hcal
  by_cases hc : codeE p pw g [x, y] = 0
  · have hne : (codeE p pw g [x, y] != 0) = false := by simp [hc]
    obtain ⟨hv, hz⟩ := codeE_zero hc
    obtain ⟨b, rfl, _, hcl⟩ := HCAL.out hc
    have hf := Lib.hid (show faddR p pw g x y = (ffOf p pw g).add x y by unfold faddR; rw [if_pos hc])
    have HC := Lib.hid hc
    clear hc
    go_wp2_with fail
    refine (add_any hcl x y (hz x (by simp)) (hz y (by simp))).mono ?_
    rintro e w2 ⟨rfl, rfl⟩
    go_wp2_with fail
    go_ret2
    exact ⟨by rw [hf.out, HC.out]; rfl, HB.out⟩
  · have hne : (codeE p pw g [x, y] != 0) = true := by simp [hc]
    have hf := Lib.hid (show faddR p pw g x y = 0 by unfold faddR; rw [if_neg hc])
    clear hc
    go_wp2_with fail
    go_ret2
    exact ⟨by rw [hf.out]; rfl, HB.out⟩
end Go.Proofs.Ytenlaoadclfmaaa
