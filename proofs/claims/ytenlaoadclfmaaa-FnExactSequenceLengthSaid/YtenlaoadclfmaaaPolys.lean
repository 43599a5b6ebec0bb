/-
  The walks of the checks of lists of polynomials.
-/
import Derived.Test.YtenlaoadclfmaaaEval
import Derived.Test.YtenlaoadclfmaaaFieldAdd
namespace Go.Proofs.Ytenlaoadclfmaaa
open Go.RowKit
set_option linter.unusedVariables false

/-- A slice of slices of integers. -/
structure RowsAt (w : World) (A : Option Addr) (m : Nat) (L : List (List Int)) : Prop where
  len : L.length = m
  small : m ≤ 1000
  at' : 0 < m → ∃ b off, A = some ⟨b, off, none⟩ ∧ b < w.heap.size ∧ ∀ j, j < m → ∃ a n cap, w.cell? ⟨b, off + j, none⟩ = some (.slice a n cap) ∧ RowAt w a n (L.getD j [])
theorem RowsAt.below {w w' : World} {A : Option Addr} {m : Nat} {L : List (List Int)} (h : RowsAt w A m L) (hb : Below w.heap.size w w') : RowsAt w' A m L :=
  ⟨h.len, h.small, fun hm => by
    obtain ⟨b, off, rfl, hlt, hc⟩ := h.at' hm
    refine ⟨b, off, rfl, by have := hb.size; omega, fun j hj => ?_⟩
    obtain ⟨a, n, cap, h1, h2⟩ := hc j hj
    exact ⟨a, n, cap, (hb.cell (p := ⟨b, off + j, none⟩) hlt).trans h1, h2.below' hb⟩⟩
theorem rows_none (w : World) (A : Option Addr) : RowsAt w A 0 [] := ⟨rfl, by omega, fun h => by omega⟩
theorem rows_one (W : World) (t : TypeId) (a : Option Addr) (n cap : Nat) (zs : List Int) (h : RowAt W a n zs) (b : Nat) (hb : b = W.heap.size) : RowsAt (W.alloc (.cells #[.slice a n cap] t)) (some ⟨b, 0, none⟩) 1 [zs] := by
  subst hb
  exact ⟨rfl, by omega, fun _ => ⟨_, 0, rfl, by simp, fun j hj => by
    obtain rfl : j = 0 := by omega
    exact ⟨a, n, cap, by simp [go_sem], h.below' (below1 _ _)⟩⟩⟩
theorem rows_two (W : World) (t : TypeId) (a : Option Addr) (n cap : Nat) (zs : List Int) (h : RowAt W a n zs) (a' : Option Addr) (n' cap' : Nat) (zs' : List Int) (h' : RowAt W a' n' zs') (b : Nat) (hb : b = W.heap.size) :
    RowsAt (W.alloc (.cells #[.slice a n cap, .slice a' n' cap'] t)) (some ⟨b, 0, none⟩) 2 [zs, zs'] := by
  subst hb
  exact ⟨rfl, by omega, fun _ => ⟨_, 0, rfl, by simp, fun j hj => by
    rcases (show j = 0 ∨ j = 1 by omega) with rfl | rfl
    · exact ⟨a, n, cap, by simp [go_sem], h.below' (below1 _ _)⟩
    · exact ⟨a', n', cap', by simp [go_sem], h'.below' (below1 _ _)⟩⟩⟩
/-- Whether all lists are polynomials. -/
def polysB (F : FF) (L : List (List Int)) : Bool := L.all (polyB F)
theorem getD_take_succ (L : List (List Int)) (k : Nat) (hk : k < L.length) : L.take (k + 1) = L.take k ++ [L.getD k []] := by
  rw [List.take_succ_eq_append_getElem hk, List.getD_eq_getElem?_getD, List.getElem?_eq_getElem hk]; rfl
theorem polysB_snoc {F : FF} {L : List (List Int)} {k : Nat} (hk : k < L.length) (h : polysB F (L.take k) = true) (h1 : polyB F (L.getD k []) = true) : polysB F (L.take (k + 1)) = true := by
  rw [getD_take_succ L k hk]; unfold polysB at *; rw [List.all_append, h]; simp; simpa using h1
theorem polysB_not {F : FF} {L : List (List Int)} {k : Nat} (hk : k < L.length) (h1 : polyB F (L.getD k []) = false) : polysB F L = false := by
  cases h : polysB F L
  · rfl
  · unfold polysB at h
    rw [List.all_eq_true] at h
    rw [List.getD_eq_getElem?_getD, List.getElem?_eq_getElem hk] at h1
    have := h _ (List.getElem_mem hk)
    simp only [Option.getD_some] at h1
    rw [this] at h1
    cases h1
/-- The code of a field and polynomials. -/
noncomputable def codeP (p pw g : Int) (L : List (List Int)) : Int := if validB p pw g = true then (if polysB (ffOf p pw g) L = true then 0 else 1) else 1
theorem codeP_zero {p pw g : Int} {L : List (List Int)} (h : codeP p pw g L = 0) : validB p pw g = true ∧ ∀ zs ∈ L, polyB (ffOf p pw g) zs = true := by
  unfold codeP at h
  split at h
  · rename_i h1
    split at h
    · rename_i h2; exact ⟨h1, List.all_eq_true.1 h2⟩
    · omega
  · omega
theorem polyB_iff {F : FF} {zs : List Int} (h : polyB F zs = true) : zs.length ≤ 512 ∧ (∀ z ∈ zs, F.el z) ∧ (0 < zs.length → zs.getD (zs.length - 1) 0 ≠ 0) := by
  unfold polyB at h
  simp only [Bool.and_eq_true, decide_eq_true_eq] at h
  refine ⟨h.1, allB_iff.1 h.2.1, fun h0 => ?_⟩
  have := h.2.2
  rw [tightB_last rfl h0] at this
  simpa [gi] using this
theorem polynomials_any (p pw g : Int) (w : World) {A : Option Addr} {m cap : Nat} {L : List (List Int)} (hrows : RowsAt w A m L) :
    Calls Try.prog 57 #[fV p pw g, .slice A m cap] w fun e w' =>
      ∃ v, e = .returned (.tuple #[v, .int .i64 (codeP p pw g L)]) ∧ Below w.heap.size w w' ∧ (codeP p pw g L = 0 → ∃ b, v = .pointer (some ⟨b, 0, none⟩) ∧ w.heap.size ≤ b ∧ Cal w' b (ffOf p pw g)) := by
  have HROW := Lib.hid hrows
  have hsm := hrows.small
  clear hrows
  go_enter Try.func57, Try.ntmps57
  go_wp2_with fail
  refine (calc_any p pw g _).mono ?_
  rintro e w1 ⟨v, rfl, hb1, hcal⟩
  have hb : Below w.heap.size w w1 := (below1 _ _).trans (hb1.mono (by simp))
  have hrow1 := HROW.out.below hb
  have HB := Lib.hid hb
  have HCAL := Lib.hid hcal
  have hsz : w.heap.size ≤ w1.heap.size := hb.size
  clear hb1 hb hcal
  cases hv : validB p pw g
  · have hf := Lib.hid (show codeP p pw g L = 1 by unfold codeP; rw [hv]; rfl)
    go_wp2_with fail
    go_ret2
    exact ⟨_, by rw [hf.out]; rfl, HB.out, fun h => by rw [hf.out] at h; omega⟩
  · obtain ⟨b, rfl, hbb, hc⟩ := HCAL.out hv
    have hbb2 : w.heap.size ≤ b := by simp at hbb; omega
    have HC := Lib.hid hc
    have HR1 := Lib.hid hrow1
    clear hbb hc hrow1
    go_wp2_with fail
    go_loop [19] (fun t => ∃ k : Nat, k ≤ m ∧ Hid (polysB (ffOf p pw g) (L.take k) = true) ∧ t = .int .i64 k) (fun t => m - (intOf t).toNat)
    case atStart => exact ⟨0, by omega, rfl, rfl⟩
    case round =>
      obtain ⟨k, hk, hall, rfl⟩ := hrel
      by_cases hlt : k < m
      · obtain ⟨b', off, rfl, hb', hcs⟩ := HR1.out.at' (by omega)
        obtain ⟨a, n, cap2, hcell, hrow⟩ := hcs k hlt
        have HRW := Lib.hid hrow
        clear hcs hrow
        go_wp2_with fail
        refine (isOver_any HC.out HRW.out).mono ?_
        rintro e w' ⟨rfl, rfl⟩
        cases hh : polyB (ffOf p pw g) (L.getD k [])
        · have hf := Lib.hid (show codeP p pw g L = 1 by unfold codeP; rw [hv, polysB_not (by rw [HR1.out.len]; exact hlt) hh]; rfl)
          rw [List.getD_eq_getElem?_getD] at hh
          go_wp2_with fail
          go_ret2
          exact ⟨_, by rw [hf.out]; rfl, HB.out, fun h => by rw [hf.out] at h; omega⟩
        · have hf := Lib.hid (polysB_snoc (by rw [HR1.out.len]; exact hlt) hall.out hh)
          rw [List.getD_eq_getElem?_getD] at hh
          go_wp2_with fail
          go_round
          case rel => exact ⟨k + 1, by omega, hf, by go_num⟩
          case measure => simp [intOf]; omega
      · have e : k = m := by omega
        have hf := Lib.hid (show codeP p pw g L = 0 by
          have := hall.out; rw [List.take_of_length_le (by rw [HR1.out.len]; omega)] at this
          unfold codeP; rw [hv, this]; rfl)
        clear e
        go_wp2_with fail
        go_ret2
        exact ⟨_, by rw [hf.out]; rfl, HB.out, fun h => ⟨b, rfl, hbb2, HC.out⟩⟩
end Go.Proofs.Ytenlaoadclfmaaa
