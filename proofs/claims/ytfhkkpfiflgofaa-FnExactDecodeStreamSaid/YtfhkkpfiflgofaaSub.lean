/-
  Parts of slices of integers; copies.
-/
import Derived.Test.YtfhkkpfiflgofaaOwns
namespace Go.Proofs.Ytfhkkpfiflgofaa
open Go.RowKit
set_option linter.unusedVariables false

/-- The part from l to h of a readable slice. -/
theorem sliced_row {w : World} {a : Option Addr} {n cap : Nat} {zs : List Int} (hr : RowAt w a n zs) (hca : a = none → cap = 0) (l h : Nat) (hlh : l ≤ h) (hh : h ≤ n) (hn : n ≤ cap) :
    ∃ a', sliced a l h cap 1 = .slice a' (h - l) (cap - l) ∧ RowAt w a' (h - l) ((zs.drop l).take (h - l)) ∧ (a' = none → cap - l = 0) := by
  refine ⟨_, rfl, ⟨?_, ?_, fun h0 => ?_⟩, ?_⟩
  · rw [List.length_take, List.length_drop, hr.len]; omega
  · have := hr.small; omega
  · obtain ⟨b, off, rfl, hb, hc⟩ := hr.at' (by omega)
    have hne : ¬ cap = l := by omega
    refine ⟨b, off + l, ?_, hb, fun j hj => ?_⟩
    · rw [if_neg hne]; show some (Addr.add _ _) = _
      simp [Addr.add]
    · rw [gi_take hj, gi_drop, Nat.add_assoc]
      exact hc (l + j) (by omega)
  · intro e
    by_cases hne : cap = l
    · omega
    · rw [if_neg hne] at e
      cases a with
      | none => have := hca rfl; omega
      | some x => cases e
theorem part_row {w : World} {a : Option Addr} {n cap : Nat} {zs : List Int} (hr : RowAt w a n zs) (hca : a = none → cap = 0) (l h : Nat) (hlh : l ≤ h) (hh : h ≤ n) (hn : n ≤ cap) :
    RowAt w (if cap = l then a else Option.map (fun x => x.add l) a) (h - l) ((zs.drop l).take (h - l)) ∧ ((if cap = l then a else Option.map (fun x => x.add l) a) = none → cap - l = 0) := by
  obtain ⟨a', e, h1, h2⟩ := sliced_row hr hca l h hlh hh hn
  unfold sliced at e
  rw [Nat.mul_one] at e
  simp only [Value.slice.injEq] at e
  rw [e.1]; exact ⟨h1, h2⟩
theorem size_int64 (w : World) : (sizeOf (Try.prog.elem 26)).run Try.prog w = .ok 1 w := by kernel_rfl
theorem under_ints : Try.prog.underlying 26 = some (.slice (Try.prog.elem 26)) := by kernel_rfl
theorem run_from (a : Option Addr) (len cap l : Nat) (h : l ≤ len) (w : World) :
    (Instr.slice 26 (.slice a len cap) (some (.int .i64 l)) none none).run Try.prog w = .ok (sliced a l len cap 1) w := by
  have := run_slice_l (P := Try.prog) (w := w) 26 a len cap under_ints .i64 (l : Int) (by omega) (by omega)
  rw [this, size_int64]; rfl
theorem run_part (a : Option Addr) (len cap l h : Nat) (h1 : l ≤ h) (h2 : h ≤ cap) (w : World) :
    (Instr.slice 26 (.slice a len cap) (some (.int .i64 l)) (some (.int .i64 h)) none).run Try.prog w = .ok (sliced a l h cap 1) w := by
  have := run_slice_lh (P := Try.prog) (w := w) 26 a len cap under_ints .i64 .i64 (l : Int) (h : Int) (by omega) (by omega) (by omega)
  rw [this, size_int64]; rfl
theorem run_upto (a : Option Addr) (len cap h : Nat) (h2 : h ≤ cap) (w : World) :
    (Instr.slice 26 (.slice a len cap) none (some (.int .i64 h)) none).run Try.prog w = .ok (sliced a 0 h cap 1) w := by
  have := run_slice_h (P := Try.prog) (w := w) 26 a len cap under_ints .i64 (h : Int) (by omega) (by omega)
  rw [this, size_int64]; rfl
theorem copyOf_any {w : World} {a : Option Addr} {n cap : Nat} {xs : List Int} (hr : RowAt w a n xs) (hca : a = none → cap = 0) (hn : n ≤ 16000000) :
    Calls Try.prog 64 #[.slice a n cap] w fun e w' => ∃ v, e = .returned v ∧ Below w.heap.size w w' ∧ OwnL w' w.heap.size v xs := by
  have HR := Lib.hid hr
  have HCA := Lib.hid hca
  clear hr hca
  go_enter Try.func64, Try.ntmps64
  go_wp2_with (at_builtin; refine append_row rfl _ _ _ rfl Try.underlying26 (OwnL.nil w _ (Nat.le_refl _)) rfl _ HR.out rfl HCA.out (by simp; omega) ?_; intro v1 w1 hown1 hb1)
  simp only [List.nil_append] at hown1
  have HB := Lib.hid hb1
  have HO := Lib.hid hown1
  clear hown1 hb1
  go_wp2_with fail
  go_ret
  exact ⟨_, rfl, HB.out, HO.out⟩
end Go.Proofs.Ytfhkkpfiflgofaa
