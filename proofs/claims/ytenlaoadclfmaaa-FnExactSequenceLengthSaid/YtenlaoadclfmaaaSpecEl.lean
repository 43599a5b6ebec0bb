/-
  The walks of the reference's element checks and sums; the two FieldAdd.
-/
import Derived.Test.YtenlaoadclfmaaaSpecField
import Derived.Test.YtenlaoadclfmaaaCalc2
import Derived.Deep.RegionHeld3
namespace Go.Proofs.Ytenlaoadclfmaaa
open Go.RowKit
set_option linter.unusedVariables false

theorem RowAt.below {w w' : World} {a : Option Addr} {n C : Nat} {zs : List Int} (h : RowAt w a n zs) (hb : Below C w w') (hC : ∀ x, a = some x → x.block < C) : RowAt w' a n zs :=
  ⟨h.len, h.small, fun hn => by
    obtain ⟨b, off, rfl, hlt, hc⟩ := h.at' hn
    exact ⟨b, off, rfl, by have := hb.size; omega, fun j hj => (hb.cell (p := ⟨b, off + j, none⟩) (hC ⟨b, off, none⟩ rfl)).trans (hc j hj)⟩⟩
theorem RowAt.below' {w w' : World} {a : Option Addr} {n : Nat} {zs : List Int} (h : RowAt w a n zs) (hb : Below w.heap.size w w') : RowAt w' a n zs :=
  ⟨h.len, h.small, fun hn => by
    obtain ⟨b, off, rfl, hlt, hc⟩ := h.at' hn
    exact ⟨b, off, rfl, by have := hb.size; omega, fun j hj => (hb.cell (p := ⟨b, off + j, none⟩) hlt).trans (hc j hj)⟩⟩
set_option maxHeartbeats 1000000 in
theorem l02Is_any (p pw g : Int) (hr : Ranged p pw g) (w : World) {a : Option Addr} {n cap : Nat} {zs : List Int} (hrow : RowAt w a n zs) :
    Calls Try.prog 100 #[fV p pw g, .slice a n cap] w fun e w' => e = .returned (.bool (allB (ffOf p pw g) zs)) ∧ Below w.heap.size w w' := by
  have hn := hrow.small
  have hszb : 3 ≤ (ffOf p pw g).size ∧ (ffOf p pw g).size ≤ 1021 := by
    rcases hr with ⟨rfl, h1, h2⟩ | ⟨h1, h2, h3, h4⟩
    · unfold ffOf; rw [if_pos rfl]; exact ⟨h1, h2⟩
    · have hlo : 2 ^ 3 ≤ 2 ^ pw.toNat := Nat.pow_le_pow_right (by omega) (by omega)
      have hhi : 2 ^ pw.toNat ≤ 2 ^ 8 := Nat.pow_le_pow_right (by omega) (by omega)
      unfold ffOf; rw [if_neg (by omega)]; constructor <;> (simp only []; omega)
  have HS := Lib.hid (fun W => l02Size_any p pw g W hr)
  have HROW := Lib.hid hrow
  clear hrow
  go_enter Try.func100, Try.ntmps100
  go_wp2_with fail
  go_loopw [5] (fun t wr => ∃ k : Nat, k ≤ n ∧ Hid (allB (ffOf p pw g) (zs.take k) = true) ∧ t = .int .i64 k ∧ Below w.heap.size w wr ∧ Box wr w.heap.size p pw g) (fun t _ => n - (intOf t).toNat)
  case atStart => exact ⟨0, by omega, rfl, rfl, below1 _ _, box_new _ _ _ _ _⟩
  case round =>
    obtain ⟨k, hk, hall, rfl, hbel, hbox⟩ := hrel
    have HB := Lib.hid hbel
    have HBX := Lib.hid hbox
    have hrow := HROW.out.below' hbel
    obtain ⟨hlt, c0, c1, c2⟩ := hbox
    by_cases hlt2 : k < n
    · obtain ⟨b', off, rfl, hb', hcell⟩ := hrow.at' (by omega)
      have hcell := hcell k hlt2
      have hhas : hasB (ffOf p pw g) (gi zs k) = inR (gi zs k) 0 ((ffOf p pw g).size - 1) := rfl
      have HH := Lib.hid hhas
      clear hbel hrow hhas
      generalize (ffOf p pw g).size = sz at *
      have wsz : IntKind.i64.wrap (sz - 1) = sz - 1 := IntWalk.i64_in _ (by omega)
      go_wp2_with fail
      go_region_held3 (fun w' => w'.cell? ⟨b', off + k, none⟩ = some (.int .i64 (gi zs k)) ∧ w'.cell? ⟨w.heap.size, 0, none⟩ = some (.int .i64 p) ∧ w'.cell? ⟨w.heap.size, 1, none⟩ = some (.int .i64 pw) ∧ w'.cell? ⟨w.heap.size, 2, none⟩ = some (.int .i64 g))
        (first | go_keep | (go_split_ands; refine ⟨?_, ?_, ?_, ?_⟩; all_goals (rw [hb1.cell (by simp; omega)]; assumption)))
        (first | (go_at_call 75; refine (HS.out _).mono ?_; rintro e w1 ⟨rfl, hb1⟩) | (go_at_call 84; refine (l01In_any _ _ _ _).mono ?_; rintro e w2 ⟨rfl, rfl⟩))
      clear wsz
      have hb1' : Below wr.heap.size wr w1 := (Below.refl _ wr).drew.trans hb1
      have hB1 := Lib.hid (HB.out.trans (hb1'.mono (by omega)))
      have hX1 := Lib.hid (HBX.out.below hb1' hlt)
      clear hb1'
      clear hb1
      cases hh : hasB (ffOf p pw g) (gi zs k)
      · have hf := Lib.hid (allB_not (by rw [HROW.out.len]; exact hlt2) hh)
        rw [HH.out] at hh
        simp only [hh, Bool.not_false]
        go_wp2_with fail
        go_ret
        exact ⟨ret_bool hf.out.symm, hB1.out⟩
      · have hf := Lib.hid (allB_snoc (by rw [HROW.out.len]; exact hlt2) hall.out hh)
        rw [HH.out] at hh
        simp only [hh, Bool.not_true]
        go_wp2_with fail
        go_roundw
        case rel => exact ⟨k + 1, by omega, hf, by go_num, hB1.out, hX1.out⟩
        case measure => simp [intOf]; omega
    · have e : k = n := by omega
      have hf := Lib.hid (show allB (ffOf p pw g) zs = true by have := hall.out; rw [List.take_of_length_le (by rw [HROW.out.len]; omega)] at this; exact this)
      clear e hbel hrow
      go_wp2_with fail
      go_ret
      exact ⟨ret_bool hf.out.symm, HB.out⟩
/-- The code of a field and elements. -/
noncomputable def codeE (p pw g : Int) (zs : List Int) : Int := if validB p pw g = true then (if allB (ffOf p pw g) zs = true then 0 else 2) else 1
set_option maxHeartbeats 1000000 in
theorem l02Code_any (p pw g : Int) (w : World) {a : Option Addr} {n cap : Nat} {zs : List Int} (hrow : RowAt w a n zs) :
    Calls Try.prog 73 #[fV p pw g, .slice a n cap] w fun e w' => e = .returned (.int .i64 (codeE p pw g zs)) ∧ Below w.heap.size w w' := by
  have HROW := Lib.hid hrow
  clear hrow
  go_enter Try.func73, Try.ntmps73
  go_wp2_with fail
  refine (isField_any p pw g _).mono ?_
  rintro e w1 ⟨rfl, hb1⟩
  have HB1 := Lib.hid ((below1 _ _).trans (hb1.mono (by simp)))
  have hX1 := (box_new w p pw g 27).below hb1 (by simp)
  obtain ⟨hlt, c0, c1, c2⟩ := hX1
  clear hb1
  cases hv : validB p pw g
  · have hf := Lib.hid (show codeE p pw g zs = 1 by unfold codeE; rw [hv]; rfl)
    go_wp2_with fail
    go_ret
    exact ⟨ret_int hf.out.symm, HB1.out⟩
  · have hR := ranged_of hv
    have hrow1 := HROW.out.below' HB1.out
    cases hall : allB (ffOf p pw g) zs
    · have hf := Lib.hid (show codeE p pw g zs = 2 by unfold codeE; rw [hv, hall]; rfl)
      go_wp2_with fail
      refine (l02Is_any p pw g hR _ hrow1).mono ?_
      rintro e w2 ⟨rfl, hb2⟩
      have HB2 := Lib.hid (HB1.out.trans (hb2.mono (by omega)))
      clear hb2
      go_wp2_with fail
      go_ret
      exact ⟨ret_int hf.out.symm, HB2.out⟩
    · have hf := Lib.hid (show codeE p pw g zs = 0 by unfold codeE; rw [hv, hall]; rfl)
      go_wp2_with fail
      refine (l02Is_any p pw g hR _ hrow1).mono ?_
      rintro e w2 ⟨rfl, hb2⟩
      have HB2 := Lib.hid (HB1.out.trans (hb2.mono (by omega)))
      clear hb2
      go_wp2_with fail
      go_ret
      exact ⟨ret_int hf.out.symm, HB2.out⟩
theorem l02Add_any (p pw g : Int) (hv : validB p pw g = true) (x y : Int) (hx : (ffOf p pw g).el x) (hy : (ffOf p pw g).el y) (w : World) :
    Calls Try.prog 74 #[fV p pw g, .int .i64 x, .int .i64 y] w fun e w' => e = .returned (.int .i64 ((ffOf p pw g).add x y)) ∧ Below w.heap.size w w' := by
  have ok := ffOf_ok hv
  have hlo := ok.lo
  have hhi := ok.hi
  obtain ⟨hx0, hx1⟩ := hx
  obtain ⟨hy0, hy1⟩ := hy
  by_cases h1 : pw = 1
  · subst h1
    have hf := Lib.hid (show (ffOf p 1 g).add x y = (x + y) % p by unfold ffOf FF.add; rw [if_pos rfl]; rfl)
    have e : (ffOf p 1 g).size = p := by unfold ffOf; rw [if_pos rfl]
    rw [e] at hx1 hy1 hlo hhi
    clear e ok hv
    have hp0 : ¬ p = 0 := by omega
    go_enter Try.func74, Try.ntmps74
    go_wp2
    go_ret
    exact ⟨ret_int hf.out.symm, below1 _ _⟩
  · have h1' : (pw == 1) = false := by simp [h1]
    have hf := Lib.hid (show (ffOf p pw g).add x y = xorI x y by unfold ffOf FF.add; rw [if_neg h1]; rfl)
    have hxor := i64_xor x y hx0 (by omega) hy0 (by omega)
    clear ok hv h1
    go_enter Try.func74, Try.ntmps74
    go_wp2
    go_ret
    exact ⟨ret_int hf.out.symm, below1 _ _⟩
theorem l02Neg_any (p pw g : Int) (hv : validB p pw g = true) (x : Int) (hx : (ffOf p pw g).el x) (w : World) :
    Calls Try.prog 101 #[fV p pw g, .int .i64 x] w fun e w' => e = .returned (.int .i64 ((ffOf p pw g).neg x)) ∧ Below w.heap.size w w' := by
  have ok := ffOf_ok hv
  have hlo := ok.lo
  have hhi := ok.hi
  obtain ⟨hx0, hx1⟩ := hx
  by_cases h1 : pw = 1
  · subst h1
    have e : (ffOf p 1 g).size = p := by unfold ffOf; rw [if_pos rfl]
    rw [e] at hx1 hlo hhi
    have hf := Lib.hid (show (ffOf p 1 g).neg x = (p - x) % p by
      unfold ffOf FF.neg; rw [if_pos rfl]
      by_cases h0 : x = 0
      · subst h0; simp
      · rw [if_neg (by simp [h0]), Int.emod_eq_of_lt (by omega) (by omega)])
    clear e ok hv
    have hp0 : ¬ p = 0 := by omega
    go_enter Try.func101, Try.ntmps101
    go_wp2
    go_ret
    exact ⟨ret_int hf.out.symm, below1 _ _⟩
  · have h1' : (pw == 1) = false := by simp [h1]
    have hf := Lib.hid (show (ffOf p pw g).neg x = x by unfold ffOf FF.neg; rw [if_neg h1]; rfl)
    clear ok hv h1
    go_enter Try.func101, Try.ntmps101
    go_wp2
    go_ret
    exact ⟨ret_int hf.out.symm, below1 _ _⟩
theorem l02Mul_any (p pw g : Int) (hv : validB p pw g = true) (x y : Int) (hx : (ffOf p pw g).el x) (hy : (ffOf p pw g).el y) (w : World) :
    Calls Try.prog 102 #[fV p pw g, .int .i64 x, .int .i64 y] w fun e w' => e = .returned (.int .i64 ((ffOf p pw g).mul x y)) ∧ Below w.heap.size w w' := by
  have ok := ffOf_ok hv
  have hlo := ok.lo
  have hhi := ok.hi
  rcases ranged_of hv with ⟨rfl, h1, h2⟩ | ⟨h1, h2, h3, h4⟩
  · have e : (ffOf p 1 g).size = p := by unfold ffOf; rw [if_pos rfl]
    have hm := mulP_eq (ffOf p 1 g) ok (by unfold ffOf; rw [if_pos rfl]) x y hx hy
    rw [← hm, e]
    obtain ⟨hx0, hx1⟩ := hx
    obtain ⟨hy0, hy1⟩ := hy
    exact l02Mul_prime p g x y h1 h2 hx0 (by omega) hy0 (by omega) w
  · obtain ⟨P, rfl⟩ := Int.eq_ofNat_of_zero_le (show 0 ≤ pw by omega)
    rw [Int.toNat_natCast] at h3 h4
    obtain ⟨poly, rfl⟩ := Int.eq_ofNat_of_zero_le (show 0 ≤ g by omega)
    obtain ⟨X, rfl⟩ := Int.eq_ofNat_of_zero_le hx.1
    obtain ⟨Y, rfl⟩ := Int.eq_ofNat_of_zero_le hy.1
    have e1 : 2 ^ (P + 1) = 2 * 2 ^ P := by rw [Nat.pow_succ]; omega
    have e : (ffOf p P poly) = ⟨true, ((2 ^ P : Nat) : Int), poly⟩ := by unfold ffOf; rw [if_neg (by omega)]; simp
    have hX := hx.2
    have hY := hy.2
    rw [e] at hX hY ok ⊢
    have hm := specMulB_eq ⟨true, ((2 ^ P : Nat) : Int), poly⟩ ok poly P (by omega) (by omega) rfl rfl rfl X Y (Int.ofNat_lt.1 hX) (Int.ofNat_lt.1 hY)
    rw [← hm]
    exact l02Mul_bin P poly X Y p (by omega) (by omega) (by omega) (by omega) (Int.ofNat_lt.1 hX) (Int.ofNat_lt.1 hY) w
end Go.Proofs.Ytenlaoadclfmaaa
