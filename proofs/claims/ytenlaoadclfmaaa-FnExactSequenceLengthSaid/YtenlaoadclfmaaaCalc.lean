/-
  The walks of the methods of a field's tables.
-/
import Derived.Test.YtenlaoadclfmaaaBase
import Derived.Deep.QuietTactic
import Derived.BigQuiet
import Derived.RegionTactic
import Derived.ChangeAlike
import Derived.IntWalk
namespace Go.Proofs.Ytenlaoadclfmaaa
open Go.RowKit
set_option linter.unusedVariables false

/-- Block b holds the tables of a field. -/
structure Cal (w : World) (b : Nat) (F : FF) : Prop where
  ok : F.ok
  lt : b < w.heap.size
  bin : w.cell? ⟨b, 0, none⟩ = some (.bool F.bin)
  size : w.cell? ⟨b, 1, none⟩ = some (.int .i64 F.size)
  exp : ∀ n, n < F.N → w.cell? ⟨b, 2 + n, none⟩ = some (.int .i64 (F.exp n))
  log : ∀ a, F.el a → a ≠ 0 → w.cell? ⟨b, 1023 + a.toNat, none⟩ = some (.int .i64 (F.log a))

theorem ofInt_64 (a : Nat) (ha : a < 4611686018427387904) : (BitVec.ofInt 64 (a : Int)).toNat = a := by
  rw [BitVec.ofInt_natCast, BitVec.toNat_ofNat]; exact Nat.mod_eq_of_lt (by omega)
theorem i64_xor (a b : Int) (h1 : 0 ≤ a) (h2 : a < 4611686018427387904) (h3 : 0 ≤ b) (h4 : b < 4611686018427387904) : bits BinOp.xor IntKind.i64 a b = xorI a b := by
  obtain ⟨A, rfl⟩ := Int.eq_ofNat_of_zero_le h1
  obtain ⟨B, rfl⟩ := Int.eq_ofNat_of_zero_le h3
  have hx : A ^^^ B < 2 ^ 62 := Nat.xor_lt_two_pow (by omega) (by omega)
  show IntKind.i64.wrap ((BitVec.ofInt 64 (A : Int) ^^^ BitVec.ofInt 64 (B : Int)).toNat : Int) = _
  rw [BitVec.toNat_xor, ofInt_64 A (by omega), ofInt_64 B (by omega), IntWalk.i64_in _ (by omega)]
  unfold xorI; simp only [Int.toNat_natCast]
theorem i64_and (a b : Int) (h1 : 0 ≤ a) (h2 : a < 4611686018427387904) (h3 : 0 ≤ b) (h4 : b < 4611686018427387904) : bits BinOp.and IntKind.i64 a b = ((a.toNat &&& b.toNat : Nat) : Int) := by
  obtain ⟨A, rfl⟩ := Int.eq_ofNat_of_zero_le h1
  obtain ⟨B, rfl⟩ := Int.eq_ofNat_of_zero_le h3
  have hx : A &&& B < 2 ^ 62 := Nat.and_lt_two_pow _ (by omega)
  show IntKind.i64.wrap ((BitVec.ofInt 64 (A : Int) &&& BitVec.ofInt 64 (B : Int)).toNat : Int) = _
  rw [BitVec.toNat_and, ofInt_64 A (by omega), ofInt_64 B (by omega), IntWalk.i64_in _ (by omega)]
  simp only [Int.toNat_natCast]
/-- An element of a list, by a name that simp does not look behind. -/
def gi (l : List Int) (k : Nat) : Int := l.getD k 0
theorem gi_eq (l : List Int) (k : Nat) : gi l k = l.getD k 0 := rfl
/-- A slice of integers that is read. -/
structure RowAt (w : World) (a : Option Addr) (n : Nat) (zs : List Int) : Prop where
  len : zs.length = n
  small : n ≤ 9223372036854775807
  at' : 0 < n → ∃ b off, a = some ⟨b, off, none⟩ ∧ b < w.heap.size ∧ ∀ j, j < n → w.cell? ⟨b, off + j, none⟩ = some (.int .i64 (gi zs j))
theorem add_any {w : World} {b : Nat} {F : FF} (hc : Cal w b F) (x y : Int) (hx : F.el x) (hy : F.el y) :
    Calls Try.prog 72 #[.pointer (some ⟨b, 0, none⟩), .int .i64 x, .int .i64 y] w fun e w' => e = .returned (.int .i64 (F.add x y)) ∧ w = w' := by
  obtain ⟨ok, _, hb, hs, _, _⟩ := hc
  obtain ⟨hx0, hx1⟩ := hx
  obtain ⟨hy0, hy1⟩ := hy
  have hlo := ok.lo
  have hhi := ok.hi
  cases hbin : F.bin
  · rw [hbin] at hb
    have hf : F.add x y = (x + y) % F.size := by unfold FF.add; rw [hbin]; rfl
    have hf := Lib.hid hf
    clear hbin ok
    go_enter Try.func72, Try.ntmps72
    go_wp2
    go_ret
    exact ⟨ret_int hf.out.symm, rfl⟩
  · rw [hbin] at hb
    have hf : F.add x y = xorI x y := by unfold FF.add; rw [hbin]; rfl
    have hf := Lib.hid hf
    have hx := i64_xor x y hx0 (by omega) hy0 (by omega)
    clear hbin ok
    go_enter Try.func72, Try.ntmps72
    go_wp2
    go_ret
    exact ⟨ret_int hf.out.symm, rfl⟩
theorem mul_any {w : World} {b : Nat} {F : FF} (hc : Cal w b F) (x y : Int) (hx : F.el x) (hy : F.el y) :
    Calls Try.prog 76 #[.pointer (some ⟨b, 0, none⟩), .int .i64 x, .int .i64 y] w fun e w' => e = .returned (.int .i64 (F.mul x y)) ∧ ∃ n, w' = w.drewN n := by
  obtain ⟨ok, _, hb, hs, he, hl⟩ := hc
  have hlo := ok.lo
  have hhi := ok.hi
  by_cases hx0 : x = 0
  · have hf := Lib.hid (show F.mul x y = 0 by rw [hx0]; exact FF.zero_mul' y)
    have hx' : (x == 0) = true := by simp [hx0]
    clear he hl
    go_enter Try.func76, Try.ntmps76
    go_wp2
    go_ret
    exact ⟨ret_int hf.out.symm, 0, rfl⟩
  · by_cases hy0 : y = 0
    · have hf := Lib.hid (show F.mul x y = 0 by rw [hy0]; exact FF.mul_zero' x)
      have hx' : (x == 0) = false := by simp [hx0]
      have hy' : (y == 0) = true := by simp [hy0]
      clear he hl
      go_enter Try.func76, Try.ntmps76
      go_wp2
      go_ret
      exact ⟨ret_int hf.out.symm, 0, rfl⟩
    · have hx' : (x == 0) = false := by simp [hx0]
      have hy' : (y == 0) = false := by simp [hy0]
      have h1 := hl x hx hx0
      have h2 := hl y hy hy0
      have hlx := FF.log_lt ok hx hx0
      have hly := FF.log_lt ok hy hy0
      have hN := FF.N_size ok
      have hm : (F.log x + F.log y) % F.N < F.N := Nat.mod_lt _ (by omega)
      have h3 := he _ hm
      have hf := Lib.hid (show F.mul x y = F.exp ((F.log x + F.log y) % F.N) by unfold FF.mul; rw [if_neg (by simp [hx0, hy0])])
      obtain ⟨hxl, hxu⟩ := hx
      obtain ⟨hyl, hyu⟩ := hy
      clear he hl hx0 hy0 ok hb
      generalize F.exp ((F.log x + F.log y) % F.N) = r at *
      generalize hmm : (F.log x + F.log y) % F.N = m at *
      generalize F.log x = lx at *
      generalize F.log y = ly at *
      have e1 : ((lx : Int) + (ly : Int)).tmod (F.size - 1) = (m : Int) := by
        rw [IntWalk.rem_in _ _ (by omega), ← hN, ← hmm, Int.natCast_emod, Int.natCast_add]
      clear hmm
      generalize F.size = sz at *
      generalize F.N = N at *
      have hm2 : m < 1021 := by omega
      have hlx2 : lx < 1021 := by omega
      have hly2 : ly < 1021 := by omega
      have w1 : IntKind.i64.wrap ((lx : Int) + (ly : Int)) = (lx : Int) + (ly : Int) := IntWalk.i64_in _ (by omega)
      have w2 : IntKind.i64.wrap (sz - 1) = sz - 1 := IntWalk.i64_in _ (by omega)
      have w3 : ¬ sz - 1 = 0 := by omega
      have w4 : ¬ sz = 1 := by omega
      have hx1 : x < 1021 := by omega
      have hy1 : y < 1021 := by omega
      clear hN hlx hly hm hlo hhi hxu hyu
      go_enter Try.func76, Try.ntmps76
      go_wp2
      go_quiet (fail)
      go_wp2
      go_ret
      exact ⟨ret_int hf.out.symm, _, rfl⟩

/-- Whether a number is an element. -/
def hasB (F : FF) (a : Int) : Bool := inR a 0 (F.size - 1)
theorem hasB_iff {F : FF} {a : Int} : hasB F a = true ↔ F.el a := by unfold hasB FF.el; rw [inR_iff]; omega
theorem neg_any {w : World} {b : Nat} {F : FF} (hc : Cal w b F) (x : Int) (hx : F.el x) :
    Calls Try.prog 87 #[.pointer (some ⟨b, 0, none⟩), .int .i64 x] w fun e w' => e = .returned (.int .i64 (F.neg x)) ∧ w = w' := by
  obtain ⟨ok, _, hb, hs, _, _⟩ := hc
  obtain ⟨hx0, hx1⟩ := hx
  have hlo := ok.lo
  have hhi := ok.hi
  cases hbin : F.bin
  · rw [hbin] at hb
    by_cases h0 : x = 0
    · have hf := Lib.hid (show F.neg x = x by unfold FF.neg; rw [hbin, h0]; rfl)
      have hx' : (x == 0) = true := by simp [h0]
      clear hbin ok h0
      go_enter Try.func87, Try.ntmps87
      go_wp2
      go_ret
      exact ⟨ret_int hf.out.symm, rfl⟩
    · have hf := Lib.hid (show F.neg x = F.size - x by unfold FF.neg; rw [hbin, if_neg (by simp [h0])])
      have hx' : (x == 0) = false := by simp [h0]
      clear hbin ok h0
      go_enter Try.func87, Try.ntmps87
      go_wp2
      go_ret
      exact ⟨ret_int hf.out.symm, rfl⟩
  · rw [hbin] at hb
    have hf := Lib.hid (show F.neg x = x by unfold FF.neg; rw [hbin]; rfl)
    clear hbin ok
    go_enter Try.func87, Try.ntmps87
    go_wp2
    go_ret
    exact ⟨ret_int hf.out.symm, rfl⟩
theorem sub_any {w : World} {b : Nat} {F : FF} (hc : Cal w b F) (x y : Int) (hx : F.el x) (hy : F.el y) :
    Calls Try.prog 106 #[.pointer (some ⟨b, 0, none⟩), .int .i64 x, .int .i64 y] w fun e w' => e = .returned (.int .i64 (F.add x (F.neg y))) ∧ w = w' := by
  go_enter Try.func106, Try.ntmps106
  go_wp2_with fail
  refine (neg_any hc y hy).mono ?_
  rintro e w' ⟨rfl, rfl⟩
  go_wp2_with fail
  refine (add_any hc x _ hx (FF.neg_el hy)).mono ?_
  rintro e w' ⟨rfl, rfl⟩
  go_wp2_with fail
  go_ret
  exact ⟨rfl, rfl⟩
theorem has_any {w : World} {b : Nat} {F : FF} (hc : Cal w b F) (x : Int) :
    Calls Try.prog 130 #[.pointer (some ⟨b, 0, none⟩), .int .i64 x] w fun e w' => e = .returned (.bool (hasB F x)) ∧ w = w' := by
  obtain ⟨ok, _, hb, hs, _, _⟩ := hc
  have hlo := ok.lo
  have hhi := ok.hi
  go_enter Try.func130, Try.ntmps130
  go_wp2_with fail
  refine (inRange_any _ _ _ _).mono ?_
  rintro e w' ⟨rfl, rfl⟩
  go_wp2_with fail
  go_ret
  exact ⟨rfl, rfl⟩
/-- Whether all numbers of a list are elements. -/
def allB (F : FF) (l : List Int) : Bool := l.all (hasB F)
theorem allB_iff {F : FF} {l : List Int} : allB F l = true ↔ ∀ z ∈ l, F.el z := by
  unfold allB; rw [List.all_eq_true]
  exact ⟨fun h z hz => hasB_iff.1 (h z hz), fun h z hz => hasB_iff.2 (h z hz)⟩
theorem allB_snoc {F : FF} {l : List Int} {k : Nat} (hk : k < l.length) (h : allB F (l.take k) = true) (h1 : hasB F (gi l k) = true) : allB F (l.take (k + 1)) = true := by
  rw [VF.take_succ_getD l k hk]; unfold allB at *; rw [List.all_append, h]; simp; exact h1
theorem allB_not {F : FF} {l : List Int} {k : Nat} (hk : k < l.length) (h1 : hasB F (gi l k) = false) : allB F l = false := by
  cases h : allB F l
  · rfl
  · unfold allB at h
    rw [List.all_eq_true] at h
    rw [gi_eq, List.getD_eq_getElem?_getD, List.getElem?_eq_getElem hk] at h1
    have := h _ (List.getElem_mem hk)
    simp only [Option.getD_some] at h1
    rw [this] at h1
    cases h1
theorem hasAll_any {w : World} {b : Nat} {F : FF} (hc : Cal w b F) {a : Option Addr} {n cap : Nat} {zs : List Int} (hr : RowAt w a n zs) :
    Calls Try.prog 104 #[.pointer (some ⟨b, 0, none⟩), .slice a n cap] w fun e w' => e = .returned (.bool (allB F zs)) ∧ w = w' := by
  have hn := hr.small
  go_enter Try.func104, Try.ntmps104
  go_wp2
  go_loop [9] (fun t => ∃ k : Nat, k ≤ n ∧ allB F (zs.take k) = true ∧ t = .int .i64 k) (fun t => n - (intOf t).toNat)
  case atStart => exact ⟨0, by omega, rfl, rfl⟩
  case round =>
    obtain ⟨k, hk, hall, rfl⟩ := hrel
    have Hall := Lib.hid hall
    clear hall
    by_cases hlt : k < n
    · obtain ⟨b', off, rfl, hb', hcell⟩ := hr.at' (by omega)
      have hcell := hcell k hlt
      go_wp2_with fail
      refine (has_any hc _).mono ?_
      rintro e w' ⟨rfl, rfl⟩
      cases hh : hasB F (gi zs k)
      · have hf := Lib.hid (allB_not (by rw [hr.len]; exact hlt) hh)
        go_wp2
        go_ret
        exact ⟨ret_bool hf.out.symm, rfl⟩
      · have hf := Lib.hid (allB_snoc (by rw [hr.len]; exact hlt) Hall.out hh)
        go_wp2
        go_round
        case rel => exact ⟨k + 1, by omega, hf.out, by go_num⟩
        case measure => simp [intOf]; omega
    · have e : n = k := by omega
      have hf := Lib.hid (show allB F zs = true by have := Hall.out; rw [List.take_of_length_le (by rw [hr.len]; omega)] at this; exact this)
      clear e
      go_wp2
      go_ret
      exact ⟨ret_bool hf.out.symm, rfl⟩
end Go.Proofs.Ytenlaoadclfmaaa
