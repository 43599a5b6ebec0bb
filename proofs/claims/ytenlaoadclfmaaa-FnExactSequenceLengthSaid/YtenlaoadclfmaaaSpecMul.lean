/-
  The walks of the reference's sums and products in a field.
-/
import Derived.Test.YtenlaoadclfmaaaFieldCalc
import Derived.Laws.BitsAllLaws
namespace Go.Proofs.Ytenlaoadclfmaaa
open Go.RowKit
set_option linter.unusedVariables false

/-- The field's value. -/
abbrev fV (p pw g : Int) : Value := .agg #[.int .i64 p, .int .i64 pw, .int .i64 g]
/-- The numbers of a field, within the bounds in which the reference reckons with them. -/
def Ranged (p pw g : Int) : Prop := (pw = 1 ∧ 3 ≤ p ∧ p ≤ 1021) ∨ (3 ≤ pw ∧ pw ≤ 8 ∧ ((2 ^ pw.toNat : Nat) : Int) ≤ g ∧ g < 2 * ((2 ^ pw.toNat : Nat) : Int))
theorem ranged_of {p pw g : Int} (h : validB p pw g = true) : Ranged p pw g := by
  unfold validB at h; simp only [decide_eq_true_eq] at h
  rcases h with ⟨h1, h2, h3, _⟩ | ⟨_, h2, h3, h4, h5, _⟩
  · exact .inl ⟨h1, h2, h3⟩
  · exact .inr ⟨h2, h3, h4, h5⟩
theorem below1 (w : World) (o : Obj) : Below w.heap.size w (w.alloc o) := (Below.refl _ _).alloc (Nat.le_refl _) _

theorem l02Size_any (p pw g : Int) (w : World) (h : Ranged p pw g) :
    Calls Try.prog 75 #[fV p pw g] w fun e w' => e = .returned (.int .i64 (ffOf p pw g).size) ∧ Below w.heap.size w w' := by
  rcases h with ⟨rfl, h1, h2⟩ | ⟨h1, h2, h3, h4⟩
  · have hf := Lib.hid (show (ffOf p 1 g).size = p by unfold ffOf; rw [if_pos rfl])
    go_enter Try.func75, Try.ntmps75
    go_wp2
    go_ret
    exact ⟨ret_int hf.out.symm, below1 _ _⟩
  · have e : ((2 ^ pw.toNat : Nat) : Int) = (2 : Int) ^ pw.toNat := by simp
    have hhi : 2 ^ pw.toNat ≤ 2 ^ 8 := Nat.pow_le_pow_right (by omega) (by omega)
    have hf := Lib.hid (show (ffOf p pw g).size = wrap64 ((2 : Int) ^ pw.toNat) by
      unfold ffOf; rw [if_neg (by omega), ← e, IntWalk.wrap64_in _ (by omega)])
    have hp' : (pw == 1) = false := by simp; omega
    clear e hhi h3 h4
    go_enter Try.func75, Try.ntmps75
    go_wp2
    go_ret
    exact ⟨ret_int hf.out.symm, below1 _ _⟩
theorem and_one (b : Nat) (hb : b < 1000000) (k : Nat) : bits BinOp.and IntKind.i64 ((b : Int) / 2 ^ k) 1 = if b.testBit k then 1 else 0 := by
  have e : ((b : Int) / 2 ^ k) = ((b / 2 ^ k : Nat) : Int) := by simp
  have hle : b / 2 ^ k ≤ b := Nat.div_le_self _ _
  rw [e, i64_and _ _ (Int.natCast_nonneg _) (Int.ofNat_lt.2 (Nat.lt_of_le_of_lt hle (Nat.lt_trans hb (by decide)))) (by decide) (by decide), Int.toNat_natCast]
  show (((b / 2 ^ k) &&& 1 : Nat) : Int) = _
  rw [nat_mask1, Nat.testBit_eq_decide_div_mod_eq]
  by_cases h : b / 2 ^ k % 2 = 1
  · simp [h]
  · have : b / 2 ^ k % 2 = 0 := by omega
    simp [this]
theorem clmulTo_lt (P a b : Nat) (ha : a < 2 ^ P) : ∀ k, clmulTo a b k < 2 ^ (P + k) := by
  intro k
  induction k with
  | zero => exact Nat.two_pow_pos _
  | succ k ih =>
    have e : (2 : Nat) ^ (P + (k + 1)) = 2 * 2 ^ (P + k) := by rw [← Nat.add_assoc, Nat.pow_succ]; omega
    have h1 : a * 2 ^ k < 2 ^ (P + k) := by rw [Nat.pow_add]; exact Nat.mul_lt_mul_of_pos_right ha (Nat.two_pow_pos k)
    unfold clmulTo
    split
    · exact Nat.xor_lt_two_pow (by omega) (by omega)
    · omega
theorem xor_nat (a b : Nat) (ha : a < 1000000) (hb : b < 1000000) : bits BinOp.xor IntKind.i64 (a : Int) (b : Int) = ((a ^^^ b : Nat) : Int) := by
  rw [i64_xor _ _ (by omega) (by omega) (by omega) (by omega)]; unfold xorI; simp only [Int.toNat_natCast]
theorem mul_pow_bd {a b P k : Nat} (ha : a < 2 ^ P) (h : P + k ≤ b) : a * 2 ^ k < 2 ^ b := by
  refine Nat.lt_of_lt_of_le ?_ (Nat.pow_le_pow_right (by omega) h)
  rw [Nat.pow_add]; exact Nat.mul_lt_mul_of_pos_right ha (Nat.two_pow_pos k)
theorem shl_nat (a k : Nat) (h : a * 2 ^ k < 1000000) : wrap64 ((a : Int) * 2 ^ k) = ((a * 2 ^ k : Nat) : Int) := by
  have e : ((a : Int) * 2 ^ k) = ((a * 2 ^ k : Nat) : Int) := by simp
  rw [e]; exact IntWalk.wrap64_in _ (by omega)
theorem step1_facts (P a b k : Nat) (h8 : P ≤ 8) (hlt : k < P) (ha : a < 2 ^ P) :
    wrap64 ((a : Int) * 2 ^ k) = ((a * 2 ^ k : Nat) : Int) ∧ bits BinOp.xor IntKind.i64 (clmulTo a b k : Nat) ((a * 2 ^ k : Nat) : Int) = ((clmulTo a b k ^^^ a * 2 ^ k : Nat) : Int) := by
  have h1 := clmulTo_lt P a b ha k
  have h2 : 2 ^ (P + k) ≤ 2 ^ 16 := Nat.pow_le_pow_right (by omega) (by omega)
  have h3 : a * 2 ^ k < 2 ^ 16 := mul_pow_bd ha (by omega)
  have h4 : clmulTo a b k < 2 ^ 16 := Nat.lt_of_lt_of_le h1 h2
  have e : (2 : Nat) ^ 16 = 65536 := by decide
  rw [e] at h3 h4
  exact ⟨shl_nat a k (Nat.lt_trans h3 (by decide)), xor_nat _ _ (Nat.lt_trans h4 (by decide)) (Nat.lt_trans h3 (by decide))⟩
theorem step2_facts (P poly c i : Nat) (h8 : P ≤ 8) (hi : i ≤ P) (hp : poly < 2 ^ (P + 1)) (hc : c < 131072) :
    wrap64 ((poly : Int) * 2 ^ i) = ((poly * 2 ^ i : Nat) : Int) ∧ bits BinOp.xor IntKind.i64 (c : Int) ((poly * 2 ^ i : Nat) : Int) = ((c ^^^ poly * 2 ^ i : Nat) : Int) ∧ c ^^^ poly * 2 ^ i < 131072 := by
  have h3 : poly * 2 ^ i < 2 ^ 17 := mul_pow_bd hp (by omega)
  have e : (2 : Nat) ^ 17 = 131072 := by decide
  have h4 : c ^^^ poly * 2 ^ i < 2 ^ 17 := Nat.xor_lt_two_pow (by rw [e]; exact hc) h3
  rw [e] at h3 h4
  exact ⟨shl_nat poly i (Nat.lt_trans h3 (by decide)), xor_nat _ _ (Nat.lt_trans hc (by decide)) (Nat.lt_trans h3 (by decide)), h4⟩
theorem clmul_end (P a b : Nat) (h8 : P ≤ 8) (ha : a < 2 ^ P) : clmulTo a b P < 131072 :=
  Nat.lt_of_lt_of_le (clmulTo_lt P a b ha P) (show 2 ^ (P + P) ≤ 2 ^ 17 from Nat.pow_le_pow_right (by decide) (by omega))
set_option maxHeartbeats 400000 in
theorem l02Mul_bin (P poly a b : Nat) (p : Int) (h3 : 3 ≤ P) (h8 : P ≤ 8) (hp : 2 ^ P ≤ poly) (hp2 : poly < 2 ^ (P + 1)) (ha : a < 2 ^ P) (hb : b < 2 ^ P) (w : World) :
    Calls Try.prog 102 #[fV p P poly, .int .i64 a, .int .i64 b] w fun e w' => e = .returned (.int .i64 (specMulB P poly a b : Nat)) ∧ Below w.heap.size w w' := by
  have hp' : ((P : Int) == 1) = false := by simp; omega
  have e8 : 2 ^ P ≤ 2 ^ 8 := Nat.pow_le_pow_right (by omega) h8
  have e9 : 2 ^ (P + 1) ≤ 2 ^ 9 := Nat.pow_le_pow_right (by omega) (by omega)
  have HA := Lib.hid ha
  have HP2 := Lib.hid hp2
  have ha8 : a < 256 := by omega
  have hb8 : b < 256 := by omega
  have hb9 : b < 1000000 := by omega
  clear e8 e9 ha hb hp hp2
  go_enter Try.func102, Try.ntmps102
  go_wp2
  go_loop [7, 8] (fun o t => ∃ k : Nat, k ≤ P ∧ t = .int .i64 k ∧ o = .int .i64 (clmulTo a b k : Nat)) (fun _ t => P - (intOf t).toNat)
  case atStart => exact ⟨0, by omega, rfl, rfl⟩
  case round =>
    obtain ⟨k, hk, rfl, rfl⟩ := hrel
    by_cases hlt : k < P
    · have h1 := and_one b (by omega) k
      have hcl := clmulTo_lt P a b HA.out k
      have hcl2 : clmulTo a b k < 65536 := Nat.lt_of_lt_of_le hcl (show 2 ^ (P + k) ≤ 2 ^ 16 from Nat.pow_le_pow_right (by omega) (by omega))
      have hsm : a * 2 ^ k < 2 ^ 16 := mul_pow_bd HA.out (by omega)
      have h2 := shl_nat a k (by omega)
      have h3' := xor_nat (clmulTo a b k) (a * 2 ^ k) (by omega) (by omega)
      cases hbit : b.testBit k
      · rw [hbit] at h1
        simp only [Bool.false_eq_true, if_false] at h1
        have hf := Lib.hid (show clmulTo a b (k + 1) = clmulTo a b k by simp [clmulTo, hbit])
        clear h2 h3' hbit
        go_wp2
        go_round
        case rel => exact ⟨k + 1, by omega, by go_num, by rw [hf.out]⟩
        case measure => simp [intOf]; omega
      · rw [hbit] at h1
        simp only [if_true] at h1
        have hf := Lib.hid (show clmulTo a b (k + 1) = clmulTo a b k ^^^ a * 2 ^ k by simp [clmulTo, hbit])
        generalize clmulTo a b k = c at *
        generalize a * 2 ^ k = s at *
        generalize c ^^^ s = c2 at *
        clear hbit
        go_wp2
        go_round
        case rel => exact ⟨k + 1, by omega, by go_num, by rw [hf.out]⟩
        case measure => simp [intOf]; omega
    · obtain rfl : k = P := by omega
      have hinit : red poly k (k + 1) (clmulTo a b k) = specMulB k poly a b := rfl
      have hcl2 := clmul_end k a b h8 HA.out
      obtain ⟨r, hr⟩ : ∃ r, r = specMulB k poly a b := ⟨_, rfl⟩
      rw [← hr] at hinit
      have HI := Lib.hid hinit
      have HR := Lib.hid hr
      clear hinit hr
      generalize clmulTo a b k = c at *
      go_wp2
      go_loop [7, 9] (fun o t => ∃ (j c : Nat), j ≤ k + 1 ∧ t = .int .i64 ((k : Int) + j - 1) ∧ o = .int .i64 c ∧ c < 131072 ∧ Hid (red poly k j c = r)) (fun _ t => (intOf t + 1 - k).toNat)
      case atStart => exact ⟨k + 1, c, by omega, by go_num, rfl, hcl2, HI⟩
      case round =>
        obtain ⟨j, c, hj, rfl, rfl, hc, hred⟩ := hrel
        by_cases h0 : 0 < j
        · obtain ⟨i, rfl⟩ : ∃ i, j = i + 1 := ⟨j - 1, by omega⟩
          have et : (k : Int) + ((i + 1 : Nat) : Int) - 1 = ((k + i : Nat) : Int) := by omega
          rw [et]
          have h1 := and_one c (Nat.lt_trans hc (by decide)) (k + i)
          obtain ⟨h2, h3', hxl⟩ := step2_facts k poly c i h8 (by omega) HP2.out hc
          have et2 : ((k + i : Nat) : Int) - (k : Int) = (i : Int) := by omega
          have hki : k + i < 64 := by omega
          cases hbit : c.testBit (k + i)
          · rw [hbit] at h1
            simp only [Bool.false_eq_true, if_false] at h1
            have hf := Lib.hid (show red poly k i c = r by have := hred.out; simp only [red, redStep, hbit] at this; simpa using this)
            clear h2 h3' hbit hred hxl et et2
            go_wp2
            go_round
            case rel => exact ⟨i, c, by omega, by go_num, rfl, hc, hf⟩
            case measure => simp [intOf]; omega
          · rw [hbit] at h1
            simp only [if_true] at h1
            have hf := Lib.hid (show red poly k i (c ^^^ (poly * 2 ^ i)) = r by have := hred.out; simp only [red, redStep, hbit] at this; simpa using this)
            generalize poly * 2 ^ i = s at *
            generalize c ^^^ s = c2 at *
            clear hbit hred et
            go_wp2
            go_round
            case rel => exact ⟨i, c2, by omega, by go_num, rfl, hxl, hf⟩
            case measure => simp [intOf]; omega
        · obtain rfl : j = 0 := by omega
          have hf := Lib.hid (show c = r from hred.out)
          have et : (k : Int) + ((0 : Nat) : Int) - 1 = (k : Int) - 1 := by omega
          rw [et]
          clear hred et
          go_wp2
          go_ret
          exact ⟨ret_int (by rw [hf.out, HR.out]), below1 _ _⟩
/-- The reference's product over a field of prime size. -/
theorem l02Mul_prime (p g a b : Int) (h3 : 3 ≤ p) (hp : p ≤ 1021) (ha0 : 0 ≤ a) (ha : a < p) (hb0 : 0 ≤ b) (hb : b < p) (w : World) :
    Calls Try.prog 102 #[fV p 1 g, .int .i64 a, .int .i64 b] w fun e w' => e = .returned (.int .i64 (a * b % p)) ∧ Below w.heap.size w w' := by
  have hm : 0 ≤ a * b ∧ a * b ≤ 1042441 := by
    have h6 : a * b ≤ 1021 * 1021 := Int.mul_le_mul (by omega) (by omega) (by omega) (by omega)
    have h7 : 0 ≤ a * b := Int.mul_nonneg ha0 hb0
    omega
  have hp0 : ¬ p = 0 := by omega
  go_enter Try.func102, Try.ntmps102
  go_wp2
  go_ret
  exact ⟨rfl, below1 _ _⟩
/-- Two as a factor. -/
theorem specMulB_two (P poly x : Nat) (h3 : 3 ≤ P) (hp : 2 ^ P ≤ poly) (hp2 : poly < 2 ^ (P + 1)) (hx : x < 2 ^ P) : ((specMulB P poly x 2 : Nat) : Int) = timesB ((2 ^ P : Nat) : Int) poly x := by
  have hcl : ∀ k, 2 ≤ k → clmulTo x 2 k = 2 * x := by
    intro k hk
    induction k with
    | zero => omega
    | succ k ih =>
      by_cases e : k = 1
      · subst e
        show (if Nat.testBit 2 1 then (if Nat.testBit 2 0 then 0 ^^^ (x * 2 ^ 0) else 0) ^^^ (x * 2 ^ 1) else _) = _
        have e1 : Nat.testBit 2 1 = true := by decide
        have e0 : Nat.testBit 2 0 = false := by decide
        rw [e1, e0]; simp; omega
      · have hb : Nat.testBit 2 k = false := Nat.testBit_lt_two_pow (Nat.lt_of_lt_of_le (show 2 < 2 ^ 2 by decide) (Nat.pow_le_pow_right (by omega) (by omega)))
        show (if Nat.testBit 2 k then _ else clmulTo x 2 k) = _
        rw [hb]; simp; exact ih (by omega)
  unfold specMulB
  have hlt : 2 * x < 2 ^ (P + 1) := by rw [Nat.pow_succ]; omega
  rw [hcl P (by omega), red_low poly P 1 (P + 1) (2 * x) hlt (by omega)]
  exact (red_two poly P hp hp2 0 x hx).2
end Go.Proofs.Ytenlaoadclfmaaa
