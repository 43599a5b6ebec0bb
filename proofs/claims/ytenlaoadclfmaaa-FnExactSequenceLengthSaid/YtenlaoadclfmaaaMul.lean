/-
  The reference's way to multiply (without carry, then reduced) is the field's product; powers by squaring. Plain mathematics.
-/
import Derived.Test.YtenlaoadclfmaaaField
namespace Go.Proofs.Ytenlaoadclfmaaa

/-- The product without carry, by the lowest k bits of b. -/
def clmulTo (a b : Nat) : Nat → Nat
  | 0 => 0
  | k + 1 => if b.testBit k then clmulTo a b k ^^^ (a * 2 ^ k) else clmulTo a b k
def redStep (poly P j x : Nat) : Nat := if x.testBit (P + j) then x ^^^ (poly * 2 ^ j) else x
/-- Reduction of the bits P + j - 1 down to P. -/
def red (poly P : Nat) : Nat → Nat → Nat
  | 0, x => x
  | j + 1, x => red poly P j (redStep poly P j x)

theorem xor_cancel_mid (a b c : Nat) : (a ^^^ c) ^^^ (b ^^^ c) = a ^^^ b := by
  apply Nat.eq_of_testBit_eq; intro i
  simp only [Nat.testBit_xor]
  cases a.testBit i <;> cases b.testBit i <;> cases c.testBit i <;> rfl
theorem redStep_xor (poly P j x y : Nat) : redStep poly P j (x ^^^ y) = redStep poly P j x ^^^ redStep poly P j y := by
  unfold redStep
  rw [Nat.testBit_xor]
  cases hx : x.testBit (P + j) <;> cases hy : y.testBit (P + j)
  · simp
  · simp [Nat.xor_assoc]
  · simp only [Bool.xor_false, if_true, Bool.false_eq_true, if_false]
    rw [Nat.xor_assoc, Nat.xor_assoc, Nat.xor_comm y]
  · simp only [Bool.xor_true, Bool.not_true, Bool.false_eq_true, if_false, if_true]
    exact (xor_cancel_mid _ _ _).symm
theorem red_xor (poly P j : Nat) : ∀ x y, red poly P j (x ^^^ y) = red poly P j x ^^^ red poly P j y := by
  induction j with
  | zero => intro x y; rfl
  | succ j ih => intro x y; simp only [red]; rw [redStep_xor, ih]
theorem redStep_low (poly P j x : Nat) (h : x < 2 ^ (P + j)) : redStep poly P j x = x := by
  unfold redStep; rw [if_neg (by rw [Nat.testBit_lt_two_pow h]; simp)]
theorem red_low (poly P i : Nat) : ∀ j x, x < 2 ^ (P + i) → i ≤ j → red poly P j x = red poly P i x := by
  intro j
  induction j with
  | zero => intro x _ h; have : i = 0 := by omega
            subst this; rfl
  | succ j ih =>
    intro x hx h
    by_cases e : i = j + 1
    · subst e; rfl
    · simp only [red]
      rw [redStep_low _ _ _ _ (Nat.lt_of_lt_of_le hx (Nat.pow_le_pow_right (by omega) (by omega)))]
      exact ih x hx (by omega)
theorem redStep_two (poly P j x : Nat) : redStep poly P (j + 1) (2 * x) = 2 * redStep poly P j x := by
  unfold redStep
  have h1 : (2 * x).testBit (P + (j + 1)) = x.testBit (P + j) := by
    rw [← Nat.add_assoc, Nat.testBit_succ]; congr 1; omega
  rw [h1]
  split
  · rw [← xor_two_mul, Nat.pow_succ]; congr 1; rw [Nat.mul_comm 2, Nat.mul_assoc]
  · rfl
theorem redStep_lt (poly P j x : Nat) (hp : 2 ^ P ≤ poly) (hp2 : poly < 2 ^ (P + 1)) (hx : x < 2 ^ (P + (j + 1))) : redStep poly P j x < 2 ^ (P + j) := by
  unfold redStep
  have e1 : 2 ^ (P + (j + 1)) = 2 ^ (P + j + 1) := rfl
  have e2 : (2 : Nat) ^ (P + j + 1) = 2 * 2 ^ (P + j) := by rw [Nat.pow_succ]; omega
  have e3 : (2 : Nat) ^ (P + j) = 2 ^ P * 2 ^ j := Nat.pow_add _ _ _
  have e4 : (2 : Nat) ^ (P + 1) = 2 * 2 ^ P := by rw [Nat.pow_succ]; omega
  have hb1 : poly * 2 ^ j < 2 ^ (P + j + 1) := by
    rw [e2, e3, ← Nat.mul_assoc, ← e4]; exact Nat.mul_lt_mul_of_pos_right hp2 (Nat.two_pow_pos j)
  have hb2 : 2 ^ (P + j) ≤ poly * 2 ^ j := by rw [e3]; exact Nat.mul_le_mul_right _ hp
  split
  · rename_i h
    have hx2 := Nat.ge_two_pow_of_testBit h
    have := xor_top x (poly * 2 ^ j) (P + j) hx hb1
    apply Nat.lt_of_not_le
    rw [this]
    simp [hx2, hb2]
  · rename_i h
    apply Nat.lt_of_not_le
    intro hle
    apply h
    rw [Nat.testBit_eq_decide_div_mod_eq]
    have h0 : 0 < 2 ^ (P + j) := Nat.two_pow_pos _
    have : x / 2 ^ (P + j) = 1 := by
      have h1 : 1 ≤ x / 2 ^ (P + j) := (Nat.le_div_iff_mul_le h0).2 (by omega)
      have h2 : x / 2 ^ (P + j) < 2 := (Nat.div_lt_iff_lt_mul h0).2 (by omega)
      omega
    rw [this]; rfl
theorem red_two (poly P : Nat) (hp : 2 ^ P ≤ poly) (hp2 : poly < 2 ^ (P + 1)) : ∀ j x, x < 2 ^ (P + j) →
    red poly P (j + 1) (2 * x) < 2 ^ P ∧ ((red poly P (j + 1) (2 * x) : Nat) : Int) = timesB ((2 ^ P : Nat) : Int) poly (red poly P j x : Nat) := by
  intro j
  induction j with
  | zero =>
    intro x hx
    have hx' : x < 2 ^ P := hx
    clear hx
    have e4 : (2 : Nat) ^ (P + 1) = 2 * 2 ^ P := by rw [Nat.pow_succ]; omega
    have hx2 : 2 * x < 2 ^ (P + 1) := by omega
    have hlt : red poly P 1 (2 * x) < 2 ^ P := redStep_lt poly P 0 (2 * x) hp hp2 hx2
    refine ⟨hlt, ?_⟩
    show ((redStep poly P 0 (2 * x) : Nat) : Int) = timesB _ _ (x : Int)
    unfold redStep timesB
    by_cases h : (2 * x).testBit (P + 0) = true
    · have : 2 ^ P ≤ 2 * x := Nat.ge_two_pow_of_testBit h
      rw [if_pos h, if_pos (by omega)]
      unfold xorI
      simp only [Nat.pow_zero, Nat.mul_one]
      congr 2
    · rw [if_neg h]
      have hn : ¬ (2 ^ P ≤ 2 * x) := by
        intro hle
        apply h
        show (2 * x).testBit P = true
        rw [Nat.testBit_eq_decide_div_mod_eq]
        have h0 : 0 < 2 ^ P := Nat.two_pow_pos _
        have : 2 * x / 2 ^ P = 1 := by
          have h1 : 1 ≤ 2 * x / 2 ^ P := (Nat.le_div_iff_mul_le h0).2 (by omega)
          have h2 : 2 * x / 2 ^ P < 2 := (Nat.div_lt_iff_lt_mul h0).2 (by omega)
          omega
        rw [this]; rfl
      rw [if_neg (by omega)]; omega
  | succ j ih =>
    intro x hx
    have hs := redStep_lt poly P j x hp hp2 hx
    have := ih _ hs
    show red poly P (j + 1) (redStep poly P (j + 1) (2 * x)) < _ ∧ ((red poly P (j + 1) (redStep poly P (j + 1) (2 * x)) : Nat) : Int) = timesB _ _ (red poly P j (redStep poly P j x) : Nat)
    rw [redStep_two]
    exact this
/-- The reduced product by a power of two. -/
theorem red_shift (poly P : Nat) (hp : 2 ^ P ≤ poly) (hp2 : poly < 2 ^ (P + 1)) (F : FF) (hb : F.bin = true) (hs : F.size = ((2 ^ P : Nat) : Int)) (hg : F.gen = poly) (a : Nat) (ha : a < 2 ^ P) :
    ∀ k, ((red poly P k (a * 2 ^ k) : Nat) : Int) = F.iter a k ∧ a * 2 ^ k < 2 ^ (P + k) := by
  intro k
  induction k with
  | zero => exact ⟨by show ((a * 1 : Nat) : Int) = _; rw [Nat.mul_one]; rfl, by simpa using ha⟩
  | succ k ih =>
    obtain ⟨h1, h2⟩ := ih
    have e : a * 2 ^ (k + 1) = 2 * (a * 2 ^ k) := by rw [Nat.pow_succ, ← Nat.mul_assoc, Nat.mul_comm]
    have := red_two poly P hp hp2 k (a * 2 ^ k) h2
    rw [e]
    refine ⟨?_, ?_⟩
    · rw [this.2, h1]
      show _ = F.times _
      unfold FF.times
      rw [if_pos hb, hs, hg]
    · rw [← Nat.add_assoc, Nat.pow_succ]; omega

/-- The binary product as the reference computes it. -/
def specMulB (P poly a b : Nat) : Nat := red poly P (P + 1) (clmulTo a b P)

theorem clmul_red (F : FF) (h : F.ok) (poly P : Nat) (hp : 2 ^ P ≤ poly) (hp2 : poly < 2 ^ (P + 1)) (hb : F.bin = true) (hs : F.size = ((2 ^ P : Nat) : Int)) (hg : F.gen = poly) (a b : Nat) (ha : a < 2 ^ P) :
    ∀ k, k ≤ P → ((red poly P (P + 1) (clmulTo a b k) : Nat) : Int) = F.mul ((b % 2 ^ k : Nat) : Int) a := by
  have hel : ∀ n : Nat, n < 2 ^ P → F.el (n : Int) := fun n hn => ⟨by omega, by rw [hs]; omega⟩
  have hexp : ∀ k, k < P → F.exp k = ((2 ^ k : Nat) : Int) := by
    intro k
    induction k with
    | zero => intro _; rfl
    | succ k ih =>
      intro hk
      rw [FF.exp_succ, ih (by omega)]
      unfold FF.times timesB
      have hlt : 2 ^ (k + 1) < 2 ^ P := Nat.pow_lt_pow_right (by omega) hk
      have e : 2 ^ (k + 1) = 2 * 2 ^ k := by rw [Nat.pow_succ]; omega
      rw [if_pos hb, hs, if_neg (by omega)]; omega
  intro k
  induction k with
  | zero =>
    intro _
    have : red poly P (P + 1) 0 = 0 := red_low poly P 0 (P + 1) 0 (Nat.two_pow_pos _) (by omega)
    show ((red poly P (P + 1) 0 : Nat) : Int) = _
    rw [this, Nat.pow_zero, Nat.mod_one]
    exact (FF.zero_mul' _).symm
  | succ k ih =>
    intro hk
    have ih' := ih (by omega)
    have hmod : b % 2 ^ (k + 1) = (b % 2 ^ k) ^^^ (if b.testBit k then 2 ^ k else 0) := by
      apply Nat.eq_of_testBit_eq
      intro i
      rw [Nat.testBit_xor, Nat.testBit_mod_two_pow, Nat.testBit_mod_two_pow]
      have : (if b.testBit k then 2 ^ k else 0).testBit i = (decide (i = k) && b.testBit k) := by
        split
        · rename_i hbk; rw [Nat.testBit_two_pow]; simp [hbk, eq_comm]
        · rename_i hbk; simp [hbk]
      rw [this]
      rcases Nat.lt_trichotomy i k with hl | hl | hl
      · simp [hl, Nat.lt_succ_of_lt hl, Nat.ne_of_lt hl]
      · subst hl; simp
      · simp [Nat.not_lt.2 (Nat.le_of_lt hl), Nat.not_lt.2 hl, Nat.ne_of_gt hl]
    have hmk : b % 2 ^ k < 2 ^ P := Nat.lt_of_lt_of_le (Nat.mod_lt _ (Nat.two_pow_pos _)) (Nat.pow_le_pow_right (by omega) (by omega))
    simp only [clmulTo]
    split
    · rename_i hbk
      rw [hmod, if_pos hbk, red_xor]
      obtain ⟨h1, h2⟩ := red_shift poly P hp hp2 F hb hs hg a ha k
      rw [red_low poly P k (P + 1) (a * 2 ^ k) h2 (by omega)]
      have e : (((b % 2 ^ k) ^^^ 2 ^ k : Nat) : Int) = F.add ((b % 2 ^ k : Nat) : Int) ((2 ^ k : Nat) : Int) := by
        unfold FF.add; rw [if_pos hb]; unfold xorI; simp only [Int.toNat_natCast]
      have e2 : ((red poly P (P + 1) (clmulTo a b k) ^^^ red poly P k (a * 2 ^ k) : Nat) : Int) = F.add (red poly P (P + 1) (clmulTo a b k) : Nat) (red poly P k (a * 2 ^ k) : Nat) := by
        unfold FF.add; rw [if_pos hb]; unfold xorI; simp only [Int.toNat_natCast]
      have hkk : 2 ^ k < 2 ^ P := Nat.pow_lt_pow_right (by omega) (by omega)
      rw [e, e2, ih', h1, FF.mul_comm' (F.add _ _), FF.mul_add' h (hel _ ha) (hel _ hmk) (hel _ hkk), FF.mul_comm' a, FF.mul_comm' a, ← hexp k (by omega), FF.mul_iter h (hel _ ha)]
    · rename_i hbk
      rw [hmod, if_neg hbk, Nat.xor_zero]
      exact ih'
theorem specMulB_eq (F : FF) (h : F.ok) (poly P : Nat) (hp : 2 ^ P ≤ poly) (hp2 : poly < 2 ^ (P + 1)) (hb : F.bin = true) (hs : F.size = ((2 ^ P : Nat) : Int)) (hg : F.gen = poly) (a b : Nat) (ha : a < 2 ^ P) (hbb : b < 2 ^ P) :
    ((specMulB P poly a b : Nat) : Int) = F.mul a b := by
  unfold specMulB
  rw [clmul_red F h poly P hp hp2 hb hs hg a b ha P (by omega), Nat.mod_eq_of_lt hbb, FF.mul_comm']
/-- The product of a field of prime size. -/
theorem mulP_eq (F : FF) (h : F.ok) (hb : F.bin = false) (a b : Int) (ha : F.el a) (hbb : F.el b) : a * b % F.size = F.mul a b := by
  have hlo := h.lo
  have hit : ∀ n, F.iter b n = F.exp n * b % F.size := by
    intro n
    induction n with
    | zero => show b = 1 * b % _; rw [Int.one_mul, Int.emod_eq_of_lt hbb.1 hbb.2]
    | succ n ih =>
      show F.times _ = F.times (F.exp n) * b % _
      unfold FF.times
      rw [if_neg (by simp [hb]), ih]
      unfold timesP
      rw [Int.mul_emod, Int.emod_emod, ← Int.mul_emod, Int.mul_emod (F.exp n * F.gen % F.size), Int.emod_emod, ← Int.mul_emod, Int.mul_assoc, Int.mul_assoc, Int.mul_comm b]
  by_cases h0 : a = 0
  · subst h0; rw [FF.zero_mul']; simp
  · obtain ⟨n, hn, rfl⟩ := FF.exp_onto h ha h0
    rw [FF.mul_iter h hbb, hit]
namespace FF
variable {F : FF}
/-- Powers. -/
def pow (F : FF) (a : Int) : Nat → Int
  | 0 => 1
  | n + 1 => F.mul (pow F a n) a
theorem pow_el (h : F.ok) (a : Int) (n : Nat) : F.el (F.pow a n) := by
  cases n with
  | zero => exact one_el h
  | succ n => exact mul_el h _ _
theorem pow_exp (h : F.ok) (i n : Nat) : F.pow (F.exp i) n = F.exp (i * n) := by
  induction n with
  | zero => rfl
  | succ n ih => show F.mul _ _ = _; rw [ih, mul_exp h]; rfl
theorem pow_zero_base (n : Nat) (hn : 0 < n) : F.pow 0 n = 0 := by
  cases n with
  | zero => omega
  | succ n => exact mul_zero' _
theorem inv_pow (h : F.ok) {a : Int} (ha : F.el a) (h0 : a ≠ 0) : F.pow a (F.N - 1) = F.inv a := by
  obtain ⟨i, hi, rfl⟩ := exp_onto h ha h0
  have hN := N_pos h
  unfold inv
  rw [pow_exp h, log_exp h i hi, exp_mod h, ← exp_mod h]
  have : i * (F.N - 1) % F.N = (F.N - i) % F.N := by
    have e : i * (F.N - 1) + i = i * F.N := by
      rw [← Nat.mul_succ]; congr 1; omega
    have e1 : (i * (F.N - 1) + i) % F.N = (F.N - i + i) % F.N := by
      rw [e, Nat.mul_mod_left, Nat.sub_add_cancel (by omega), Nat.mod_self]
    have e2 : ∀ x, x % F.N = ((x + i) + (F.N - i)) % F.N := fun x => by
      rw [Nat.add_assoc, Nat.add_sub_cancel' (by omega), Nat.add_mod_right]
    rw [e2 (i * (F.N - 1)), e2 (F.N - i), Nat.add_mod, e1, ← Nat.add_mod]
  rw [this, exp_mod h]
end FF
end Go.Proofs.Ytenlaoadclfmaaa
