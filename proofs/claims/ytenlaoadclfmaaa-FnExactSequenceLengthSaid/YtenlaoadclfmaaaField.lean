/-
  Finite fields as the program has them: sums, and the powers of a generator. Plain mathematics; no program in sight.
-/
import Derived.Test.YtenlaoadclfmaaaRing
namespace Go.Proofs.Ytenlaoadclfmaaa

/-- Exclusive or of two numbers that are at least 0. -/
def xorI (a b : Int) : Int := ((a.toNat ^^^ b.toNat : Nat) : Int)

/-- The powers of the generator, from 1 on. -/
def orb (T : Int → Int) : Nat → Int
  | 0 => 1
  | n + 1 => T (orb T n)

/-- The powers are N different numbers but 0, and then comes 1 again. -/
def Good (T : Int → Int) (N : Nat) : Prop := (∀ n, n < N → orb T n ≠ 0 ∧ (0 < n → orb T n ≠ 1)) ∧ orb T N = 1

def timesP (g p x : Int) : Int := x * g % p
def timesB (size poly x : Int) : Int := if size ≤ 2 * x then xorI (2 * x) poly else 2 * x

/-- A field: binary or not, its size, and its generator (or the polynomial of a binary one). -/
structure FF where
  bin : Bool
  size : Int
  gen : Int

namespace FF
def times (F : FF) : Int → Int := if F.bin then timesB F.size F.gen else timesP F.gen F.size
def N (F : FF) : Nat := (F.size - 1).toNat
structure ok (F : FF) : Prop where
  lo : 3 ≤ F.size
  hi : F.size ≤ 1021
  good : Good F.times F.N
  isB : F.bin = true → ∃ k : Nat, 3 ≤ k ∧ k ≤ 8 ∧ F.size = ((2 ^ k : Nat) : Int) ∧ F.size ≤ F.gen ∧ F.gen < 2 * F.size
  isP : F.bin = false → 1 ≤ F.gen ∧ F.gen < F.size
/-- a is an element. -/
def el (F : FF) (a : Int) : Prop := 0 ≤ a ∧ a < F.size
def add (F : FF) (a b : Int) : Int := if F.bin then xorI a b else (a + b) % F.size
def neg (F : FF) (a : Int) : Int := if F.bin || a == 0 then a else F.size - a
def exp (F : FF) (n : Nat) : Int := orb F.times n
/-- The least n below N with exp n = a (or N). -/
def logTo (F : FF) (a : Int) : Nat → Nat → Nat
  | 0, n => n
  | k + 1, n => if F.exp n = a then n else logTo F a k (n + 1)
def log (F : FF) (a : Int) : Nat := F.logTo a F.N 0
def mul (F : FF) (a b : Int) : Int := if a = 0 ∨ b = 0 then 0 else F.exp ((F.log a + F.log b) % F.N)
def inv (F : FF) (a : Int) : Int := F.exp ((F.N - F.log a) % F.N)
end FF

theorem xorI_comm (a b : Int) : xorI a b = xorI b a := by unfold xorI; rw [Nat.xor_comm]
theorem xorI_assoc (a b c : Int) : xorI (xorI a b) c = xorI a (xorI b c) := by
  unfold xorI; simp only [Int.toNat_natCast]; rw [Nat.xor_assoc]
theorem xorI_nonneg (a b : Int) : 0 ≤ xorI a b := by unfold xorI; omega
theorem xorI_self (a : Int) : xorI a a = 0 := by unfold xorI; simp
theorem xorI_zero (a : Int) (h : 0 ≤ a) : xorI a 0 = a := by unfold xorI; simp; omega
theorem xorI_lt (a b : Int) (k : Nat) (ha : a < ((2 ^ k : Nat) : Int)) (hb : b < ((2 ^ k : Nat) : Int)) : xorI a b < ((2 ^ k : Nat) : Int) := by
  unfold xorI
  have h0 : 0 < 2 ^ k := Nat.two_pow_pos k
  exact Int.ofNat_lt.2 (Nat.xor_lt_two_pow (by omega) (by omega))
theorem xor_two_mul (a b : Nat) : (2 * a) ^^^ (2 * b) = 2 * (a ^^^ b) := by
  apply Nat.eq_of_testBit_eq
  intro i
  rw [Nat.testBit_xor]
  cases i with
  | zero => simp
  | succ i => simp [Nat.testBit_succ]
theorem xorI_two_mul (a b : Int) (ha : 0 ≤ a) (hb : 0 ≤ b) : xorI (2 * a) (2 * b) = 2 * xorI a b := by
  unfold xorI
  have h1 : (2 * a).toNat = 2 * a.toNat := by omega
  have h2 : (2 * b).toNat = 2 * b.toNat := by omega
  rw [h1, h2, xor_two_mul]; omega
/-- Below 2^(k+1) the top bit of an exclusive or. -/
theorem xor_top (a b k : Nat) (ha : a < 2 ^ (k + 1)) (hb : b < 2 ^ (k + 1)) : 2 ^ k ≤ a ^^^ b ↔ ¬ (2 ^ k ≤ a ↔ 2 ^ k ≤ b) := by
  have hp : (2 : Nat) ^ (k + 1) = 2 * 2 ^ k := by rw [Nat.pow_succ]; omega
  have h : ∀ x : Nat, x < 2 ^ (k + 1) → (2 ^ k ≤ x ↔ x.testBit k = true) := by
    intro x hx
    constructor
    · intro h
      rw [Nat.testBit_eq_decide_div_mod_eq]
      have h0 : 0 < 2 ^ k := Nat.two_pow_pos k
      have : x / 2 ^ k = 1 := by
        have h1 : 1 ≤ x / 2 ^ k := (Nat.le_div_iff_mul_le h0).2 (by omega)
        have h2 : x / 2 ^ k < 2 := (Nat.div_lt_iff_lt_mul h0).2 (by omega)
        omega
      rw [this]; rfl
    · intro h; exact Nat.ge_two_pow_of_testBit h
  have hx : a ^^^ b < 2 ^ (k + 1) := Nat.xor_lt_two_pow ha hb
  rw [h _ hx, h _ ha, h _ hb, Nat.testBit_xor]
  cases a.testBit k <;> cases b.testBit k <;> simp
theorem timesB_range (k : Nat) (poly x : Int) (hp : ((2 ^ k : Nat) : Int) ≤ poly) (hp2 : poly < 2 * ((2 ^ k : Nat) : Int)) (h0 : 0 ≤ x) (h1 : x < ((2 ^ k : Nat) : Int)) :
    0 ≤ timesB ((2 ^ k : Nat) : Int) poly x ∧ timesB ((2 ^ k : Nat) : Int) poly x < ((2 ^ k : Nat) : Int) := by
  unfold timesB
  have hpw : (2 : Nat) ^ (k + 1) = 2 * 2 ^ k := by rw [Nat.pow_succ]; omega
  split
  · rename_i h
    refine ⟨xorI_nonneg _ _, ?_⟩
    have ha : (2 * x).toNat < 2 ^ (k + 1) := by omega
    have hb : poly.toNat < 2 ^ (k + 1) := by omega
    have hx := xor_top (2 * x).toNat poly.toNat k ha hb
    unfold xorI
    have hn : ¬ (2 ^ k ≤ (2 * x).toNat ^^^ poly.toNat) := by
      rw [hx]
      simp only [Classical.not_not]
      constructor <;> intro <;> omega
    omega
  · rename_i h; omega
theorem timesB_add (k : Nat) (poly x y : Int) (hx0 : 0 ≤ x) (hx : x < ((2 ^ k : Nat) : Int)) (hy0 : 0 ≤ y) (hy : y < ((2 ^ k : Nat) : Int)) :
    timesB ((2 ^ k : Nat) : Int) poly (xorI x y) = xorI (timesB ((2 ^ k : Nat) : Int) poly x) (timesB ((2 ^ k : Nat) : Int) poly y) := by
  have hpw : (2 : Nat) ^ (k + 1) = 2 * 2 ^ k := by rw [Nat.pow_succ]; omega
  have ht := xor_top (2 * x).toNat (2 * y).toNat k (by omega) (by omega)
  have h2 := xorI_two_mul x y hx0 hy0
  have e : (((2 * x).toNat ^^^ (2 * y).toNat : Nat) : Int) = 2 * xorI x y := by rw [← h2]; rfl
  have ht' : ((2 ^ k : Nat) : Int) ≤ 2 * xorI x y ↔ ¬ (((2 ^ k : Nat) : Int) ≤ 2 * x ↔ ((2 ^ k : Nat) : Int) ≤ 2 * y) := by
    rw [← e]
    constructor
    · intro h h'; exact ht.1 (by omega) ⟨fun a => by have := h'.1 (by omega); omega, fun a => by have := h'.2 (by omega); omega⟩
    · intro h
      have := ht.2 (fun h' => h ⟨fun a => by have := h'.1 (by omega); omega, fun a => by have := h'.2 (by omega); omega⟩)
      omega
  unfold timesB
  rw [← h2]
  rw [← h2] at ht'
  by_cases a : ((2 ^ k : Nat) : Int) ≤ 2 * x <;> by_cases b : ((2 ^ k : Nat) : Int) ≤ 2 * y
  · rw [if_neg (fun hh => ht'.1 hh ⟨fun _ => b, fun _ => a⟩), if_pos a, if_pos b]
    rw [xorI_assoc, ← xorI_assoc poly, xorI_comm poly, xorI_assoc (2 * y) poly, xorI_self, xorI_zero _ (by omega)]
  · rw [if_pos (ht'.2 fun hh => b (hh.1 a)), if_pos a, if_neg b]
    rw [xorI_assoc, xorI_assoc, xorI_comm poly]
  · rw [if_pos (ht'.2 fun hh => a (hh.2 b)), if_neg a, if_pos b, xorI_assoc]
  · rw [if_neg (fun hh => ht'.1 hh ⟨fun x => absurd x a, fun x => absurd x b⟩), if_neg a, if_neg b]
theorem timesP_add (g p x y : Int) : timesP g p ((x + y) % p) = (timesP g p x + timesP g p y) % p := by
  unfold timesP
  rw [Int.mul_emod, Int.emod_emod, ← Int.mul_emod, Int.add_mul, Int.add_emod]

/-- A list without repeated numbers whose members all lie below m is no longer than m. -/
theorem nodup_length {l : List Nat} (hd : l.Nodup) : ∀ m, (∀ x ∈ l, x < m) → l.length ≤ m := by
  intro m
  induction m generalizing l with
  | zero =>
    intro h
    cases l with
    | nil => simp
    | cons a l => exact absurd (h a (by simp)) (by omega)
  | succ m ih =>
    intro h
    by_cases hm : m ∈ l
    · have h1 := ih (l := l.erase m) (hd.erase m) (fun x hx => by
        have hxl : x ∈ l := List.mem_of_mem_erase hx
        have hne : x ≠ m := fun e => by subst e; exact (List.Nodup.not_mem_erase hd) hx
        have := h x hxl; omega)
      rw [List.length_erase_of_mem hm] at h1
      omega
    · have h1 := ih hd (fun x hx => by
        have hne : x ≠ m := fun e => hm (e ▸ hx)
        have := h x hx; omega)
      omega
/-- A one-to-one map of the numbers below m into themselves meets each of them. -/
theorem onto_of_inj (f : Nat → Nat) (m : Nat) (hr : ∀ i, i < m → f i < m) (hi : ∀ i j, i < m → j < m → f i = f j → i = j) (v : Nat) (hv : v < m) : ∃ i, i < m ∧ f i = v := by
  apply Classical.byContradiction
  intro hn
  have hnd : (v :: (List.range m).map f).Nodup := by
    rw [List.nodup_cons]
    refine ⟨fun h => ?_, ?_⟩
    · obtain ⟨i, him, e⟩ := List.mem_map.1 h
      exact hn ⟨i, List.mem_range.1 him, e⟩
    · rw [List.nodup_iff_pairwise_ne, List.pairwise_map]
      exact List.Pairwise.imp_of_mem (fun {a b} ha hb hab e => hab (hi a b (List.mem_range.1 ha) (List.mem_range.1 hb) e)) (List.nodup_iff_pairwise_ne.1 List.nodup_range)
  have := nodup_length hnd m (fun x hx => by
    rcases List.mem_cons.1 hx with rfl | hx
    · exact hv
    · obtain ⟨i, him, e⟩ := List.mem_map.1 hx
      rw [← e]; exact hr i (List.mem_range.1 him))
  simp at this
  omega

namespace FF
variable {F : FF}
theorem add_el (h : F.ok) {a b : Int} (ha : F.el a) (hb : F.el b) : F.el (F.add a b) := by
  unfold add
  split
  · rename_i hbin
    obtain ⟨k, _, _, hk, _⟩ := h.isB hbin
    exact ⟨xorI_nonneg _ _, by rw [hk]; exact xorI_lt _ _ _ (by rw [← hk]; exact ha.2) (by rw [← hk]; exact hb.2)⟩
  · have := h.lo
    exact ⟨Int.emod_nonneg _ (by omega), Int.emod_lt_of_pos _ (by omega)⟩
theorem neg_el {a : Int} (ha : F.el a) : F.el (F.neg a) := by
  unfold neg
  obtain ⟨h0, h1⟩ := ha
  split
  · exact ⟨h0, h1⟩
  · rename_i hh
    simp at hh
    exact ⟨by omega, by omega⟩
theorem zero_el (h : F.ok) : F.el 0 := ⟨by omega, by have := h.lo; omega⟩
theorem one_el (h : F.ok) : F.el 1 := ⟨by omega, by have := h.lo; omega⟩
theorem add_comm' (a b : Int) : F.add a b = F.add b a := by
  unfold add; split
  · exact xorI_comm _ _
  · rw [Int.add_comm]
theorem add_assoc' (a b c : Int) : F.add (F.add a b) c = F.add a (F.add b c) := by
  unfold add; split
  · exact xorI_assoc _ _ _
  · rw [Int.emod_add_emod, Int.add_emod_emod, Int.add_assoc]
theorem add_zero' {a : Int} (ha : F.el a) : F.add a 0 = a := by
  unfold add; split
  · exact xorI_zero _ ha.1
  · rw [Int.add_zero, Int.emod_eq_of_lt ha.1 ha.2]
theorem neg_add' {a : Int} (ha : F.el a) : F.add (F.neg a) a = 0 := by
  unfold add neg
  obtain ⟨h0, h1⟩ := ha
  by_cases hb : F.bin = true
  · rw [if_pos hb, if_pos (by simp [hb])]; exact xorI_self _
  · rw [if_neg hb]
    by_cases h : a = 0
    · subst h; rw [if_pos (by simp)]; simp
    · rw [if_neg (by simp [hb, h])]; rw [Int.sub_add_cancel]; simp
theorem times_el (h : F.ok) {a : Int} (ha : F.el a) : F.el (F.times a) := by
  unfold times
  split
  · rename_i hb
    obtain ⟨k, _, _, hk, h1, h2⟩ := h.isB hb
    have := timesB_range k F.gen a (by rw [← hk]; exact h1) (by rw [← hk]; exact h2) ha.1 (by rw [← hk]; exact ha.2)
    rw [← hk] at this
    exact this
  · have := h.lo
    exact ⟨Int.emod_nonneg _ (by omega), Int.emod_lt_of_pos _ (by omega)⟩
theorem times_add (h : F.ok) {a b : Int} (ha : F.el a) (hb : F.el b) : F.times (F.add a b) = F.add (F.times a) (F.times b) := by
  unfold times add
  by_cases hbin : F.bin = true
  · rw [if_pos hbin, if_pos hbin, if_pos hbin]
    obtain ⟨k, _, _, hk, h1, h2⟩ := h.isB hbin
    have := timesB_add k F.gen a b ha.1 (by rw [← hk]; exact ha.2) hb.1 (by rw [← hk]; exact hb.2)
    rw [← hk] at this
    exact this
  · rw [if_neg hbin, if_neg hbin, if_neg hbin]; exact timesP_add _ _ _ _
theorem times_zero (h : F.ok) : F.times 0 = 0 := by
  unfold times
  have := h.lo
  split
  · unfold timesB; rw [if_neg (by omega)]; rfl
  · unfold timesP; simp
theorem N_pos (h : F.ok) : 2 ≤ F.N := by unfold N; have := h.lo; omega
theorem N_size (h : F.ok) : ((F.N : Nat) : Int) = F.size - 1 := by unfold N; have := h.lo; omega
theorem exp_el (h : F.ok) (n : Nat) : F.el (F.exp n) := by
  unfold exp
  induction n with
  | zero => exact one_el h
  | succ n ih => exact times_el h ih
theorem exp_succ (n : Nat) : F.exp (n + 1) = F.times (F.exp n) := rfl
theorem exp_add_N (h : F.ok) (n : Nat) : F.exp (n + F.N) = F.exp n := by
  induction n with
  | zero => rw [Nat.zero_add]; exact h.good.2
  | succ n ih => rw [Nat.add_right_comm, exp_succ, ih, exp_succ]
theorem exp_mod (h : F.ok) (n : Nat) : F.exp (n % F.N) = F.exp n := by
  have : ∀ q r, F.exp (r + F.N * q) = F.exp r := by
    intro q
    induction q with
    | zero => intro r; simp
    | succ q ih => intro r; rw [Nat.mul_succ, ← Nat.add_assoc, exp_add_N h, ih]
  rw [← this (n / F.N) (n % F.N), Nat.mod_add_div]
theorem exp_ne_zero (h : F.ok) (n : Nat) : F.exp n ≠ 0 := by
  rw [← exp_mod h]
  exact (h.good.1 _ (Nat.mod_lt _ (by have := N_pos h; omega))).1
theorem exp_add_eq (i j m : Nat) (e : F.exp i = F.exp j) : F.exp (i + m) = F.exp (j + m) := by
  induction m with
  | zero => exact e
  | succ m ih => rw [← Nat.add_assoc, ← Nat.add_assoc, exp_succ, exp_succ, ih]
theorem exp_inj_lt (h : F.ok) (i j : Nat) (hij : i < j) (hj : j < F.N) : F.exp i ≠ F.exp j := by
  intro e
  have e' := exp_add_eq i j (F.N - j) e
  rw [Nat.add_sub_cancel' (by omega)] at e'
  have h1 : F.exp F.N = 1 := h.good.2
  rw [h1] at e'
  exact (h.good.1 (i + (F.N - j)) (by omega)).2 (by omega) e'
theorem exp_inj (h : F.ok) (i j : Nat) (hi : i < F.N) (hj : j < F.N) (e : F.exp i = F.exp j) : i = j := by
  rcases Nat.lt_trichotomy i j with hl | hl | hl
  · exact absurd e (exp_inj_lt h i j hl hj)
  · exact hl
  · exact absurd e.symm (exp_inj_lt h j i hl hi)
theorem exp_onto (h : F.ok) {a : Int} (ha : F.el a) (h0 : a ≠ 0) : ∃ n, n < F.N ∧ F.exp n = a := by
  have hN := N_size h
  have hr : ∀ i, 1 ≤ F.exp i ∧ F.exp i ≤ F.N := fun i => by
    have := exp_el h i
    have h0 := exp_ne_zero h i
    obtain ⟨h1, h2⟩ := this
    omega
  obtain ⟨h1, h2⟩ := ha
  obtain ⟨i, hi, e⟩ := onto_of_inj (fun i => (F.exp i - 1).toNat) F.N (fun i hi => by have := hr i; omega)
    (fun i j hi hj e => exp_inj h i j hi hj (by have := hr i; have := hr j; omega)) (a - 1).toNat (by omega)
  exact ⟨i, hi, by have := hr i; omega⟩
theorem logTo_spec (h : F.ok) (a : Int) (n : Nat) (hn : n < F.N) (e : F.exp n = a) : ∀ k s, s ≤ n → n < s + k → F.logTo a k s = n := by
  intro k
  induction k with
  | zero => intro s h1 h2; omega
  | succ k ih =>
    intro s h1 h2
    unfold logTo
    by_cases hs : F.exp s = a
    · rw [if_pos hs]; exact exp_inj h s n (by omega) hn (by rw [hs, e])
    · rw [if_neg hs]; exact ih (s + 1) (by
        have : s ≠ n := fun x => hs (by rw [x, e])
        omega) (by omega)
theorem log_exp (h : F.ok) (n : Nat) (hn : n < F.N) : F.log (F.exp n) = n := logTo_spec h _ n hn rfl _ 0 (by omega) (by omega)
theorem log_lt (h : F.ok) {a : Int} (ha : F.el a) (h0 : a ≠ 0) : F.log a < F.N := by
  obtain ⟨n, hn, rfl⟩ := exp_onto h ha h0
  rw [log_exp h n hn]; exact hn
theorem exp_log (h : F.ok) {a : Int} (ha : F.el a) (h0 : a ≠ 0) : F.exp (F.log a) = a := by
  obtain ⟨n, hn, rfl⟩ := exp_onto h ha h0
  rw [log_exp h n hn]
theorem mul_exp (h : F.ok) (i j : Nat) : F.mul (F.exp i) (F.exp j) = F.exp (i + j) := by
  unfold mul
  rw [if_neg (by simp [exp_ne_zero h]), ← exp_mod h i, ← exp_mod h j]
  have hN := N_pos h
  rw [log_exp h _ (Nat.mod_lt _ (by omega)), log_exp h _ (Nat.mod_lt _ (by omega)), ← Nat.add_mod, exp_mod h]
theorem mul_el (h : F.ok) (a b : Int) : F.el (F.mul a b) := by
  unfold mul; split
  · exact zero_el h
  · exact exp_el h _
theorem mul_comm' (a b : Int) : F.mul a b = F.mul b a := by
  unfold mul
  by_cases ha : a = 0
  · simp [ha]
  · by_cases hb : b = 0
    · simp [hb]
    · simp [ha, hb, Nat.add_comm]
theorem zero_mul' (a : Int) : F.mul 0 a = 0 := by unfold mul; simp
theorem mul_zero' (a : Int) : F.mul a 0 = 0 := by unfold mul; simp
/-- A product by a power of the generator: repeated multiplication by the generator. -/
def iter (F : FF) (x : Int) : Nat → Int
  | 0 => x
  | n + 1 => F.times (iter F x n)
theorem iter_el (h : F.ok) {x : Int} (hx : F.el x) (n : Nat) : F.el (F.iter x n) := by
  induction n with
  | zero => exact hx
  | succ n ih => exact times_el h ih
theorem iter_exp (j n : Nat) : F.iter (F.exp j) n = F.exp (j + n) := by
  induction n with
  | zero => rfl
  | succ n ih => show F.times _ = _; rw [ih]; rfl
theorem iter_zero (h : F.ok) (n : Nat) : F.iter 0 n = 0 := by
  induction n with
  | zero => rfl
  | succ n ih => show F.times _ = _; rw [ih, times_zero h]
theorem iter_add (h : F.ok) {x y : Int} (hx : F.el x) (hy : F.el y) (n : Nat) : F.iter (F.add x y) n = F.add (F.iter x n) (F.iter y n) := by
  induction n with
  | zero => rfl
  | succ n ih => show F.times _ = F.add (F.times _) (F.times _); rw [ih, times_add h (iter_el h hx n) (iter_el h hy n)]
theorem mul_iter (h : F.ok) {x : Int} (hx : F.el x) (n : Nat) : F.mul (F.exp n) x = F.iter x n := by
  by_cases h0 : x = 0
  · subst h0; rw [mul_zero', iter_zero h]
  · obtain ⟨j, hj, rfl⟩ := exp_onto h hx h0
    rw [mul_exp h, iter_exp, Nat.add_comm]
theorem mul_add' (h : F.ok) {a b c : Int} (ha : F.el a) (hb : F.el b) (hc : F.el c) : F.mul a (F.add b c) = F.add (F.mul a b) (F.mul a c) := by
  by_cases h0 : a = 0
  · subst h0; rw [zero_mul', zero_mul', zero_mul', add_zero' (zero_el h)]
  · obtain ⟨i, hi, rfl⟩ := exp_onto h ha h0
    rw [mul_iter h (add_el h hb hc), mul_iter h hb, mul_iter h hc, iter_add h hb hc]
theorem mul_assoc' (h : F.ok) {a b c : Int} (ha : F.el a) (hb : F.el b) (hc : F.el c) : F.mul (F.mul a b) c = F.mul a (F.mul b c) := by
  by_cases h0 : a = 0
  · subst h0; simp only [zero_mul']
  · by_cases h1 : b = 0
    · subst h1; simp only [zero_mul', mul_zero']
    · by_cases h2 : c = 0
      · subst h2; simp only [mul_zero']
      · obtain ⟨i, _, rfl⟩ := exp_onto h ha h0
        obtain ⟨j, _, rfl⟩ := exp_onto h hb h1
        obtain ⟨k, _, rfl⟩ := exp_onto h hc h2
        rw [mul_exp h, mul_exp h, mul_exp h, mul_exp h, Nat.add_assoc]
theorem exp_zero : F.exp 0 = 1 := rfl
theorem mul_one' (h : F.ok) {a : Int} (ha : F.el a) : F.mul a 1 = a := by
  rw [mul_comm', ← exp_zero (F := F), mul_iter h ha]; rfl
theorem mul_ne_zero (h : F.ok) {a b : Int} (h0 : a ≠ 0) (h1 : b ≠ 0) : F.mul a b ≠ 0 := by
  unfold mul; rw [if_neg (by simp [h0, h1])]; exact exp_ne_zero h _
theorem inv_el (h : F.ok) (a : Int) : F.el (F.inv a) := exp_el h _
theorem mul_inv' (h : F.ok) {a : Int} (ha : F.el a) (h0 : a ≠ 0) : F.mul a (F.inv a) = 1 := by
  obtain ⟨n, hn, rfl⟩ := exp_onto h ha h0
  unfold inv
  rw [log_exp h n hn, exp_mod h, mul_exp h, Nat.add_sub_cancel' (by omega)]
  exact h.good.2
end FF
end Go.Proofs.Ytenlaoadclfmaaa
