/-
  The parts Math, GaussP.
-/

/-
  The parts Ring, Field, Mul, Poly, Lists, Canon, Key, Bm, BmRun, Divs, ContP, FitP.
-/
/-
  Commutative rings for the tactic 'grind', and the ring of power series over a ring. Plain mathematics; no program in sight.
-/
namespace Go.Proofs.YtmbphpmabopifaaDoor

abbrev clsOf {C : Type → Type} {α : Type} (_ : C α) : Type → Type := C
/-- Commutative rings, by the name of one that core has an instance of. -/
abbrev CR : Type → Type := clsOf Dyadic.instCommRing

/-- A commutative ring's data and laws, without the numerals. -/
structure RingCore (α : Type) where
  zero : α
  one : α
  add : α → α → α
  mul : α → α → α
  neg : α → α
  add_zero : ∀ a, add a zero = a
  add_comm : ∀ a b, add a b = add b a
  add_assoc : ∀ a b c, add (add a b) c = add a (add b c)
  neg_add : ∀ a, add (neg a) a = zero
  mul_comm : ∀ a b, mul a b = mul b a
  mul_assoc : ∀ a b c, mul (mul a b) c = mul a (mul b c)
  mul_one : ∀ a, mul a one = a
  left_distrib : ∀ a b c, mul a (add b c) = add (mul a b) (mul a c)

namespace RingCore
variable {α : Type} (R : RingCore α)
theorem cancel {a b c : α} (h : R.add a b = R.add a c) : b = c := by
  have h1 : R.add (R.neg a) (R.add a b) = R.add (R.neg a) (R.add a c) := by rw [h]
  rwa [← R.add_assoc, ← R.add_assoc, R.neg_add, R.add_comm R.zero, R.add_comm R.zero, R.add_zero, R.add_zero] at h1
theorem mul_zero (a : α) : R.mul a R.zero = R.zero := by
  apply R.cancel (a := R.mul a R.zero)
  rw [← R.left_distrib, R.add_zero, R.add_zero]
def nat : Nat → α
  | 0 => R.zero
  | n + 1 => R.add (nat n) R.one
def int : Int → α
  | .ofNat n => R.nat n
  | .negSucc n => R.neg (R.nat (n + 1))
def pow (a : α) : Nat → α
  | 0 => R.one
  | n + 1 => R.mul (pow a n) a
theorem neg_unique {a b : α} (h : R.add b a = R.zero) : b = R.neg a := by
  apply R.cancel (a := a)
  rw [R.add_comm a b, h, R.add_comm, R.neg_add]
theorem neg_neg (a : α) : R.neg (R.neg a) = a := (R.neg_unique (by rw [R.add_comm, R.neg_add])).symm
theorem neg_zero : R.neg R.zero = R.zero := (R.neg_unique (R.add_zero _)).symm
theorem neg_mul (a b : α) : R.mul (R.neg a) b = R.neg (R.mul a b) := by
  apply R.neg_unique
  rw [R.mul_comm _ b, R.mul_comm a b, ← R.left_distrib, R.neg_add, R.mul_zero]
theorem int_neg (i : Int) : R.int (-i) = R.neg (R.int i) := by
  match i with
  | .ofNat 0 => exact R.neg_zero.symm
  | .ofNat (n + 1) => rfl
  | .negSucc n => exact (R.neg_neg _).symm
@[reducible] def toCR : CR α :=
  @_root_.id (clsOf Dyadic.instCommRing α)
  { add := R.add, mul := R.mul, neg := R.neg, sub := fun a b => R.add a (R.neg b)
    natCast := ⟨R.nat⟩
    ofNat := fun n => ⟨R.nat n⟩
    nsmul := ⟨fun n a => R.mul (R.nat n) a⟩
    npow := ⟨R.pow⟩
    intCast := ⟨R.int⟩
    zsmul := ⟨fun n a => R.mul (R.int n) a⟩
    add_zero := R.add_zero
    add_comm := R.add_comm
    add_assoc := R.add_assoc
    mul_assoc := R.mul_assoc
    mul_one := fun a => by show R.mul a (R.add R.zero R.one) = a; rw [R.add_comm, R.add_zero, R.mul_one]
    one_mul := fun a => by show R.mul (R.add R.zero R.one) a = a; rw [R.add_comm, R.add_zero, R.mul_comm, R.mul_one]
    left_distrib := R.left_distrib
    right_distrib := fun a b c => by
      show R.mul (R.add a b) c = R.add (R.mul a c) (R.mul b c)
      rw [R.mul_comm, R.left_distrib, R.mul_comm c, R.mul_comm c]
    zero_mul := fun a => by show R.mul R.zero a = R.zero; rw [R.mul_comm, R.mul_zero]
    mul_zero := R.mul_zero
    pow_zero := fun _ => by show R.one = R.add R.zero R.one; rw [R.add_comm, R.add_zero]
    pow_succ := fun _ _ => rfl
    ofNat_succ := fun a => by
      show R.nat (a + 1) = R.add (R.nat a) (R.add R.zero R.one)
      rw [R.add_comm R.zero, R.add_zero]; rfl
    neg_add_cancel := R.neg_add
    sub_eq_add_neg := fun _ _ => rfl
    neg_zsmul := fun i a => by
      show R.mul (R.int (-i)) a = R.neg (R.mul (R.int i) a)
      rw [R.int_neg, R.neg_mul]
    zsmul_natCast_eq_nsmul := fun _ _ => rfl
    intCast_neg := R.int_neg
    mul_comm := R.mul_comm }
end RingCore

/-! ### Power series -/
/-- A power series: its coefficients. -/
structure PS (K : Type) where
  c : Nat → K
namespace PS
variable {K : Type} [CR K]
omit [CR K] in
theorem ext' {f g : PS K} (h : ∀ n, f.c n = g.c n) : f = g := by
  cases f; cases g; congr 1; funext n; exact h n
def tail (f : PS K) : PS K := ⟨fun n => f.c (n + 1)⟩
def conv (f g : PS K) : Nat → K
  | 0 => f.c 0 * g.c 0
  | n + 1 => f.c 0 * g.c (n + 1) + conv f.tail g n
def smul (a : K) (f : PS K) : PS K := ⟨fun n => a * f.c n⟩
theorem conv_add_left (n : Nat) : ∀ f h g : PS K, conv ⟨fun n => f.c n + h.c n⟩ g n = conv f g n + conv h g n := by
  induction n with
  | zero => intro f h g; simp only [conv]; grind
  | succ n ih =>
    intro f h g
    simp only [conv]
    have := ih f.tail h.tail g
    simp only [tail] at this ⊢
    rw [this]; grind
theorem conv_add_right (n : Nat) : ∀ f g h : PS K, conv f ⟨fun n => g.c n + h.c n⟩ n = conv f g n + conv f h n := by
  induction n with
  | zero => intro f h g; simp only [conv]; grind
  | succ n ih => intro f h g; simp only [conv]; rw [ih]; grind
theorem conv_smul_left (n : Nat) : ∀ (a : K) (f g : PS K), conv ⟨fun n => a * f.c n⟩ g n = a * conv f g n := by
  induction n with
  | zero => intro a f g; simp only [conv]; grind
  | succ n ih =>
    intro a f g; simp only [conv]
    have := ih a f.tail g
    simp only [tail] at this ⊢
    rw [this]; grind
theorem conv_succ' (n : Nat) : ∀ f g : PS K, conv f g (n + 1) = conv f g.tail n + f.c (n + 1) * g.c 0 := by
  induction n with
  | zero => intro f g; simp only [conv, tail]
  | succ n ih =>
    intro f g
    rw [conv, ih f.tail g, conv]
    simp only [tail]
    grind
theorem conv_comm (n : Nat) : ∀ f g : PS K, conv f g n = conv g f n := by
  induction n with
  | zero => intro f g; simp only [conv]; grind
  | succ n ih => intro f g; rw [conv, conv_succ', ih f.tail g]; grind
theorem conv_tail (f g : PS K) : tail ⟨conv f g⟩ = ⟨fun n => (smul (f.c 0) g.tail).c n + (PS.mk (conv f.tail g)).c n⟩ := by
  apply ext'; intro n; simp only [tail, conv, smul]
theorem conv_assoc (n : Nat) : ∀ f g h : PS K, conv ⟨conv f g⟩ h n = conv f ⟨conv g h⟩ n := by
  induction n with
  | zero => intro f g h; simp only [conv]; grind
  | succ n ih =>
    intro f g h
    rw [conv, conv_tail, conv_add_left, ih f.tail g h, conv]
    have := conv_smul_left n (f.c 0) g.tail h
    simp only [smul]
    rw [this]
    show conv f g 0 * h.c (n + 1) + _ = f.c 0 * conv g h (n + 1) + _
    simp only [conv]
    grind
def core : RingCore (PS K) where
  zero := ⟨fun _ => 0⟩
  one := ⟨fun n => if n = 0 then 1 else 0⟩
  add f g := ⟨fun n => f.c n + g.c n⟩
  mul f g := ⟨conv f g⟩
  neg f := ⟨fun n => - f.c n⟩
  add_zero f := ext' fun n => by show f.c n + 0 = f.c n; grind
  add_comm f g := ext' fun n => by show f.c n + g.c n = g.c n + f.c n; grind
  add_assoc f g h := ext' fun n => by show f.c n + g.c n + h.c n = f.c n + (g.c n + h.c n); grind
  neg_add f := ext' fun n => by show - f.c n + f.c n = 0; grind
  mul_comm f g := ext' fun n => conv_comm n f g
  mul_assoc f g h := ext' fun n => conv_assoc n f g h
  mul_one f := ext' fun n => by
    show conv f _ n = f.c n
    rw [conv_comm]
    cases n with
    | zero => simp only [conv]; grind
    | succ n =>
      simp only [conv]
      have hz : ∀ n, conv (tail (⟨fun n => if n = 0 then 1 else 0⟩ : PS K)) f n = 0 := by
        intro n
        have : ∀ m (z : PS K), (∀ k, z.c k = 0) → conv z f m = 0 := by
          intro m
          induction m with
          | zero => intro z hz; simp only [conv, hz]; grind
          | succ m ih => intro z hz; simp only [conv, hz]; rw [ih _ (fun k => hz (k + 1))]; grind
        exact this n _ (fun k => by simp [tail])
      rw [hz]; grind
  left_distrib f g h := ext' fun n => conv_add_right n f g h
instance : CR (PS K) := core.toCR
theorem add_c (f g : PS K) (n : Nat) : (f + g).c n = f.c n + g.c n := rfl
theorem neg_c (f : PS K) (n : Nat) : (-f).c n = - f.c n := rfl
theorem sub_c (f g : PS K) (n : Nat) : (f - g).c n = f.c n - g.c n := by
  show f.c n + - g.c n = _; grind
theorem mul_c (f g : PS K) (n : Nat) : (f * g).c n = conv f g n := rfl
theorem zero_c (n : Nat) : (0 : PS K).c n = 0 := rfl
theorem one_c (n : Nat) : (1 : PS K).c n = if n = 0 then 1 else 0 := by
  show (0 : K) + (if n = 0 then 1 else 0) = _; grind
example (f g h : PS K) (e : f = g * h) : f * f + h = g * h * g * h + h := by grind
end PS
#print axioms PS.core
end Go.Proofs.YtmbphpmabopifaaDoor
/-
  Finite fields as the program has them: sums, and the powers of a generator. Plain mathematics; no program in sight.
-/
namespace Go.Proofs.YtmbphpmabopifaaDoor

/-- Exclusive or of two numbers that are at least 0. -/
def xorI (a b : Int) : Int := ((a.toNat ^^^ b.toNat : Nat) : Int)

/-- The powers of the generator, from 1 on. -/
def orb (T : Int → Int) : Nat → Int
  | 0 => 1
  | n + 1 => T (orb T n)

/-- The powers are N different numbers but 0, and then comes 1 again. -/
def Good (T : Int → Int) (N : Nat) : Prop := (∀ n, n < N → orb T n ≠ 0 ∧ (0 < n → orb T n ≠ 1)) ∧ orb T N = 1

def timesP (g p x : Int) : Int := x * g % p
def timesB (size poly x : Int) : Int := if size ≤ 2 * x then xorI (2 * x) poly else 2 * x

/-- A field: binary or not, its size, and its generator (or the polynomial of a binary one). -/
structure FF where
  bin : Bool
  size : Int
  gen : Int

namespace FF
def times (F : FF) : Int → Int := if F.bin then timesB F.size F.gen else timesP F.gen F.size
def N (F : FF) : Nat := (F.size - 1).toNat
structure ok (F : FF) : Prop where
  lo : 3 ≤ F.size
  hi : F.size ≤ 1021
  good : Good F.times F.N
  isB : F.bin = true → ∃ k : Nat, 3 ≤ k ∧ k ≤ 8 ∧ F.size = ((2 ^ k : Nat) : Int) ∧ F.size ≤ F.gen ∧ F.gen < 2 * F.size
  isP : F.bin = false → 1 ≤ F.gen ∧ F.gen < F.size
/-- a is an element. -/
def el (F : FF) (a : Int) : Prop := 0 ≤ a ∧ a < F.size
def add (F : FF) (a b : Int) : Int := if F.bin then xorI a b else (a + b) % F.size
def neg (F : FF) (a : Int) : Int := if F.bin || a == 0 then a else F.size - a
def exp (F : FF) (n : Nat) : Int := orb F.times n
/-- The least n below N with exp n = a (or N). -/
def logTo (F : FF) (a : Int) : Nat → Nat → Nat
  | 0, n => n
  | k + 1, n => if F.exp n = a then n else logTo F a k (n + 1)
def log (F : FF) (a : Int) : Nat := F.logTo a F.N 0
def mul (F : FF) (a b : Int) : Int := if a = 0 ∨ b = 0 then 0 else F.exp ((F.log a + F.log b) % F.N)
def inv (F : FF) (a : Int) : Int := F.exp ((F.N - F.log a) % F.N)
end FF

theorem xorI_comm (a b : Int) : xorI a b = xorI b a := by unfold xorI; rw [Nat.xor_comm]
theorem xorI_assoc (a b c : Int) : xorI (xorI a b) c = xorI a (xorI b c) := by
  unfold xorI; simp only [Int.toNat_natCast]; rw [Nat.xor_assoc]
theorem xorI_nonneg (a b : Int) : 0 ≤ xorI a b := by unfold xorI; omega
theorem xorI_self (a : Int) : xorI a a = 0 := by unfold xorI; simp
theorem xorI_zero (a : Int) (h : 0 ≤ a) : xorI a 0 = a := by unfold xorI; simp; omega
theorem xorI_lt (a b : Int) (k : Nat) (ha : a < ((2 ^ k : Nat) : Int)) (hb : b < ((2 ^ k : Nat) : Int)) : xorI a b < ((2 ^ k : Nat) : Int) := by
  unfold xorI
  have h0 : 0 < 2 ^ k := Nat.two_pow_pos k
  exact Int.ofNat_lt.2 (Nat.xor_lt_two_pow (by omega) (by omega))
theorem xor_two_mul (a b : Nat) : (2 * a) ^^^ (2 * b) = 2 * (a ^^^ b) := by
  apply Nat.eq_of_testBit_eq
  intro i
  rw [Nat.testBit_xor]
  cases i with
  | zero => simp
  | succ i => simp [Nat.testBit_succ]
theorem xorI_two_mul (a b : Int) (ha : 0 ≤ a) (hb : 0 ≤ b) : xorI (2 * a) (2 * b) = 2 * xorI a b := by
  unfold xorI
  have h1 : (2 * a).toNat = 2 * a.toNat := by omega
  have h2 : (2 * b).toNat = 2 * b.toNat := by omega
  rw [h1, h2, xor_two_mul]; omega
/-- Below 2^(k+1) the top bit of an exclusive or. -/
theorem xor_top (a b k : Nat) (ha : a < 2 ^ (k + 1)) (hb : b < 2 ^ (k + 1)) : 2 ^ k ≤ a ^^^ b ↔ ¬ (2 ^ k ≤ a ↔ 2 ^ k ≤ b) := by
  have hp : (2 : Nat) ^ (k + 1) = 2 * 2 ^ k := by rw [Nat.pow_succ]; omega
  have h : ∀ x : Nat, x < 2 ^ (k + 1) → (2 ^ k ≤ x ↔ x.testBit k = true) := by
    intro x hx
    constructor
    · intro h
      rw [Nat.testBit_eq_decide_div_mod_eq]
      have h0 : 0 < 2 ^ k := Nat.two_pow_pos k
      have : x / 2 ^ k = 1 := by
        have h1 : 1 ≤ x / 2 ^ k := (Nat.le_div_iff_mul_le h0).2 (by omega)
        have h2 : x / 2 ^ k < 2 := (Nat.div_lt_iff_lt_mul h0).2 (by omega)
        omega
      rw [this]; rfl
    · intro h; exact Nat.ge_two_pow_of_testBit h
  have hx : a ^^^ b < 2 ^ (k + 1) := Nat.xor_lt_two_pow ha hb
  rw [h _ hx, h _ ha, h _ hb, Nat.testBit_xor]
  cases a.testBit k <;> cases b.testBit k <;> simp
theorem timesB_range (k : Nat) (poly x : Int) (hp : ((2 ^ k : Nat) : Int) ≤ poly) (hp2 : poly < 2 * ((2 ^ k : Nat) : Int)) (h0 : 0 ≤ x) (h1 : x < ((2 ^ k : Nat) : Int)) :
    0 ≤ timesB ((2 ^ k : Nat) : Int) poly x ∧ timesB ((2 ^ k : Nat) : Int) poly x < ((2 ^ k : Nat) : Int) := by
  unfold timesB
  have hpw : (2 : Nat) ^ (k + 1) = 2 * 2 ^ k := by rw [Nat.pow_succ]; omega
  split
  · rename_i h
    refine ⟨xorI_nonneg _ _, ?_⟩
    have ha : (2 * x).toNat < 2 ^ (k + 1) := by omega
    have hb : poly.toNat < 2 ^ (k + 1) := by omega
    have hx := xor_top (2 * x).toNat poly.toNat k ha hb
    unfold xorI
    have hn : ¬ (2 ^ k ≤ (2 * x).toNat ^^^ poly.toNat) := by
      rw [hx]
      simp only [Classical.not_not]
      constructor <;> intro <;> omega
    omega
  · rename_i h; omega
theorem timesB_add (k : Nat) (poly x y : Int) (hx0 : 0 ≤ x) (hx : x < ((2 ^ k : Nat) : Int)) (hy0 : 0 ≤ y) (hy : y < ((2 ^ k : Nat) : Int)) :
    timesB ((2 ^ k : Nat) : Int) poly (xorI x y) = xorI (timesB ((2 ^ k : Nat) : Int) poly x) (timesB ((2 ^ k : Nat) : Int) poly y) := by
  have hpw : (2 : Nat) ^ (k + 1) = 2 * 2 ^ k := by rw [Nat.pow_succ]; omega
  have ht := xor_top (2 * x).toNat (2 * y).toNat k (by omega) (by omega)
  have h2 := xorI_two_mul x y hx0 hy0
  have e : (((2 * x).toNat ^^^ (2 * y).toNat : Nat) : Int) = 2 * xorI x y := by rw [← h2]; rfl
  have ht' : ((2 ^ k : Nat) : Int) ≤ 2 * xorI x y ↔ ¬ (((2 ^ k : Nat) : Int) ≤ 2 * x ↔ ((2 ^ k : Nat) : Int) ≤ 2 * y) := by
    rw [← e]
    constructor
    · intro h h'; exact ht.1 (by omega) ⟨fun a => by have := h'.1 (by omega); omega, fun a => by have := h'.2 (by omega); omega⟩
    · intro h
      have := ht.2 (fun h' => h ⟨fun a => by have := h'.1 (by omega); omega, fun a => by have := h'.2 (by omega); omega⟩)
      omega
  unfold timesB
  rw [← h2]
  rw [← h2] at ht'
  by_cases a : ((2 ^ k : Nat) : Int) ≤ 2 * x <;> by_cases b : ((2 ^ k : Nat) : Int) ≤ 2 * y
  · rw [if_neg (fun hh => ht'.1 hh ⟨fun _ => b, fun _ => a⟩), if_pos a, if_pos b]
    rw [xorI_assoc, ← xorI_assoc poly, xorI_comm poly, xorI_assoc (2 * y) poly, xorI_self, xorI_zero _ (by omega)]
  · rw [if_pos (ht'.2 fun hh => b (hh.1 a)), if_pos a, if_neg b]
    rw [xorI_assoc, xorI_assoc, xorI_comm poly]
  · rw [if_pos (ht'.2 fun hh => a (hh.2 b)), if_neg a, if_pos b, xorI_assoc]
  · rw [if_neg (fun hh => ht'.1 hh ⟨fun x => absurd x a, fun x => absurd x b⟩), if_neg a, if_neg b]
theorem timesP_add (g p x y : Int) : timesP g p ((x + y) % p) = (timesP g p x + timesP g p y) % p := by
  unfold timesP
  rw [Int.mul_emod, Int.emod_emod, ← Int.mul_emod, Int.add_mul, Int.add_emod]

/-- A list without repeated numbers whose members all lie below m is no longer than m. -/
theorem nodup_length {l : List Nat} (hd : l.Nodup) : ∀ m, (∀ x ∈ l, x < m) → l.length ≤ m := by
  intro m
  induction m generalizing l with
  | zero =>
    intro h
    cases l with
    | nil => simp
    | cons a l => exact absurd (h a (by simp)) (by omega)
  | succ m ih =>
    intro h
    by_cases hm : m ∈ l
    · have h1 := ih (l := l.erase m) (hd.erase m) (fun x hx => by
        have hxl : x ∈ l := List.mem_of_mem_erase hx
        have hne : x ≠ m := fun e => by subst e; exact (List.Nodup.not_mem_erase hd) hx
        have := h x hxl; omega)
      rw [List.length_erase_of_mem hm] at h1
      omega
    · have h1 := ih hd (fun x hx => by
        have hne : x ≠ m := fun e => hm (e ▸ hx)
        have := h x hx; omega)
      omega
/-- A one-to-one map of the numbers below m into themselves meets each of them. -/
theorem onto_of_inj (f : Nat → Nat) (m : Nat) (hr : ∀ i, i < m → f i < m) (hi : ∀ i j, i < m → j < m → f i = f j → i = j) (v : Nat) (hv : v < m) : ∃ i, i < m ∧ f i = v := by
  apply Classical.byContradiction
  intro hn
  have hnd : (v :: (List.range m).map f).Nodup := by
    rw [List.nodup_cons]
    refine ⟨fun h => ?_, ?_⟩
    · obtain ⟨i, him, e⟩ := List.mem_map.1 h
      exact hn ⟨i, List.mem_range.1 him, e⟩
    · rw [List.nodup_iff_pairwise_ne, List.pairwise_map]
      exact List.Pairwise.imp_of_mem (fun {a b} ha hb hab e => hab (hi a b (List.mem_range.1 ha) (List.mem_range.1 hb) e)) (List.nodup_iff_pairwise_ne.1 List.nodup_range)
  have := nodup_length hnd m (fun x hx => by
    rcases List.mem_cons.1 hx with rfl | hx
    · exact hv
    · obtain ⟨i, him, e⟩ := List.mem_map.1 hx
      rw [← e]; exact hr i (List.mem_range.1 him))
  simp at this
  omega

namespace FF
variable {F : FF}
theorem add_el (h : F.ok) {a b : Int} (ha : F.el a) (hb : F.el b) : F.el (F.add a b) := by
  unfold add
  split
  · rename_i hbin
    obtain ⟨k, _, _, hk, _⟩ := h.isB hbin
    exact ⟨xorI_nonneg _ _, by rw [hk]; exact xorI_lt _ _ _ (by rw [← hk]; exact ha.2) (by rw [← hk]; exact hb.2)⟩
  · have := h.lo
    exact ⟨Int.emod_nonneg _ (by omega), Int.emod_lt_of_pos _ (by omega)⟩
theorem neg_el {a : Int} (ha : F.el a) : F.el (F.neg a) := by
  unfold neg
  obtain ⟨h0, h1⟩ := ha
  split
  · exact ⟨h0, h1⟩
  · rename_i hh
    simp at hh
    exact ⟨by omega, by omega⟩
theorem zero_el (h : F.ok) : F.el 0 := ⟨by omega, by have := h.lo; omega⟩
theorem one_el (h : F.ok) : F.el 1 := ⟨by omega, by have := h.lo; omega⟩
theorem add_comm' (a b : Int) : F.add a b = F.add b a := by
  unfold add; split
  · exact xorI_comm _ _
  · rw [Int.add_comm]
theorem add_assoc' (a b c : Int) : F.add (F.add a b) c = F.add a (F.add b c) := by
  unfold add; split
  · exact xorI_assoc _ _ _
  · rw [Int.emod_add_emod, Int.add_emod_emod, Int.add_assoc]
theorem add_zero' {a : Int} (ha : F.el a) : F.add a 0 = a := by
  unfold add; split
  · exact xorI_zero _ ha.1
  · rw [Int.add_zero, Int.emod_eq_of_lt ha.1 ha.2]
theorem neg_add' {a : Int} (ha : F.el a) : F.add (F.neg a) a = 0 := by
  unfold add neg
  obtain ⟨h0, h1⟩ := ha
  by_cases hb : F.bin = true
  · rw [if_pos hb, if_pos (by simp [hb])]; exact xorI_self _
  · rw [if_neg hb]
    by_cases h : a = 0
    · subst h; rw [if_pos (by simp)]; simp
    · rw [if_neg (by simp [hb, h])]; rw [Int.sub_add_cancel]; simp
theorem times_el (h : F.ok) {a : Int} (ha : F.el a) : F.el (F.times a) := by
  unfold times
  split
  · rename_i hb
    obtain ⟨k, _, _, hk, h1, h2⟩ := h.isB hb
    have := timesB_range k F.gen a (by rw [← hk]; exact h1) (by rw [← hk]; exact h2) ha.1 (by rw [← hk]; exact ha.2)
    rw [← hk] at this
    exact this
  · have := h.lo
    exact ⟨Int.emod_nonneg _ (by omega), Int.emod_lt_of_pos _ (by omega)⟩
theorem times_add (h : F.ok) {a b : Int} (ha : F.el a) (hb : F.el b) : F.times (F.add a b) = F.add (F.times a) (F.times b) := by
  unfold times add
  by_cases hbin : F.bin = true
  · rw [if_pos hbin, if_pos hbin, if_pos hbin]
    obtain ⟨k, _, _, hk, h1, h2⟩ := h.isB hbin
    have := timesB_add k F.gen a b ha.1 (by rw [← hk]; exact ha.2) hb.1 (by rw [← hk]; exact hb.2)
    rw [← hk] at this
    exact this
  · rw [if_neg hbin, if_neg hbin, if_neg hbin]; exact timesP_add _ _ _ _
theorem times_zero (h : F.ok) : F.times 0 = 0 := by
  unfold times
  have := h.lo
  split
  · unfold timesB; rw [if_neg (by omega)]; rfl
  · unfold timesP; simp
theorem N_pos (h : F.ok) : 2 ≤ F.N := by unfold N; have := h.lo; omega
theorem N_size (h : F.ok) : ((F.N : Nat) : Int) = F.size - 1 := by unfold N; have := h.lo; omega
theorem exp_el (h : F.ok) (n : Nat) : F.el (F.exp n) := by
  unfold exp
  induction n with
  | zero => exact one_el h
  | succ n ih => exact times_el h ih
theorem exp_succ (n : Nat) : F.exp (n + 1) = F.times (F.exp n) := rfl
theorem exp_add_N (h : F.ok) (n : Nat) : F.exp (n + F.N) = F.exp n := by
  induction n with
  | zero => rw [Nat.zero_add]; exact h.good.2
  | succ n ih => rw [Nat.add_right_comm, exp_succ, ih, exp_succ]
theorem exp_mod (h : F.ok) (n : Nat) : F.exp (n % F.N) = F.exp n := by
  have : ∀ q r, F.exp (r + F.N * q) = F.exp r := by
    intro q
    induction q with
    | zero => intro r; simp
    | succ q ih => intro r; rw [Nat.mul_succ, ← Nat.add_assoc, exp_add_N h, ih]
  rw [← this (n / F.N) (n % F.N), Nat.mod_add_div]
theorem exp_ne_zero (h : F.ok) (n : Nat) : F.exp n ≠ 0 := by
  rw [← exp_mod h]
  exact (h.good.1 _ (Nat.mod_lt _ (by have := N_pos h; omega))).1
theorem exp_add_eq (i j m : Nat) (e : F.exp i = F.exp j) : F.exp (i + m) = F.exp (j + m) := by
  induction m with
  | zero => exact e
  | succ m ih => rw [← Nat.add_assoc, ← Nat.add_assoc, exp_succ, exp_succ, ih]
theorem exp_inj_lt (h : F.ok) (i j : Nat) (hij : i < j) (hj : j < F.N) : F.exp i ≠ F.exp j := by
  intro e
  have e' := exp_add_eq i j (F.N - j) e
  rw [Nat.add_sub_cancel' (by omega)] at e'
  have h1 : F.exp F.N = 1 := h.good.2
  rw [h1] at e'
  exact (h.good.1 (i + (F.N - j)) (by omega)).2 (by omega) e'
theorem exp_inj (h : F.ok) (i j : Nat) (hi : i < F.N) (hj : j < F.N) (e : F.exp i = F.exp j) : i = j := by
  rcases Nat.lt_trichotomy i j with hl | hl | hl
  · exact absurd e (exp_inj_lt h i j hl hj)
  · exact hl
  · exact absurd e.symm (exp_inj_lt h j i hl hi)
theorem exp_onto (h : F.ok) {a : Int} (ha : F.el a) (h0 : a ≠ 0) : ∃ n, n < F.N ∧ F.exp n = a := by
  have hN := N_size h
  have hr : ∀ i, 1 ≤ F.exp i ∧ F.exp i ≤ F.N := fun i => by
    have := exp_el h i
    have h0 := exp_ne_zero h i
    obtain ⟨h1, h2⟩ := this
    omega
  obtain ⟨h1, h2⟩ := ha
  obtain ⟨i, hi, e⟩ := onto_of_inj (fun i => (F.exp i - 1).toNat) F.N (fun i hi => by have := hr i; omega)
    (fun i j hi hj e => exp_inj h i j hi hj (by have := hr i; have := hr j; omega)) (a - 1).toNat (by omega)
  exact ⟨i, hi, by have := hr i; omega⟩
theorem logTo_spec (h : F.ok) (a : Int) (n : Nat) (hn : n < F.N) (e : F.exp n = a) : ∀ k s, s ≤ n → n < s + k → F.logTo a k s = n := by
  intro k
  induction k with
  | zero => intro s h1 h2; omega
  | succ k ih =>
    intro s h1 h2
    unfold logTo
    by_cases hs : F.exp s = a
    · rw [if_pos hs]; exact exp_inj h s n (by omega) hn (by rw [hs, e])
    · rw [if_neg hs]; exact ih (s + 1) (by
        have : s ≠ n := fun x => hs (by rw [x, e])
        omega) (by omega)
theorem log_exp (h : F.ok) (n : Nat) (hn : n < F.N) : F.log (F.exp n) = n := logTo_spec h _ n hn rfl _ 0 (by omega) (by omega)
theorem log_lt (h : F.ok) {a : Int} (ha : F.el a) (h0 : a ≠ 0) : F.log a < F.N := by
  obtain ⟨n, hn, rfl⟩ := exp_onto h ha h0
  rw [log_exp h n hn]; exact hn
theorem exp_log (h : F.ok) {a : Int} (ha : F.el a) (h0 : a ≠ 0) : F.exp (F.log a) = a := by
  obtain ⟨n, hn, rfl⟩ := exp_onto h ha h0
  rw [log_exp h n hn]
theorem mul_exp (h : F.ok) (i j : Nat) : F.mul (F.exp i) (F.exp j) = F.exp (i + j) := by
  unfold mul
  rw [if_neg (by simp [exp_ne_zero h]), ← exp_mod h i, ← exp_mod h j]
  have hN := N_pos h
  rw [log_exp h _ (Nat.mod_lt _ (by omega)), log_exp h _ (Nat.mod_lt _ (by omega)), ← Nat.add_mod, exp_mod h]
theorem mul_el (h : F.ok) (a b : Int) : F.el (F.mul a b) := by
  unfold mul; split
  · exact zero_el h
  · exact exp_el h _
theorem mul_comm' (a b : Int) : F.mul a b = F.mul b a := by
  unfold mul
  by_cases ha : a = 0
  · simp [ha]
  · by_cases hb : b = 0
    · simp [hb]
    · simp [ha, hb, Nat.add_comm]
theorem zero_mul' (a : Int) : F.mul 0 a = 0 := by unfold mul; simp
theorem mul_zero' (a : Int) : F.mul a 0 = 0 := by unfold mul; simp
/-- A product by a power of the generator: repeated multiplication by the generator. -/
def iter (F : FF) (x : Int) : Nat → Int
  | 0 => x
  | n + 1 => F.times (iter F x n)
theorem iter_el (h : F.ok) {x : Int} (hx : F.el x) (n : Nat) : F.el (F.iter x n) := by
  induction n with
  | zero => exact hx
  | succ n ih => exact times_el h ih
theorem iter_exp (j n : Nat) : F.iter (F.exp j) n = F.exp (j + n) := by
  induction n with
  | zero => rfl
  | succ n ih => show F.times _ = _; rw [ih]; rfl
theorem iter_zero (h : F.ok) (n : Nat) : F.iter 0 n = 0 := by
  induction n with
  | zero => rfl
  | succ n ih => show F.times _ = _; rw [ih, times_zero h]
theorem iter_add (h : F.ok) {x y : Int} (hx : F.el x) (hy : F.el y) (n : Nat) : F.iter (F.add x y) n = F.add (F.iter x n) (F.iter y n) := by
  induction n with
  | zero => rfl
  | succ n ih => show F.times _ = F.add (F.times _) (F.times _); rw [ih, times_add h (iter_el h hx n) (iter_el h hy n)]
theorem mul_iter (h : F.ok) {x : Int} (hx : F.el x) (n : Nat) : F.mul (F.exp n) x = F.iter x n := by
  by_cases h0 : x = 0
  · subst h0; rw [mul_zero', iter_zero h]
  · obtain ⟨j, hj, rfl⟩ := exp_onto h hx h0
    rw [mul_exp h, iter_exp, Nat.add_comm]
theorem mul_add' (h : F.ok) {a b c : Int} (ha : F.el a) (hb : F.el b) (hc : F.el c) : F.mul a (F.add b c) = F.add (F.mul a b) (F.mul a c) := by
  by_cases h0 : a = 0
  · subst h0; rw [zero_mul', zero_mul', zero_mul', add_zero' (zero_el h)]
  · obtain ⟨i, hi, rfl⟩ := exp_onto h ha h0
    rw [mul_iter h (add_el h hb hc), mul_iter h hb, mul_iter h hc, iter_add h hb hc]
theorem mul_assoc' (h : F.ok) {a b c : Int} (ha : F.el a) (hb : F.el b) (hc : F.el c) : F.mul (F.mul a b) c = F.mul a (F.mul b c) := by
  by_cases h0 : a = 0
  · subst h0; simp only [zero_mul']
  · by_cases h1 : b = 0
    · subst h1; simp only [zero_mul', mul_zero']
    · by_cases h2 : c = 0
      · subst h2; simp only [mul_zero']
      · obtain ⟨i, _, rfl⟩ := exp_onto h ha h0
        obtain ⟨j, _, rfl⟩ := exp_onto h hb h1
        obtain ⟨k, _, rfl⟩ := exp_onto h hc h2
        rw [mul_exp h, mul_exp h, mul_exp h, mul_exp h, Nat.add_assoc]
theorem exp_zero : F.exp 0 = 1 := rfl
theorem mul_one' (h : F.ok) {a : Int} (ha : F.el a) : F.mul a 1 = a := by
  rw [mul_comm', ← exp_zero (F := F), mul_iter h ha]; rfl
theorem mul_ne_zero (h : F.ok) {a b : Int} (h0 : a ≠ 0) (h1 : b ≠ 0) : F.mul a b ≠ 0 := by
  unfold mul; rw [if_neg (by simp [h0, h1])]; exact exp_ne_zero h _
theorem inv_el (h : F.ok) (a : Int) : F.el (F.inv a) := exp_el h _
theorem mul_inv' (h : F.ok) {a : Int} (ha : F.el a) (h0 : a ≠ 0) : F.mul a (F.inv a) = 1 := by
  obtain ⟨n, hn, rfl⟩ := exp_onto h ha h0
  unfold inv
  rw [log_exp h n hn, exp_mod h, mul_exp h, Nat.add_sub_cancel' (by omega)]
  exact h.good.2
end FF
end Go.Proofs.YtmbphpmabopifaaDoor
/-
  The reference's way to multiply (without carry, then reduced) is the field's product; powers by squaring. Plain mathematics.
-/
namespace Go.Proofs.YtmbphpmabopifaaDoor

/-- The product without carry, by the lowest k bits of b. -/
def clmulTo (a b : Nat) : Nat → Nat
  | 0 => 0
  | k + 1 => if b.testBit k then clmulTo a b k ^^^ (a * 2 ^ k) else clmulTo a b k
def redStep (poly P j x : Nat) : Nat := if x.testBit (P + j) then x ^^^ (poly * 2 ^ j) else x
/-- Reduction of the bits P + j - 1 down to P. -/
def red (poly P : Nat) : Nat → Nat → Nat
  | 0, x => x
  | j + 1, x => red poly P j (redStep poly P j x)

theorem xor_cancel_mid (a b c : Nat) : (a ^^^ c) ^^^ (b ^^^ c) = a ^^^ b := by
  apply Nat.eq_of_testBit_eq; intro i
  simp only [Nat.testBit_xor]
  cases a.testBit i <;> cases b.testBit i <;> cases c.testBit i <;> rfl
theorem redStep_xor (poly P j x y : Nat) : redStep poly P j (x ^^^ y) = redStep poly P j x ^^^ redStep poly P j y := by
  unfold redStep
  rw [Nat.testBit_xor]
  cases hx : x.testBit (P + j) <;> cases hy : y.testBit (P + j)
  · simp
  · simp [Nat.xor_assoc]
  · simp only [Bool.xor_false, if_true, Bool.false_eq_true, if_false]
    rw [Nat.xor_assoc, Nat.xor_assoc, Nat.xor_comm y]
  · simp only [Bool.xor_true, Bool.not_true, Bool.false_eq_true, if_false, if_true]
    exact (xor_cancel_mid _ _ _).symm
theorem red_xor (poly P j : Nat) : ∀ x y, red poly P j (x ^^^ y) = red poly P j x ^^^ red poly P j y := by
  induction j with
  | zero => intro x y; rfl
  | succ j ih => intro x y; simp only [red]; rw [redStep_xor, ih]
theorem redStep_low (poly P j x : Nat) (h : x < 2 ^ (P + j)) : redStep poly P j x = x := by
  unfold redStep; rw [if_neg (by rw [Nat.testBit_lt_two_pow h]; simp)]
theorem red_low (poly P i : Nat) : ∀ j x, x < 2 ^ (P + i) → i ≤ j → red poly P j x = red poly P i x := by
  intro j
  induction j with
  | zero => intro x _ h; have : i = 0 := by omega
            subst this; rfl
  | succ j ih =>
    intro x hx h
    by_cases e : i = j + 1
    · subst e; rfl
    · simp only [red]
      rw [redStep_low _ _ _ _ (Nat.lt_of_lt_of_le hx (Nat.pow_le_pow_right (by omega) (by omega)))]
      exact ih x hx (by omega)
theorem redStep_two (poly P j x : Nat) : redStep poly P (j + 1) (2 * x) = 2 * redStep poly P j x := by
  unfold redStep
  have h1 : (2 * x).testBit (P + (j + 1)) = x.testBit (P + j) := by
    rw [← Nat.add_assoc, Nat.testBit_succ]; congr 1; omega
  rw [h1]
  split
  · rw [← xor_two_mul, Nat.pow_succ]; congr 1; rw [Nat.mul_comm 2, Nat.mul_assoc]
  · rfl
theorem redStep_lt (poly P j x : Nat) (hp : 2 ^ P ≤ poly) (hp2 : poly < 2 ^ (P + 1)) (hx : x < 2 ^ (P + (j + 1))) : redStep poly P j x < 2 ^ (P + j) := by
  unfold redStep
  have e1 : 2 ^ (P + (j + 1)) = 2 ^ (P + j + 1) := rfl
  have e2 : (2 : Nat) ^ (P + j + 1) = 2 * 2 ^ (P + j) := by rw [Nat.pow_succ]; omega
  have e3 : (2 : Nat) ^ (P + j) = 2 ^ P * 2 ^ j := Nat.pow_add _ _ _
  have e4 : (2 : Nat) ^ (P + 1) = 2 * 2 ^ P := by rw [Nat.pow_succ]; omega
  have hb1 : poly * 2 ^ j < 2 ^ (P + j + 1) := by
    rw [e2, e3, ← Nat.mul_assoc, ← e4]; exact Nat.mul_lt_mul_of_pos_right hp2 (Nat.two_pow_pos j)
  have hb2 : 2 ^ (P + j) ≤ poly * 2 ^ j := by rw [e3]; exact Nat.mul_le_mul_right _ hp
  split
  · rename_i h
    have hx2 := Nat.ge_two_pow_of_testBit h
    have := xor_top x (poly * 2 ^ j) (P + j) hx hb1
    apply Nat.lt_of_not_le
    rw [this]
    simp [hx2, hb2]
  · rename_i h
    apply Nat.lt_of_not_le
    intro hle
    apply h
    rw [Nat.testBit_eq_decide_div_mod_eq]
    have h0 : 0 < 2 ^ (P + j) := Nat.two_pow_pos _
    have : x / 2 ^ (P + j) = 1 := by
      have h1 : 1 ≤ x / 2 ^ (P + j) := (Nat.le_div_iff_mul_le h0).2 (by omega)
      have h2 : x / 2 ^ (P + j) < 2 := (Nat.div_lt_iff_lt_mul h0).2 (by omega)
      omega
    rw [this]; rfl
theorem red_two (poly P : Nat) (hp : 2 ^ P ≤ poly) (hp2 : poly < 2 ^ (P + 1)) : ∀ j x, x < 2 ^ (P + j) →
    red poly P (j + 1) (2 * x) < 2 ^ P ∧ ((red poly P (j + 1) (2 * x) : Nat) : Int) = timesB ((2 ^ P : Nat) : Int) poly (red poly P j x : Nat) := by
  intro j
  induction j with
  | zero =>
    intro x hx
    have hx' : x < 2 ^ P := hx
    clear hx
    have e4 : (2 : Nat) ^ (P + 1) = 2 * 2 ^ P := by rw [Nat.pow_succ]; omega
    have hx2 : 2 * x < 2 ^ (P + 1) := by omega
    have hlt : red poly P 1 (2 * x) < 2 ^ P := redStep_lt poly P 0 (2 * x) hp hp2 hx2
    refine ⟨hlt, ?_⟩
    show ((redStep poly P 0 (2 * x) : Nat) : Int) = timesB _ _ (x : Int)
    unfold redStep timesB
    by_cases h : (2 * x).testBit (P + 0) = true
    · have : 2 ^ P ≤ 2 * x := Nat.ge_two_pow_of_testBit h
      rw [if_pos h, if_pos (by omega)]
      unfold xorI
      simp only [Nat.pow_zero, Nat.mul_one]
      congr 2
    · rw [if_neg h]
      have hn : ¬ (2 ^ P ≤ 2 * x) := by
        intro hle
        apply h
        show (2 * x).testBit P = true
        rw [Nat.testBit_eq_decide_div_mod_eq]
        have h0 : 0 < 2 ^ P := Nat.two_pow_pos _
        have : 2 * x / 2 ^ P = 1 := by
          have h1 : 1 ≤ 2 * x / 2 ^ P := (Nat.le_div_iff_mul_le h0).2 (by omega)
          have h2 : 2 * x / 2 ^ P < 2 := (Nat.div_lt_iff_lt_mul h0).2 (by omega)
          omega
        rw [this]; rfl
      rw [if_neg (by omega)]; omega
  | succ j ih =>
    intro x hx
    have hs := redStep_lt poly P j x hp hp2 hx
    have := ih _ hs
    show red poly P (j + 1) (redStep poly P (j + 1) (2 * x)) < _ ∧ ((red poly P (j + 1) (redStep poly P (j + 1) (2 * x)) : Nat) : Int) = timesB _ _ (red poly P j (redStep poly P j x) : Nat)
    rw [redStep_two]
    exact this
/-- The reduced product by a power of two. -/
theorem red_shift (poly P : Nat) (hp : 2 ^ P ≤ poly) (hp2 : poly < 2 ^ (P + 1)) (F : FF) (hb : F.bin = true) (hs : F.size = ((2 ^ P : Nat) : Int)) (hg : F.gen = poly) (a : Nat) (ha : a < 2 ^ P) :
    ∀ k, ((red poly P k (a * 2 ^ k) : Nat) : Int) = F.iter a k ∧ a * 2 ^ k < 2 ^ (P + k) := by
  intro k
  induction k with
  | zero => exact ⟨by show ((a * 1 : Nat) : Int) = _; rw [Nat.mul_one]; rfl, by simpa using ha⟩
  | succ k ih =>
    obtain ⟨h1, h2⟩ := ih
    have e : a * 2 ^ (k + 1) = 2 * (a * 2 ^ k) := by rw [Nat.pow_succ, ← Nat.mul_assoc, Nat.mul_comm]
    have := red_two poly P hp hp2 k (a * 2 ^ k) h2
    rw [e]
    refine ⟨?_, ?_⟩
    · rw [this.2, h1]
      show _ = F.times _
      unfold FF.times
      rw [if_pos hb, hs, hg]
    · rw [← Nat.add_assoc, Nat.pow_succ]; omega

/-- The binary product as the reference computes it. -/
def specMulB (P poly a b : Nat) : Nat := red poly P (P + 1) (clmulTo a b P)

theorem clmul_red (F : FF) (h : F.ok) (poly P : Nat) (hp : 2 ^ P ≤ poly) (hp2 : poly < 2 ^ (P + 1)) (hb : F.bin = true) (hs : F.size = ((2 ^ P : Nat) : Int)) (hg : F.gen = poly) (a b : Nat) (ha : a < 2 ^ P) :
    ∀ k, k ≤ P → ((red poly P (P + 1) (clmulTo a b k) : Nat) : Int) = F.mul ((b % 2 ^ k : Nat) : Int) a := by
  have hel : ∀ n : Nat, n < 2 ^ P → F.el (n : Int) := fun n hn => ⟨by omega, by rw [hs]; omega⟩
  have hexp : ∀ k, k < P → F.exp k = ((2 ^ k : Nat) : Int) := by
    intro k
    induction k with
    | zero => intro _; rfl
    | succ k ih =>
      intro hk
      rw [FF.exp_succ, ih (by omega)]
      unfold FF.times timesB
      have hlt : 2 ^ (k + 1) < 2 ^ P := Nat.pow_lt_pow_right (by omega) hk
      have e : 2 ^ (k + 1) = 2 * 2 ^ k := by rw [Nat.pow_succ]; omega
      rw [if_pos hb, hs, if_neg (by omega)]; omega
  intro k
  induction k with
  | zero =>
    intro _
    have : red poly P (P + 1) 0 = 0 := red_low poly P 0 (P + 1) 0 (Nat.two_pow_pos _) (by omega)
    show ((red poly P (P + 1) 0 : Nat) : Int) = _
    rw [this, Nat.pow_zero, Nat.mod_one]
    exact (FF.zero_mul' _).symm
  | succ k ih =>
    intro hk
    have ih' := ih (by omega)
    have hmod : b % 2 ^ (k + 1) = (b % 2 ^ k) ^^^ (if b.testBit k then 2 ^ k else 0) := by
      apply Nat.eq_of_testBit_eq
      intro i
      rw [Nat.testBit_xor, Nat.testBit_mod_two_pow, Nat.testBit_mod_two_pow]
      have : (if b.testBit k then 2 ^ k else 0).testBit i = (decide (i = k) && b.testBit k) := by
        split
        · rename_i hbk; rw [Nat.testBit_two_pow]; simp [hbk, eq_comm]
        · rename_i hbk; simp [hbk]
      rw [this]
      rcases Nat.lt_trichotomy i k with hl | hl | hl
      · simp [hl, Nat.lt_succ_of_lt hl, Nat.ne_of_lt hl]
      · subst hl; simp
      · simp [Nat.not_lt.2 (Nat.le_of_lt hl), Nat.not_lt.2 hl, Nat.ne_of_gt hl]
    have hmk : b % 2 ^ k < 2 ^ P := Nat.lt_of_lt_of_le (Nat.mod_lt _ (Nat.two_pow_pos _)) (Nat.pow_le_pow_right (by omega) (by omega))
    simp only [clmulTo]
    split
    · rename_i hbk
      rw [hmod, if_pos hbk, red_xor]
      obtain ⟨h1, h2⟩ := red_shift poly P hp hp2 F hb hs hg a ha k
      rw [red_low poly P k (P + 1) (a * 2 ^ k) h2 (by omega)]
      have e : (((b % 2 ^ k) ^^^ 2 ^ k : Nat) : Int) = F.add ((b % 2 ^ k : Nat) : Int) ((2 ^ k : Nat) : Int) := by
        unfold FF.add; rw [if_pos hb]; unfold xorI; simp only [Int.toNat_natCast]
      have e2 : ((red poly P (P + 1) (clmulTo a b k) ^^^ red poly P k (a * 2 ^ k) : Nat) : Int) = F.add (red poly P (P + 1) (clmulTo a b k) : Nat) (red poly P k (a * 2 ^ k) : Nat) := by
        unfold FF.add; rw [if_pos hb]; unfold xorI; simp only [Int.toNat_natCast]
      have hkk : 2 ^ k < 2 ^ P := Nat.pow_lt_pow_right (by omega) (by omega)
      rw [e, e2, ih', h1, FF.mul_comm' (F.add _ _), FF.mul_add' h (hel _ ha) (hel _ hmk) (hel _ hkk), FF.mul_comm' a, FF.mul_comm' a, ← hexp k (by omega), FF.mul_iter h (hel _ ha)]
    · rename_i hbk
      rw [hmod, if_neg hbk, Nat.xor_zero]
      exact ih'
theorem specMulB_eq (F : FF) (h : F.ok) (poly P : Nat) (hp : 2 ^ P ≤ poly) (hp2 : poly < 2 ^ (P + 1)) (hb : F.bin = true) (hs : F.size = ((2 ^ P : Nat) : Int)) (hg : F.gen = poly) (a b : Nat) (ha : a < 2 ^ P) (hbb : b < 2 ^ P) :
    ((specMulB P poly a b : Nat) : Int) = F.mul a b := by
  unfold specMulB
  rw [clmul_red F h poly P hp hp2 hb hs hg a b ha P (by omega), Nat.mod_eq_of_lt hbb, FF.mul_comm']
/-- The product of a field of prime size. -/
theorem mulP_eq (F : FF) (h : F.ok) (hb : F.bin = false) (a b : Int) (ha : F.el a) (hbb : F.el b) : a * b % F.size = F.mul a b := by
  have hlo := h.lo
  have hit : ∀ n, F.iter b n = F.exp n * b % F.size := by
    intro n
    induction n with
    | zero => show b = 1 * b % _; rw [Int.one_mul, Int.emod_eq_of_lt hbb.1 hbb.2]
    | succ n ih =>
      show F.times _ = F.times (F.exp n) * b % _
      unfold FF.times
      rw [if_neg (by simp [hb]), ih]
      unfold timesP
      rw [Int.mul_emod, Int.emod_emod, ← Int.mul_emod, Int.mul_emod (F.exp n * F.gen % F.size), Int.emod_emod, ← Int.mul_emod, Int.mul_assoc, Int.mul_assoc, Int.mul_comm b]
  by_cases h0 : a = 0
  · subst h0; rw [FF.zero_mul']; simp
  · obtain ⟨n, hn, rfl⟩ := FF.exp_onto h ha h0
    rw [FF.mul_iter h hbb, hit]
namespace FF
variable {F : FF}
/-- Powers. -/
def pow (F : FF) (a : Int) : Nat → Int
  | 0 => 1
  | n + 1 => F.mul (pow F a n) a
theorem pow_el (h : F.ok) (a : Int) (n : Nat) : F.el (F.pow a n) := by
  cases n with
  | zero => exact one_el h
  | succ n => exact mul_el h _ _
theorem pow_exp (h : F.ok) (i n : Nat) : F.pow (F.exp i) n = F.exp (i * n) := by
  induction n with
  | zero => rfl
  | succ n ih => show F.mul _ _ = _; rw [ih, mul_exp h]; rfl
theorem pow_zero_base (n : Nat) (hn : 0 < n) : F.pow 0 n = 0 := by
  cases n with
  | zero => omega
  | succ n => exact mul_zero' _
theorem inv_pow (h : F.ok) {a : Int} (ha : F.el a) (h0 : a ≠ 0) : F.pow a (F.N - 1) = F.inv a := by
  obtain ⟨i, hi, rfl⟩ := exp_onto h ha h0
  have hN := N_pos h
  unfold inv
  rw [pow_exp h, log_exp h i hi, exp_mod h, ← exp_mod h]
  have : i * (F.N - 1) % F.N = (F.N - i) % F.N := by
    have e : i * (F.N - 1) + i = i * F.N := by
      rw [← Nat.mul_succ]; congr 1; omega
    have e1 : (i * (F.N - 1) + i) % F.N = (F.N - i + i) % F.N := by
      rw [e, Nat.mul_mod_left, Nat.sub_add_cancel (by omega), Nat.mod_self]
    have e2 : ∀ x, x % F.N = ((x + i) + (F.N - i)) % F.N := fun x => by
      rw [Nat.add_assoc, Nat.add_sub_cancel' (by omega), Nat.add_mod_right]
    rw [e2 (i * (F.N - 1)), e2 (F.N - i), Nat.add_mod, e1, ← Nat.add_mod]
  rw [this, exp_mod h]
end FF
end Go.Proofs.YtmbphpmabopifaaDoor
/-
  Polynomials as power series that end: values, roots, division. Over any field. Plain mathematics.
-/
namespace Go.Proofs.YtmbphpmabopifaaDoor

/-- Every element but 0 has an inverse. -/
class Fld (K : Type) [CR K] : Prop where
  one_ne : (1 : K) ≠ 0
  inv : ∀ a : K, a ≠ 0 → ∃ b : K, a * b = 1

section
variable {K : Type} [CR K]
theorem mul_eq_zero' [Fld K] {a b : K} (h : a * b = 0) (ha : a ≠ 0) : b = 0 := by
  obtain ⟨c, hc⟩ := Fld.inv a ha
  have : b = (a * c) * b := by rw [hc]; grind
  grind
theorem mul_ne [Fld K] {a b : K} (ha : a ≠ 0) (hb : b ≠ 0) : a * b ≠ 0 := fun h => hb (mul_eq_zero' h ha)
theorem mul_cancel' [Fld K] {a b c : K} (h : a * b = a * c) (ha : a ≠ 0) : b = c := by
  have : a * (b - c) = 0 := by grind
  have := mul_eq_zero' this ha
  grind
end

namespace PS
section
variable {K : Type} [CR K]
/-- Coefficients from n on are 0. -/
def dlt (f : PS K) (n : Nat) : Prop := ∀ i, n ≤ i → f.c i = 0
def IsPoly (f : PS K) : Prop := ∃ n, f.dlt n
def X : PS K := ⟨fun n => if n = 1 then 1 else 0⟩
def C (a : K) : PS K := ⟨fun n => if n = 0 then a else 0⟩
theorem C_c_zero (a : K) : (C a).c 0 = a := rfl
theorem C_c_succ (a : K) (n : Nat) : (C a).c (n + 1) = 0 := rfl
theorem conv_zero_left (m : Nat) : ∀ z g : PS K, (∀ k, z.c k = 0) → conv z g m = 0 := by
  induction m with
  | zero => intro z g hz; simp only [conv, hz]; grind
  | succ m ih => intro z g hz; simp only [conv, hz]; rw [ih _ _ (fun k => hz (k + 1))]; grind
theorem C_mul_c (a : K) (f : PS K) (n : Nat) : (C a * f).c n = a * f.c n := by
  rw [mul_c]
  cases n with
  | zero => simp only [conv]; rfl
  | succ n => simp only [conv]; rw [conv_zero_left _ _ _ (fun k => rfl), C_c_zero]; grind
theorem X_mul_c_zero (f : PS K) : (X * f).c 0 = 0 := by
  rw [mul_c]; simp only [conv]; show (0 : K) * _ = 0; grind
theorem X_mul_c_succ (f : PS K) (n : Nat) : (X * f).c (n + 1) = f.c n := by
  rw [mul_c]; simp only [conv]
  have e : tail (X : PS K) = C 1 := by apply ext'; intro m; cases m <;> rfl
  rw [e]
  have := C_mul_c (1 : K) f n
  rw [mul_c] at this
  rw [this]
  show (0 : K) * _ + _ = _
  grind
theorem split0 (f : PS K) : f = C (f.c 0) + X * f.tail := by
  apply ext'; intro n
  rw [add_c]
  cases n with
  | zero => rw [X_mul_c_zero, C_c_zero]; grind
  | succ n => rw [X_mul_c_succ, C_c_succ]; show f.c (n + 1) = 0 + f.c (n + 1); grind
theorem C_add (a b : K) : C (a + b) = C a + C b := by
  apply ext'; intro n; rw [add_c]; cases n with
  | zero => rfl
  | succ n => show (0 : K) = 0 + 0; grind
theorem C_mul (a b : K) : C (a * b) = C a * C b := by
  apply ext'; intro n; rw [C_mul_c]; cases n with
  | zero => rfl
  | succ n => show (0 : K) = a * 0; grind
theorem C_zero : C (0 : K) = 0 := by
  apply ext'; intro n; rw [zero_c]; cases n <;> rfl
theorem C_one : C (1 : K) = 1 := by
  apply ext'; intro n; rw [one_c]; cases n <;> rfl
theorem C_neg (a : K) : C (-a) = - C a := by
  apply ext'; intro n; rw [neg_c]; cases n with
  | zero => rfl
  | succ n => show (0 : K) = - 0; grind
theorem C_inj {a b : K} (h : C a = C b) : a = b := by
  have : (C a).c 0 = (C b).c 0 := by rw [h]
  exact this

theorem dlt.mono {f : PS K} {n m : Nat} (h : f.dlt n) (hm : n ≤ m) : f.dlt m := fun i hi => h i (by omega)
theorem dlt_zero (n : Nat) : (0 : PS K).dlt n := fun _ _ => rfl
theorem dlt_C (a : K) : (C a).dlt 1 := fun i hi => by
  obtain ⟨j, rfl⟩ : ∃ j, i = j + 1 := ⟨i - 1, by omega⟩
  rfl
theorem dlt_one : (1 : PS K).dlt 1 := by rw [← C_one]; exact dlt_C _
theorem dlt_X : (X : PS K).dlt 2 := fun i hi => by
  show (if i = 1 then (1 : K) else 0) = 0
  rw [if_neg (by omega)]
theorem dlt_add {f g : PS K} {n : Nat} (hf : f.dlt n) (hg : g.dlt n) : (f + g).dlt n := fun i hi => by
  rw [add_c, hf i hi, hg i hi]; grind
theorem dlt_neg {f : PS K} {n : Nat} (hf : f.dlt n) : (-f).dlt n := fun i hi => by
  rw [neg_c, hf i hi]; grind
theorem dlt_sub {f g : PS K} {n : Nat} (hf : f.dlt n) (hg : g.dlt n) : (f - g).dlt n := fun i hi => by
  rw [sub_c, hf i hi, hg i hi]; grind
theorem dlt_tail {f : PS K} {n : Nat} (hf : f.dlt (n + 1)) : f.tail.dlt n := fun i hi => hf (i + 1) (by omega)
theorem eq_zero_of_dlt {f : PS K} (hf : f.dlt 0) : f = 0 := ext' fun n => hf n (by omega)
theorem dlt_C_mul {f : PS K} {n : Nat} (a : K) (hf : f.dlt n) : (C a * f).dlt n := fun i hi => by
  rw [C_mul_c, hf i hi]; grind
theorem dlt_X_mul {f : PS K} {n : Nat} (hf : f.dlt n) : (X * f).dlt (n + 1) := fun i hi => by
  obtain ⟨j, rfl⟩ : ∃ j, i = j + 1 := ⟨i - 1, by omega⟩
  rw [X_mul_c_succ]; exact hf j (by omega)
theorem tail_mul (f g : PS K) : f * g = C (f.c 0) * g + X * (f.tail * g) := by
  have := split0 f
  have h2 : f * g = (C (f.c 0) + X * f.tail) * g := by rw [← this]
  rw [h2]; grind
/-- The degree of a product: n + m - 1 coefficients, and none where one factor has none. -/
theorem dlt_mul {g : PS K} {m : Nat} (hg : g.dlt (m + 1)) : ∀ (n : Nat) (f : PS K), f.dlt (n + 1) → (f * g).dlt (n + m + 1) := by
  intro n
  induction n with
  | zero =>
    intro f hf
    have e : f = C (f.c 0) := by
      apply ext'; intro i
      cases i with
      | zero => rfl
      | succ i => exact hf (i + 1) (by omega)
    rw [e, Nat.zero_add]; exact dlt_C_mul _ hg
  | succ n ih =>
    intro f hf
    rw [tail_mul]
    refine dlt_add ((dlt_C_mul _ hg).mono (by omega)) ?_
    have := dlt_X_mul (ih f.tail (dlt_tail hf))
    exact this.mono (by omega)
theorem dlt_mul' {f g : PS K} {n m : Nat} (hf : f.dlt n) (hg : g.dlt m) : (f * g).dlt (n + m) := by
  cases n with
  | zero => rw [eq_zero_of_dlt hf]; intro i hi; have : (0 : PS K) * g = 0 := by grind
            rw [this]; rfl
  | succ n =>
    cases m with
    | zero => rw [eq_zero_of_dlt hg]; intro i hi; have : f * (0 : PS K) = 0 := by grind
              rw [this]; rfl
    | succ m => exact (dlt_mul hg n f hf).mono (by omega)
/-- The coefficient at the greatest place of a product. -/
theorem mul_top {g : PS K} {m : Nat} (hg : g.dlt (m + 1)) : ∀ (n : Nat) (f : PS K), f.dlt (n + 1) → (f * g).c (n + m) = f.c n * g.c m := by
  intro n
  induction n with
  | zero =>
    intro f hf
    have e : f = C (f.c 0) := by
      apply ext'; intro i
      cases i with
      | zero => rfl
      | succ i => exact hf (i + 1) (by omega)
    have e2 : f * g = C (f.c 0) * g := by rw [← e]
    rw [e2, C_mul_c, Nat.zero_add]
  | succ n ih =>
    intro f hf
    rw [tail_mul, add_c, C_mul_c, hg (n + 1 + m) (by omega)]
    have : n + 1 + m = n + m + 1 := by omega
    rw [this, X_mul_c_succ, ih f.tail (dlt_tail hf)]
    show f.c 0 * 0 + f.c (n + 1) * g.c m = _
    grind
theorem IsPoly.add {f g : PS K} (hf : f.IsPoly) (hg : g.IsPoly) : (f + g).IsPoly := by
  obtain ⟨n, hn⟩ := hf; obtain ⟨m, hm⟩ := hg
  exact ⟨max n m, dlt_add (hn.mono (by omega)) (hm.mono (by omega))⟩
theorem IsPoly.neg {f : PS K} (hf : f.IsPoly) : (-f).IsPoly := by
  obtain ⟨n, hn⟩ := hf; exact ⟨n, dlt_neg hn⟩
theorem IsPoly.sub {f g : PS K} (hf : f.IsPoly) (hg : g.IsPoly) : (f - g).IsPoly := by
  obtain ⟨n, hn⟩ := hf; obtain ⟨m, hm⟩ := hg
  exact ⟨max n m, dlt_sub (hn.mono (by omega)) (hm.mono (by omega))⟩
theorem IsPoly.mul {f g : PS K} (hf : f.IsPoly) (hg : g.IsPoly) : (f * g).IsPoly := by
  obtain ⟨n, hn⟩ := hf; obtain ⟨m, hm⟩ := hg
  exact ⟨n + m, dlt_mul' hn hm⟩
theorem isPoly_C (a : K) : (C a).IsPoly := ⟨1, dlt_C a⟩
theorem isPoly_X : (X : PS K).IsPoly := ⟨2, dlt_X⟩
theorem isPoly_one : (1 : PS K).IsPoly := ⟨1, dlt_one⟩
theorem isPoly_zero : (0 : PS K).IsPoly := ⟨0, dlt_zero 0⟩
theorem IsPoly.tail {f : PS K} (hf : f.IsPoly) : f.tail.IsPoly := by
  obtain ⟨n, hn⟩ := hf; exact ⟨n, dlt_tail (hn.mono (by omega))⟩

/-! ### Values -/
def eval : Nat → PS K → K → K
  | 0, _, _ => 0
  | n + 1, f, a => f.c 0 + a * eval n f.tail a
theorem eval_zero_of (n : Nat) : ∀ (f : PS K) (a : K), (∀ i, f.c i = 0) → eval n f a = 0 := by
  induction n with
  | zero => intro f a _; rfl
  | succ n ih => intro f a h; simp only [eval]; rw [ih _ _ (fun i => h (i + 1)), h]; grind
theorem eval_mono (n : Nat) : ∀ (f : PS K) (a : K) (m : Nat), f.dlt n → n ≤ m → eval m f a = eval n f a := by
  induction n with
  | zero => intro f a m hf _; exact eval_zero_of _ _ _ (fun i => hf i (by omega))
  | succ n ih =>
    intro f a m hf hm
    obtain ⟨k, rfl⟩ : ∃ k, m = k + 1 := ⟨m - 1, by omega⟩
    simp only [eval]
    rw [ih f.tail a k (dlt_tail hf) (by omega)]
open Classical in
/-- The value of a polynomial. -/
noncomputable def ev (f : PS K) (a : K) : K := if h : f.IsPoly then eval (choose h) f a else 0
theorem ev_eq {f : PS K} {n : Nat} (h : f.dlt n) (a : K) : ev f a = eval n f a := by
  have hp : f.IsPoly := ⟨n, h⟩
  unfold ev
  rw [dif_pos hp]
  rcases Nat.le_total n (Classical.choose hp) with hl | hl
  · rw [eval_mono n f a _ h hl]
  · rw [eval_mono _ f a n (Classical.choose_spec hp) hl]
theorem ev_step {f : PS K} (h : f.IsPoly) (a : K) : ev f a = f.c 0 + a * ev f.tail a := by
  obtain ⟨n, hn⟩ := h
  rw [ev_eq (hn.mono (Nat.le_succ n)), ev_eq (dlt_tail (hn.mono (Nat.le_succ n)))]
  rfl
theorem ev_zero (a : K) : ev (0 : PS K) a = 0 := by rw [ev_eq (dlt_zero 0)]; rfl
theorem ev_C (b a : K) : ev (C b) a = b := by
  rw [ev_eq (dlt_C b)]; show b + a * 0 = b; grind
theorem ev_one (a : K) : ev (1 : PS K) a = 1 := by rw [← C_one, ev_C]
theorem eval_add (n : Nat) : ∀ (f g : PS K) (a : K), eval n (f + g) a = eval n f a + eval n g a := by
  induction n with
  | zero => intro f g a; show (0 : K) = 0 + 0; grind
  | succ n ih =>
    intro f g a
    simp only [eval]
    have e : (f + g).tail = f.tail + g.tail := ext' fun i => rfl
    rw [e, ih, add_c]; grind
theorem eval_neg (n : Nat) : ∀ (f : PS K) (a : K), eval n (-f) a = - eval n f a := by
  induction n with
  | zero => intro f a; show (0 : K) = - 0; grind
  | succ n ih =>
    intro f a
    simp only [eval]
    have e : (-f).tail = -f.tail := ext' fun i => rfl
    rw [e, ih, neg_c]; grind
theorem eval_C_mul (n : Nat) : ∀ (b : K) (f : PS K) (a : K), eval n (C b * f) a = b * eval n f a := by
  induction n with
  | zero => intro b f a; show (0 : K) = b * 0; grind
  | succ n ih =>
    intro b f a
    simp only [eval]
    have e : (C b * f).tail = C b * f.tail := ext' fun i => by
      show (C b * f).c (i + 1) = _
      rw [C_mul_c, C_mul_c]; rfl
    rw [e, ih, C_mul_c]; grind
theorem ev_add {f g : PS K} (hf : f.IsPoly) (hg : g.IsPoly) (a : K) : ev (f + g) a = ev f a + ev g a := by
  obtain ⟨n, hn⟩ := hf; obtain ⟨m, hm⟩ := hg
  have h1 := hn.mono (Nat.le_max_left n m)
  have h2 := hm.mono (Nat.le_max_right n m)
  rw [ev_eq (dlt_add h1 h2), ev_eq h1, ev_eq h2, eval_add]
theorem ev_neg {f : PS K} (hf : f.IsPoly) (a : K) : ev (-f) a = - ev f a := by
  obtain ⟨n, hn⟩ := hf
  rw [ev_eq (dlt_neg hn), ev_eq hn, eval_neg]
theorem ev_sub {f g : PS K} (hf : f.IsPoly) (hg : g.IsPoly) (a : K) : ev (f - g) a = ev f a - ev g a := by
  have : f - g = f + -g := by grind
  rw [this, ev_add hf hg.neg, ev_neg hg]; grind
theorem ev_C_mul {f : PS K} (hf : f.IsPoly) (b a : K) : ev (C b * f) a = b * ev f a := by
  obtain ⟨n, hn⟩ := hf
  rw [ev_eq (dlt_C_mul b hn), ev_eq hn, eval_C_mul]
theorem tail_X_mul (f : PS K) : (X * f).tail = f := ext' fun i => X_mul_c_succ f i
theorem ev_X_mul {f : PS K} (hf : f.IsPoly) (a : K) : ev (X * f) a = a * ev f a := by
  rw [ev_step (isPoly_X.mul hf), X_mul_c_zero, tail_X_mul]; grind
theorem ev_X (a : K) : ev (X : PS K) a = a := by
  have : (X : PS K) = X * 1 := by grind
  rw [this, ev_X_mul isPoly_one, ev_one]; grind
theorem ev_mul' {g : PS K} (hg : g.IsPoly) (a : K) : ∀ (n : Nat) (f : PS K), f.dlt n → ev (f * g) a = ev f a * ev g a := by
  intro n
  induction n with
  | zero =>
    intro f hf
    rw [eq_zero_of_dlt hf, ev_zero]
    have : (0 : PS K) * g = 0 := by grind
    rw [this, ev_zero]; grind
  | succ n ih =>
    intro f hf
    have hp : f.tail.IsPoly := ⟨n, dlt_tail hf⟩
    rw [tail_mul, ev_add ((isPoly_C _).mul hg) (isPoly_X.mul (hp.mul hg)), ev_C_mul hg, ev_X_mul (hp.mul hg), ih _ (dlt_tail hf), ev_step ⟨_, hf⟩]
    grind
theorem ev_mul {f g : PS K} (hf : f.IsPoly) (hg : g.IsPoly) (a : K) : ev (f * g) a = ev f a * ev g a := by
  obtain ⟨n, hn⟩ := hf; exact ev_mul' hg a n f hn
/-! ### Roots -/
def tails (f : PS K) : Nat → PS K
  | 0 => f
  | n + 1 => (tails f n).tail
omit [CR K] in
theorem tails_c (f : PS K) (n i : Nat) : (tails f n).c i = f.c (n + i) := by
  induction n generalizing i with
  | zero => simp [tails]
  | succ n ih => show (tails f n).c (i + 1) = _; rw [ih]; congr 1; omega
theorem tails_dlt {f : PS K} {n : Nat} (h : f.dlt n) (k : Nat) : (tails f k).dlt (n - k) := fun i hi => by
  rw [tails_c]; exact h _ (by omega)
/-- The quotient by X - a. -/
noncomputable def quot (f : PS K) (a : K) : PS K := ⟨fun i => ev (tails f (i + 1)) a⟩
theorem quot_dlt {f : PS K} {n : Nat} (h : f.dlt (n + 1)) (a : K) : (quot f a).dlt n := fun i hi => by
  show ev (tails f (i + 1)) a = 0
  rw [ev_eq (tails_dlt h (i + 1))]
  have : n + 1 - (i + 1) = 0 := by omega
  rw [this]; rfl
theorem quot_mul {f : PS K} (h : f.IsPoly) (a : K) : f = (X - C a) * quot f a + C (ev f a) := by
  have e1 : (X - C a) * quot f a + C (ev f a) = X * quot f a - C a * quot f a + C (ev f a) := by grind
  rw [e1]
  obtain ⟨n, hn⟩ := h
  apply ext'; intro i
  have hs : ∀ k, ev (tails f k) a = f.c k + a * ev (tails f (k + 1)) a := fun k => by
    rw [ev_step ⟨_, tails_dlt hn k⟩, tails_c]; rfl
  rw [add_c, sub_c, C_mul_c]
  cases i with
  | zero =>
    rw [X_mul_c_zero, C_c_zero]
    show f.c 0 = 0 - a * ev (tails f 1) a + ev f a
    have := hs 0
    have e : ev f a = ev (tails f 0) a := rfl
    rw [e, this]; grind
  | succ i =>
    rw [X_mul_c_succ, C_c_succ]
    show f.c (i + 1) = ev (tails f (i + 1)) a - a * ev (tails f (i + 1 + 1)) a + 0
    rw [hs (i + 1)]; grind
theorem factor {f : PS K} {n : Nat} (h : f.dlt (n + 1)) {a : K} (ha : ev f a = 0) : ∃ g : PS K, f = (X - C a) * g ∧ g.dlt n := by
  refine ⟨quot f a, ?_, quot_dlt h a⟩
  have := quot_mul ⟨_, h⟩ a
  rw [ha, C_zero] at this
  grind
theorem ev_lin (a b : K) : ev (X - C a) b = b - a := by
  rw [ev_sub isPoly_X (isPoly_C a), ev_X, ev_C]
theorem isPoly_lin (a : K) : (X - C a : PS K).IsPoly := isPoly_X.sub (isPoly_C a)
/-- A polynomial with at least as many roots as coefficients is 0. -/
theorem roots_zero [Fld K] : ∀ (l : List K) (f : PS K) (n : Nat), f.dlt n → l.Nodup → (∀ a ∈ l, ev f a = 0) → n ≤ l.length → f = 0 := by
  intro l
  induction l with
  | nil => intro f n hf _ _ hn; simp at hn; subst hn; exact eq_zero_of_dlt hf
  | cons a l ih =>
    intro f n hf hd hr hn
    cases n with
    | zero => exact eq_zero_of_dlt hf
    | succ n =>
      obtain ⟨g, rfl, hg⟩ := factor hf (hr a (by simp))
      have hd' := List.nodup_cons.1 hd
      have : g = 0 := ih g n hg hd'.2 (fun b hb => by
        have h1 := hr b (by simp [hb])
        rw [ev_mul (isPoly_lin a) ⟨_, hg⟩, ev_lin] at h1
        have hne : b - a ≠ 0 := fun h => by
          have : b = a := by grind
          exact hd'.1 (this ▸ hb)
        exact mul_eq_zero' h1 hne) (by simp at hn; omega)
      rw [this]; grind
/-- Two polynomials that agree at enough places are equal. -/
theorem eq_of_values [Fld K] (l : List K) {f g : PS K} {n : Nat} (hf : f.dlt n) (hg : g.dlt n) (hd : l.Nodup) (hv : ∀ a ∈ l, ev f a = ev g a) (hn : n ≤ l.length) : f = g := by
  have : f - g = 0 := roots_zero l (f - g) n (dlt_sub hf hg) hd (fun a ha => by
    rw [ev_sub ⟨_, hf⟩ ⟨_, hg⟩, hv a ha]; grind) hn
  grind
/-- No product of two polynomials that are not 0 is 0; by degrees. -/
theorem exists_top {f : PS K} (hp : f.IsPoly) (h : f ≠ 0) : ∃ n, f.dlt (n + 1) ∧ f.c n ≠ 0 := by
  obtain ⟨n, hn⟩ := hp
  induction n with
  | zero => exact absurd (eq_zero_of_dlt hn) h
  | succ n ih =>
    by_cases e : f.c n = 0
    · exact ih (fun i hi => by
        by_cases hi' : i = n
        · rw [hi', e]
        · exact hn i (by omega))
    · exact ⟨n, hn, e⟩
theorem mul_ne_zero_poly [Fld K] {f g : PS K} (hf : f.IsPoly) (hg : g.IsPoly) (h1 : f ≠ 0) (h2 : g ≠ 0) : f * g ≠ 0 := by
  obtain ⟨n, hn, hn0⟩ := exists_top hf h1
  obtain ⟨m, hm, hm0⟩ := exists_top hg h2
  intro h
  have := mul_top hm n f hn
  rw [h, zero_c] at this
  exact mul_ne hn0 hm0 this.symm
/-- Quotient and remainder are unique. -/
theorem div_unique [Fld K] {q q' d r r' : PS K} {m : Nat} (hd : d.dlt (m + 1)) (hm : d.c m ≠ 0) (hq : q.IsPoly) (hq' : q'.IsPoly) (hr : r.dlt m) (hr' : r'.dlt m) (h : q * d + r = q' * d + r') : q = q' ∧ r = r' := by
  have e : (q - q') * d = r' - r := by grind
  have hz : q - q' = 0 := by
    apply Classical.byContradiction
    intro hne
    obtain ⟨n, hn, hn0⟩ := exists_top (hq.sub hq') hne
    have h1 := mul_top hd n _ hn
    rw [e, dlt_sub hr' hr (n + m) (by omega)] at h1
    exact mul_ne hn0 hm h1.symm
  have h1 : q = q' := by grind
  refine ⟨h1, ?_⟩
  subst h1
  grind
end
end PS
end Go.Proofs.YtmbphpmabopifaaDoor
/-
  Lists of numbers as polynomials over one of the program's fields. Plain mathematics.
-/
namespace Go.Proofs.YtmbphpmabopifaaDoor

/-- A valid field. -/
structure VF where
  F : FF
  ok : F.ok
/-- Its elements. -/
structure El (V : VF) where
  val : Int
  el : V.F.el val
theorem El.ext' {V : VF} {a b : El V} (h : a.val = b.val) : a = b := by cases a; cases b; cases h; rfl
namespace VF
variable (V : VF)
def core : RingCore (El V) where
  zero := ⟨0, FF.zero_el V.ok⟩
  one := ⟨1, FF.one_el V.ok⟩
  add a b := ⟨V.F.add a.val b.val, FF.add_el V.ok a.el b.el⟩
  mul a b := ⟨V.F.mul a.val b.val, FF.mul_el V.ok _ _⟩
  neg a := ⟨V.F.neg a.val, FF.neg_el a.el⟩
  add_zero a := El.ext' (FF.add_zero' a.el)
  add_comm _ _ := El.ext' (FF.add_comm' _ _)
  add_assoc _ _ _ := El.ext' (FF.add_assoc' _ _ _)
  neg_add a := El.ext' (FF.neg_add' a.el)
  mul_comm _ _ := El.ext' (FF.mul_comm' _ _)
  mul_assoc a b c := El.ext' (FF.mul_assoc' V.ok a.el b.el c.el)
  mul_one a := El.ext' (FF.mul_one' V.ok a.el)
  left_distrib a b c := El.ext' (FF.mul_add' V.ok a.el b.el c.el)
instance : CR (El V) := (core V).toCR
theorem zero_val : (0 : El V).val = 0 := rfl
theorem one_val : (1 : El V).val = 1 := by
  have : (1 : El V) = (0 : El V) + (core V).one := rfl
  rw [this]
  have e : (0 : El V) + (core V).one = (core V).one := by grind
  rw [e]; rfl
theorem add_val (a b : El V) : (a + b).val = V.F.add a.val b.val := rfl
theorem mul_val (a b : El V) : (a * b).val = V.F.mul a.val b.val := rfl
theorem neg_val (a : El V) : (-a).val = V.F.neg a.val := rfl
instance : Fld (El V) where
  one_ne h := by
    have : (1 : El V).val = (0 : El V).val := by rw [h]
    rw [one_val, zero_val] at this; omega
  inv a ha := by
    refine ⟨⟨V.F.inv a.val, FF.inv_el V.ok _⟩, El.ext' ?_⟩
    have h0 : a.val ≠ 0 := fun h => ha (El.ext' (by rw [h, zero_val]))
    rw [mul_val, one_val]
    exact FF.mul_inv' V.ok a.el h0
open Classical in
/-- A number as an element. -/
noncomputable def of (a : Int) : El V := if h : V.F.el a then ⟨a, h⟩ else 0
variable {V}
theorem of_val {a : Int} (h : V.F.el a) : (of V a).val = a := by unfold of; rw [dif_pos h]
theorem val_of (a : El V) : of V a.val = a := El.ext' (of_val a.el)
theorem of_inj {a b : Int} (ha : V.F.el a) (hb : V.F.el b) (h : of V a = of V b) : a = b := by
  rw [← of_val ha, ← of_val hb, h]
theorem of_zero : of V 0 = 0 := El.ext' (by rw [of_val (FF.zero_el V.ok)]; rfl)
theorem of_one : of V 1 = 1 := El.ext' (by rw [of_val (FF.one_el V.ok), one_val])
theorem of_add {a b : Int} (ha : V.F.el a) (hb : V.F.el b) : of V (V.F.add a b) = of V a + of V b :=
  El.ext' (by rw [of_val (FF.add_el V.ok ha hb), add_val, of_val ha, of_val hb])
theorem of_mul {a b : Int} (ha : V.F.el a) (hb : V.F.el b) : of V (V.F.mul a b) = of V a * of V b :=
  El.ext' (by rw [of_val (FF.mul_el V.ok a b), mul_val, of_val ha, of_val hb])
theorem of_neg {a : Int} (ha : V.F.el a) : of V (V.F.neg a) = - of V a :=
  El.ext' (by rw [of_val (FF.neg_el ha), neg_val, of_val ha])
theorem of_eq_zero {a : Int} (ha : V.F.el a) : of V a = 0 ↔ a = 0 :=
  ⟨fun h => of_inj ha (FF.zero_el V.ok) (h.trans of_zero.symm), fun h => by rw [h, of_zero]⟩
theorem of_inv {a : Int} (ha : V.F.el a) (h0 : a ≠ 0) : of V a * of V (V.F.inv a) = 1 := by
  rw [← of_mul ha (FF.inv_el V.ok a), FF.mul_inv' V.ok ha h0, of_one]
theorem of_pow {a : Int} (ha : V.F.el a) (n : Nat) : of V (V.F.pow a n) = of V a ^ n := by
  induction n with
  | zero => show of V 1 = _; rw [of_one]; grind
  | succ n ih => show of V (V.F.mul _ _) = _; rw [of_mul (FF.pow_el V.ok a n) ha, ih]; grind
/-- Powers of X. -/
abbrev xp (V : VF) (n : Nat) : PS (El V) := (PS.X : PS (El V)) ^ n
/-- All numbers of a list are elements. -/
def els (V : VF) (l : List Int) : Prop := ∀ z ∈ l, V.F.el z
/-- A list as a polynomial. -/
noncomputable def ps (V : VF) (l : List Int) : PS (El V) := ⟨fun n => of V (l.getD n 0)⟩
theorem els.getD {l : List Int} (h : els V l) (n : Nat) : V.F.el (l.getD n 0) := by
  rw [List.getD_eq_getElem?_getD]
  by_cases hn : n < l.length
  · rw [List.getElem?_eq_getElem hn]; exact h _ (List.getElem_mem hn)
  · rw [List.getElem?_eq_none (by omega)]; exact FF.zero_el V.ok
theorem els_nil : els V [] := fun _ h => by cases h
theorem els_cons {a : Int} {l : List Int} : els V (a :: l) ↔ V.F.el a ∧ els V l := by simp [els]
theorem els_append {l m : List Int} : els V (l ++ m) ↔ els V l ∧ els V m := by
  simp only [els, List.mem_append]
  exact ⟨fun h => ⟨fun z hz => h z (.inl hz), fun z hz => h z (.inr hz)⟩, fun h z hz => hz.elim (h.1 z) (h.2 z)⟩
theorem els.take {l : List Int} (h : els V l) (n : Nat) : els V (l.take n) := fun z hz => h z (List.mem_of_mem_take hz)
theorem els.drop {l : List Int} (h : els V l) (n : Nat) : els V (l.drop n) := fun z hz => h z (List.mem_of_mem_drop hz)
theorem els.reverse {l : List Int} (h : els V l) : els V l.reverse := fun z hz => h z (List.mem_reverse.1 hz)
theorem els.set {l : List Int} (h : els V l) (n : Nat) {a : Int} (ha : V.F.el a) : els V (l.set n a) := fun z hz => by
  rcases List.mem_or_eq_of_mem_set hz with h1 | h1
  · exact h z h1
  · rw [h1]; exact ha
theorem els_replicate (n : Nat) : els V (List.replicate n 0) := fun z hz => by
  rw [List.eq_of_mem_replicate hz]; exact FF.zero_el V.ok
theorem ps_c (l : List Int) (n : Nat) : (ps V l).c n = of V (l.getD n 0) := rfl
theorem ps_nil : ps V [] = 0 := PS.ext' fun n => by rw [ps_c]; exact of_zero
theorem ps_cons (a : Int) (l : List Int) : ps V (a :: l) = PS.C (of V a) + PS.X * ps V l := PS.ext' fun n => by
  rw [PS.add_c]
  cases n with
  | zero => rw [PS.X_mul_c_zero, PS.C_c_zero]; show of V a = _; grind
  | succ n => rw [PS.X_mul_c_succ, PS.C_c_succ]; show of V (l.getD n 0) = 0 + of V (l.getD n 0); grind
theorem ps_dlt (l : List Int) : (ps V l).dlt l.length := fun i hi => by
  rw [ps_c, List.getD_eq_getElem?_getD, List.getElem?_eq_none hi]; exact of_zero
theorem ps_poly (l : List Int) : (ps V l).IsPoly := ⟨_, ps_dlt l⟩
theorem ps_append (l m : List Int) : ps V (l ++ m) = ps V l + (xp V l.length) * ps V m := by
  induction l with
  | nil => rw [List.nil_append, ps_nil]; simp only [List.length_nil]; grind
  | cons a l ih => rw [List.cons_append, ps_cons, ps_cons, ih, List.length_cons]; grind
theorem ps_single (a : Int) : ps V [a] = PS.C (of V a) := by rw [ps_cons, ps_nil]; grind
theorem ps_snoc (l : List Int) (a : Int) : ps V (l ++ [a]) = ps V l + (xp V l.length) * PS.C (of V a) := by rw [ps_append, ps_single]
theorem take_succ_getD (l : List Int) (k : Nat) (hk : k < l.length) : l.take (k + 1) = l.take k ++ [l.getD k 0] := by
  rw [List.take_succ_eq_append_getElem hk, List.getD_eq_getElem?_getD, List.getElem?_eq_getElem hk]; rfl
theorem drop_getD (l : List Int) (k : Nat) (hk : k < l.length) : l.drop k = l.getD k 0 :: l.drop (k + 1) := by
  rw [List.drop_eq_getElem_cons hk, List.getD_eq_getElem?_getD, List.getElem?_eq_getElem hk]; rfl
theorem ps_take_succ (l : List Int) (k : Nat) (hk : k < l.length) : ps V (l.take (k + 1)) = ps V (l.take k) + (xp V k) * PS.C (of V (l.getD k 0)) := by
  rw [take_succ_getD l k hk, ps_snoc, List.length_take, Nat.min_eq_left (by omega)]
theorem ps_drop (l : List Int) (k : Nat) (hk : k < l.length) : ps V (l.drop k) = PS.C (of V (l.getD k 0)) + PS.X * ps V (l.drop (k + 1)) := by
  rw [drop_getD l k hk, ps_cons]
theorem X_pow_mul_c {K : Type} [CR K] (n : Nat) : ∀ (f : PS K) (i : Nat), ((PS.X : PS K) ^ n * f).c i = if n ≤ i then f.c (i - n) else 0 := by
  induction n with
  | zero => intro f i; have : (PS.X : PS K) ^ 0 * f = f := by grind
            rw [this]; simp
  | succ n ih =>
    intro f i
    have : (PS.X : PS K) ^ (n + 1) * f = PS.X * ((PS.X : PS K) ^ n * f) := by grind
    rw [this]
    cases i with
    | zero => rw [PS.X_mul_c_zero, if_neg (by omega)]
    | succ i => rw [PS.X_mul_c_succ, ih]; simp
theorem ps_set (l : List Int) (j : Nat) (hj : j < l.length) (v : Int) : ps V (l.set j v) = ps V l + (xp V j) * PS.C (of V v - of V (l.getD j 0)) := PS.ext' fun n => by
  rw [PS.add_c, X_pow_mul_c, ps_c, ps_c]
  by_cases h : j ≤ n
  · rw [if_pos h]
    by_cases e : n = j
    · subst e
      rw [Nat.sub_self, PS.C_c_zero, List.getD_eq_getElem?_getD, List.getElem?_set_self hj]
      show of V v = _; grind
    · obtain ⟨i, hi⟩ : ∃ i, n - j = i + 1 := ⟨n - j - 1, by omega⟩
      rw [hi, PS.C_c_succ, List.getD_eq_getElem?_getD, List.getElem?_set_ne (by omega), ← List.getD_eq_getElem?_getD]; grind
  · rw [if_neg h, List.getD_eq_getElem?_getD, List.getElem?_set_ne (by omega), ← List.getD_eq_getElem?_getD]; grind
theorem ps_set_add {l : List Int} (hl : els V l) (j : Nat) (hj : j < l.length) {v : Int} (hv : V.F.el v) : ps V (l.set j (V.F.add (l.getD j 0) v)) = ps V l + (xp V j) * PS.C (of V v) := by
  rw [ps_set l j hj, of_add (hl.getD j) hv]
  congr 3; grind
theorem ps_replicate (n : Nat) : ps V (List.replicate n 0) = 0 := PS.ext' fun i => by
  rw [ps_c, List.getD_eq_getElem?_getD, List.getElem?_replicate]
  by_cases h : i < n
  · rw [if_pos h]; exact of_zero
  · rw [if_neg h]; exact of_zero
theorem ps_inj {l m : List Int} (hl : els V l) (hm : els V m) (hn : l.length = m.length) (h : ps V l = ps V m) : l = m := by
  apply List.ext_getElem hn
  intro i h1 h2
  have : (ps V l).c i = (ps V m).c i := by rw [h]
  rw [ps_c, ps_c] at this
  have e := of_inj (hl.getD i) (hm.getD i) this
  rw [List.getD_eq_getElem?_getD, List.getD_eq_getElem?_getD, List.getElem?_eq_getElem h1, List.getElem?_eq_getElem h2] at e
  exact e
/-- No zero at the end. -/
def tight (l : List Int) : Prop := 0 < l.length → l.getD (l.length - 1) 0 ≠ 0
/-- A polynomial of the program's: elements, no zero at the end. -/
structure isP (V : VF) (l : List Int) : Prop where
  els : els V l
  tight : tight l
theorem isP_nil : isP V [] := ⟨els_nil, fun h => by simp at h⟩
theorem isP.top {l : List Int} (h : isP V l) (hn : 0 < l.length) : (ps V l).c (l.length - 1) ≠ 0 := fun e =>
  h.tight hn ((of_eq_zero (h.els.getD _)).1 e)
theorem isP.len_le {l : List Int} (h : isP V l) {n : Nat} (hd : (ps V l).dlt n) : l.length ≤ n := by
  apply Nat.le_of_not_lt
  intro hn
  exact h.top (by omega) (hd _ (by omega))
theorem isP.len_eq {l : List Int} (h : isP V l) {n : Nat} (hd : (ps V l).dlt (n + 1)) (hn : (ps V l).c n ≠ 0) : l.length = n + 1 := by
  have := h.len_le hd
  apply Nat.le_antisymm this
  apply Nat.le_of_not_lt
  intro hlt
  exact hn (ps_dlt l n (by omega))
theorem isP_inj {l m : List Int} (hl : isP V l) (hm : isP V m) (h : ps V l = ps V m) : l = m := by
  refine ps_inj hl.els hm.els ?_ h
  have h1 := hl.len_le (n := m.length) (by rw [h]; exact ps_dlt m)
  have h2 := hm.len_le (n := l.length) (by rw [← h]; exact ps_dlt l)
  omega
theorem isP.eq_nil {l : List Int} (h : isP V l) (h0 : ps V l = 0) : l = [] := isP_inj h isP_nil (h0.trans ps_nil.symm)
theorem isP.ne_zero {l : List Int} (h : isP V l) (h0 : l ≠ []) : ps V l ≠ 0 := fun e => h0 (h.eq_nil e)
/-- Where a list ends without its last zeros, looked at from n on downward. -/
def tlen (l : List Int) : Nat → Nat
  | 0 => 0
  | n + 1 => if l.getD n 0 = 0 then tlen l n else n + 1
def trim (l : List Int) : List Int := l.take (tlen l l.length)
theorem tlen_le (l : List Int) (n : Nat) : tlen l n ≤ n := by
  induction n with
  | zero => exact Nat.le_refl _
  | succ n ih => unfold tlen; split <;> omega
theorem tlen_zero (l : List Int) (n i : Nat) (h : tlen l n ≤ i) (hi : i < n) : l.getD i 0 = 0 := by
  induction n with
  | zero => omega
  | succ n ih =>
    unfold tlen at h
    split at h
    · rename_i h0
      by_cases e : i = n
      · rw [e, h0]
      · exact ih h (by omega)
    · omega
theorem tlen_top (l : List Int) (n : Nat) (h : 0 < tlen l n) : l.getD (tlen l n - 1) 0 ≠ 0 := by
  induction n with
  | zero => simp [tlen] at h
  | succ n ih =>
    unfold tlen at h ⊢
    split
    · rename_i h0; rw [if_pos h0] at h; exact ih h
    · rename_i h0; simpa using h0
theorem trim_length (l : List Int) : (trim l).length = tlen l l.length := by
  unfold trim; rw [List.length_take, Nat.min_eq_left (tlen_le _ _)]
theorem getD_take (l : List Int) (n i : Nat) : (l.take n).getD i 0 = if i < n then l.getD i 0 else 0 := by
  rw [List.getD_eq_getElem?_getD, List.getElem?_take]
  split
  · rw [List.getD_eq_getElem?_getD]
  · rfl
theorem trim_getD (l : List Int) (i : Nat) : (trim l).getD i 0 = l.getD i 0 := by
  unfold trim; rw [getD_take]
  split
  · rfl
  · rename_i h
    by_cases hi : i < l.length
    · exact (tlen_zero l _ i (by omega) hi).symm
    · rw [List.getD_eq_getElem?_getD, List.getElem?_eq_none (by omega)]; rfl
theorem ps_trim (l : List Int) : ps V (trim l) = ps V l := PS.ext' fun n => by rw [ps_c, ps_c, trim_getD]
theorem isP_trim {l : List Int} (h : els V l) : isP V (trim l) := by
  refine ⟨h.take _, fun h0 => ?_⟩
  rw [trim_getD, trim_length]
  rw [trim_length] at h0
  exact tlen_top l _ h0
/-- The value of a list at an element, as the program reckons it. -/
noncomputable def evl (V : VF) (l : List Int) (x : Int) : El V := PS.ev (ps V l) (of V x)
theorem evl_nil (x : Int) : evl V [] x = 0 := by unfold evl; rw [ps_nil, PS.ev_zero]
theorem evl_cons (a : Int) (l : List Int) (x : Int) : evl V (a :: l) x = of V a + of V x * evl V l x := by
  unfold evl
  rw [ps_cons, PS.ev_add (PS.isPoly_C _) (PS.isPoly_X.mul (ps_poly l)), PS.ev_C, PS.ev_X_mul (ps_poly l)]
/-- Horner's sum, from the end: the value of the list from k on. -/
theorem horner {l : List Int} (hl : els V l) {x n : Int} (hx : V.F.el x) (hn : V.F.el n) (k : Nat) (hk : k < l.length) (h : of V n = evl V (l.drop (k + 1)) x) :
    V.F.el (V.F.add (V.F.mul n x) (l.getD k 0)) ∧ of V (V.F.add (V.F.mul n x) (l.getD k 0)) = evl V (l.drop k) x := by
  refine ⟨FF.add_el V.ok (FF.mul_el V.ok _ _) (hl.getD k), ?_⟩
  rw [of_add (FF.mul_el V.ok _ _) (hl.getD k), of_mul hn hx, h, drop_getD l k hk, evl_cons]; grind
end VF
end Go.Proofs.YtmbphpmabopifaaDoor
/-
  The one list of a polynomial. Plain mathematics.
-/
namespace Go.Proofs.YtmbphpmabopifaaDoor
namespace VF
variable {V : VF}

open Classical in
/-- The list of a polynomial, with no zero at its end. -/
noncomputable def lst (V : VF) (f : PS (El V)) : List Int := if h : ∃ l, isP V l ∧ ps V l = f then Classical.choose h else []
theorem lst_of {l : List Int} (h : isP V l) {f : PS (El V)} (e : ps V l = f) : lst V f = l := by
  have hx : ∃ l, isP V l ∧ ps V l = f := ⟨l, h, e⟩
  unfold lst
  rw [dif_pos hx]
  have h2 := Classical.choose_spec hx
  exact isP_inj h2.1 h (h2.2.trans e.symm)
theorem lst_ps {l : List Int} (h : isP V l) : lst V (ps V l) = l := lst_of h rfl
def cut (V : VF) (f : PS (El V)) (n : Nat) : List Int := (List.range n).map fun i => (f.c i).val
theorem cut_getD (f : PS (El V)) (n i : Nat) : (cut V f n).getD i 0 = if i < n then (f.c i).val else 0 := by
  unfold cut
  rw [List.getD_eq_getElem?_getD]
  split
  · rename_i h; simp [h]
  · rename_i h; simp [h]
theorem cut_els (f : PS (El V)) (n : Nat) : els V (cut V f n) := fun z hz => by
  unfold cut at hz
  obtain ⟨i, _, rfl⟩ := List.mem_map.1 hz
  exact (f.c i).el
theorem cut_ps {f : PS (El V)} {n : Nat} (h : f.dlt n) : ps V (cut V f n) = f := PS.ext' fun i => by
  rw [ps_c, cut_getD]
  split
  · exact val_of _
  · rw [h i (by omega)]; exact of_zero
theorem lst_ok {f : PS (El V)} (h : f.IsPoly) : isP V (lst V f) ∧ ps V (lst V f) = f := by
  obtain ⟨n, hn⟩ := h
  have h1 : isP V (trim (cut V f n)) := isP_trim (cut_els _ _)
  have h2 : ps V (trim (cut V f n)) = f := by rw [ps_trim, cut_ps hn]
  rw [lst_of h1 h2]
  exact ⟨h1, h2⟩
theorem lst_isP {f : PS (El V)} (h : f.IsPoly) : isP V (lst V f) := (lst_ok h).1
theorem lst_eq {f : PS (El V)} (h : f.IsPoly) : ps V (lst V f) = f := (lst_ok h).2
theorem lst_len {f : PS (El V)} {n : Nat} (h : f.dlt n) : (lst V f).length ≤ n := (lst_isP ⟨n, h⟩).len_le (by rw [lst_eq ⟨n, h⟩]; exact h)
theorem lst_nil {f : PS (El V)} (h : f.IsPoly) : lst V f = [] ↔ f = 0 := by
  constructor
  · intro e; have := lst_eq h; rw [e, ps_nil] at this; exact this.symm
  · intro e; subst e; exact lst_of isP_nil ps_nil
theorem trim_lst {l : List Int} (h : els V l) : trim l = lst V (ps V l) := (lst_of (isP_trim h) (ps_trim l)).symm
theorem mulL {p q : List Int} : (ps V p * ps V q).IsPoly := (ps_poly p).mul (ps_poly q)
theorem lst_mul_len (p q : List Int) : (lst V (ps V p * ps V q)).length ≤ p.length + q.length := lst_len (PS.dlt_mul' (ps_dlt p) (ps_dlt q))
/-- A scaled list. -/
def scl (F : FF) (by' : Int) (l : List Int) : List Int := l.map fun x => F.mul x by'
theorem scl_getD {F : FF} (a : Int) (l : List Int) (i : Nat) : (scl F a l).getD i 0 = F.mul (l.getD i 0) a := by
  unfold scl
  rw [List.getD_eq_getElem?_getD, List.getElem?_map, List.getD_eq_getElem?_getD]
  cases l[i]? with
  | none => simp [FF.zero_mul']
  | some x => rfl
theorem scl_els (a : Int) (l : List Int) : els V (scl V.F a l) := fun z hz => by
  unfold scl at hz
  obtain ⟨x, _, rfl⟩ := List.mem_map.1 hz
  exact FF.mul_el V.ok _ _
theorem scl_ps {a : Int} (ha : V.F.el a) {l : List Int} (hl : els V l) : ps V (scl V.F a l) = PS.C (of V a) * ps V l := PS.ext' fun i => by
  rw [ps_c, scl_getD, of_mul (hl.getD i) ha, PS.C_mul_c, ps_c]; grind
theorem scl_isP {a : Int} (h0 : a ≠ 0) {l : List Int} (hl : isP V l) : isP V (scl V.F a l) := ⟨scl_els a l, fun h => by
  have hlen : (scl V.F a l).length = l.length := by unfold scl; simp
  rw [scl_getD, hlen]
  rw [hlen] at h
  exact FF.mul_ne_zero V.ok (hl.tight h) h0⟩
theorem isP_shift {l : List Int} (h : isP V l) (hn : l ≠ []) (k : Nat) : isP V (List.replicate k 0 ++ l) := by
  have hl : 0 < l.length := List.length_pos_iff.2 hn
  refine ⟨els_append.2 ⟨els_replicate _, h.els⟩, fun _ => ?_⟩
  have := h.tight hl
  rw [List.getD_eq_getElem?_getD] at this ⊢
  rw [List.length_append, List.length_replicate, List.getElem?_append_right (by rw [List.length_replicate]; omega), List.length_replicate, show k + l.length - 1 - k = l.length - 1 by omega]
  exact this
theorem ps_shift (l : List Int) (k : Nat) : ps V (List.replicate k 0 ++ l) = xp V k * ps V l := by
  rw [ps_append, ps_replicate, List.length_replicate]; grind
/-- p = q * d + r. -/
structure DivOf (V : VF) (p d q r : List Int) : Prop where
  hq : isP V q
  hr : isP V r
  eq : ps V p = ps V q * ps V d + ps V r
  len : r.length < d.length
theorem DivOf.uniq {p d q r q' r' : List Int} (hd : isP V d) (h : DivOf V p d q r) (h' : DivOf V p d q' r') : q = q' ∧ r = r' := by
  have hl := h.len
  obtain ⟨m, hm⟩ : ∃ m, d.length = m + 1 := ⟨d.length - 1, by omega⟩
  have h1 : (ps V d).dlt (m + 1) := by rw [← hm]; exact ps_dlt d
  have h2 : (ps V d).c m ≠ 0 := by have := hd.top (by omega); rw [hm] at this; exact this
  have hr : (ps V r).dlt m := (ps_dlt r).mono (by omega)
  have hr' : (ps V r').dlt m := (ps_dlt r').mono (by have := h'.len; omega)
  have := PS.div_unique h1 h2 (ps_poly q) (ps_poly q') hr hr' (h.eq.symm.trans h'.eq)
  exact ⟨isP_inj h.hq h'.hq this.1, isP_inj h.hr h'.hr this.2⟩
open Classical in
noncomputable def dqr (V : VF) (p d : List Int) : List Int × List Int := if h : ∃ x : List Int × List Int, DivOf V p d x.1 x.2 then Classical.choose h else ([], [])
theorem dqr_of {p d q r : List Int} (hd : isP V d) (h : DivOf V p d q r) : dqr V p d = (q, r) := by
  have hx : ∃ x : List Int × List Int, DivOf V p d x.1 x.2 := ⟨(q, r), h⟩
  unfold dqr
  rw [dif_pos hx]
  have h2 := (Classical.choose_spec hx).uniq hd h
  exact Prod.ext h2.1 h2.2
theorem DivOf.small {p d : List Int} (hp : isP V p) (h : p.length < d.length) : DivOf V p d [] p := ⟨isP_nil, hp, by rw [ps_nil]; grind, h⟩
end VF
end Go.Proofs.YtmbphpmabopifaaDoor
/-
  Locators, syndromes, the formula of Forney, the key equation, and the algorithm of Euclid. Over any field. Plain mathematics.
-/
namespace Go.Proofs.YtmbphpmabopifaaDoor
namespace PS
section
variable {K : Type} [CR K]
/-- 1 - a X. -/
def lf (a : K) : PS K := 1 - C a * X
/-- The polynomial with factors 1 - a X. -/
def lam : List K → PS K
  | [] => 1
  | a :: l => lf a * lam l
def geom (a : K) : PS K := ⟨fun j => a ^ j⟩
/-- The series of the syndromes of errors (locator, value). -/
def gs : List (K × K) → PS K
  | [] => 0
  | p :: E => C (p.2 * p.1) * geom p.1 + gs E
/-- The evaluator. -/
def om : List (K × K) → PS K
  | [] => 0
  | p :: E => C (p.2 * p.1) * lam (E.map (·.1)) + lf p.1 * om E
theorem lf_geom (a : K) : lf a * geom a = 1 := by
  unfold lf
  have e : (1 - C a * X) * geom a = geom a - C a * (X * geom a) := by grind
  rw [e]
  apply ext'; intro n
  rw [sub_c, C_mul_c, one_c]
  cases n with
  | zero => rw [X_mul_c_zero]; show a ^ 0 - a * 0 = _; simp; grind
  | succ n => rw [X_mul_c_succ]; show a ^ (n + 1) - a * a ^ n = _; simp; grind
theorem lam_gs (E : List (K × K)) : lam (E.map (·.1)) * gs E = om E := by
  induction E with
  | nil => show (1 : PS K) * 0 = 0; grind
  | cons p E ih =>
    show lf p.1 * lam (E.map (·.1)) * (C (p.2 * p.1) * geom p.1 + gs E) = C (p.2 * p.1) * lam (E.map (·.1)) + lf p.1 * om E
    have := lf_geom p.1
    grind
theorem lam_append (l m : List K) : lam (l ++ m) = lam l * lam m := by
  induction l with
  | nil => show lam m = 1 * lam m; grind
  | cons a l ih => show lf a * lam (l ++ m) = lf a * lam l * lam m; rw [ih]; grind
theorem gs_append (E D : List (K × K)) : gs (E ++ D) = gs E + gs D := by
  induction E with
  | nil => show gs D = 0 + gs D; grind
  | cons p E ih => show _ + gs (E ++ D) = _ + gs E + gs D; rw [ih]; grind
theorem om_append (E D : List (K × K)) : om (E ++ D) = om E * lam (D.map (·.1)) + lam (E.map (·.1)) * om D := by
  rw [← lam_gs, ← lam_gs, ← lam_gs, List.map_append, lam_append, gs_append]; grind
theorem dlt_lf (a : K) : (lf a).dlt 2 := dlt_sub (dlt_one.mono (by omega)) (by
  have := dlt_mul' (dlt_C a) (dlt_X (K := K))
  intro i hi
  rw [C_mul_c]
  show a * (if i = 1 then (1 : K) else 0) = 0
  rw [if_neg (by omega)]; grind)
theorem isPoly_lf (a : K) : (lf a).IsPoly := ⟨2, dlt_lf a⟩
theorem dlt_lam (l : List K) : (lam l).dlt (l.length + 1) := by
  induction l with
  | nil => exact dlt_one
  | cons a l ih =>
    have := dlt_mul (m := l.length) ih 1 (lf a) (dlt_lf a)
    show (lf a * lam l).dlt _
    exact this.mono (by simp only [List.length_cons]; omega)
theorem isPoly_lam (l : List K) : (lam l).IsPoly := ⟨_, dlt_lam l⟩
theorem dlt_om (E : List (K × K)) : (om E).dlt E.length := by
  induction E with
  | nil => exact dlt_zero _
  | cons p E ih =>
    refine dlt_add ?_ ?_
    · refine dlt_C_mul _ ?_
      have := dlt_lam (E.map (·.1))
      rw [List.length_map] at this
      exact this
    · cases hE : E.length with
      | zero =>
        rw [hE] at ih
        rw [eq_zero_of_dlt ih]
        have : lf p.1 * (0 : PS K) = 0 := by grind
        rw [this]; exact dlt_zero _
      | succ m =>
        rw [hE] at ih
        have := dlt_mul ih 1 (lf p.1) (dlt_lf _)
        exact this.mono (by simp only [List.length_cons, hE]; omega)
theorem isPoly_om (E : List (K × K)) : (om E).IsPoly := ⟨_, dlt_om E⟩
theorem lf_c_zero (a : K) : (lf a).c 0 = 1 := by
  unfold lf
  rw [sub_c, C_mul_c, one_c]
  show 1 - a * (if 0 = 1 then (1 : K) else 0) = 1
  simp; grind
theorem mul_c_zero (f g : PS K) : (f * g).c 0 = f.c 0 * g.c 0 := rfl
theorem lam_c_zero (l : List K) : (lam l).c 0 = 1 := by
  induction l with
  | nil => exact (one_c 0).trans (if_pos rfl)
  | cons a l ih => show (lf a * lam l).c 0 = 1; rw [mul_c_zero, lf_c_zero, ih]; grind
theorem ev_lf (a b : K) : ev (lf a) b = 1 - a * b := by
  unfold lf
  rw [ev_sub isPoly_one ((isPoly_C a).mul isPoly_X), ev_one, ev_mul (isPoly_C a) isPoly_X, ev_C, ev_X]
theorem ev_lam_cons (a : K) (l : List K) (b : K) : ev (lam (a :: l)) b = (1 - a * b) * ev (lam l) b := by
  show ev (lf a * lam l) b = _
  rw [ev_mul (isPoly_lf a) (isPoly_lam l), ev_lf]
/-- At an inverse locator the locator polynomial is 0 exactly if the locator is one of its own. -/
theorem ev_lam_zero [Fld K] (l : List K) {a b : K} (hab : a * b = 1) : ev (lam l) b = 0 ↔ a ∈ l := by
  induction l with
  | nil =>
    show ev (1 : PS K) b = 0 ↔ _
    rw [ev_one]; simp; exact Fld.one_ne
  | cons a' l ih =>
    rw [ev_lam_cons]
    constructor
    · intro h
      by_cases e : 1 - a' * b = 0
      · have : a' = a := by
          have : a' = a' * (a * b) := by rw [hab]; grind
          grind
        simp [this]
      · exact List.mem_cons_of_mem _ (ih.1 (mul_eq_zero' h e))
    · intro h
      rcases List.mem_cons.1 h with e | h
      · subst e
        rw [hab]; grind
      · rw [ih.2 h]; grind
/-- The evaluator at the inverse of a locator. -/
theorem ev_om_at (E1 E2 : List (K × K)) (a e b : K) (hab : a * b = 1) : ev (om (E1 ++ (a, e) :: E2)) b = e * a * (ev (lam (E1.map (·.1))) b * ev (lam (E2.map (·.1))) b) := by
  rw [om_append]
  rw [ev_add ((isPoly_om _).mul (isPoly_lam _)) ((isPoly_lam _).mul (isPoly_om _)), ev_mul (isPoly_om _) (isPoly_lam _), ev_mul (isPoly_lam _) (isPoly_om _)]
  have e1 : ev (lam (((a, e) :: E2).map (·.1))) b = 0 := by
    show ev (lam (a :: E2.map (·.1))) b = 0
    rw [ev_lam_cons, hab]; grind
  have e2 : ev (om ((a, e) :: E2)) b = e * a * ev (lam (E2.map (·.1))) b := by
    show ev (C (e * a) * lam (E2.map (·.1)) + lf a * om E2) b = _
    rw [ev_add ((isPoly_C _).mul (isPoly_lam _)) ((isPoly_lf _).mul (isPoly_om _)), ev_mul (isPoly_C _) (isPoly_lam _), ev_mul (isPoly_lf _) (isPoly_om _), ev_C, ev_lf, hab]; grind
  rw [e1, e2]; grind
/-- The coefficients of the series of errors are their syndromes. -/
theorem gs_c (E : List (K × K)) (j : Nat) : (gs E).c j = (E.map fun p => p.2 * p.1 ^ (j + 1)).foldr (· + ·) 0 := by
  induction E with
  | nil => rfl
  | cons p E ih =>
    show (C (p.2 * p.1) * geom p.1 + gs E).c j = p.2 * p.1 ^ (j + 1) + _
    rw [add_c, C_mul_c, ih]
    show p.2 * p.1 * p.1 ^ j + _ = _
    grind
/-! ### The derivative -/
/-- A natural number in the ring. -/
def nk : Nat → K
  | 0 => 0
  | n + 1 => nk n + 1
def D (f : PS K) : PS K := ⟨fun n => nk (n + 1) * f.c (n + 1)⟩
theorem nk_one : (nk 1 : K) = 1 := by show (0 : K) + 1 = 1; grind
theorem D_add (f g : PS K) : D (f + g) = D f + D g := ext' fun n => by
  rw [add_c]
  show nk (n + 1) * (f + g).c (n + 1) = nk (n + 1) * f.c (n + 1) + nk (n + 1) * g.c (n + 1)
  rw [add_c]; grind
theorem D_C_mul (a : K) (f : PS K) : D (C a * f) = C a * D f := ext' fun n => by
  rw [C_mul_c]
  show nk (n + 1) * (C a * f).c (n + 1) = a * (nk (n + 1) * f.c (n + 1))
  rw [C_mul_c]; grind
theorem D_X_mul (f : PS K) : D (X * f) = f + X * D f := ext' fun n => by
  rw [add_c]
  show nk (n + 1) * (X * f).c (n + 1) = f.c n + _
  rw [X_mul_c_succ]
  cases n with
  | zero => rw [X_mul_c_zero]; show nk 1 * _ = _; rw [nk_one]; grind
  | succ n =>
    rw [X_mul_c_succ]
    show nk (n + 1 + 1) * f.c (n + 1) = f.c (n + 1) + nk (n + 1) * f.c (n + 1)
    have : (nk (n + 1 + 1) : K) = nk (n + 1) + 1 := rfl
    rw [this]; grind
theorem dlt_D {f : PS K} {n : Nat} (h : f.dlt (n + 1)) : (D f).dlt n := fun i hi => by
  show nk (i + 1) * f.c (i + 1) = 0
  rw [h (i + 1) (by omega)]; grind
theorem D_mul' (g : PS K) : ∀ (n : Nat) (f : PS K), f.dlt n → D (f * g) = D f * g + f * D g := by
  intro n
  induction n with
  | zero =>
    intro f hf
    rw [eq_zero_of_dlt hf]
    have e : (0 : PS K) * g = 0 := by grind
    have e2 : D (0 : PS K) = 0 := ext' fun i => by show _ * (0 : K) = 0; grind
    rw [e, e2]; grind
  | succ n ih =>
    intro f hf
    have h1 := ih f.tail (dlt_tail hf)
    have h2 := tail_mul f g
    have h3 : D f = D (C (f.c 0) + X * f.tail) := by rw [← split0 f]
    have h4 : D (C (f.c 0)) = 0 := ext' fun i => by show nk (i + 1) * 0 = 0; grind
    rw [h2, D_add, D_C_mul, D_X_mul, h1, h3, D_add, h4, D_X_mul]
    have h5 := split0 f
    have h6 : f * D g = C (f.c 0) * D g + X * f.tail * D g := by
      have : f * D g = (C (f.c 0) + X * f.tail) * D g := by rw [← h5]
      rw [this]; grind
    rw [h6]; grind
theorem D_mul {f : PS K} (hf : f.IsPoly) (g : PS K) : D (f * g) = D f * g + f * D g := by
  obtain ⟨n, hn⟩ := hf; exact D_mul' g n f hn
theorem isPoly_D {f : PS K} (h : f.IsPoly) : (D f).IsPoly := by
  obtain ⟨n, hn⟩ := h; exact ⟨n, dlt_D (hn.mono (Nat.le_succ n))⟩
theorem D_lf (a : K) : D (lf a) = C (-a) := by
  apply ext'; intro n
  show nk (n + 1) * (1 - C a * X : PS K).c (n + 1) = _
  rw [sub_c, C_mul_c, one_c]
  show nk (n + 1) * ((if n + 1 = 0 then 1 else 0) - a * (if n + 1 = 1 then (1 : K) else 0)) = _
  cases n with
  | zero => show nk 1 * _ = _; rw [nk_one]; simp; show _ = -a; grind
  | succ n => simp; show _ = (0 : K); grind
theorem ev_D_lam_at (l1 l2 : List K) (a b : K) (hab : a * b = 1) : ev (D (lam (l1 ++ a :: l2))) b = - a * (ev (lam l1) b * ev (lam l2) b) := by
  have e : lam (l1 ++ a :: l2) = lf a * (lam l1 * lam l2) := by
    rw [lam_append]; show lam l1 * (lf a * lam l2) = _; grind
  have hp := (isPoly_lam l1).mul (isPoly_lam l2)
  rw [e, D_mul (isPoly_lf a), ev_add ((isPoly_D (isPoly_lf a)).mul hp) ((isPoly_lf a).mul (isPoly_D hp)), D_lf, ev_mul (isPoly_C _) hp, ev_C, ev_mul (isPoly_lf a) (isPoly_D hp), ev_lf, hab, ev_mul (isPoly_lam l1) (isPoly_lam l2)]
  grind
/-- FORNEY: the value of an error out of the evaluator and the derivative of the locator. -/
theorem forney [Fld K] (E1 E2 : List (K × K)) (a e b : K) (hab : a * b = 1) (hd : ((E1 ++ (a, e) :: E2).map (·.1)).Nodup) :
    ev (D (lam ((E1 ++ (a, e) :: E2).map (·.1)))) b ≠ 0 ∧ ev (om (E1 ++ (a, e) :: E2)) b = - e * ev (D (lam ((E1 ++ (a, e) :: E2).map (·.1)))) b := by
  rw [List.map_append, List.map_cons] at hd ⊢
  rw [ev_om_at E1 E2 a e b hab, ev_D_lam_at _ _ a b hab]
  obtain ⟨hd1, hd2, hd3⟩ := List.nodup_append.1 hd
  have hd4 := List.nodup_cons.1 hd2
  have ha : a ≠ 0 := fun h => by
    rw [h] at hab; have : (0 : K) * b = 0 := by grind
    rw [this] at hab; exact Fld.one_ne hab.symm
  have h1 : ev (lam (E1.map (·.1))) b ≠ 0 := fun h => hd3 a ((ev_lam_zero _ hab).1 h) a (by simp) rfl
  have h2 : ev (lam (E2.map (·.1))) b ≠ 0 := fun h => hd4.1 ((ev_lam_zero _ hab).1 h)
  exact ⟨mul_ne (fun h => ha (by grind)) (mul_ne h1 h2), by grind⟩
/-- The series with some places shifted in ends at once if its product has few places. -/
theorem Xpow_c (n : Nat) : ∀ (f : PS K) (i : Nat), ((X : PS K) ^ n * f).c i = if n ≤ i then f.c (i - n) else 0 := by
  induction n with
  | zero => intro f i; have : (X : PS K) ^ 0 * f = f := by grind
            rw [this]; simp
  | succ n ih =>
    intro f i
    have : (X : PS K) ^ (n + 1) * f = X * ((X : PS K) ^ n * f) := by grind
    rw [this]
    cases i with
    | zero => rw [X_mul_c_zero, if_neg (by omega)]
    | succ i => rw [X_mul_c_succ, ih]; simp
theorem Xpow_dlt_zero {d : Nat} {h : PS K} (hd : ((X : PS K) ^ d * h).dlt d) : h = 0 := ext' fun n => by
  have := hd (d + n) (by omega)
  rw [Xpow_c, if_pos (by omega)] at this
  rw [zero_c, ← this]; congr 1; omega
/-- Few errors: all syndromes 0 only if all values are 0. -/
theorem values_zero [Fld K] (E : List (K × K)) (hd : (E.map (·.1)).Nodup) (hn0 : ∀ p ∈ E, p.1 ≠ 0) (hs : ∀ j, j < E.length → (gs E).c j = 0) : ∀ p ∈ E, p.2 = 0 := by
  intro p hp
  have hz : ∃ h : PS K, gs E = (X : PS K) ^ E.length * h := by
    refine ⟨⟨fun i => (gs E).c (E.length + i)⟩, ext' fun n => ?_⟩
    rw [Xpow_c]
    split
    · show _ = (gs E).c (E.length + (n - E.length)); congr 1; omega
    · exact hs n (by omega)
  obtain ⟨h, hh⟩ := hz
  have h1 : om E = (X : PS K) ^ E.length * (lam (E.map (·.1)) * h) := by rw [← lam_gs, hh]; grind
  have h2 := dlt_om E
  rw [h1] at h2
  have h3 := Xpow_dlt_zero h2
  have h4 : om E = 0 := by rw [h1, h3]; grind
  obtain ⟨E1, E2, rfl⟩ := List.append_of_mem hp
  obtain ⟨b, hb⟩ := Fld.inv p.1 (hn0 p hp)
  have hf := forney E1 E2 p.1 p.2 b hb hd
  rw [h4, ev_zero] at hf
  apply Classical.byContradiction
  intro hne
  have := hf.2
  exact mul_ne (fun hh : -p.2 = 0 => hne (by grind)) hf.1 this.symm
/-- Roots at inverse locators: the locator polynomial divides. -/
theorem lam_dvd [Fld K] : ∀ (l : List K) (v : PS K) (n : Nat), v.dlt n → l.Nodup → (∀ a ∈ l, ∃ b, a * b = 1 ∧ ev v b = 0) → ∃ c : PS K, v = lam l * c ∧ c.dlt (n - l.length) := by
  intro l
  induction l with
  | nil => intro v n hv _ _; exact ⟨v, by show v = 1 * v; grind, hv⟩
  | cons a l ih =>
    intro v n hv hd hr
    have hd' := List.nodup_cons.1 hd
    obtain ⟨c, hc, hcd⟩ := ih v n hv hd'.2 (fun x hx => hr x (by simp [hx]))
    obtain ⟨b, hab, hvb⟩ := hr a (by simp)
    rw [hc, ev_mul (isPoly_lam l) ⟨_, hcd⟩] at hvb
    have hcb : ev c b = 0 := mul_eq_zero' hvb (fun h => hd'.1 ((ev_lam_zero l hab).1 h))
    by_cases hz : n - l.length = 0
    · rw [hz] at hcd
      have := eq_zero_of_dlt hcd
      refine ⟨0, ?_, dlt_zero _⟩
      rw [hc, this]; grind
    · obtain ⟨g, hg, hgd⟩ := factor (n := n - l.length - 1) (hcd.mono (by omega)) hcb
      refine ⟨C (-b) * g, ?_, (dlt_C_mul _ hgd).mono (by simp only [List.length_cons]; omega)⟩
      show v = lf a * lam l * (C (-b) * g)
      rw [hc, hg]
      have e : C a * C b = (1 : PS K) := by rw [← C_mul, hab, C_one]
      have e2 : C (-b) = - C b := C_neg b
      unfold lf
      rw [e2]; grind
/-- If a product of polynomials is 1, both are constants. -/
theorem unit_const [Fld K] {c g : PS K} (hc : c.IsPoly) (hg : g.IsPoly) (h : c * g = 1) : c = C (c.c 0) ∧ c.c 0 ≠ 0 := by
  have hc0 : c ≠ 0 := fun e => by
    rw [e] at h
    have h1 : (1 : PS K) = 0 := by grind
    have : (1 : PS K).c 0 = (0 : PS K).c 0 := by rw [h1]
    rw [one_c, if_pos rfl, zero_c] at this
    exact Fld.one_ne (K := K) this
  have hg0 : g ≠ 0 := fun e => by
    rw [e] at h
    have h1 : (1 : PS K) = 0 := by grind
    have : (1 : PS K).c 0 = (0 : PS K).c 0 := by rw [h1]
    rw [one_c, if_pos rfl, zero_c] at this
    exact Fld.one_ne (K := K) this
  obtain ⟨n, hn, hn0⟩ := exists_top hc hc0
  obtain ⟨m, hm, hm0⟩ := exists_top hg hg0
  have ht := mul_top hm n c hn
  rw [h, one_c] at ht
  have hnm : n + m = 0 := by
    apply Classical.byContradiction
    intro hne
    rw [if_neg hne] at ht
    exact mul_ne hn0 hm0 ht.symm
  obtain rfl : n = 0 := by omega
  refine ⟨ext' fun i => ?_, hn0⟩
  cases i with
  | zero => rfl
  | succ i => exact hn (i + 1) (by omega)
/-- THE KEY EQUATION: what the algorithm of Euclid stops at is the locator polynomial, up to a factor. 'S' is the series of the syndromes (times the erasures' locator), a polynomial; 'w', 'u' the unknown cofactors of X^d. -/
theorem euclid_key [Fld K] (d s B : Nat) {S O w v r u ua va : PS K} (l : List K) (hl : l.Nodup) (hinv : ∀ a ∈ l, ∃ b, a * b = 1 ∧ ev O b ≠ 0)
    (hS : lam l * S = O + (X : PS K) ^ d * w) (hw : w.IsPoly) (hO : O.IsPoly)
    (hr : r = u * (X : PS K) ^ d + v * S) (hdet : ua * v - u * va = 1 ∨ ua * v - u * va = -1) (hua : ua.IsPoly) (hva : va.IsPoly)
    (hv : v.dlt (s + 1)) (hlen : l.length ≤ s) (hrB : r.dlt B) (hOd : O.dlt (d - s)) (hBs : B + s ≤ d) :
    ∃ c : K, c ≠ 0 ∧ v = C c * lam l := by
  have hvp : v.IsPoly := ⟨_, hv⟩
  have e1 : v * O - lam l * r = (X : PS K) ^ d * (-(v * w) - lam l * u) := by grind
  have d1 : (v * O - lam l * r).dlt d := by
    refine dlt_sub ?_ ?_
    · cases hk : d - s with
      | zero =>
        rw [hk] at hOd
        rw [eq_zero_of_dlt hOd]
        have : v * (0 : PS K) = 0 := by grind
        rw [this]; exact dlt_zero _
      | succ m => rw [hk] at hOd; exact (dlt_mul hOd s v hv).mono (by omega)
    · cases hB : B with
      | zero =>
        rw [hB] at hrB
        rw [eq_zero_of_dlt hrB]
        have : lam l * (0 : PS K) = 0 := by grind
        rw [this]; exact dlt_zero _
      | succ m => rw [hB] at hrB; exact (dlt_mul hrB l.length (lam l) (dlt_lam l)).mono (by omega)
  rw [e1] at d1
  have e2 := Xpow_dlt_zero d1
  have e3 : v * O = lam l * r := by
    have : v * O - lam l * r = 0 := by rw [e1, e2]; grind
    grind
  obtain ⟨c, hc, hcd⟩ := lam_dvd l v (s + 1) hv hl (fun a ha => by
    obtain ⟨b, hab, hb⟩ := hinv a ha
    refine ⟨b, hab, ?_⟩
    have h1 : ev (v * O) b = ev (lam l * r) b := by rw [e3]
    rw [ev_mul hvp hO, ev_mul (isPoly_lam l) ⟨_, hrB⟩, (ev_lam_zero l hab).2 ha] at h1
    have h2 : ev O b * ev v b = 0 := by grind
    exact mul_eq_zero' h2 hb)
  have hcp : c.IsPoly := ⟨_, hcd⟩
  have e4 : lam l * u = - (v * w) := by grind
  -- lam l = v * g
  have hg : ∃ g : PS K, g.IsPoly ∧ lam l = v * g := by
    rcases hdet with hdet | hdet
    · refine ⟨ua * lam l + w * va, (hua.mul (isPoly_lam l)).add (hw.mul hva), ?_⟩
      have : lam l = lam l * (ua * v - u * va) := by rw [hdet]; grind
      grind
    · refine ⟨-(ua * lam l + w * va), ((hua.mul (isPoly_lam l)).add (hw.mul hva)).neg, ?_⟩
      have : lam l = - (lam l * (ua * v - u * va)) := by rw [hdet]; grind
      grind
  obtain ⟨g, hgp, hg⟩ := hg
  have hlam0 : lam l ≠ 0 := fun e => by
    have : (lam l).c 0 = (0 : PS K).c 0 := by rw [e]
    rw [lam_c_zero, zero_c] at this
    exact Fld.one_ne this
  have h1 : c * g = 1 := by
    apply Classical.byContradiction
    intro hne
    have hne' : c * g - 1 ≠ 0 := fun e => hne (by grind)
    have := mul_ne_zero_poly (isPoly_lam l) ((hcp.mul hgp).sub isPoly_one) hlam0 hne'
    apply this
    have : lam l * (c * g - 1) = v * g - lam l := by rw [hc]; grind
    rw [this, ← hg]; grind
  obtain ⟨h2, h3⟩ := unit_const hcp hgp h1
  refine ⟨c.c 0, h3, ?_⟩
  rw [hc, h2, C_c_zero]; grind
end
end PS
end Go.Proofs.YtmbphpmabopifaaDoor
/-
  The algorithm of Berlekamp and Massey: the shortest recurrence. Over any field. Plain mathematics.
-/
namespace Go.Proofs.YtmbphpmabopifaaDoor
namespace PS
section
variable {K : Type} [CR K]
/-- c with length L generates the first n elements of S. -/
structure Gen (S c : PS K) (L n : Nat) : Prop where
  one : c.c 0 = 1
  deg : c.dlt (L + 1)
  zero : ∀ k, L ≤ k → k < n → (c * S).c k = 0
theorem Gen.mono {S c : PS K} {L n m : Nat} (h : Gen S c L n) (hm : m ≤ n) : Gen S c L m := ⟨h.one, h.deg, fun k h1 h2 => h.zero k h1 (by omega)⟩
/-- Low part and rest of a series. -/
theorem cut_at (f : PS K) (n : Nat) : ∃ lo hi : PS K, f = lo + (X : PS K) ^ n * hi ∧ lo.dlt n ∧ (∀ i, i < n → lo.c i = f.c i) ∧ ∀ i, hi.c i = f.c (n + i) := by
  refine ⟨⟨fun i => if i < n then f.c i else 0⟩, ⟨fun i => f.c (n + i)⟩, ext' fun i => ?_, fun i hi => if_neg (by omega), fun i hi => if_pos hi, fun _ => rfl⟩
  rw [add_c, Xpow_c]
  by_cases h : i < n
  · rw [if_neg (by omega)]; show f.c i = (if i < n then f.c i else 0) + 0; rw [if_pos h]; grind
  · rw [if_pos (by omega)]; show f.c i = (if i < n then f.c i else 0) + f.c (n + (i - n)); rw [if_neg h]
    have : n + (i - n) = i := by omega
    rw [this]; grind
/-- MASSEY: a recurrence that fails at n forces a length of at least n + 1 - L. -/
theorem massey [Fld K] {S c c' : PS K} {L L' n : Nat} (h : Gen S c L n) (hd : (c * S).c n ≠ 0) (h' : Gen S c' L' (n + 1)) : n + 1 ≤ L + L' := by
  apply Classical.byContradiction
  intro hlt
  obtain ⟨a, r, ha, had, hai, hr⟩ := cut_at (c * S) n
  obtain ⟨a', r', ha', had', hai', hr'⟩ := cut_at (c' * S) (n + 1)
  have hadL : a.dlt L := fun i hi => by
    by_cases hin : i < n
    · rw [hai i hin]; exact h.zero i hi hin
    · exact had i (by omega)
  have hadL' : a'.dlt L' := fun i hi => by
    by_cases hin : i < n + 1
    · rw [hai' i hin]; exact h'.zero i hi hin
    · exact had' i (by omega)
  have e : c' * a + (X : PS K) ^ n * (c' * r) = c * a' + (X : PS K) ^ (n + 1) * (c * r') := by
    have e1 : c' * (c * S) = c * (c' * S) := by grind
    rw [ha, ha'] at e1
    grind
  have e2 : (c' * a + (X : PS K) ^ n * (c' * r)).c n = (c * a' + (X : PS K) ^ (n + 1) * (c * r')).c n := by rw [e]
  rw [add_c, add_c, Xpow_c, Xpow_c, if_pos (Nat.le_refl n), if_neg (by omega), Nat.sub_self, mul_c_zero, h'.one, hr 0] at e2
  have z1 : (c' * a).c n = 0 := by
    cases hL : L with
    | zero =>
      rw [hL] at hadL; rw [eq_zero_of_dlt hadL]
      have : c' * (0 : PS K) = 0 := by grind
      rw [this]; rfl
    | succ m => rw [hL] at hadL; exact dlt_mul hadL L' c' h'.deg n (by omega)
  have z2 : (c * a').c n = 0 := by
    cases hL : L' with
    | zero =>
      rw [hL] at hadL'; rw [eq_zero_of_dlt hadL']
      have : c * (0 : PS K) = 0 := by grind
      rw [this]; rfl
    | succ m => rw [hL] at hadL'; exact dlt_mul hadL' L c h.deg n (by omega)
  rw [z1, z2] at e2
  apply hd
  have : n + 0 = n := rfl
  rw [this] at e2
  grind
/-- The state of the algorithm. -/
structure St (K : Type) where
  now : PS K
  before : PS K
  L : Nat
  shift : Nat
  last : K
/-- What holds of the state behind k elements. -/
structure Inv (S : PS K) (k : Nat) (s : St K) : Prop where
  gen : Gen S s.now s.L k
  least : ∀ c' L', Gen S c' L' k → s.L ≤ L'
  le : s.L ≤ k
  last0 : s.last ≠ 0
  bone : s.before.c 0 = 1
  /-- either nothing but zeros so far, or the earlier polynomial fails just here -/
  old : (s.L = 0 ∧ s.now = 1 ∧ s.before = 1 ∧ s.shift = k + 1 ∧ s.last = 1) ∨
    (0 < s.L ∧ 0 < s.shift ∧ ((X : PS K) ^ s.shift * s.before).dlt (k + 2 - s.L) ∧ (∀ i, k + 1 - s.L ≤ i → i < k → ((X : PS K) ^ s.shift * s.before * S).c i = 0) ∧ ((X : PS K) ^ s.shift * s.before * S).c k = s.last)
def start : St K := ⟨1, 1, 0, 1, 1⟩
theorem inv_start [Fld K] (S : PS K) : Inv S 0 start :=
  ⟨⟨(one_c 0).trans (if_pos rfl), dlt_one, fun k _ h => by omega⟩, fun _ _ _ => Nat.zero_le _, Nat.le_refl _, Fld.one_ne, (one_c 0).trans (if_pos rfl), .inl ⟨rfl, rfl, rfl, rfl, rfl⟩⟩
/-- A step: 'd' is the miss, 'q' the quotient of the misses. -/
def step (k : Nat) (s : St K) (d q : K) (zero : Bool) : St K :=
  if zero then { s with shift := s.shift + 1 }
  else
    let next := s.now + C (-q) * ((X : PS K) ^ s.shift * s.before)
    if 2 * s.L ≤ k then ⟨next, s.now, k + 1 - s.L, 1, d⟩ else { s with now := next, shift := s.shift + 1 }
theorem C_mul_mul_c (a : K) (f g : PS K) (i : Nat) : (C a * f * g).c i = a * (f * g).c i := by
  have : C a * f * g = C a * (f * g) := by grind
  rw [this, C_mul_c]
theorem inv_step_zero {S : PS K} {k : Nat} {s : St K} (h : Inv S k s) (hd : (s.now * S).c k = 0) : Inv S (k + 1) { s with shift := s.shift + 1 } := by
  refine ⟨⟨h.gen.one, h.gen.deg, fun i h1 h2 => ?_⟩, fun c' L' h' => h.least c' L' (h'.mono (by omega)), by have := h.le; show s.L ≤ k + 1; omega, h.last0, h.bone, ?_⟩
  · by_cases e : i = k
    · rw [e]; exact hd
    · exact h.gen.zero i h1 (by omega)
  · rcases h.old with ⟨a, b, c, d, e⟩ | ⟨a, b, c, d, e⟩
    · exact .inl ⟨a, b, c, by show s.shift + 1 = _; omega, e⟩
    · have hle := h.le
      have e1 : (X : PS K) ^ (s.shift + 1) * s.before = X * ((X : PS K) ^ s.shift * s.before) := by grind
      have e2 : (X : PS K) ^ (s.shift + 1) * s.before * S = X * ((X : PS K) ^ s.shift * s.before * S) := by grind
      refine .inr ⟨a, Nat.succ_pos _, ?_, ?_, ?_⟩
      · show ((X : PS K) ^ (s.shift + 1) * s.before).dlt (k + 1 + 2 - s.L)
        rw [e1]; exact (dlt_X_mul c).mono (by omega)
      · intro i h1 h2
        show ((X : PS K) ^ (s.shift + 1) * s.before * S).c i = 0
        rw [e2]
        cases i with
        | zero => exact X_mul_c_zero _
        | succ i => rw [X_mul_c_succ]; exact d i (by show k + 1 - s.L ≤ i; have : k + 1 + 1 - s.L ≤ i + 1 := h1; omega) (by omega)
      · show ((X : PS K) ^ (s.shift + 1) * s.before * S).c (k + 1) = s.last
        rw [e2, X_mul_c_succ]; exact e
theorem low_zero {S : PS K} {k : Nat} (h : ∀ i, i < k → ((1 : PS K) * S).c i = 0) (f : PS K) : ∀ i, i < k → (f * S).c i = 0 := by
  intro i hi
  obtain ⟨lo, hi', e, hlo, hloi, _⟩ := cut_at S k
  have z : lo = 0 := ext' fun j => by
    by_cases hj : j < k
    · rw [hloi j hj]
      have := h j hj
      have e1 : (1 : PS K) * S = S := by grind
      rw [e1] at this; exact this
    · exact hlo j (by omega)
  have e2 : f * S = (X : PS K) ^ k * (f * hi') := by rw [e, z]; grind
  rw [e2, Xpow_c, if_neg (by omega)]
theorem inv_step [Fld K] {S : PS K} {k : Nat} {s : St K} (h : Inv S k s) {q : K} (hd : (s.now * S).c k ≠ 0) (hq : q * s.last = (s.now * S).c k) :
    Inv S (k + 1) (step k s ((s.now * S).c k) q false) ∧ (step k s ((s.now * S).c k) q false).L = max s.L (k + 1 - s.L) := by
  have hle := h.le
  have hleast : ∀ c' L', Gen S c' L' (k + 1) → max s.L (k + 1 - s.L) ≤ L' := fun c' L' h' => by
    have h1 := h.least c' L' (h'.mono (by omega))
    have h2 := massey h.gen hd h'
    omega
  -- what the next polynomial does
  have hnext : Gen S (s.now + C (-q) * ((X : PS K) ^ s.shift * s.before)) (max s.L (k + 1 - s.L)) (k + 1) := by
    rcases h.old with ⟨a, b, c, d, e⟩ | ⟨a, b, c, d, e⟩
    · refine ⟨?_, ?_, ?_⟩
      · rw [add_c, h.gen.one, C_mul_c, Xpow_c, if_neg (by omega)]; grind
      · refine dlt_add (h.gen.deg.mono (by omega)) (dlt_C_mul _ ?_)
        intro i hi
        rw [Xpow_c, c, one_c]
        split
        · rw [if_neg (by omega)]
        · rfl
      · intro i h1 h2; omega
    · refine ⟨?_, ?_, ?_⟩
      · rw [add_c, h.gen.one, C_mul_c, Xpow_c, if_neg (by omega)]; grind
      · exact dlt_add (h.gen.deg.mono (by omega)) (dlt_C_mul _ (c.mono (by omega)))
      · intro i h1 h2
        have e1 : (s.now + C (-q) * ((X : PS K) ^ s.shift * s.before)) * S = s.now * S + C (-q) * ((X : PS K) ^ s.shift * s.before) * S := by grind
        rw [e1, add_c, C_mul_mul_c]
        by_cases hi : i = k
        · rw [hi, e]; grind
        · rw [h.gen.zero i (by omega) (by omega), d i (by omega) (by omega)]; grind
  unfold step
  rw [if_neg (by simp)]
  by_cases hL : 2 * s.L ≤ k
  · rw [if_pos hL]
    have hmx : max s.L (k + 1 - s.L) = k + 1 - s.L := by omega
    rw [hmx] at hnext hleast ⊢
    refine ⟨⟨hnext, hleast, by show k + 1 - s.L ≤ k + 1; omega, hd, h.gen.one, .inr ⟨by show 0 < k + 1 - s.L; omega, Nat.one_pos, ?_, ?_, ?_⟩⟩, rfl⟩
    · show ((X : PS K) ^ 1 * s.now).dlt (k + 1 + 2 - (k + 1 - s.L))
      have e1 : (X : PS K) ^ 1 * s.now = X * s.now := by grind
      rw [e1]; exact (dlt_X_mul h.gen.deg).mono (by omega)
    · intro i h1 h2
      show ((X : PS K) ^ 1 * s.now * S).c i = 0
      have h1' : k + 1 + 1 - (k + 1 - s.L) ≤ i := h1
      have e1 : (X : PS K) ^ 1 * s.now * S = X * (s.now * S) := by grind
      rw [e1]
      cases i with
      | zero => exact X_mul_c_zero _
      | succ i => rw [X_mul_c_succ]; exact h.gen.zero i (by omega) (by omega)
    · show ((X : PS K) ^ 1 * s.now * S).c (k + 1) = (s.now * S).c k
      have e1 : (X : PS K) ^ 1 * s.now * S = X * (s.now * S) := by grind
      rw [e1, X_mul_c_succ]
  · rw [if_neg hL]
    have hmx : max s.L (k + 1 - s.L) = s.L := by omega
    rw [hmx] at hnext hleast ⊢
    refine ⟨⟨hnext, hleast, by show s.L ≤ k + 1; omega, h.last0, h.bone, .inr ?_⟩, rfl⟩
    rcases h.old with ⟨a, b, c, d, e⟩ | ⟨a, b, c, d, e⟩
    · omega
    · have e1 : (X : PS K) ^ (s.shift + 1) * s.before = X * ((X : PS K) ^ s.shift * s.before) := by grind
      have e2 : (X : PS K) ^ (s.shift + 1) * s.before * S = X * ((X : PS K) ^ s.shift * s.before * S) := by grind
      refine ⟨a, Nat.succ_pos _, ?_, ?_, ?_⟩
      · show ((X : PS K) ^ (s.shift + 1) * s.before).dlt (k + 1 + 2 - s.L)
        rw [e1]; exact (dlt_X_mul c).mono (by omega)
      · intro i h1 h2
        show ((X : PS K) ^ (s.shift + 1) * s.before * S).c i = 0
        rw [e2]
        cases i with
        | zero => exact X_mul_c_zero _
        | succ i => rw [X_mul_c_succ]; exact d i (by have : k + 1 + 1 - s.L ≤ i + 1 := h1; omega) (by omega)
      · show ((X : PS K) ^ (s.shift + 1) * s.before * S).c (k + 1) = s.last
        rw [e2, X_mul_c_succ]; exact e
/-- A recurrence of the least length, of at most half the elements, is the locator polynomial. 'O' is what the locator polynomial leaves, at no inverse locator 0. -/
theorem rec_unique [Fld K] {S c O w : PS K} {L n : Nat} (l : List K) (hl : l.Nodup) (hinv : ∀ a ∈ l, ∃ b, a * b = 1 ∧ ev O b ≠ 0)
    (hS : lam l * S = O + (X : PS K) ^ n * w) (hO : O.dlt l.length) (hn : 2 * l.length ≤ n) (hc : Gen S c L n) (hL : L ≤ l.length) : c = lam l ∧ L = l.length := by
  obtain ⟨a, r, ha, had, hai, hr⟩ := cut_at (c * S) n
  have hadL : a.dlt L := fun i hi => by
    by_cases hin : i < n
    · rw [hai i hin]; exact hc.zero i hi hin
    · exact had i (by omega)
  have e1 : c * O - lam l * a = (X : PS K) ^ n * (lam l * r - c * w) := by
    have : c * (lam l * S) = lam l * (c * S) := by grind
    rw [hS, ha] at this
    grind
  have d1 : (c * O - lam l * a).dlt n := by
    refine dlt_sub ?_ ?_
    · cases hk : l.length with
      | zero =>
        rw [hk] at hO; rw [eq_zero_of_dlt hO]
        have : c * (0 : PS K) = 0 := by grind
        rw [this]; exact dlt_zero _
      | succ m => rw [hk] at hO; exact (dlt_mul hO L c hc.deg).mono (by omega)
    · cases hk : L with
      | zero =>
        rw [hk] at hadL; rw [eq_zero_of_dlt hadL]
        have : lam l * (0 : PS K) = 0 := by grind
        rw [this]; exact dlt_zero _
      | succ m => rw [hk] at hadL; exact (dlt_mul hadL l.length (lam l) (dlt_lam l)).mono (by omega)
  rw [e1] at d1
  have e2 := Xpow_dlt_zero d1
  have e3 : c * O = lam l * a := by
    have : c * O - lam l * a = 0 := by rw [e1, e2]; grind
    grind
  obtain ⟨g, hg, hgd⟩ := lam_dvd l c (L + 1) hc.deg hl (fun x hx => by
    obtain ⟨b, hab, hb⟩ := hinv x hx
    refine ⟨b, hab, ?_⟩
    have h1 : ev (c * O) b = ev (lam l * a) b := by rw [e3]
    rw [ev_mul ⟨_, hc.deg⟩ ⟨_, hO⟩, ev_mul (isPoly_lam l) ⟨_, hadL⟩, (ev_lam_zero l hab).2 hx] at h1
    have h2 : ev O b * ev c b = 0 := by grind
    exact mul_eq_zero' h2 hb)
  have h0 : g.c 0 = 1 := by
    have := hc.one
    rw [hg, mul_c_zero, lam_c_zero] at this
    grind
  have hLl : L = l.length := by
    apply Classical.byContradiction
    intro hne
    have : L + 1 - l.length = 0 := by omega
    rw [this] at hgd
    rw [eq_zero_of_dlt hgd] at h0
    rw [zero_c] at h0
    exact Fld.one_ne h0.symm
  refine ⟨?_, hLl⟩
  have hg1 : g = 1 := ext' fun i => by
    rw [one_c]
    cases i with
    | zero => rw [h0]; rfl
    | succ i => rw [if_neg (by omega)]; exact hgd (i + 1) (by omega)
  rw [hg, hg1]; grind
end
end PS
end Go.Proofs.YtmbphpmabopifaaDoor
/-
  The shortest recurrence, element by element, as both programs reckon it. Plain mathematics.
-/
namespace Go.Proofs.YtmbphpmabopifaaDoor
namespace PS
variable {K : Type} [CR K]
/-- The first i terms of the sum that ends at k. -/
def ms (f S : PS K) (k : Nat) : Nat → K
  | 0 => 0
  | i + 1 => ms f S k i + f.c i * S.c (k - i)
theorem ms_tail (f S : PS K) (k : Nat) : ∀ i, i ≤ k + 1 → ms f S (k + 1) (i + 1) = f.c 0 * S.c (k + 1) + ms f.tail S k i
  | 0, _ => by show (0 : K) + f.c 0 * S.c (k + 1 - 0) = f.c 0 * S.c (k + 1) + 0; rw [Nat.sub_zero]; grind
  | i + 1, h => by
    show ms f S (k + 1) (i + 1) + f.c (i + 1) * S.c (k + 1 - (i + 1)) = _ + (ms f.tail S k i + f.tail.c i * S.c (k - i))
    rw [ms_tail f S k i (by omega), show k + 1 - (i + 1) = k - i by omega]
    show _ + f.c (i + 1) * _ = _ + (_ + f.c (i + 1) * _)
    grind
theorem conv_ms (S : PS K) : ∀ (k : Nat) (f : PS K), conv f S k = ms f S k (k + 1)
  | 0, f => by show conv f S 0 = 0 + f.c 0 * S.c (0 - 0); show f.c 0 * S.c 0 = _; rw [Nat.sub_zero]; grind
  | k + 1, f => by
    rw [ms_tail f S k (k + 1) (Nat.le_refl _), ← conv_ms S k f.tail]
    rfl
theorem ms_zero {f S : PS K} {k m : Nat} (h : f.dlt m) : ∀ i j, m ≤ i → ms f S k (i + j) = ms f S k i
  | i, 0, _ => rfl
  | i, j + 1, hi => by
    show ms f S k (i + j) + f.c (i + j) * S.c (k - (i + j)) = _
    rw [ms_zero h i j hi, h (i + j) (by omega)]; grind
theorem ms_full {f S : PS K} {k m i : Nat} (h : f.dlt m) (hi : m ≤ i ∨ i = k + 1) (hk : i ≤ k + 1) : ms f S k i = (f * S).c k := by
  show _ = conv f S k
  rw [conv_ms]
  rcases hi with hi | rfl
  · have := ms_zero (S := S) (k := k) h i (k + 1 - i) hi
    rw [show i + (k + 1 - i) = k + 1 by omega] at this
    exact this.symm
  · rfl
end PS
open PS
variable {V : VF}
/-- The state behind k elements. -/
noncomputable def bm (V : VF) (S : PS (El V)) : Nat → St (El V)
  | 0 => start
  | k + 1 =>
    open Classical in
    if ((bm V S k).now * S).c k = 0 then { bm V S k with shift := (bm V S k).shift + 1 }
    else step k (bm V S k) (((bm V S k).now * S).c k) (((bm V S k).now * S).c k * VF.of V (V.F.inv (bm V S k).last.val)) false
theorem inv_of (a : El V) (h : a ≠ 0) : VF.of V (V.F.inv a.val) * a = 1 := by
  have h0 : a.val ≠ 0 := fun e => h (El.ext' e)
  have := VF.of_inv a.el h0
  rw [VF.val_of] at this
  grind
theorem bm_inv (S : PS (El V)) : ∀ k, Inv S k (bm V S k)
  | 0 => inv_start S
  | k + 1 => by
    have h := bm_inv S k
    unfold bm
    split
    · rename_i h0; exact inv_step_zero h h0
    · rename_i h0
      refine (inv_step h h0 ?_).1
      have := inv_of _ h.last0
      generalize VF.of V (V.F.inv (bm V S k).last.val) = x at *
      grind
theorem bm_zero (S : PS (El V)) {k : Nat} (h : ((bm V S k).now * S).c k = 0) : bm V S (k + 1) = { bm V S k with shift := (bm V S k).shift + 1 } := by
  conv => lhs; unfold bm
  rw [if_pos h]
/-- The next polynomial, where the sum is not zero. -/
noncomputable def bmNext (V : VF) (S : PS (El V)) (k : Nat) : PS (El V) :=
  (bm V S k).now + C (-(((bm V S k).now * S).c k * VF.of V (V.F.inv (bm V S k).last.val))) * ((X : PS (El V)) ^ (bm V S k).shift * (bm V S k).before)
theorem bm_long (S : PS (El V)) {k : Nat} (h : ¬ ((bm V S k).now * S).c k = 0) (hL : 2 * (bm V S k).L ≤ k) : bm V S (k + 1) = ⟨bmNext V S k, (bm V S k).now, k + 1 - (bm V S k).L, 1, ((bm V S k).now * S).c k⟩ := by
  conv => lhs; unfold bm
  rw [if_neg h]
  unfold step
  rw [if_neg (by simp), if_pos hL]; rfl
theorem bm_short (S : PS (El V)) {k : Nat} (h : ¬ ((bm V S k).now * S).c k = 0) (hL : ¬ 2 * (bm V S k).L ≤ k) : bm V S (k + 1) = { bm V S k with now := bmNext V S k, shift := (bm V S k).shift + 1 } := by
  conv => lhs; unfold bm
  rw [if_neg h]
  unfold step
  rw [if_neg (by simp), if_neg hL]; rfl
/-- What the programs keep of the state. -/
structure BmOk (V : VF) (S : PS (El V)) (k : Nat) : Prop where
  now : (bm V S k).now.IsPoly
  before : (bm V S k).before.IsPoly
  nlen : (VF.lst V (bm V S k).now).length ≤ (bm V S k).L + 1
  blen : (VF.lst V (bm V S k).before).length ≤ k + 1
  one : (bm V S k).now.c 0 = 1
  le : (bm V S k).L ≤ k
  shift : (bm V S k).shift ≤ k + 1
  last : (bm V S k).last.val ≠ 0
theorem bm_ok (S : PS (El V)) : ∀ k, BmOk V S k
  | 0 => ⟨isPoly_one, isPoly_one, by
      have := VF.lst_len (V := V) (dlt_one); exact this, by have := VF.lst_len (V := V) (dlt_one); exact this, (one_c 0).trans (if_pos rfl), Nat.le_refl _, Nat.le_refl _, fun e => (Fld.one_ne : (1 : El V) ≠ 0) (El.ext' e)⟩
  | k + 1 => by
    have ih := bm_ok S k
    have hi := bm_inv S (k + 1)
    have hn : (bm V S (k + 1)).now.IsPoly := ⟨_, hi.gen.deg⟩
    have hlast : (bm V S (k + 1)).last.val ≠ 0 := fun e => hi.last0 (El.ext' e)
    have hnl : (VF.lst V (bm V S (k + 1)).now).length ≤ (bm V S (k + 1)).L + 1 := VF.lst_len hi.gen.deg
    refine ⟨hn, ?_, hnl, ?_, hi.gen.one, hi.le, ?_, hlast⟩
    all_goals
      by_cases h0 : ((bm V S k).now * S).c k = 0
      · rw [bm_zero S h0]
        first | exact ih.before | (have := ih.blen; show (VF.lst V (bm V S k).before).length ≤ k + 1 + 1; omega) | (have := ih.shift; show (bm V S k).shift + 1 ≤ k + 1 + 1; omega)
      · by_cases hL : 2 * (bm V S k).L ≤ k
        · rw [bm_long S h0 hL]
          first | exact ih.now | (have := ih.nlen; have := ih.le; show (VF.lst V (bm V S k).now).length ≤ k + 1 + 1; omega) | (show 1 ≤ k + 1 + 1; omega)
        · rw [bm_short S h0 hL]
          first | exact ih.before | (have := ih.blen; show (VF.lst V (bm V S k).before).length ≤ k + 1 + 1; omega) | (have := ih.shift; show (bm V S k).shift + 1 ≤ k + 1 + 1; omega)
end Go.Proofs.YtmbphpmabopifaaDoor
/-
  Long division of lists of coefficients, step by step. Plain mathematics.
-/
namespace Go.Proofs.YtmbphpmabopifaaDoor

/-- What holds when the coefficients of the quotient from k on are known. -/
structure DivInv (V : VF) (p q : List Int) (k : Nat) (fO fR : PS (El V)) : Prop where
  eq : VF.ps V p = fO * VF.ps V q + fR
  low : fR.dlt (k + (q.length - 1))
  zero : ∀ i, i < k → fO.c i = 0
  poly : fO.IsPoly
theorem DivInv.start {V : VF} {p q : List Int} {k : Nat} (hk : k + (q.length - 1) = p.length) : DivInv V p q k 0 (VF.ps V p) :=
  ⟨by grind, by rw [hk]; exact VF.ps_dlt p, fun _ _ => rfl, PS.isPoly_zero⟩
theorem xpC_c {V : VF} (k i : Nat) (a : El V) : (VF.xp V k * PS.C a).c i = if i = k then a else 0 := by
  unfold VF.xp
  rw [VF.X_pow_mul_c]
  by_cases h : i = k
  · subst h; rw [if_pos (Nat.le_refl _), if_pos rfl, Nat.sub_self]; exact PS.C_c_zero a
  · rw [if_neg h]
    split
    · obtain ⟨j, hj⟩ : ∃ j, i - k = j + 1 := ⟨i - k - 1, by omega⟩
      rw [hj]; exact PS.C_c_succ a j
    · rfl
theorem xp_poly {V : VF} (k : Nat) : PS.IsPoly (VF.xp V k) := by
  unfold VF.xp
  induction k with
  | zero => have : (PS.X : PS (El V)) ^ 0 = 1 := by grind
            rw [this]; exact PS.isPoly_one
  | succ k ih => have : (PS.X : PS (El V)) ^ (k + 1) = (PS.X : PS (El V)) ^ k * (PS.X : PS (El V)) := by grind
                 rw [this]; exact ih.mul PS.isPoly_X
theorem DivInv.step {V : VF} {p q : List Int} {k : Nat} {fO fR : PS (El V)} (h : DivInv V p q (k + 1) fO fR) (hq : 0 < q.length) {y : El V} (hy : y * (VF.ps V q).c (q.length - 1) = fR.c (k + (q.length - 1))) :
    DivInv V p q k (fO + VF.xp V k * PS.C y) (fR - VF.xp V k * PS.C y * VF.ps V q) := by
  refine ⟨?_, fun i hi => ?_, fun i hi => ?_, h.poly.add ((xp_poly k).mul (PS.isPoly_C _))⟩
  · rw [h.eq]; grind
  · have e : VF.xp V k * PS.C y * VF.ps V q = VF.xp V k * (PS.C y * VF.ps V q) := by grind
    rw [PS.sub_c, e]
    unfold VF.xp
    rw [VF.X_pow_mul_c, if_pos (by omega), PS.C_mul_c]
    by_cases hi2 : i = k + (q.length - 1)
    · subst hi2
      rw [show k + (q.length - 1) - k = q.length - 1 by omega, hy]; grind
    · rw [h.low i (by omega), VF.ps_dlt q (i - k) (by omega)]; grind
  · rw [PS.add_c, h.zero i (by omega), xpC_c, if_neg (by omega)]; grind
theorem DivInv.done {V : VF} {p q : List Int} {fO fR : PS (El V)} (h : DivInv V p q 0 fO fR) (hq : 0 < q.length) : VF.DivOf V p q (VF.lst V fO) (VF.lst V fR) := by
  have hR : fR.IsPoly := ⟨_, h.low⟩
  refine ⟨VF.lst_isP h.poly, VF.lst_isP hR, ?_, ?_⟩
  · rw [VF.lst_eq h.poly, VF.lst_eq hR]; exact h.eq
  · have := VF.lst_len h.low; omega
theorem divT_inner {V : VF} (f : PS (El V)) (q : List Int) (k : Nat) (y : El V) : f = f - VF.xp V k * PS.C y * VF.ps V (q.take 0) := by
  rw [List.take_zero, VF.ps_nil]; grind
theorem divT_next {V : VF} (f : PS (El V)) (q : List Int) (k i : Nat) (hi : i < q.length) {x y z : Int} (hx : V.F.el x) (hy : V.F.el y) (hq : V.F.el (q.getD i 0)) (hz : z = V.F.add x (V.F.neg (V.F.mul y (q.getD i 0)))) :
    (f - VF.xp V k * PS.C (VF.of V y) * VF.ps V (q.take i)) + VF.xp V (k + i) * PS.C (VF.of V z - VF.of V x) = f - VF.xp V k * PS.C (VF.of V y) * VF.ps V (q.take (i + 1)) := by
  have hm := FF.mul_el V.ok y (q.getD i 0)
  rw [hz, VF.of_add hx (FF.neg_el hm), VF.of_neg hm, VF.of_mul hy hq, VF.ps_take_succ q i hi]
  have e : VF.of V x + -(VF.of V y * VF.of V (q.getD i 0)) - VF.of V x = -(VF.of V y * VF.of V (q.getD i 0)) := by grind
  have e2 : VF.xp V (k + i) = VF.xp V k * VF.xp V i := by unfold VF.xp; grind
  rw [e, PS.C_neg, PS.C_mul, e2]
  grind
theorem divT_end {V : VF} (f : PS (El V)) (q : List Int) (k : Nat) (y : El V) : f - VF.xp V k * PS.C y * VF.ps V (q.take q.length) = f - VF.xp V k * PS.C y * VF.ps V q := by rw [List.take_length]
theorem divT_skip {V : VF} (f g : PS (El V)) (k : Nat) : f - VF.xp V k * PS.C (VF.of V 0) * g = f := by rw [VF.of_zero, PS.C_zero]; grind
/-- The factor of one step. -/
theorem div_factor {V : VF} {q : List Int} (hq : VF.isP V q) (h0 : 0 < q.length) {r : Int} (hr : V.F.el r) :
    VF.of V (V.F.mul r (V.F.inv (q.getD (q.length - 1) 0))) * (VF.ps V q).c (q.length - 1) = VF.of V r := by
  have hl := hq.els.getD (q.length - 1)
  have := VF.of_inv hl (hq.tight h0)
  rw [VF.of_mul hr (FF.inv_el V.ok _), VF.ps_c]
  grind
end Go.Proofs.YtmbphpmabopifaaDoor
/-
  Continued sequences. Plain mathematics; no program in sight.
-/
namespace Go.Proofs.YtmbphpmabopifaaDoor
set_option linter.unusedVariables false

/-- The number k of a list (0 beyond its end). -/
def gz (l : List Int) (k : Nat) : Int := l.getD k 0
/-- The sum of the first i products of a polynomial and a list that ends at k. -/
def smTo (F : FF) (cs zs : List Int) (k : Nat) : Nat → Int
  | 0 => 0
  | i + 1 => F.add (smTo F cs zs k i) (F.mul (gz cs i) (gz zs (k - i)))
/-- The next element of a sequence. -/
def nxI (F : FF) (cs zs : List Int) : Int := F.neg (smTo F cs (zs ++ [0]) zs.length (min cs.length (zs.length + 1)))
/-- The sequence with m elements more. -/
def contTo (F : FF) (cs zs : List Int) : Nat → List Int
  | 0 => zs
  | m + 1 => contTo F cs zs m ++ [nxI F cs (contTo F cs zs m)]
theorem contTo_length (F : FF) (cs zs : List Int) (m : Nat) : (contTo F cs zs m).length = zs.length + m := by
  induction m with
  | zero => rfl
  | succ m ih => show (contTo F cs zs m ++ [_]).length = _; rw [List.length_append, ih]; rfl
theorem smTo_el {V : VF} (cs zs : List Int) (k i : Nat) : V.F.el (smTo V.F cs zs k i) := by
  cases i with
  | zero => exact FF.zero_el V.ok
  | succ i => exact FF.add_el V.ok (smTo_el cs zs k i) (FF.mul_el V.ok _ _)
theorem nxI_el {V : VF} (cs zs : List Int) : V.F.el (nxI V.F cs zs) := FF.neg_el (smTo_el _ _ _ _)
theorem contTo_els {V : VF} {cs zs : List Int} (hz : VF.els V zs) (m : Nat) : VF.els V (contTo V.F cs zs m) := by
  induction m with
  | zero => exact hz
  | succ m ih => exact VF.els_append.2 ⟨ih, fun z h => by simp at h; subst h; exact nxI_el _ _⟩
/-- What the program sums up: the differences from the second product on. -/
def subTo (F : FF) (cs zs : List Int) : Nat → Int
  | 0 => 0
  | i + 1 => F.add (subTo F cs zs i) (F.neg (F.mul (gz cs (i + 1)) (gz zs (zs.length - (i + 1)))))
theorem subTo_el {V : VF} (cs zs : List Int) (i : Nat) : V.F.el (subTo V.F cs zs i) := by
  cases i with
  | zero => exact FF.zero_el V.ok
  | succ i => exact FF.add_el V.ok (subTo_el cs zs i) (FF.neg_el (FF.mul_el V.ok _ _))
theorem gz_snoc (zs : List Int) (j : Nat) : gz (zs ++ [0]) j = gz zs j := by
  unfold gz
  rw [List.getD_eq_getElem?_getD, List.getD_eq_getElem?_getD]
  rcases Nat.lt_or_ge j zs.length with h | h
  · rw [List.getElem?_append_left h]
  · rw [List.getElem?_append_right h, List.getElem?_eq_none (l := zs) h]
    cases hj : j - zs.length with
    | zero => rfl
    | succ n => rfl
theorem subTo_eq {V : VF} {cs zs : List Int} (hc : VF.els V cs) (hz : VF.els V zs) (i : Nat) (hi : i ≤ zs.length) : subTo V.F cs zs i = V.F.neg (smTo V.F cs (zs ++ [0]) zs.length (i + 1)) := by
  refine VF.of_inj (subTo_el _ _ _) (FF.neg_el (smTo_el _ _ _ _)) ?_
  rw [VF.of_neg (smTo_el _ _ _ _)]
  induction i with
  | zero =>
    show VF.of V 0 = - VF.of V (V.F.add 0 (V.F.mul (gz cs 0) (gz (zs ++ [0]) (zs.length - 0))))
    have : gz (zs ++ [0]) (zs.length - 0) = 0 := by
      rw [gz_snoc]; unfold gz; rw [Nat.sub_zero, List.getD_eq_getElem?_getD, List.getElem?_eq_none (Nat.le_refl _)]; rfl
    rw [this, FF.mul_zero', VF.of_add (FF.zero_el V.ok) (FF.zero_el V.ok), VF.of_zero]; grind
  | succ i ih =>
    have h1 : V.F.el (gz cs (i + 1)) := hc.getD _
    have h2 : V.F.el (gz zs (zs.length - (i + 1))) := hz.getD _
    show VF.of V (V.F.add (subTo V.F cs zs i) (V.F.neg (V.F.mul (gz cs (i + 1)) (gz zs (zs.length - (i + 1)))))) = - VF.of V (V.F.add (smTo V.F cs (zs ++ [0]) zs.length (i + 1)) (V.F.mul (gz cs (i + 1)) (gz (zs ++ [0]) (zs.length - (i + 1)))))
    rw [gz_snoc, VF.of_add (subTo_el _ _ _) (FF.neg_el (FF.mul_el V.ok _ _)), VF.of_add (smTo_el _ _ _ _) (FF.mul_el V.ok _ _), VF.of_neg (FF.mul_el V.ok _ _), ih (by omega)]
    grind
theorem subTo_nx {V : VF} {cs zs : List Int} (hc : VF.els V cs) (hz : VF.els V zs) {n : Nat} (hn : cs.length = n + 1) (h : n ≤ zs.length) : subTo V.F cs zs n = nxI V.F cs zs := by
  rw [subTo_eq hc hz n h]
  unfold nxI
  rw [hn, show min (n + 1) (zs.length + 1) = n + 1 by omega]
end Go.Proofs.YtmbphpmabopifaaDoor
/-
  Polynomials through points: Newton's and Lagrange's ways. Plain mathematics; no program in sight.
-/
namespace Go.Proofs.YtmbphpmabopifaaDoor
open PS
set_option linter.unusedVariables false
variable {V : VF}

/-- The numbers of a list as elements. -/
noncomputable def pt (V : VF) (xs : List Int) (i : Nat) : El V := VF.of V (gz xs i)
/-- The first m numbers differ. -/
def Apart (xs : List Int) (m : Nat) : Prop := ∀ i j, i < m → j < m → gz xs i = gz xs j → i = j
theorem Apart.pt {xs : List Int} (hx : VF.els V xs) {m : Nat} (h : Apart xs m) {i j : Nat} (hi : i < m) (hj : j < m) (e : pt V xs i = pt V xs j) : i = j :=
  h i j hi hj (VF.of_inj (hx.getD i) (hx.getD j) e)
theorem Apart.next {xs : List Int} {m : Nat} (h : Apart xs m) (h2 : ∀ i, i < m → gz xs i ≠ gz xs m) : Apart xs (m + 1) := fun i j hi hj e => by
  rcases Nat.lt_or_ge i m with h3 | h3 <;> rcases Nat.lt_or_ge j m with h4 | h4
  · exact h i j h3 h4 e
  · have : j = m := by omega
    subst this; exact absurd e (h2 i h3)
  · have : i = m := by omega
    subst this; exact absurd e.symm (h2 j h4)
  · omega
/-- Through the first m points, with no more coefficients. -/
structure FitAt (V : VF) (xs ys : List Int) (m : Nat) (f : PS (El V)) : Prop where
  dlt : f.dlt m
  val : ∀ i, i < m → ev f (pt V xs i) = pt V ys i
theorem FitAt.uniq {xs ys : List Int} {m : Nat} (hx : VF.els V xs) (ha : Apart xs m) {f g : PS (El V)} (hf : FitAt V xs ys m f) (hg : FitAt V xs ys m g) : f = g := by
  refine eq_of_values ((List.range m).map fun i => pt V xs i) hf.dlt hg.dlt ?_ ?_ (by simp)
  · rw [List.nodup_iff_pairwise_ne, List.pairwise_map]
    exact List.Pairwise.imp_of_mem (fun {a b} h1 h2 h3 e => h3 (ha.pt hx (List.mem_range.1 h1) (List.mem_range.1 h2) e)) (List.nodup_iff_pairwise_ne.1 List.nodup_range)
  · intro a h
    obtain ⟨i, hi, rfl⟩ := List.mem_map.1 h
    rw [hf.val i (List.mem_range.1 hi), hg.val i (List.mem_range.1 hi)]
open Classical in
/-- The list of the polynomial through all points. -/
noncomputable def fitL (V : VF) (xs ys : List Int) : List Int := if h : ∃ f, FitAt V xs ys xs.length f then VF.lst V (Classical.choose h) else []
theorem fitL_of {xs ys : List Int} (hx : VF.els V xs) (ha : Apart xs xs.length) {f : PS (El V)} (hf : FitAt V xs ys xs.length f) : fitL V xs ys = VF.lst V f := by
  have h : ∃ f, FitAt V xs ys xs.length f := ⟨f, hf⟩
  unfold fitL
  rw [dif_pos h, (Classical.choose_spec h).uniq hx ha hf]
theorem fitL_len (V : VF) (xs ys : List Int) : (fitL V xs ys).length ≤ xs.length := by
  unfold fitL
  split
  · rename_i h; exact VF.lst_len (Classical.choose_spec h).dlt
  · simp
/-- The product of X - x for the first m numbers. -/
structure Newt (V : VF) (xs : List Int) (m : Nat) (z : PS (El V)) : Prop where
  dlt : z.dlt (m + 1)
  zero : ∀ i, i < m → ev z (pt V xs i) = 0
  root : ∀ x, ev z x = 0 → ∃ i, i < m ∧ x = pt V xs i
theorem Newt.start (xs : List Int) : Newt V xs 0 1 := ⟨dlt_one, fun i h => by omega, fun x h => by rw [ev_one] at h; exact absurd h (Fld.one_ne)⟩
theorem ev_mul_lin {z : PS (El V)} (hz : z.IsPoly) (a x : El V) : ev (z * (X - C a)) x = ev z x * (x - a) := by rw [ev_mul hz (isPoly_lin a), ev_lin]
theorem Newt.step {xs : List Int} {m : Nat} {z : PS (El V)} (h : Newt V xs m z) : Newt V xs (m + 1) (z * (X - C (pt V xs m))) := by
  refine ⟨?_, ?_, ?_⟩
  · exact (dlt_mul (g := X - C (pt V xs m)) (m := 1) (dlt_sub dlt_X ((dlt_C _).mono (by omega))) m z h.dlt).mono (by omega)
  · intro i hi
    rw [ev_mul_lin ⟨_, h.dlt⟩]
    rcases Nat.lt_or_ge i m with h1 | h1
    · rw [h.zero i h1]; grind
    · have : i = m := by omega
      subst this; grind
  · intro x hx
    rw [ev_mul_lin ⟨_, h.dlt⟩] at hx
    by_cases h0 : ev z x = 0
    · obtain ⟨i, hi, e⟩ := h.root x h0
      exact ⟨i, by omega, e⟩
    · have := mul_eq_zero' hx h0
      exact ⟨m, by omega, by grind⟩
theorem Newt.new {xs : List Int} (hx : VF.els V xs) {m : Nat} {z : PS (El V)} (h : Newt V xs m z) (h0 : ev z (pt V xs m) ≠ 0) : ∀ i, i < m → gz xs i ≠ gz xs m := fun i hi e => h0 (by
  have := h.zero i hi
  unfold pt at this ⊢; rw [← e]; exact this)
theorem Newt.old {xs : List Int} (hx : VF.els V xs) {m : Nat} {z : PS (El V)} (h : Newt V xs m z) (h0 : ev z (pt V xs m) = 0) : ∃ i, i < m ∧ gz xs i = gz xs m := by
  obtain ⟨i, hi, e⟩ := h.root _ h0
  exact ⟨i, hi, (VF.of_inj (hx.getD m) (hx.getD i) e).symm⟩
theorem Newt.fit {xs ys : List Int} {m : Nat} {z f : PS (El V)} (h : Newt V xs m z) (hf : FitAt V xs ys m f) {b : El V} (hb : b * ev z (pt V xs m) = pt V ys m - ev f (pt V xs m)) : FitAt V xs ys (m + 1) (f + C b * z) := by
  have hzp : z.IsPoly := ⟨_, h.dlt⟩
  have hfp : f.IsPoly := ⟨_, hf.dlt⟩
  refine ⟨dlt_add (hf.dlt.mono (by omega)) (dlt_C_mul _ h.dlt), fun i hi => ?_⟩
  rw [ev_add hfp ((isPoly_C _).mul hzp), ev_C_mul hzp]
  rcases Nat.lt_or_ge i m with h1 | h1
  · rw [h.zero i h1, hf.val i h1]; grind
  · have : i = m := by omega
    subst this; rw [hb]; grind
/-- The product of X - x for the first k numbers but number i, and its value at number i. -/
structure Lagr (V : VF) (xs : List Int) (i k : Nat) (t : PS (El V)) (u : El V) : Prop where
  dlt : t.dlt (if k ≤ i then k + 1 else k)
  zero : ∀ m, m < k → m ≠ i → ev t (pt V xs m) = 0
  val : u = ev t (pt V xs i)
  ne : u ≠ 0
theorem Lagr.start (xs : List Int) (i : Nat) : Lagr V xs i 0 1 1 := ⟨by rw [if_pos (by omega)]; exact dlt_one, fun m h => by omega, by rw [ev_one], Fld.one_ne⟩
theorem Lagr.skip {xs : List Int} {i : Nat} {t : PS (El V)} {u : El V} (h : Lagr V xs i i t u) : Lagr V xs i (i + 1) t u :=
  ⟨by have := h.dlt; rw [if_pos (Nat.le_refl _)] at this; rw [if_neg (by omega)]; exact this, fun m hm hne => h.zero m (by omega) hne, h.val, h.ne⟩
theorem Lagr.poly {xs : List Int} {i k : Nat} {t : PS (El V)} {u : El V} (h : Lagr V xs i k t u) : t.IsPoly := ⟨_, h.dlt⟩
theorem Lagr.step {xs : List Int} (hx : VF.els V xs) {i k n : Nat} (ha : Apart xs n) (hi : i < n) (hk : k < n) (hne : k ≠ i) {t : PS (El V)} {u : El V} (h : Lagr V xs i k t u) :
    Lagr V xs i (k + 1) (t * (X - C (pt V xs k))) (u * (pt V xs i + - pt V xs k)) := by
  refine ⟨?_, ?_, ?_, ?_⟩
  · have hd : (X - C (pt V xs k) : PS (El V)).dlt (1 + 1) := dlt_sub dlt_X ((dlt_C _).mono (by omega))
    have h1 := h.dlt
    by_cases hki : k ≤ i
    · rw [if_pos hki] at h1
      rw [if_pos (by omega)]
      exact (dlt_mul hd k t h1).mono (by omega)
    · rw [if_neg hki] at h1
      rw [if_neg (by omega)]
      obtain ⟨k', rfl⟩ : ∃ k', k = k' + 1 := ⟨k - 1, by omega⟩
      exact (dlt_mul hd k' t h1).mono (by omega)
  · intro m hm hmi
    rw [ev_mul_lin h.poly]
    rcases Nat.lt_or_ge m k with h1 | h1
    · rw [h.zero m h1 hmi]; grind
    · have : m = k := by omega
      subst this; grind
  · rw [ev_mul_lin h.poly, ← h.val]; grind
  · refine mul_ne h.ne fun e => hne ?_
    have : pt V xs k = pt V xs i := by grind
    exact ha.pt hx hk hi this
/-- Through the first i points, and 0 at the others. -/
structure LagTo (V : VF) (xs ys : List Int) (n i : Nat) (f : PS (El V)) : Prop where
  dlt : f.dlt n
  val : ∀ m, m < i → ev f (pt V xs m) = pt V ys m
  rest : ∀ m, i ≤ m → m < n → ev f (pt V xs m) = 0
theorem LagTo.start (xs ys : List Int) (n : Nat) : LagTo V xs ys n 0 0 := ⟨dlt_zero _, fun m h => by omega, fun m _ _ => ev_zero _⟩
theorem LagTo.step {xs ys : List Int} {n i : Nat} (hi : i < n) {f t : PS (El V)} {u s : El V} (h : LagTo V xs ys n i f) (ht : Lagr V xs i n t u) (hs : s * u = pt V ys i) : LagTo V xs ys n (i + 1) (f + t * C s) := by
  have hd := ht.dlt
  rw [if_neg (by omega)] at hd
  have htp : t.IsPoly := ⟨_, hd⟩
  have hfp : f.IsPoly := ⟨_, h.dlt⟩
  have e : ∀ x, ev (f + t * C s) x = ev f x + ev t x * s := fun x => by rw [ev_add hfp (htp.mul (isPoly_C _)), ev_mul htp (isPoly_C _), ev_C]
  refine ⟨dlt_add h.dlt (by have := dlt_C_mul s hd; rw [show t * C s = C s * t by grind]; exact this), fun m hm => ?_, fun m hm hmn => ?_⟩
  · rw [e]
    rcases Nat.lt_or_ge m i with h1 | h1
    · rw [h.val m h1, ht.zero m (by omega) (by omega)]; grind
    · have : m = i := by omega
      subst this
      rw [h.rest m (Nat.le_refl _) hi, ← ht.val, ← hs]; grind
  · rw [e, h.rest m (by omega) hmn, ht.zero m hmn (by omega)]; grind
theorem LagTo.fit {xs ys : List Int} {n : Nat} {f : PS (El V)} (h : LagTo V xs ys n n f) : FitAt V xs ys n f := ⟨h.dlt, h.val⟩
end Go.Proofs.YtmbphpmabopifaaDoor
/-
  Gauss' elimination, step by step. Plain mathematics; no program in sight.
-/
namespace Go.Proofs.YtmbphpmabopifaaDoor
namespace PS
set_option linter.unusedVariables false
variable {K : Type} [CR K]

/-- The sum of the first n products. -/
def dot (f x : Nat → K) : Nat → K
  | 0 => 0
  | m + 1 => dot f x m + f m * x m
theorem dot_congr {f f' x x' : Nat → K} (n : Nat) (h : ∀ m, m < n → f m = f' m ∧ x m = x' m) : dot f x n = dot f' x' n := by
  induction n with
  | zero => rfl
  | succ n ih => show dot f x n + _ = dot f' x' n + _; rw [ih (fun m hm => h m (by omega)), (h n (by omega)).1, (h n (by omega)).2]
theorem dot_scale (a : K) (f x : Nat → K) (n : Nat) : dot (fun m => f m * a) x n = dot f x n * a := by
  induction n with
  | zero => show (0 : K) = 0 * a; grind
  | succ n ih => show dot (fun m => f m * a) x n + _ = (dot f x n + _) * a; rw [ih]; grind
theorem dot_sub (a : K) (f g x : Nat → K) (n : Nat) : dot (fun m => f m + - (a * g m)) x n = dot f x n + - (a * dot g x n) := by
  induction n with
  | zero => show (0 : K) = 0 + - (a * 0); grind
  | succ n ih => show dot (fun m => f m + - (a * g m)) x n + _ = (dot f x n + _) + - (a * (dot g x n + _)); rw [ih]; grind
theorem dot_zero {f x : Nat → K} (n : Nat) (h : ∀ m, m < n → f m * x m = 0) : dot f x n = 0 := by
  induction n with
  | zero => rfl
  | succ n ih => show dot f x n + _ = 0; rw [ih (fun m hm => h m (by omega)), h n (by omega)]; grind
theorem dot_one {f x : Nat → K} (n j : Nat) (hj : j < n) (h : ∀ m, m < n → m ≠ j → f m * x m = 0) : dot f x n = f j * x j := by
  induction n with
  | zero => omega
  | succ n ih =>
    show dot f x n + f n * x n = _
    by_cases e : j = n
    · subst e; rw [dot_zero _ (fun m hm => h m (by omega) (by omega))]; grind
    · rw [ih (by omega) (fun m hm hne => h m (by omega) hne), h n (by omega) (fun e' => e e'.symm)]; grind
/-- A system of n equations: column n bears the right sides. -/
abbrev Mx (K : Type) := Nat → Nat → K
/-- x solves the system. -/
def Sol (n : Nat) (M : Mx K) (x : Nat → K) : Prop := ∀ j, j < n → dot (M j) x n = M j n
/-- Only zeros solve the homogeneous system. -/
def NonS (n : Nat) (M : Mx K) : Prop := ∀ x : Nat → K, (∀ j, j < n → dot (M j) x n = 0) → ∀ m, m < n → x m = 0
theorem Sol.uniq {n : Nat} {M : Mx K} (hn : NonS n M) {x y : Nat → K} (hx : Sol n M x) (hy : Sol n M y) : ∀ m, m < n → x m = y m := by
  have h := hn (fun m => x m + - (1 * y m)) (fun j hj => by
    have e : ∀ k, dot (M j) (fun m => x m + - (1 * y m)) k = dot (M j) x k + - dot (M j) y k := by
      intro k
      induction k with
      | zero => show (0 : K) = 0 + -0; grind
      | succ k ih => show dot (M j) (fun m => x m + - (1 * y m)) k + _ = (dot (M j) x k + _) + - (dot (M j) y k + _); rw [ih]; grind
    rw [e, hx j hj, hy j hj]; grind)
  intro m hm
  have := h m hm
  grind
/-- The state of the elimination ahead of column k. -/
structure GI (n : Nat) (A : Mx K) (k : Nat) (M : Mx K) : Prop where
  unit : ∀ m, m < k → ∀ j, j < n → M j m = if j = m then 1 else 0
  sol : ∀ x, Sol n M x ↔ Sol n A x
  nons : NonS n M
theorem GI.start {n : Nat} {A : Mx K} (h : NonS n A) : GI n A 0 A := ⟨fun m hm => by omega, fun x => Iff.rfl, h⟩
/-- There is a pivot. -/
theorem GI.pivot [Fld K] {n k : Nat} {A M : Mx K} (h : GI n A k M) (hk : k < n) : ∃ j, k ≤ j ∧ j < n ∧ M j k ≠ 0 := by
  apply Classical.byContradiction
  intro hn
  have h0 : ∀ j, k ≤ j → j < n → M j k = 0 := fun j h1 h2 => Classical.byContradiction fun h3 => hn ⟨j, h1, h2, h3⟩
  have := h.nons (fun m => if m < k then - M m k else if m = k then 1 else 0) (fun j hj => by
    -- all terms but those of columns j and k are 0
    have key : ∀ N, N ≤ n → dot (M j) (fun m => if m < k then - M m k else if m = k then 1 else 0) N = (if j < N ∧ j < k then - M j k else 0) + (if k < N then M j k else 0) := by
      intro N
      induction N with
      | zero => intro _; show (0 : K) = _; rw [if_neg (by omega), if_neg (by omega)]; grind
      | succ N ih =>
        intro hN
        show dot _ _ N + M j N * (if N < k then - M N k else if N = k then 1 else 0) = _
        rw [ih (by omega)]
        by_cases h1 : N < k
        · rw [if_pos h1, h.unit N h1 j hj, if_neg (show ¬ k < N by omega), if_neg (show ¬ k < N + 1 by omega)]
          by_cases h2 : j = N
          · subst h2; rw [if_neg (by omega), if_pos rfl, if_pos ⟨by omega, h1⟩]; grind
          · rw [if_neg h2]
            by_cases h3 : j < N ∧ j < k
            · rw [if_pos h3, if_pos ⟨by omega, h3.2⟩]; grind
            · rw [if_neg h3, if_neg (by omega)]; grind
        · rw [if_neg h1]
          by_cases h2 : N = k
          · subst h2
            rw [if_pos rfl, if_neg (show ¬ N < N by omega), if_pos (show N < N + 1 by omega)]
            by_cases h3 : j < N
            · rw [if_pos ⟨h3, h3⟩, if_pos ⟨by omega, h3⟩]; grind
            · rw [if_neg (by omega), if_neg (by omega)]; grind
          · rw [if_neg h2, if_pos (show k < N by omega), if_pos (show k < N + 1 by omega)]
            by_cases h3 : j < k
            · rw [if_pos ⟨by omega, h3⟩, if_pos ⟨by omega, h3⟩]; grind
            · rw [if_neg (by omega), if_neg (by omega)]; grind
    rw [key n (Nat.le_refl _), if_pos hk]
    by_cases h3 : j < k
    · rw [if_pos ⟨hj, h3⟩]; grind
    · rw [if_neg (by omega), h0 j (by omega) hj]; grind) k hk
  simp only [if_neg (Nat.lt_irrefl k), if_true] at this
  exact Fld.one_ne this
/-- Rows k and p change places. -/
def swapR (M : Mx K) (k p : Nat) : Mx K := fun j => M (if j = k then p else if j = p then k else j)
theorem GI.swap {n k p : Nat} {A M : Mx K} (h : GI n A k M) (hk : k < n) (hp : p < n) (hkp : k ≤ p) : GI n A k (swapR M k p) := by
  have hs : ∀ j, j < n → (if j = k then p else if j = p then k else j) < n := fun j hj => by split <;> (try split) <;> omega
  have hinv : ∀ j, (if (if j = k then p else if j = p then k else j) = k then p else if (if j = k then p else if j = p then k else j) = p then k else (if j = k then p else if j = p then k else j)) = j := by
    intro j
    by_cases h1 : j = k
    · subst h1
      rw [if_pos rfl]
      by_cases h2 : p = j
      · rw [if_pos h2]; exact h2
      · rw [if_neg h2, if_pos rfl]
    · rw [if_neg h1]
      by_cases h2 : j = p
      · rw [if_pos h2, if_pos rfl]; exact h2.symm
      · rw [if_neg h2, if_neg h1, if_neg h2]
  refine ⟨fun m hm j hj => ?_, fun x => ?_, fun x hx => ?_⟩
  · show M _ m = _
    rw [h.unit m hm _ (hs j hj)]
    by_cases h1 : j = k
    · rw [if_pos h1, if_neg (by omega), if_neg (by omega)]
    · rw [if_neg h1]
      by_cases h2 : j = p
      · rw [if_pos h2, if_neg (by omega), if_neg (by omega)]
      · rw [if_neg h2]
  · rw [← h.sol]
    constructor
    · intro hx j hj
      have := hx _ (hs j hj)
      unfold swapR at this
      rw [hinv j] at this
      exact this
    · intro hx j hj
      exact hx _ (hs j hj)
  · refine h.nons x (fun j hj => ?_)
    have := hx _ (hs j hj)
    unfold swapR at this
    rw [hinv j] at this
    exact this
/-- Row k times a, from column c on. -/
def scaleR (M : Mx K) (k c n : Nat) (a : K) : Mx K := fun j m => if j = k ∧ c ≤ m ∧ m ≤ n then M j m * a else M j m
/-- Row k is scaled so that its pivot is 1. -/
structure GS (n : Nat) (A : Mx K) (k : Nat) (M : Mx K) : Prop where
  gi : GI n A k M
  one : M k k = 1
theorem GI.scale {n k : Nat} {A M : Mx K} (h : GI n A k M) (hk : k < n) {a : K} (ha : M k k * a = 1) : GS n A k (scaleR M k k n a) := by
  have hrow : ∀ m, m ≤ n → scaleR M k k n a k m = M k m * a := by
    intro m hm
    unfold scaleR
    by_cases h1 : k ≤ m
    · rw [if_pos ⟨rfl, h1, hm⟩]
    · rw [if_neg (by omega), h.unit m (by omega) k hk, if_neg (by omega)]; grind
  have hoth : ∀ j, j ≠ k → scaleR M k k n a j = M j := fun j hj => by funext m; unfold scaleR; rw [if_neg (by omega)]
  have hd : ∀ x, dot (scaleR M k k n a k) x n = dot (M k) x n * a := fun x => by
    rw [← dot_scale]; exact dot_congr n (fun m hm => ⟨hrow m (by omega), rfl⟩)
  refine ⟨⟨fun m hm j hj => ?_, fun x => ?_, fun x hx => ?_⟩, ?_⟩
  · by_cases h1 : j = k
    · subst h1; rw [hrow m (by omega), h.unit m hm j hj, if_neg (by omega)]; grind
    · rw [hoth j h1]; exact h.unit m hm j hj
  · rw [← h.sol]
    constructor
    · intro hx j hj
      by_cases h1 : j = k
      · subst h1
        have := hx j hj
        rw [hd, hrow n (Nat.le_refl _)] at this
        have e : dot (M j) x n * a * M j j = M j n * a * M j j := by rw [this]
        grind
      · have := hx j hj; rw [hoth j h1] at this; exact this
    · intro hx j hj
      by_cases h1 : j = k
      · subst h1; rw [hd, hrow n (Nat.le_refl _), hx j hj]
      · rw [hoth j h1]; exact hx j hj
  · refine h.nons x (fun j hj => ?_)
    by_cases h1 : j = k
    · subst h1
      have := hx j hj
      rw [hd] at this
      have e : dot (M j) x n * a * M j j = 0 * M j j := by rw [this]
      grind
    · have := hx j hj; rw [hoth j h1] at this; exact this
  · rw [hrow k (by omega)]; exact ha
/-- Row j minus f times row k, from column k on. -/
def elimR (M : Mx K) (j k n : Nat) (f : K) : Mx K := fun i m => if i = j ∧ k ≤ m ∧ m ≤ n then M i m + - (f * M k m) else M i m
/-- The rows below J have been cleared in column k. -/
structure GE (n : Nat) (A : Mx K) (k J : Nat) (M : Mx K) : Prop where
  gs : GS n A k M
  clear : ∀ j, j < J → j < n → j ≠ k → M j k = 0
theorem GS.start {n k : Nat} {A M : Mx K} (h : GS n A k M) : GE n A k 0 M := ⟨h, fun j hj => by omega⟩
theorem GE.skip {n k J : Nat} {A M : Mx K} (h : GE n A k J M) (h2 : J = k ∨ M J k = 0) : GE n A k (J + 1) M :=
  ⟨h.gs, fun j hj hn hne => by
    rcases Nat.lt_or_ge j J with h3 | h3
    · exact h.clear j h3 hn hne
    · have : j = J := by omega
      subst this
      rcases h2 with h2 | h2
      · exact absurd h2 hne
      · exact h2⟩
theorem GE.step {n k J : Nat} {A M : Mx K} (h : GE n A k J M) (hk : k < n) (hJ : J < n) (hne : J ≠ k) : GE n A k (J + 1) (elimR M J k n (M J k)) := by
  have hg := h.gs.gi
  have hrow : ∀ m, m ≤ n → elimR M J k n (M J k) J m = M J m + - (M J k * M k m) := by
    intro m hm
    unfold elimR
    by_cases h1 : k ≤ m
    · rw [if_pos ⟨rfl, h1, hm⟩]
    · rw [if_neg (by omega), hg.unit m (by omega) k hk, if_neg (by omega)]; grind
  have hoth : ∀ j, j ≠ J → elimR M J k n (M J k) j = M j := fun j hj => by funext m; unfold elimR; rw [if_neg (by omega)]
  have hd : ∀ x, dot (elimR M J k n (M J k) J) x n = dot (M J) x n + - (M J k * dot (M k) x n) := fun x => by
    rw [← dot_sub]; exact dot_congr n (fun m hm => ⟨hrow m (by omega), rfl⟩)
  refine ⟨⟨⟨fun m hm j hj => ?_, fun x => ?_, fun x hx => ?_⟩, ?_⟩, fun j hj hn hjk => ?_⟩
  · by_cases h1 : j = J
    · subst h1; rw [hrow m (by omega), hg.unit m hm j hj, hg.unit m hm k hk, if_neg (show ¬ k = m by omega)]; grind
    · rw [hoth j h1]; exact hg.unit m hm j hj
  · rw [← hg.sol]
    constructor
    · intro hx j hj
      have hkk := hx k hk
      rw [hoth k (fun e => hne e.symm)] at hkk
      by_cases h1 : j = J
      · subst h1
        have := hx j hj
        rw [hd, hrow n (Nat.le_refl _), hkk] at this
        grind
      · have := hx j hj; rw [hoth j h1] at this; exact this
    · intro hx j hj
      by_cases h1 : j = J
      · subst h1; rw [hd, hrow n (Nat.le_refl _), hx j hj, hx k hk]
      · rw [hoth j h1]; exact hx j hj
  · refine hg.nons x (fun j hj => ?_)
    have hkk := hx k hk
    rw [hoth k (fun e => hne e.symm)] at hkk
    by_cases h1 : j = J
    · subst h1
      have := hx j hj
      rw [hd, hkk] at this
      grind
    · have := hx j hj; rw [hoth j h1] at this; exact this
  · rw [hoth k (fun e => hne e.symm)]; exact h.gs.one
  · rcases Nat.lt_or_ge j J with h3 | h3
    · rw [hoth j (by omega)]; exact h.clear j h3 hn hjk
    · have : j = J := by omega
      subst this
      rw [hrow k (by omega), h.gs.one]; grind
theorem GE.done {n k : Nat} {A M : Mx K} (h : GE n A k n M) (hk : k < n) : GI n A (k + 1) M :=
  ⟨fun m hm j hj => by
    rcases Nat.lt_or_ge m k with h1 | h1
    · exact h.gs.gi.unit m h1 j hj
    · have : m = k := by omega
      subst this
      by_cases h2 : j = m
      · subst h2; rw [if_pos rfl]; exact h.gs.one
      · rw [if_neg h2]; exact h.clear j hj hj h2, h.gs.gi.sol, h.gs.gi.nons⟩
theorem GI.done {n : Nat} {A M : Mx K} (h : GI n A n M) : Sol n A (fun j => M j n) := by
  rw [← h.sol]
  intro j hj
  rw [dot_one n j hj (fun m hm hne => by rw [h.unit m hm j hj, if_neg (fun e => hne e.symm)]; grind), h.unit j hj j hj, if_pos rfl]; grind
end PS
end Go.Proofs.YtmbphpmabopifaaDoor
