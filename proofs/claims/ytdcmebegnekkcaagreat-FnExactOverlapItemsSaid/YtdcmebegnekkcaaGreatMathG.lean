/-
  The parts Math, GaussP.
-/

/-
  The parts Ring, Field, Mul, Poly, Lists, Canon, Key, Bm, BmRun, Divs, ContP, FitP.
-/
/-
  Commutative rings for the tactic 'grind', and the ring of power series over a ring. Plain mathematics; no program in sight.
-/
namespace Go.Proofs.YtdcmebegnekkcaaGreat

abbrev clsOf {C : Type → Type} {α : Type} (_ : C α) : Type → Type := C
/-- Commutative rings, by the name of one that core has an instance of. -/
abbrev CR : Type → Type := clsOf Dyadic.instCommRing

/-- A commutative ring's data and laws, without the numerals. -/
structure RingCore (α : Type) where
  zero : α
  one : α
  add : α → α → α
  mul : α → α → α
  neg : α → α
  add_zero : ∀ a, add a zero = a
  add_comm : ∀ a b, add a b = add b a
  add_assoc : ∀ a b c, add (add a b) c = add a (add b c)
  neg_add : ∀ a, add (neg a) a = zero
  mul_comm : ∀ a b, mul a b = mul b a
  mul_assoc : ∀ a b c, mul (mul a b) c = mul a (mul b c)
  mul_one : ∀ a, mul a one = a
  left_distrib : ∀ a b c, mul a (add b c) = add (mul a b) (mul a c)

namespace RingCore
variable {α : Type} (R : RingCore α)
theorem cancel {a b c : α} (h : R.add a b = R.add a c) : b = c := by
  have h1 : R.add (R.neg a) (R.add a b) = R.add (R.neg a) (R.add a c) := by rw [h]
  rwa [← R.add_assoc, ← R.add_assoc, R.neg_add, R.add_comm R.zero, R.add_comm R.zero, R.add_zero, R.add_zero] at h1
theorem mul_zero (a : α) : R.mul a R.zero = R.zero := by
  apply R.cancel (a := R.mul a R.zero)
  rw [← R.left_distrib, R.add_zero, R.add_zero]
def nat : Nat → α
  | 0 => R.zero
  | n + 1 => R.add (nat n) R.one
def int : Int → α
  | .ofNat n => R.nat n
  | .negSucc n => R.neg (R.nat (n + 1))
def pow (a : α) : Nat → α
  | 0 => R.one
  | n + 1 => R.mul (pow a n) a
theorem neg_unique {a b : α} (h : R.add b a = R.zero) : b = R.neg a := by
  apply R.cancel (a := a)
  rw [R.add_comm a b, h, R.add_comm, R.neg_add]
theorem neg_neg (a : α) : R.neg (R.neg a) = a := (R.neg_unique (by rw [R.add_comm, R.neg_add])).symm
theorem neg_zero : R.neg R.zero = R.zero := (R.neg_unique (R.add_zero _)).symm
theorem neg_mul (a b : α) : R.mul (R.neg a) b = R.neg (R.mul a b) := by
  apply R.neg_unique
  rw [R.mul_comm _ b, R.mul_comm a b, ← R.left_distrib, R.neg_add, R.mul_zero]
theorem int_neg (i : Int) : R.int (-i) = R.neg (R.int i) := by
  match i with
  | .ofNat 0 => exact R.neg_zero.symm
  | .ofNat (n + 1) => rfl
  | .negSucc n => exact (R.neg_neg _).symm
@[reducible] def toCR : CR α :=
  @_root_.id (clsOf Dyadic.instCommRing α)
  { add := R.add, mul := R.mul, neg := R.neg, sub := fun a b => R.add a (R.neg b)
    natCast := ⟨R.nat⟩
    ofNat := fun n => ⟨R.nat n⟩
    nsmul := ⟨fun n a => R.mul (R.nat n) a⟩
    npow := ⟨R.pow⟩
    intCast := ⟨R.int⟩
    zsmul := ⟨fun n a => R.mul (R.int n) a⟩
    add_zero := R.add_zero
    add_comm := R.add_comm
    add_assoc := R.add_assoc
    mul_assoc := R.mul_assoc
    mul_one := fun a => by show R.mul a (R.add R.zero R.one) = a; rw [R.add_comm, R.add_zero, R.mul_one]
    one_mul := fun a => by show R.mul (R.add R.zero R.one) a = a; rw [R.add_comm, R.add_zero, R.mul_comm, R.mul_one]
    left_distrib := R.left_distrib
    right_distrib := fun a b c => by
      show R.mul (R.add a b) c = R.add (R.mul a c) (R.mul b c)
      rw [R.mul_comm, R.left_distrib, R.mul_comm c, R.mul_comm c]
    zero_mul := fun a => by show R.mul R.zero a = R.zero; rw [R.mul_comm, R.mul_zero]
    mul_zero := R.mul_zero
    pow_zero := fun _ => by show R.one = R.add R.zero R.one; rw [R.add_comm, R.add_zero]
    pow_succ := fun _ _ => rfl
    ofNat_succ := fun a => by
      show R.nat (a + 1) = R.add (R.nat a) (R.add R.zero R.one)
      rw [R.add_comm R.zero, R.add_zero]; rfl
    neg_add_cancel := R.neg_add
    sub_eq_add_neg := fun _ _ => rfl
    neg_zsmul := fun i a => by
      show R.mul (R.int (-i)) a = R.neg (R.mul (R.int i) a)
      rw [R.int_neg, R.neg_mul]
    zsmul_natCast_eq_nsmul := fun _ _ => rfl
    intCast_neg := R.int_neg
    mul_comm := R.mul_comm }
end RingCore

/-! ### Power series -/
/-- A power series: its coefficients. -/
structure PS (K : Type) where
  c : Nat → K
namespace PS
variable {K : Type} [CR K]
omit [CR K] in
theorem ext' {f g : PS K} (h : ∀ n, f.c n = g.c n) : f = g := by
  cases f; cases g; congr 1; funext n; exact h n
def tail (f : PS K) : PS K := ⟨fun n => f.c (n + 1)⟩
def conv (f g : PS K) : Nat → K
  | 0 => f.c 0 * g.c 0
  | n + 1 => f.c 0 * g.c (n + 1) + conv f.tail g n
def smul (a : K) (f : PS K) : PS K := ⟨fun n => a * f.c n⟩
theorem conv_add_left (n : Nat) : ∀ f h g : PS K, conv ⟨fun n => f.c n + h.c n⟩ g n = conv f g n + conv h g n := by
  induction n with
  | zero => intro f h g; simp only [conv]; grind
  | succ n ih =>
    intro f h g
    simp only [conv]
    have := ih f.tail h.tail g
    simp only [tail] at this ⊢
    rw [this]; grind
theorem conv_add_right (n : Nat) : ∀ f g h : PS K, conv f ⟨fun n => g.c n + h.c n⟩ n = conv f g n + conv f h n := by
  induction n with
  | zero => intro f h g; simp only [conv]; grind
  | succ n ih => intro f h g; simp only [conv]; rw [ih]; grind
theorem conv_smul_left (n : Nat) : ∀ (a : K) (f g : PS K), conv ⟨fun n => a * f.c n⟩ g n = a * conv f g n := by
  induction n with
  | zero => intro a f g; simp only [conv]; grind
  | succ n ih =>
    intro a f g; simp only [conv]
    have := ih a f.tail g
    simp only [tail] at this ⊢
    rw [this]; grind
theorem conv_succ' (n : Nat) : ∀ f g : PS K, conv f g (n + 1) = conv f g.tail n + f.c (n + 1) * g.c 0 := by
  induction n with
  | zero => intro f g; simp only [conv, tail]
  | succ n ih =>
    intro f g
    rw [conv, ih f.tail g, conv]
    simp only [tail]
    grind
theorem conv_comm (n : Nat) : ∀ f g : PS K, conv f g n = conv g f n := by
  induction n with
  | zero => intro f g; simp only [conv]; grind
  | succ n ih => intro f g; rw [conv, conv_succ', ih f.tail g]; grind
theorem conv_tail (f g : PS K) : tail ⟨conv f g⟩ = ⟨fun n => (smul (f.c 0) g.tail).c n + (PS.mk (conv f.tail g)).c n⟩ := by
  apply ext'; intro n; simp only [tail, conv, smul]
theorem conv_assoc (n : Nat) : ∀ f g h : PS K, conv ⟨conv f g⟩ h n = conv f ⟨conv g h⟩ n := by
  induction n with
  | zero => intro f g h; simp only [conv]; grind
  | succ n ih =>
    intro f g h
    rw [conv, conv_tail, conv_add_left, ih f.tail g h, conv]
    have := conv_smul_left n (f.c 0) g.tail h
    simp only [smul]
    rw [this]
    show conv f g 0 * h.c (n + 1) + _ = f.c 0 * conv g h (n + 1) + _
    simp only [conv]
    grind
def core : RingCore (PS K) where
  zero := ⟨fun _ => 0⟩
  one := ⟨fun n => if n = 0 then 1 else 0⟩
  add f g := ⟨fun n => f.c n + g.c n⟩
  mul f g := ⟨conv f g⟩
  neg f := ⟨fun n => - f.c n⟩
  add_zero f := ext' fun n => by show f.c n + 0 = f.c n; grind
  add_comm f g := ext' fun n => by show f.c n + g.c n = g.c n + f.c n; grind
  add_assoc f g h := ext' fun n => by show f.c n + g.c n + h.c n = f.c n + (g.c n + h.c n); grind
  neg_add f := ext' fun n => by show - f.c n + f.c n = 0; grind
  mul_comm f g := ext' fun n => conv_comm n f g
  mul_assoc f g h := ext' fun n => conv_assoc n f g h
  mul_one f := ext' fun n => by
    show conv f _ n = f.c n
    rw [conv_comm]
    cases n with
    | zero => simp only [conv]; grind
    | succ n =>
      simp only [conv]
      have hz : ∀ n, conv (tail (⟨fun n => if n = 0 then 1 else 0⟩ : PS K)) f n = 0 := by
        intro n
        have : ∀ m (z : PS K), (∀ k, z.c k = 0) → conv z f m = 0 := by
          intro m
          induction m with
          | zero => intro z hz; simp only [conv, hz]; grind
          | succ m ih => intro z hz; simp only [conv, hz]; rw [ih _ (fun k => hz (k + 1))]; grind
        exact this n _ (fun k => by simp [tail])
      rw [hz]; grind
  left_distrib f g h := ext' fun n => conv_add_right n f g h
instance : CR (PS K) := core.toCR
theorem add_c (f g : PS K) (n : Nat) : (f + g).c n = f.c n + g.c n := rfl
theorem neg_c (f : PS K) (n : Nat) : (-f).c n = - f.c n := rfl
theorem sub_c (f g : PS K) (n : Nat) : (f - g).c n = f.c n - g.c n := by
  show f.c n + - g.c n = _; grind
theorem mul_c (f g : PS K) (n : Nat) : (f * g).c n = conv f g n := rfl
theorem zero_c (n : Nat) : (0 : PS K).c n = 0 := rfl
theorem one_c (n : Nat) : (1 : PS K).c n = if n = 0 then 1 else 0 := by
  show (0 : K) + (if n = 0 then 1 else 0) = _; grind
example (f g h : PS K) (e : f = g * h) : f * f + h = g * h * g * h + h := by grind
end PS
#print axioms PS.core
end Go.Proofs.YtdcmebegnekkcaaGreat
/-
  Finite fields as the program has them: sums, and the powers of a generator. Plain mathematics; no program in sight.
-/
namespace Go.Proofs.YtdcmebegnekkcaaGreat

/-- Exclusive or of two numbers that are at least 0. -/
def xorI (a b : Int) : Int := ((a.toNat ^^^ b.toNat : Nat) : Int)

/-- The powers of the generator, from 1 on. -/
def orb (T : Int → Int) : Nat → Int
  | 0 => 1
  | n + 1 => T (orb T n)

/-- The powers are N different numbers but 0, and then comes 1 again. -/
def Good (T : Int → Int) (N : Nat) : Prop := (∀ n, n < N → orb T n ≠ 0 ∧ (0 < n → orb T n ≠ 1)) ∧ orb T N = 1

def timesP (g p x : Int) : Int := x * g % p
def timesB (size poly x : Int) : Int := if size ≤ 2 * x then xorI (2 * x) poly else 2 * x

/-- A field: binary or not, its size, and its generator (or the polynomial of a binary one). -/
structure FF where
  bin : Bool
  size : Int
  gen : Int

namespace FF
def times (F : FF) : Int → Int := if F.bin then timesB F.size F.gen else timesP F.gen F.size
def N (F : FF) : Nat := (F.size - 1).toNat
structure ok (F : FF) : Prop where
  lo : 3 ≤ F.size
  hi : F.size ≤ 1021
  good : Good F.times F.N
  isB : F.bin = true → ∃ k : Nat, 3 ≤ k ∧ k ≤ 8 ∧ F.size = ((2 ^ k : Nat) : Int) ∧ F.size ≤ F.gen ∧ F.gen < 2 * F.size
  isP : F.bin = false → 1 ≤ F.gen ∧ F.gen < F.size
/-- a is an element. -/
def el (F : FF) (a : Int) : Prop := 0 ≤ a ∧ a < F.size
def add (F : FF) (a b : Int) : Int := if F.bin then xorI a b else (a + b) % F.size
def neg (F : FF) (a : Int) : Int := if F.bin || a == 0 then a else F.size - a
def exp (F : FF) (n : Nat) : Int := orb F.times n
/-- The least n below N with exp n = a (or N). -/
def logTo (F : FF) (a : Int) : Nat → Nat → Nat
  | 0, n => n
  | k + 1, n => if F.exp n = a then n else logTo F a k (n + 1)
def log (F : FF) (a : Int) : Nat := F.logTo a F.N 0
def mul (F : FF) (a b : Int) : Int := if a = 0 ∨ b = 0 then 0 else F.exp ((F.log a + F.log b) % F.N)
def inv (F : FF) (a : Int) : Int := F.exp ((F.N - F.log a) % F.N)
end FF

theorem xorI_comm (a b : Int) : xorI a b = xorI b a := by unfold xorI; rw [Nat.xor_comm]
theorem xorI_assoc (a b c : Int) : xorI (xorI a b) c = xorI a (xorI b c) := by
  unfold xorI; simp only [Int.toNat_natCast]; rw [Nat.xor_assoc]
theorem xorI_nonneg (a b : Int) : 0 ≤ xorI a b := by unfold xorI; omega
theorem xorI_self (a : Int) : xorI a a = 0 := by unfold xorI; simp
theorem xorI_zero (a : Int) (h : 0 ≤ a) : xorI a 0 = a := by unfold xorI; simp; omega
theorem xorI_lt (a b : Int) (k : Nat) (ha : a < ((2 ^ k : Nat) : Int)) (hb : b < ((2 ^ k : Nat) : Int)) : xorI a b < ((2 ^ k : Nat) : Int) := by
  unfold xorI
  have h0 : 0 < 2 ^ k := Nat.two_pow_pos k
  exact Int.ofNat_lt.2 (Nat.xor_lt_two_pow (by omega) (by omega))
theorem xor_two_mul (a b : Nat) : (2 * a) ^^^ (2 * b) = 2 * (a ^^^ b) := by
  apply Nat.eq_of_testBit_eq
  intro i
  rw [Nat.testBit_xor]
  cases i with
  | zero => simp
  | succ i => simp [Nat.testBit_succ]
theorem xorI_two_mul (a b : Int) (ha : 0 ≤ a) (hb : 0 ≤ b) : xorI (2 * a) (2 * b) = 2 * xorI a b := by
  unfold xorI
  have h1 : (2 * a).toNat = 2 * a.toNat := by omega
  have h2 : (2 * b).toNat = 2 * b.toNat := by omega
  rw [h1, h2, xor_two_mul]; omega
/-- Below 2^(k+1) the top bit of an exclusive or. -/
theorem xor_top (a b k : Nat) (ha : a < 2 ^ (k + 1)) (hb : b < 2 ^ (k + 1)) : 2 ^ k ≤ a ^^^ b ↔ ¬ (2 ^ k ≤ a ↔ 2 ^ k ≤ b) := by
  have hp : (2 : Nat) ^ (k + 1) = 2 * 2 ^ k := by rw [Nat.pow_succ]; omega
  have h : ∀ x : Nat, x < 2 ^ (k + 1) → (2 ^ k ≤ x ↔ x.testBit k = true) := by
    intro x hx
    constructor
    · intro h
      rw [Nat.testBit_eq_decide_div_mod_eq]
      have h0 : 0 < 2 ^ k := Nat.two_pow_pos k
      have : x / 2 ^ k = 1 := by
        have h1 : 1 ≤ x / 2 ^ k := (Nat.le_div_iff_mul_le h0).2 (by omega)
        have h2 : x / 2 ^ k < 2 := (Nat.div_lt_iff_lt_mul h0).2 (by omega)
        omega
      rw [this]; rfl
    · intro h; exact Nat.ge_two_pow_of_testBit h
  have hx : a ^^^ b < 2 ^ (k + 1) := Nat.xor_lt_two_pow ha hb
  rw [h _ hx, h _ ha, h _ hb, Nat.testBit_xor]
  cases a.testBit k <;> cases b.testBit k <;> simp
theorem timesB_range (k : Nat) (poly x : Int) (hp : ((2 ^ k : Nat) : Int) ≤ poly) (hp2 : poly < 2 * ((2 ^ k : Nat) : Int)) (h0 : 0 ≤ x) (h1 : x < ((2 ^ k : Nat) : Int)) :
    0 ≤ timesB ((2 ^ k : Nat) : Int) poly x ∧ timesB ((2 ^ k : Nat) : Int) poly x < ((2 ^ k : Nat) : Int) := by
  unfold timesB
  have hpw : (2 : Nat) ^ (k + 1) = 2 * 2 ^ k := by rw [Nat.pow_succ]; omega
  split
  · rename_i h
    refine ⟨xorI_nonneg _ _, ?_⟩
    have ha : (2 * x).toNat < 2 ^ (k + 1) := by omega
    have hb : poly.toNat < 2 ^ (k + 1) := by omega
    have hx := xor_top (2 * x).toNat poly.toNat k ha hb
    unfold xorI
    have hn : ¬ (2 ^ k ≤ (2 * x).toNat ^^^ poly.toNat) := by
      rw [hx]
      simp only [Classical.not_not]
      constructor <;> intro <;> omega
    omega
  · rename_i h; omega
theorem timesB_add (k : Nat) (poly x y : Int) (hx0 : 0 ≤ x) (hx : x < ((2 ^ k : Nat) : Int)) (hy0 : 0 ≤ y) (hy : y < ((2 ^ k : Nat) : Int)) :
    timesB ((2 ^ k : Nat) : Int) poly (xorI x y) = xorI (timesB ((2 ^ k : Nat) : Int) poly x) (timesB ((2 ^ k : Nat) : Int) poly y) := by
  have hpw : (2 : Nat) ^ (k + 1) = 2 * 2 ^ k := by rw [Nat.pow_succ]; omega
  have ht := xor_top (2 * x).toNat (2 * y).toNat k (by omega) (by omega)
  have h2 := xorI_two_mul x y hx0 hy0
  have e : (((2 * x).toNat ^^^ (2 * y).toNat : Nat) : Int) = 2 * xorI x y := by rw [← h2]; rfl
  have ht' : ((2 ^ k : Nat) : Int) ≤ 2 * xorI x y ↔ ¬ (((2 ^ k : Nat) : Int) ≤ 2 * x ↔ ((2 ^ k : Nat) : Int) ≤ 2 * y) := by
    rw [← e]
    constructor
    · intro h h'; exact ht.1 (by omega) ⟨fun a => by have := h'.1 (by omega); omega, fun a => by have := h'.2 (by omega); omega⟩
    · intro h
      have := ht.2 (fun h' => h ⟨fun a => by have := h'.1 (by omega); omega, fun a => by have := h'.2 (by omega); omega⟩)
      omega
  unfold timesB
  rw [← h2]
  rw [← h2] at ht'
  by_cases a : ((2 ^ k : Nat) : Int) ≤ 2 * x <;> by_cases b : ((2 ^ k : Nat) : Int) ≤ 2 * y
  · rw [if_neg (fun hh => ht'.1 hh ⟨fun _ => b, fun _ => a⟩), if_pos a, if_pos b]
    rw [xorI_assoc, ← xorI_assoc poly, xorI_comm poly, xorI_assoc (2 * y) poly, xorI_self, xorI_zero _ (by omega)]
  · rw [if_pos (ht'.2 fun hh => b (hh.1 a)), if_pos a, if_neg b]
    rw [xorI_assoc, xorI_assoc, xorI_comm poly]
  · rw [if_pos (ht'.2 fun hh => a (hh.2 b)), if_neg a, if_pos b, xorI_assoc]
  · rw [if_neg (fun hh => ht'.1 hh ⟨fun x => absurd x a, fun x => absurd x b⟩), if_neg a, if_neg b]
theorem timesP_add (g p x y : Int) : timesP g p ((x + y) % p) = (timesP g p x + timesP g p y) % p := by
  unfold timesP
  rw [Int.mul_emod, Int.emod_emod, ← Int.mul_emod, Int.add_mul, Int.add_emod]

/-- A list without repeated numbers whose members all lie below m is no longer than m. -/
theorem nodup_length {l : List Nat} (hd : l.Nodup) : ∀ m, (∀ x ∈ l, x < m) → l.length ≤ m := by
  intro m
  induction m generalizing l with
  | zero =>
    intro h
    cases l with
    | nil => simp
    | cons a l => exact absurd (h a (by simp)) (by omega)
  | succ m ih =>
    intro h
    by_cases hm : m ∈ l
    · have h1 := ih (l := l.erase m) (hd.erase m) (fun x hx => by
        have hxl : x ∈ l := List.mem_of_mem_erase hx
        have hne : x ≠ m := fun e => by subst e; exact (List.Nodup.not_mem_erase hd) hx
        have := h x hxl; omega)
      rw [List.length_erase_of_mem hm] at h1
      omega
    · have h1 := ih hd (fun x hx => by
        have hne : x ≠ m := fun e => hm (e ▸ hx)
        have := h x hx; omega)
      omega
/-- A one-to-one map of the numbers below m into themselves meets each of them. -/
theorem onto_of_inj (f : Nat → Nat) (m : Nat) (hr : ∀ i, i < m → f i < m) (hi : ∀ i j, i < m → j < m → f i = f j → i = j) (v : Nat) (hv : v < m) : ∃ i, i < m ∧ f i = v := by
  apply Classical.byContradiction
  intro hn
  have hnd : (v :: (List.range m).map f).Nodup := by
    rw [List.nodup_cons]
    refine ⟨fun h => ?_, ?_⟩
    · obtain ⟨i, him, e⟩ := List.mem_map.1 h
      exact hn ⟨i, List.mem_range.1 him, e⟩
    · rw [List.nodup_iff_pairwise_ne, List.pairwise_map]
      exact List.Pairwise.imp_of_mem (fun {a b} ha hb hab e => hab (hi a b (List.mem_range.1 ha) (List.mem_range.1 hb) e)) (List.nodup_iff_pairwise_ne.1 List.nodup_range)
  have := nodup_length hnd m (fun x hx => by
    rcases List.mem_cons.1 hx with rfl | hx
    · exact hv
    · obtain ⟨i, him, e⟩ := List.mem_map.1 hx
      rw [← e]; exact hr i (List.mem_range.1 him))
  simp at this
  omega

namespace FF
variable {F : FF}
theorem add_el (h : F.ok) {a b : Int} (ha : F.el a) (hb : F.el b) : F.el (F.add a b) := by
  unfold add
  split
  · rename_i hbin
    obtain ⟨k, _, _, hk, _⟩ := h.isB hbin
    exact ⟨xorI_nonneg _ _, by rw [hk]; exact xorI_lt _ _ _ (by rw [← hk]; exact ha.2) (by rw [← hk]; exact hb.2)⟩
  · have := h.lo
    exact ⟨Int.emod_nonneg _ (by omega), Int.emod_lt_of_pos _ (by omega)⟩
theorem neg_el {a : Int} (ha : F.el a) : F.el (F.neg a) := by
  unfold neg
  obtain ⟨h0, h1⟩ := ha
  split
  · exact ⟨h0, h1⟩
  · rename_i hh
    simp at hh
    exact ⟨by omega, by omega⟩
theorem zero_el (h : F.ok) : F.el 0 := ⟨by omega, by have := h.lo; omega⟩
theorem one_el (h : F.ok) : F.el 1 := ⟨by omega, by have := h.lo; omega⟩
theorem add_comm' (a b : Int) : F.add a b = F.add b a := by
  unfold add; split
  · exact xorI_comm _ _
  · rw [Int.add_comm]
theorem add_assoc' (a b c : Int) : F.add (F.add a b) c = F.add a (F.add b c) := by
  unfold add; split
  · exact xorI_assoc _ _ _
  · rw [Int.emod_add_emod, Int.add_emod_emod, Int.add_assoc]
theorem add_zero' {a : Int} (ha : F.el a) : F.add a 0 = a := by
  unfold add; split
  · exact xorI_zero _ ha.1
  · rw [Int.add_zero, Int.emod_eq_of_lt ha.1 ha.2]
theorem neg_add' {a : Int} (ha : F.el a) : F.add (F.neg a) a = 0 := by
  unfold add neg
  obtain ⟨h0, h1⟩ := ha
  by_cases hb : F.bin = true
  · rw [if_pos hb, if_pos (by simp [hb])]; exact xorI_self _
  · rw [if_neg hb]
    by_cases h : a = 0
    · subst h; rw [if_pos (by simp)]; simp
    · rw [if_neg (by simp [hb, h])]; rw [Int.sub_add_cancel]; simp
theorem times_el (h : F.ok) {a : Int} (ha : F.el a) : F.el (F.times a) := by
  unfold times
  split
  · rename_i hb
    obtain ⟨k, _, _, hk, h1, h2⟩ := h.isB hb
    have := timesB_range k F.gen a (by rw [← hk]; exact h1) (by rw [← hk]; exact h2) ha.1 (by rw [← hk]; exact ha.2)
    rw [← hk] at this
    exact this
  · have := h.lo
    exact ⟨Int.emod_nonneg _ (by omega), Int.emod_lt_of_pos _ (by omega)⟩
theorem times_add (h : F.ok) {a b : Int} (ha : F.el a) (hb : F.el b) : F.times (F.add a b) = F.add (F.times a) (F.times b) := by
  unfold times add
  by_cases hbin : F.bin = true
  · rw [if_pos hbin, if_pos hbin, if_pos hbin]
    obtain ⟨k, _, _, hk, h1, h2⟩ := h.isB hbin
    have := timesB_add k F.gen a b ha.1 (by rw [← hk]; exact ha.2) hb.1 (by rw [← hk]; exact hb.2)
    rw [← hk] at this
    exact this
  · rw [if_neg hbin, if_neg hbin, if_neg hbin]; exact timesP_add _ _ _ _
theorem times_zero (h : F.ok) : F.times 0 = 0 := by
  unfold times
  have := h.lo
  split
  · unfold timesB; rw [if_neg (by omega)]; rfl
  · unfold timesP; simp
theorem N_pos (h : F.ok) : 2 ≤ F.N := by unfold N; have := h.lo; omega
theorem N_size (h : F.ok) : ((F.N : Nat) : Int) = F.size - 1 := by unfold N; have := h.lo; omega
theorem exp_el (h : F.ok) (n : Nat) : F.el (F.exp n) := by
  unfold exp
  induction n with
  | zero => exact one_el h
  | succ n ih => exact times_el h ih
theorem exp_succ (n : Nat) : F.exp (n + 1) = F.times (F.exp n) := rfl
theorem exp_add_N (h : F.ok) (n : Nat) : F.exp (n + F.N) = F.exp n := by
  induction n with
  | zero => rw [Nat.zero_add]; exact h.good.2
  | succ n ih => rw [Nat.add_right_comm, exp_succ, ih, exp_succ]
theorem exp_mod (h : F.ok) (n : Nat) : F.exp (n % F.N) = F.exp n := by
  have : ∀ q r, F.exp (r + F.N * q) = F.exp r := by
    intro q
    induction q with
    | zero => intro r; simp
    | succ q ih => intro r; rw [Nat.mul_succ, ← Nat.add_assoc, exp_add_N h, ih]
  rw [← this (n / F.N) (n % F.N), Nat.mod_add_div]
theorem exp_ne_zero (h : F.ok) (n : Nat) : F.exp n ≠ 0 := by
  rw [← exp_mod h]
  exact (h.good.1 _ (Nat.mod_lt _ (by have := N_pos h; omega))).1
theorem exp_add_eq (i j m : Nat) (e : F.exp i = F.exp j) : F.exp (i + m) = F.exp (j + m) := by
  induction m with
  | zero => exact e
  | succ m ih => rw [← Nat.add_assoc, ← Nat.add_assoc, exp_succ, exp_succ, ih]
theorem exp_inj_lt (h : F.ok) (i j : Nat) (hij : i < j) (hj : j < F.N) : F.exp i ≠ F.exp j := by
  intro e
  have e' := exp_add_eq i j (F.N - j) e
  rw [Nat.add_sub_cancel' (by omega)] at e'
  have h1 : F.exp F.N = 1 := h.good.2
  rw [h1] at e'
  exact (h.good.1 (i + (F.N - j)) (by omega)).2 (by omega) e'
theorem exp_inj (h : F.ok) (i j : Nat) (hi : i < F.N) (hj : j < F.N) (e : F.exp i = F.exp j) : i = j := by
  rcases Nat.lt_trichotomy i j with hl | hl | hl
  · exact absurd e (exp_inj_lt h i j hl hj)
  · exact hl
  · exact absurd e.symm (exp_inj_lt h j i hl hi)
theorem exp_onto (h : F.ok) {a : Int} (ha : F.el a) (h0 : a ≠ 0) : ∃ n, n < F.N ∧ F.exp n = a := by
  have hN := N_size h
  have hr : ∀ i, 1 ≤ F.exp i ∧ F.exp i ≤ F.N := fun i => by
    have := exp_el h i
    have h0 := exp_ne_zero h i
    obtain ⟨h1, h2⟩ := this
    omega
  obtain ⟨h1, h2⟩ := ha
  obtain ⟨i, hi, e⟩ := onto_of_inj (fun i => (F.exp i - 1).toNat) F.N (fun i hi => by have := hr i; omega)
    (fun i j hi hj e => exp_inj h i j hi hj (by have := hr i; have := hr j; omega)) (a - 1).toNat (by omega)
  exact ⟨i, hi, by have := hr i; omega⟩
theorem logTo_spec (h : F.ok) (a : Int) (n : Nat) (hn : n < F.N) (e : F.exp n = a) : ∀ k s, s ≤ n → n < s + k → F.logTo a k s = n := by
  intro k
  induction k with
  | zero => intro s h1 h2; omega
  | succ k ih =>
    intro s h1 h2
    unfold logTo
    by_cases hs : F.exp s = a
    · rw [if_pos hs]; exact exp_inj h s n (by omega) hn (by rw [hs, e])
    · rw [if_neg hs]; exact ih (s + 1) (by
        have : s ≠ n := fun x => hs (by rw [x, e])
        omega) (by omega)
theorem log_exp (h : F.ok) (n : Nat) (hn : n < F.N) : F.log (F.exp n) = n := logTo_spec h _ n hn rfl _ 0 (by omega) (by omega)
theorem mul_exp (h : F.ok) (i j : Nat) : F.mul (F.exp i) (F.exp j) = F.exp (i + j) := by
  unfold mul
  rw [if_neg (by simp [exp_ne_zero h]), ← exp_mod h i, ← exp_mod h j]
  have hN := N_pos h
  rw [log_exp h _ (Nat.mod_lt _ (by omega)), log_exp h _ (Nat.mod_lt _ (by omega)), ← Nat.add_mod, exp_mod h]
theorem mul_el (h : F.ok) (a b : Int) : F.el (F.mul a b) := by
  unfold mul; split
  · exact zero_el h
  · exact exp_el h _
theorem mul_comm' (a b : Int) : F.mul a b = F.mul b a := by
  unfold mul
  by_cases ha : a = 0
  · simp [ha]
  · by_cases hb : b = 0
    · simp [hb]
    · simp [ha, hb, Nat.add_comm]
theorem zero_mul' (a : Int) : F.mul 0 a = 0 := by unfold mul; simp
theorem mul_zero' (a : Int) : F.mul a 0 = 0 := by unfold mul; simp
/-- A product by a power of the generator: repeated multiplication by the generator. -/
def iter (F : FF) (x : Int) : Nat → Int
  | 0 => x
  | n + 1 => F.times (iter F x n)
theorem iter_el (h : F.ok) {x : Int} (hx : F.el x) (n : Nat) : F.el (F.iter x n) := by
  induction n with
  | zero => exact hx
  | succ n ih => exact times_el h ih
theorem iter_exp (j n : Nat) : F.iter (F.exp j) n = F.exp (j + n) := by
  induction n with
  | zero => rfl
  | succ n ih => show F.times _ = _; rw [ih]; rfl
theorem iter_zero (h : F.ok) (n : Nat) : F.iter 0 n = 0 := by
  induction n with
  | zero => rfl
  | succ n ih => show F.times _ = _; rw [ih, times_zero h]
theorem iter_add (h : F.ok) {x y : Int} (hx : F.el x) (hy : F.el y) (n : Nat) : F.iter (F.add x y) n = F.add (F.iter x n) (F.iter y n) := by
  induction n with
  | zero => rfl
  | succ n ih => show F.times _ = F.add (F.times _) (F.times _); rw [ih, times_add h (iter_el h hx n) (iter_el h hy n)]
theorem mul_iter (h : F.ok) {x : Int} (hx : F.el x) (n : Nat) : F.mul (F.exp n) x = F.iter x n := by
  by_cases h0 : x = 0
  · subst h0; rw [mul_zero', iter_zero h]
  · obtain ⟨j, hj, rfl⟩ := exp_onto h hx h0
    rw [mul_exp h, iter_exp, Nat.add_comm]
theorem mul_add' (h : F.ok) {a b c : Int} (ha : F.el a) (hb : F.el b) (hc : F.el c) : F.mul a (F.add b c) = F.add (F.mul a b) (F.mul a c) := by
  by_cases h0 : a = 0
  · subst h0; rw [zero_mul', zero_mul', zero_mul', add_zero' (zero_el h)]
  · obtain ⟨i, hi, rfl⟩ := exp_onto h ha h0
    rw [mul_iter h (add_el h hb hc), mul_iter h hb, mul_iter h hc, iter_add h hb hc]
theorem mul_assoc' (h : F.ok) {a b c : Int} (ha : F.el a) (hb : F.el b) (hc : F.el c) : F.mul (F.mul a b) c = F.mul a (F.mul b c) := by
  by_cases h0 : a = 0
  · subst h0; simp only [zero_mul']
  · by_cases h1 : b = 0
    · subst h1; simp only [zero_mul', mul_zero']
    · by_cases h2 : c = 0
      · subst h2; simp only [mul_zero']
      · obtain ⟨i, _, rfl⟩ := exp_onto h ha h0
        obtain ⟨j, _, rfl⟩ := exp_onto h hb h1
        obtain ⟨k, _, rfl⟩ := exp_onto h hc h2
        rw [mul_exp h, mul_exp h, mul_exp h, mul_exp h, Nat.add_assoc]
theorem exp_zero : F.exp 0 = 1 := rfl
theorem mul_one' (h : F.ok) {a : Int} (ha : F.el a) : F.mul a 1 = a := by
  rw [mul_comm', ← exp_zero (F := F), mul_iter h ha]; rfl
theorem inv_el (h : F.ok) (a : Int) : F.el (F.inv a) := exp_el h _
theorem mul_inv' (h : F.ok) {a : Int} (ha : F.el a) (h0 : a ≠ 0) : F.mul a (F.inv a) = 1 := by
  obtain ⟨n, hn, rfl⟩ := exp_onto h ha h0
  unfold inv
  rw [log_exp h n hn, exp_mod h, mul_exp h, Nat.add_sub_cancel' (by omega)]
  exact h.good.2
end FF
end Go.Proofs.YtdcmebegnekkcaaGreat
/-
  The reference's way to multiply (without carry, then reduced) is the field's product; powers by squaring. Plain mathematics.
-/
namespace Go.Proofs.YtdcmebegnekkcaaGreat

/-- The product without carry, by the lowest k bits of b. -/
def clmulTo (a b : Nat) : Nat → Nat
  | 0 => 0
  | k + 1 => if b.testBit k then clmulTo a b k ^^^ (a * 2 ^ k) else clmulTo a b k
def redStep (poly P j x : Nat) : Nat := if x.testBit (P + j) then x ^^^ (poly * 2 ^ j) else x
/-- Reduction of the bits P + j - 1 down to P. -/
def red (poly P : Nat) : Nat → Nat → Nat
  | 0, x => x
  | j + 1, x => red poly P j (redStep poly P j x)

theorem xor_cancel_mid (a b c : Nat) : (a ^^^ c) ^^^ (b ^^^ c) = a ^^^ b := by
  apply Nat.eq_of_testBit_eq; intro i
  simp only [Nat.testBit_xor]
  cases a.testBit i <;> cases b.testBit i <;> cases c.testBit i <;> rfl
theorem redStep_xor (poly P j x y : Nat) : redStep poly P j (x ^^^ y) = redStep poly P j x ^^^ redStep poly P j y := by
  unfold redStep
  rw [Nat.testBit_xor]
  cases hx : x.testBit (P + j) <;> cases hy : y.testBit (P + j)
  · simp
  · simp [Nat.xor_assoc]
  · simp only [Bool.xor_false, if_true, Bool.false_eq_true, if_false]
    rw [Nat.xor_assoc, Nat.xor_assoc, Nat.xor_comm y]
  · simp only [Bool.xor_true, Bool.not_true, Bool.false_eq_true, if_false, if_true]
    exact (xor_cancel_mid _ _ _).symm
theorem red_xor (poly P j : Nat) : ∀ x y, red poly P j (x ^^^ y) = red poly P j x ^^^ red poly P j y := by
  induction j with
  | zero => intro x y; rfl
  | succ j ih => intro x y; simp only [red]; rw [redStep_xor, ih]
theorem redStep_low (poly P j x : Nat) (h : x < 2 ^ (P + j)) : redStep poly P j x = x := by
  unfold redStep; rw [if_neg (by rw [Nat.testBit_lt_two_pow h]; simp)]
theorem red_low (poly P i : Nat) : ∀ j x, x < 2 ^ (P + i) → i ≤ j → red poly P j x = red poly P i x := by
  intro j
  induction j with
  | zero => intro x _ h; have : i = 0 := by omega
            subst this; rfl
  | succ j ih =>
    intro x hx h
    by_cases e : i = j + 1
    · subst e; rfl
    · simp only [red]
      rw [redStep_low _ _ _ _ (Nat.lt_of_lt_of_le hx (Nat.pow_le_pow_right (by omega) (by omega)))]
      exact ih x hx (by omega)
theorem redStep_two (poly P j x : Nat) : redStep poly P (j + 1) (2 * x) = 2 * redStep poly P j x := by
  unfold redStep
  have h1 : (2 * x).testBit (P + (j + 1)) = x.testBit (P + j) := by
    rw [← Nat.add_assoc, Nat.testBit_succ]; congr 1; omega
  rw [h1]
  split
  · rw [← xor_two_mul, Nat.pow_succ]; congr 1; rw [Nat.mul_comm 2, Nat.mul_assoc]
  · rfl
theorem redStep_lt (poly P j x : Nat) (hp : 2 ^ P ≤ poly) (hp2 : poly < 2 ^ (P + 1)) (hx : x < 2 ^ (P + (j + 1))) : redStep poly P j x < 2 ^ (P + j) := by
  unfold redStep
  have e1 : 2 ^ (P + (j + 1)) = 2 ^ (P + j + 1) := rfl
  have e2 : (2 : Nat) ^ (P + j + 1) = 2 * 2 ^ (P + j) := by rw [Nat.pow_succ]; omega
  have e3 : (2 : Nat) ^ (P + j) = 2 ^ P * 2 ^ j := Nat.pow_add _ _ _
  have e4 : (2 : Nat) ^ (P + 1) = 2 * 2 ^ P := by rw [Nat.pow_succ]; omega
  have hb1 : poly * 2 ^ j < 2 ^ (P + j + 1) := by
    rw [e2, e3, ← Nat.mul_assoc, ← e4]; exact Nat.mul_lt_mul_of_pos_right hp2 (Nat.two_pow_pos j)
  have hb2 : 2 ^ (P + j) ≤ poly * 2 ^ j := by rw [e3]; exact Nat.mul_le_mul_right _ hp
  split
  · rename_i h
    have hx2 := Nat.ge_two_pow_of_testBit h
    have := xor_top x (poly * 2 ^ j) (P + j) hx hb1
    apply Nat.lt_of_not_le
    rw [this]
    simp [hx2, hb2]
  · rename_i h
    apply Nat.lt_of_not_le
    intro hle
    apply h
    rw [Nat.testBit_eq_decide_div_mod_eq]
    have h0 : 0 < 2 ^ (P + j) := Nat.two_pow_pos _
    have : x / 2 ^ (P + j) = 1 := by
      have h1 : 1 ≤ x / 2 ^ (P + j) := (Nat.le_div_iff_mul_le h0).2 (by omega)
      have h2 : x / 2 ^ (P + j) < 2 := (Nat.div_lt_iff_lt_mul h0).2 (by omega)
      omega
    rw [this]; rfl
theorem red_two (poly P : Nat) (hp : 2 ^ P ≤ poly) (hp2 : poly < 2 ^ (P + 1)) : ∀ j x, x < 2 ^ (P + j) →
    red poly P (j + 1) (2 * x) < 2 ^ P ∧ ((red poly P (j + 1) (2 * x) : Nat) : Int) = timesB ((2 ^ P : Nat) : Int) poly (red poly P j x : Nat) := by
  intro j
  induction j with
  | zero =>
    intro x hx
    have hx' : x < 2 ^ P := hx
    clear hx
    have e4 : (2 : Nat) ^ (P + 1) = 2 * 2 ^ P := by rw [Nat.pow_succ]; omega
    have hx2 : 2 * x < 2 ^ (P + 1) := by omega
    have hlt : red poly P 1 (2 * x) < 2 ^ P := redStep_lt poly P 0 (2 * x) hp hp2 hx2
    refine ⟨hlt, ?_⟩
    show ((redStep poly P 0 (2 * x) : Nat) : Int) = timesB _ _ (x : Int)
    unfold redStep timesB
    by_cases h : (2 * x).testBit (P + 0) = true
    · have : 2 ^ P ≤ 2 * x := Nat.ge_two_pow_of_testBit h
      rw [if_pos h, if_pos (by omega)]
      unfold xorI
      simp only [Nat.pow_zero, Nat.mul_one]
      congr 2
    · rw [if_neg h]
      have hn : ¬ (2 ^ P ≤ 2 * x) := by
        intro hle
        apply h
        show (2 * x).testBit P = true
        rw [Nat.testBit_eq_decide_div_mod_eq]
        have h0 : 0 < 2 ^ P := Nat.two_pow_pos _
        have : 2 * x / 2 ^ P = 1 := by
          have h1 : 1 ≤ 2 * x / 2 ^ P := (Nat.le_div_iff_mul_le h0).2 (by omega)
          have h2 : 2 * x / 2 ^ P < 2 := (Nat.div_lt_iff_lt_mul h0).2 (by omega)
          omega
        rw [this]; rfl
      rw [if_neg (by omega)]; omega
  | succ j ih =>
    intro x hx
    have hs := redStep_lt poly P j x hp hp2 hx
    have := ih _ hs
    show red poly P (j + 1) (redStep poly P (j + 1) (2 * x)) < _ ∧ ((red poly P (j + 1) (redStep poly P (j + 1) (2 * x)) : Nat) : Int) = timesB _ _ (red poly P j (redStep poly P j x) : Nat)
    rw [redStep_two]
    exact this
/-- The reduced product by a power of two. -/
theorem red_shift (poly P : Nat) (hp : 2 ^ P ≤ poly) (hp2 : poly < 2 ^ (P + 1)) (F : FF) (hb : F.bin = true) (hs : F.size = ((2 ^ P : Nat) : Int)) (hg : F.gen = poly) (a : Nat) (ha : a < 2 ^ P) :
    ∀ k, ((red poly P k (a * 2 ^ k) : Nat) : Int) = F.iter a k ∧ a * 2 ^ k < 2 ^ (P + k) := by
  intro k
  induction k with
  | zero => exact ⟨by show ((a * 1 : Nat) : Int) = _; rw [Nat.mul_one]; rfl, by simpa using ha⟩
  | succ k ih =>
    obtain ⟨h1, h2⟩ := ih
    have e : a * 2 ^ (k + 1) = 2 * (a * 2 ^ k) := by rw [Nat.pow_succ, ← Nat.mul_assoc, Nat.mul_comm]
    have := red_two poly P hp hp2 k (a * 2 ^ k) h2
    rw [e]
    refine ⟨?_, ?_⟩
    · rw [this.2, h1]
      show _ = F.times _
      unfold FF.times
      rw [if_pos hb, hs, hg]
    · rw [← Nat.add_assoc, Nat.pow_succ]; omega

/-- The binary product as the reference computes it. -/
def specMulB (P poly a b : Nat) : Nat := red poly P (P + 1) (clmulTo a b P)

theorem clmul_red (F : FF) (h : F.ok) (poly P : Nat) (hp : 2 ^ P ≤ poly) (hp2 : poly < 2 ^ (P + 1)) (hb : F.bin = true) (hs : F.size = ((2 ^ P : Nat) : Int)) (hg : F.gen = poly) (a b : Nat) (ha : a < 2 ^ P) :
    ∀ k, k ≤ P → ((red poly P (P + 1) (clmulTo a b k) : Nat) : Int) = F.mul ((b % 2 ^ k : Nat) : Int) a := by
  have hel : ∀ n : Nat, n < 2 ^ P → F.el (n : Int) := fun n hn => ⟨by omega, by rw [hs]; omega⟩
  have hexp : ∀ k, k < P → F.exp k = ((2 ^ k : Nat) : Int) := by
    intro k
    induction k with
    | zero => intro _; rfl
    | succ k ih =>
      intro hk
      rw [FF.exp_succ, ih (by omega)]
      unfold FF.times timesB
      have hlt : 2 ^ (k + 1) < 2 ^ P := Nat.pow_lt_pow_right (by omega) hk
      have e : 2 ^ (k + 1) = 2 * 2 ^ k := by rw [Nat.pow_succ]; omega
      rw [if_pos hb, hs, if_neg (by omega)]; omega
  intro k
  induction k with
  | zero =>
    intro _
    have : red poly P (P + 1) 0 = 0 := red_low poly P 0 (P + 1) 0 (Nat.two_pow_pos _) (by omega)
    show ((red poly P (P + 1) 0 : Nat) : Int) = _
    rw [this, Nat.pow_zero, Nat.mod_one]
    exact (FF.zero_mul' _).symm
  | succ k ih =>
    intro hk
    have ih' := ih (by omega)
    have hmod : b % 2 ^ (k + 1) = (b % 2 ^ k) ^^^ (if b.testBit k then 2 ^ k else 0) := by
      apply Nat.eq_of_testBit_eq
      intro i
      rw [Nat.testBit_xor, Nat.testBit_mod_two_pow, Nat.testBit_mod_two_pow]
      have : (if b.testBit k then 2 ^ k else 0).testBit i = (decide (i = k) && b.testBit k) := by
        split
        · rename_i hbk; rw [Nat.testBit_two_pow]; simp [hbk, eq_comm]
        · rename_i hbk; simp [hbk]
      rw [this]
      rcases Nat.lt_trichotomy i k with hl | hl | hl
      · simp [hl, Nat.lt_succ_of_lt hl, Nat.ne_of_lt hl]
      · subst hl; simp
      · simp [Nat.not_lt.2 (Nat.le_of_lt hl), Nat.not_lt.2 hl, Nat.ne_of_gt hl]
    have hmk : b % 2 ^ k < 2 ^ P := Nat.lt_of_lt_of_le (Nat.mod_lt _ (Nat.two_pow_pos _)) (Nat.pow_le_pow_right (by omega) (by omega))
    simp only [clmulTo]
    split
    · rename_i hbk
      rw [hmod, if_pos hbk, red_xor]
      obtain ⟨h1, h2⟩ := red_shift poly P hp hp2 F hb hs hg a ha k
      rw [red_low poly P k (P + 1) (a * 2 ^ k) h2 (by omega)]
      have e : (((b % 2 ^ k) ^^^ 2 ^ k : Nat) : Int) = F.add ((b % 2 ^ k : Nat) : Int) ((2 ^ k : Nat) : Int) := by
        unfold FF.add; rw [if_pos hb]; unfold xorI; simp only [Int.toNat_natCast]
      have e2 : ((red poly P (P + 1) (clmulTo a b k) ^^^ red poly P k (a * 2 ^ k) : Nat) : Int) = F.add (red poly P (P + 1) (clmulTo a b k) : Nat) (red poly P k (a * 2 ^ k) : Nat) := by
        unfold FF.add; rw [if_pos hb]; unfold xorI; simp only [Int.toNat_natCast]
      have hkk : 2 ^ k < 2 ^ P := Nat.pow_lt_pow_right (by omega) (by omega)
      rw [e, e2, ih', h1, FF.mul_comm' (F.add _ _), FF.mul_add' h (hel _ ha) (hel _ hmk) (hel _ hkk), FF.mul_comm' a, FF.mul_comm' a, ← hexp k (by omega), FF.mul_iter h (hel _ ha)]
    · rename_i hbk
      rw [hmod, if_neg hbk, Nat.xor_zero]
      exact ih'
theorem specMulB_eq (F : FF) (h : F.ok) (poly P : Nat) (hp : 2 ^ P ≤ poly) (hp2 : poly < 2 ^ (P + 1)) (hb : F.bin = true) (hs : F.size = ((2 ^ P : Nat) : Int)) (hg : F.gen = poly) (a b : Nat) (ha : a < 2 ^ P) (hbb : b < 2 ^ P) :
    ((specMulB P poly a b : Nat) : Int) = F.mul a b := by
  unfold specMulB
  rw [clmul_red F h poly P hp hp2 hb hs hg a b ha P (by omega), Nat.mod_eq_of_lt hbb, FF.mul_comm']
/-- The product of a field of prime size. -/
theorem mulP_eq (F : FF) (h : F.ok) (hb : F.bin = false) (a b : Int) (ha : F.el a) (hbb : F.el b) : a * b % F.size = F.mul a b := by
  have hlo := h.lo
  have hit : ∀ n, F.iter b n = F.exp n * b % F.size := by
    intro n
    induction n with
    | zero => show b = 1 * b % _; rw [Int.one_mul, Int.emod_eq_of_lt hbb.1 hbb.2]
    | succ n ih =>
      show F.times _ = F.times (F.exp n) * b % _
      unfold FF.times
      rw [if_neg (by simp [hb]), ih]
      unfold timesP
      rw [Int.mul_emod, Int.emod_emod, ← Int.mul_emod, Int.mul_emod (F.exp n * F.gen % F.size), Int.emod_emod, ← Int.mul_emod, Int.mul_assoc, Int.mul_assoc, Int.mul_comm b]
  by_cases h0 : a = 0
  · subst h0; rw [FF.zero_mul']; simp
  · obtain ⟨n, hn, rfl⟩ := FF.exp_onto h ha h0
    rw [FF.mul_iter h hbb, hit]
namespace FF
variable {F : FF}
/-- Powers. -/
def pow (F : FF) (a : Int) : Nat → Int
  | 0 => 1
  | n + 1 => F.mul (pow F a n) a
theorem pow_el (h : F.ok) (a : Int) (n : Nat) : F.el (F.pow a n) := by
  cases n with
  | zero => exact one_el h
  | succ n => exact mul_el h _ _
end FF
end Go.Proofs.YtdcmebegnekkcaaGreat
/-
  Polynomials as power series that end: values, roots, division. Over any field. Plain mathematics.
-/
namespace Go.Proofs.YtdcmebegnekkcaaGreat

/-- Every element but 0 has an inverse. -/
class Fld (K : Type) [CR K] : Prop where
  one_ne : (1 : K) ≠ 0
  inv : ∀ a : K, a ≠ 0 → ∃ b : K, a * b = 1

section
variable {K : Type} [CR K]
theorem mul_eq_zero' [Fld K] {a b : K} (h : a * b = 0) (ha : a ≠ 0) : b = 0 := by
  obtain ⟨c, hc⟩ := Fld.inv a ha
  have : b = (a * c) * b := by rw [hc]; grind
  grind
theorem mul_ne [Fld K] {a b : K} (ha : a ≠ 0) (hb : b ≠ 0) : a * b ≠ 0 := fun h => hb (mul_eq_zero' h ha)
end

namespace PS
section
variable {K : Type} [CR K]
/-- Coefficients from n on are 0. -/
def dlt (f : PS K) (n : Nat) : Prop := ∀ i, n ≤ i → f.c i = 0
def IsPoly (f : PS K) : Prop := ∃ n, f.dlt n
def X : PS K := ⟨fun n => if n = 1 then 1 else 0⟩
def C (a : K) : PS K := ⟨fun n => if n = 0 then a else 0⟩
theorem C_c_zero (a : K) : (C a).c 0 = a := rfl
theorem C_c_succ (a : K) (n : Nat) : (C a).c (n + 1) = 0 := rfl
theorem conv_zero_left (m : Nat) : ∀ z g : PS K, (∀ k, z.c k = 0) → conv z g m = 0 := by
  induction m with
  | zero => intro z g hz; simp only [conv, hz]; grind
  | succ m ih => intro z g hz; simp only [conv, hz]; rw [ih _ _ (fun k => hz (k + 1))]; grind
theorem C_mul_c (a : K) (f : PS K) (n : Nat) : (C a * f).c n = a * f.c n := by
  rw [mul_c]
  cases n with
  | zero => simp only [conv]; rfl
  | succ n => simp only [conv]; rw [conv_zero_left _ _ _ (fun k => rfl), C_c_zero]; grind
theorem X_mul_c_zero (f : PS K) : (X * f).c 0 = 0 := by
  rw [mul_c]; simp only [conv]; show (0 : K) * _ = 0; grind
theorem X_mul_c_succ (f : PS K) (n : Nat) : (X * f).c (n + 1) = f.c n := by
  rw [mul_c]; simp only [conv]
  have e : tail (X : PS K) = C 1 := by apply ext'; intro m; cases m <;> rfl
  rw [e]
  have := C_mul_c (1 : K) f n
  rw [mul_c] at this
  rw [this]
  show (0 : K) * _ + _ = _
  grind
theorem split0 (f : PS K) : f = C (f.c 0) + X * f.tail := by
  apply ext'; intro n
  rw [add_c]
  cases n with
  | zero => rw [X_mul_c_zero, C_c_zero]; grind
  | succ n => rw [X_mul_c_succ, C_c_succ]; show f.c (n + 1) = 0 + f.c (n + 1); grind
theorem C_zero : C (0 : K) = 0 := by
  apply ext'; intro n; rw [zero_c]; cases n <;> rfl
theorem C_one : C (1 : K) = 1 := by
  apply ext'; intro n; rw [one_c]; cases n <;> rfl
theorem dlt.mono {f : PS K} {n m : Nat} (h : f.dlt n) (hm : n ≤ m) : f.dlt m := fun i hi => h i (by omega)
theorem dlt_zero (n : Nat) : (0 : PS K).dlt n := fun _ _ => rfl
theorem dlt_C (a : K) : (C a).dlt 1 := fun i hi => by
  obtain ⟨j, rfl⟩ : ∃ j, i = j + 1 := ⟨i - 1, by omega⟩
  rfl
theorem dlt_one : (1 : PS K).dlt 1 := by rw [← C_one]; exact dlt_C _
theorem dlt_X : (X : PS K).dlt 2 := fun i hi => by
  show (if i = 1 then (1 : K) else 0) = 0
  rw [if_neg (by omega)]
theorem dlt_add {f g : PS K} {n : Nat} (hf : f.dlt n) (hg : g.dlt n) : (f + g).dlt n := fun i hi => by
  rw [add_c, hf i hi, hg i hi]; grind
theorem dlt_neg {f : PS K} {n : Nat} (hf : f.dlt n) : (-f).dlt n := fun i hi => by
  rw [neg_c, hf i hi]; grind
theorem dlt_sub {f g : PS K} {n : Nat} (hf : f.dlt n) (hg : g.dlt n) : (f - g).dlt n := fun i hi => by
  rw [sub_c, hf i hi, hg i hi]; grind
theorem dlt_tail {f : PS K} {n : Nat} (hf : f.dlt (n + 1)) : f.tail.dlt n := fun i hi => hf (i + 1) (by omega)
theorem eq_zero_of_dlt {f : PS K} (hf : f.dlt 0) : f = 0 := ext' fun n => hf n (by omega)
theorem dlt_C_mul {f : PS K} {n : Nat} (a : K) (hf : f.dlt n) : (C a * f).dlt n := fun i hi => by
  rw [C_mul_c, hf i hi]; grind
theorem dlt_X_mul {f : PS K} {n : Nat} (hf : f.dlt n) : (X * f).dlt (n + 1) := fun i hi => by
  obtain ⟨j, rfl⟩ : ∃ j, i = j + 1 := ⟨i - 1, by omega⟩
  rw [X_mul_c_succ]; exact hf j (by omega)
theorem tail_mul (f g : PS K) : f * g = C (f.c 0) * g + X * (f.tail * g) := by
  have := split0 f
  have h2 : f * g = (C (f.c 0) + X * f.tail) * g := by rw [← this]
  rw [h2]; grind
/-- The degree of a product: n + m - 1 coefficients, and none where one factor has none. -/
theorem dlt_mul {g : PS K} {m : Nat} (hg : g.dlt (m + 1)) : ∀ (n : Nat) (f : PS K), f.dlt (n + 1) → (f * g).dlt (n + m + 1) := by
  intro n
  induction n with
  | zero =>
    intro f hf
    have e : f = C (f.c 0) := by
      apply ext'; intro i
      cases i with
      | zero => rfl
      | succ i => exact hf (i + 1) (by omega)
    rw [e, Nat.zero_add]; exact dlt_C_mul _ hg
  | succ n ih =>
    intro f hf
    rw [tail_mul]
    refine dlt_add ((dlt_C_mul _ hg).mono (by omega)) ?_
    have := dlt_X_mul (ih f.tail (dlt_tail hf))
    exact this.mono (by omega)
theorem dlt_mul' {f g : PS K} {n m : Nat} (hf : f.dlt n) (hg : g.dlt m) : (f * g).dlt (n + m) := by
  cases n with
  | zero => rw [eq_zero_of_dlt hf]; intro i hi; have : (0 : PS K) * g = 0 := by grind
            rw [this]; rfl
  | succ n =>
    cases m with
    | zero => rw [eq_zero_of_dlt hg]; intro i hi; have : f * (0 : PS K) = 0 := by grind
              rw [this]; rfl
    | succ m => exact (dlt_mul hg n f hf).mono (by omega)
/-- The coefficient at the greatest place of a product. -/
theorem mul_top {g : PS K} {m : Nat} (hg : g.dlt (m + 1)) : ∀ (n : Nat) (f : PS K), f.dlt (n + 1) → (f * g).c (n + m) = f.c n * g.c m := by
  intro n
  induction n with
  | zero =>
    intro f hf
    have e : f = C (f.c 0) := by
      apply ext'; intro i
      cases i with
      | zero => rfl
      | succ i => exact hf (i + 1) (by omega)
    have e2 : f * g = C (f.c 0) * g := by rw [← e]
    rw [e2, C_mul_c, Nat.zero_add]
  | succ n ih =>
    intro f hf
    rw [tail_mul, add_c, C_mul_c, hg (n + 1 + m) (by omega)]
    have : n + 1 + m = n + m + 1 := by omega
    rw [this, X_mul_c_succ, ih f.tail (dlt_tail hf)]
    show f.c 0 * 0 + f.c (n + 1) * g.c m = _
    grind
theorem IsPoly.add {f g : PS K} (hf : f.IsPoly) (hg : g.IsPoly) : (f + g).IsPoly := by
  obtain ⟨n, hn⟩ := hf; obtain ⟨m, hm⟩ := hg
  exact ⟨max n m, dlt_add (hn.mono (by omega)) (hm.mono (by omega))⟩
theorem IsPoly.neg {f : PS K} (hf : f.IsPoly) : (-f).IsPoly := by
  obtain ⟨n, hn⟩ := hf; exact ⟨n, dlt_neg hn⟩
theorem IsPoly.sub {f g : PS K} (hf : f.IsPoly) (hg : g.IsPoly) : (f - g).IsPoly := by
  obtain ⟨n, hn⟩ := hf; obtain ⟨m, hm⟩ := hg
  exact ⟨max n m, dlt_sub (hn.mono (by omega)) (hm.mono (by omega))⟩
theorem IsPoly.mul {f g : PS K} (hf : f.IsPoly) (hg : g.IsPoly) : (f * g).IsPoly := by
  obtain ⟨n, hn⟩ := hf; obtain ⟨m, hm⟩ := hg
  exact ⟨n + m, dlt_mul' hn hm⟩
theorem isPoly_C (a : K) : (C a).IsPoly := ⟨1, dlt_C a⟩
theorem isPoly_X : (X : PS K).IsPoly := ⟨2, dlt_X⟩
theorem isPoly_one : (1 : PS K).IsPoly := ⟨1, dlt_one⟩
theorem isPoly_zero : (0 : PS K).IsPoly := ⟨0, dlt_zero 0⟩
theorem IsPoly.tail {f : PS K} (hf : f.IsPoly) : f.tail.IsPoly := by
  obtain ⟨n, hn⟩ := hf; exact ⟨n, dlt_tail (hn.mono (by omega))⟩

/-! ### Values -/
def eval : Nat → PS K → K → K
  | 0, _, _ => 0
  | n + 1, f, a => f.c 0 + a * eval n f.tail a
theorem eval_zero_of (n : Nat) : ∀ (f : PS K) (a : K), (∀ i, f.c i = 0) → eval n f a = 0 := by
  induction n with
  | zero => intro f a _; rfl
  | succ n ih => intro f a h; simp only [eval]; rw [ih _ _ (fun i => h (i + 1)), h]; grind
theorem eval_mono (n : Nat) : ∀ (f : PS K) (a : K) (m : Nat), f.dlt n → n ≤ m → eval m f a = eval n f a := by
  induction n with
  | zero => intro f a m hf _; exact eval_zero_of _ _ _ (fun i => hf i (by omega))
  | succ n ih =>
    intro f a m hf hm
    obtain ⟨k, rfl⟩ : ∃ k, m = k + 1 := ⟨m - 1, by omega⟩
    simp only [eval]
    rw [ih f.tail a k (dlt_tail hf) (by omega)]
open Classical in
/-- The value of a polynomial. -/
noncomputable def ev (f : PS K) (a : K) : K := if h : f.IsPoly then eval (choose h) f a else 0
theorem ev_eq {f : PS K} {n : Nat} (h : f.dlt n) (a : K) : ev f a = eval n f a := by
  have hp : f.IsPoly := ⟨n, h⟩
  unfold ev
  rw [dif_pos hp]
  rcases Nat.le_total n (Classical.choose hp) with hl | hl
  · rw [eval_mono n f a _ h hl]
  · rw [eval_mono _ f a n (Classical.choose_spec hp) hl]
theorem ev_step {f : PS K} (h : f.IsPoly) (a : K) : ev f a = f.c 0 + a * ev f.tail a := by
  obtain ⟨n, hn⟩ := h
  rw [ev_eq (hn.mono (Nat.le_succ n)), ev_eq (dlt_tail (hn.mono (Nat.le_succ n)))]
  rfl
theorem ev_zero (a : K) : ev (0 : PS K) a = 0 := by rw [ev_eq (dlt_zero 0)]; rfl
theorem ev_C (b a : K) : ev (C b) a = b := by
  rw [ev_eq (dlt_C b)]; show b + a * 0 = b; grind
theorem ev_one (a : K) : ev (1 : PS K) a = 1 := by rw [← C_one, ev_C]
theorem eval_add (n : Nat) : ∀ (f g : PS K) (a : K), eval n (f + g) a = eval n f a + eval n g a := by
  induction n with
  | zero => intro f g a; show (0 : K) = 0 + 0; grind
  | succ n ih =>
    intro f g a
    simp only [eval]
    have e : (f + g).tail = f.tail + g.tail := ext' fun i => rfl
    rw [e, ih, add_c]; grind
theorem eval_neg (n : Nat) : ∀ (f : PS K) (a : K), eval n (-f) a = - eval n f a := by
  induction n with
  | zero => intro f a; show (0 : K) = - 0; grind
  | succ n ih =>
    intro f a
    simp only [eval]
    have e : (-f).tail = -f.tail := ext' fun i => rfl
    rw [e, ih, neg_c]; grind
theorem eval_C_mul (n : Nat) : ∀ (b : K) (f : PS K) (a : K), eval n (C b * f) a = b * eval n f a := by
  induction n with
  | zero => intro b f a; show (0 : K) = b * 0; grind
  | succ n ih =>
    intro b f a
    simp only [eval]
    have e : (C b * f).tail = C b * f.tail := ext' fun i => by
      show (C b * f).c (i + 1) = _
      rw [C_mul_c, C_mul_c]; rfl
    rw [e, ih, C_mul_c]; grind
theorem ev_add {f g : PS K} (hf : f.IsPoly) (hg : g.IsPoly) (a : K) : ev (f + g) a = ev f a + ev g a := by
  obtain ⟨n, hn⟩ := hf; obtain ⟨m, hm⟩ := hg
  have h1 := hn.mono (Nat.le_max_left n m)
  have h2 := hm.mono (Nat.le_max_right n m)
  rw [ev_eq (dlt_add h1 h2), ev_eq h1, ev_eq h2, eval_add]
theorem ev_neg {f : PS K} (hf : f.IsPoly) (a : K) : ev (-f) a = - ev f a := by
  obtain ⟨n, hn⟩ := hf
  rw [ev_eq (dlt_neg hn), ev_eq hn, eval_neg]
theorem ev_sub {f g : PS K} (hf : f.IsPoly) (hg : g.IsPoly) (a : K) : ev (f - g) a = ev f a - ev g a := by
  have : f - g = f + -g := by grind
  rw [this, ev_add hf hg.neg, ev_neg hg]; grind
theorem ev_C_mul {f : PS K} (hf : f.IsPoly) (b a : K) : ev (C b * f) a = b * ev f a := by
  obtain ⟨n, hn⟩ := hf
  rw [ev_eq (dlt_C_mul b hn), ev_eq hn, eval_C_mul]
theorem tail_X_mul (f : PS K) : (X * f).tail = f := ext' fun i => X_mul_c_succ f i
theorem ev_X_mul {f : PS K} (hf : f.IsPoly) (a : K) : ev (X * f) a = a * ev f a := by
  rw [ev_step (isPoly_X.mul hf), X_mul_c_zero, tail_X_mul]; grind
theorem ev_X (a : K) : ev (X : PS K) a = a := by
  have : (X : PS K) = X * 1 := by grind
  rw [this, ev_X_mul isPoly_one, ev_one]; grind
theorem ev_mul' {g : PS K} (hg : g.IsPoly) (a : K) : ∀ (n : Nat) (f : PS K), f.dlt n → ev (f * g) a = ev f a * ev g a := by
  intro n
  induction n with
  | zero =>
    intro f hf
    rw [eq_zero_of_dlt hf, ev_zero]
    have : (0 : PS K) * g = 0 := by grind
    rw [this, ev_zero]; grind
  | succ n ih =>
    intro f hf
    have hp : f.tail.IsPoly := ⟨n, dlt_tail hf⟩
    rw [tail_mul, ev_add ((isPoly_C _).mul hg) (isPoly_X.mul (hp.mul hg)), ev_C_mul hg, ev_X_mul (hp.mul hg), ih _ (dlt_tail hf), ev_step ⟨_, hf⟩]
    grind
theorem ev_mul {f g : PS K} (hf : f.IsPoly) (hg : g.IsPoly) (a : K) : ev (f * g) a = ev f a * ev g a := by
  obtain ⟨n, hn⟩ := hf; exact ev_mul' hg a n f hn
/-! ### Roots -/
def tails (f : PS K) : Nat → PS K
  | 0 => f
  | n + 1 => (tails f n).tail
omit [CR K] in
theorem tails_c (f : PS K) (n i : Nat) : (tails f n).c i = f.c (n + i) := by
  induction n generalizing i with
  | zero => simp [tails]
  | succ n ih => show (tails f n).c (i + 1) = _; rw [ih]; congr 1; omega
theorem tails_dlt {f : PS K} {n : Nat} (h : f.dlt n) (k : Nat) : (tails f k).dlt (n - k) := fun i hi => by
  rw [tails_c]; exact h _ (by omega)
/-- The quotient by X - a. -/
noncomputable def quot (f : PS K) (a : K) : PS K := ⟨fun i => ev (tails f (i + 1)) a⟩
theorem quot_dlt {f : PS K} {n : Nat} (h : f.dlt (n + 1)) (a : K) : (quot f a).dlt n := fun i hi => by
  show ev (tails f (i + 1)) a = 0
  rw [ev_eq (tails_dlt h (i + 1))]
  have : n + 1 - (i + 1) = 0 := by omega
  rw [this]; rfl
theorem quot_mul {f : PS K} (h : f.IsPoly) (a : K) : f = (X - C a) * quot f a + C (ev f a) := by
  have e1 : (X - C a) * quot f a + C (ev f a) = X * quot f a - C a * quot f a + C (ev f a) := by grind
  rw [e1]
  obtain ⟨n, hn⟩ := h
  apply ext'; intro i
  have hs : ∀ k, ev (tails f k) a = f.c k + a * ev (tails f (k + 1)) a := fun k => by
    rw [ev_step ⟨_, tails_dlt hn k⟩, tails_c]; rfl
  rw [add_c, sub_c, C_mul_c]
  cases i with
  | zero =>
    rw [X_mul_c_zero, C_c_zero]
    show f.c 0 = 0 - a * ev (tails f 1) a + ev f a
    have := hs 0
    have e : ev f a = ev (tails f 0) a := rfl
    rw [e, this]; grind
  | succ i =>
    rw [X_mul_c_succ, C_c_succ]
    show f.c (i + 1) = ev (tails f (i + 1)) a - a * ev (tails f (i + 1 + 1)) a + 0
    rw [hs (i + 1)]; grind
theorem factor {f : PS K} {n : Nat} (h : f.dlt (n + 1)) {a : K} (ha : ev f a = 0) : ∃ g : PS K, f = (X - C a) * g ∧ g.dlt n := by
  refine ⟨quot f a, ?_, quot_dlt h a⟩
  have := quot_mul ⟨_, h⟩ a
  rw [ha, C_zero] at this
  grind
theorem ev_lin (a b : K) : ev (X - C a) b = b - a := by
  rw [ev_sub isPoly_X (isPoly_C a), ev_X, ev_C]
theorem isPoly_lin (a : K) : (X - C a : PS K).IsPoly := isPoly_X.sub (isPoly_C a)
/-- A polynomial with at least as many roots as coefficients is 0. -/
theorem roots_zero [Fld K] : ∀ (l : List K) (f : PS K) (n : Nat), f.dlt n → l.Nodup → (∀ a ∈ l, ev f a = 0) → n ≤ l.length → f = 0 := by
  intro l
  induction l with
  | nil => intro f n hf _ _ hn; simp at hn; subst hn; exact eq_zero_of_dlt hf
  | cons a l ih =>
    intro f n hf hd hr hn
    cases n with
    | zero => exact eq_zero_of_dlt hf
    | succ n =>
      obtain ⟨g, rfl, hg⟩ := factor hf (hr a (by simp))
      have hd' := List.nodup_cons.1 hd
      have : g = 0 := ih g n hg hd'.2 (fun b hb => by
        have h1 := hr b (by simp [hb])
        rw [ev_mul (isPoly_lin a) ⟨_, hg⟩, ev_lin] at h1
        have hne : b - a ≠ 0 := fun h => by
          have : b = a := by grind
          exact hd'.1 (this ▸ hb)
        exact mul_eq_zero' h1 hne) (by simp at hn; omega)
      rw [this]; grind
/-- Two polynomials that agree at enough places are equal. -/
theorem eq_of_values [Fld K] (l : List K) {f g : PS K} {n : Nat} (hf : f.dlt n) (hg : g.dlt n) (hd : l.Nodup) (hv : ∀ a ∈ l, ev f a = ev g a) (hn : n ≤ l.length) : f = g := by
  have : f - g = 0 := roots_zero l (f - g) n (dlt_sub hf hg) hd (fun a ha => by
    rw [ev_sub ⟨_, hf⟩ ⟨_, hg⟩, hv a ha]; grind) hn
  grind
/-- No product of two polynomials that are not 0 is 0; by degrees. -/
theorem exists_top {f : PS K} (hp : f.IsPoly) (h : f ≠ 0) : ∃ n, f.dlt (n + 1) ∧ f.c n ≠ 0 := by
  obtain ⟨n, hn⟩ := hp
  induction n with
  | zero => exact absurd (eq_zero_of_dlt hn) h
  | succ n ih =>
    by_cases e : f.c n = 0
    · exact ih (fun i hi => by
        by_cases hi' : i = n
        · rw [hi', e]
        · exact hn i (by omega))
    · exact ⟨n, hn, e⟩
/-- Quotient and remainder are unique. -/
theorem div_unique [Fld K] {q q' d r r' : PS K} {m : Nat} (hd : d.dlt (m + 1)) (hm : d.c m ≠ 0) (hq : q.IsPoly) (hq' : q'.IsPoly) (hr : r.dlt m) (hr' : r'.dlt m) (h : q * d + r = q' * d + r') : q = q' ∧ r = r' := by
  have e : (q - q') * d = r' - r := by grind
  have hz : q - q' = 0 := by
    apply Classical.byContradiction
    intro hne
    obtain ⟨n, hn, hn0⟩ := exists_top (hq.sub hq') hne
    have h1 := mul_top hd n _ hn
    rw [e, dlt_sub hr' hr (n + m) (by omega)] at h1
    exact mul_ne hn0 hm h1.symm
  have h1 : q = q' := by grind
  refine ⟨h1, ?_⟩
  subst h1
  grind
end
end PS
end Go.Proofs.YtdcmebegnekkcaaGreat
/-
  Lists of numbers as polynomials over one of the program's fields. Plain mathematics.
-/
namespace Go.Proofs.YtdcmebegnekkcaaGreat

/-- A valid field. -/
structure VF where
  F : FF
  ok : F.ok
/-- Its elements. -/
structure El (V : VF) where
  val : Int
  el : V.F.el val
theorem El.ext' {V : VF} {a b : El V} (h : a.val = b.val) : a = b := by cases a; cases b; cases h; rfl
namespace VF
variable (V : VF)
def core : RingCore (El V) where
  zero := ⟨0, FF.zero_el V.ok⟩
  one := ⟨1, FF.one_el V.ok⟩
  add a b := ⟨V.F.add a.val b.val, FF.add_el V.ok a.el b.el⟩
  mul a b := ⟨V.F.mul a.val b.val, FF.mul_el V.ok _ _⟩
  neg a := ⟨V.F.neg a.val, FF.neg_el a.el⟩
  add_zero a := El.ext' (FF.add_zero' a.el)
  add_comm _ _ := El.ext' (FF.add_comm' _ _)
  add_assoc _ _ _ := El.ext' (FF.add_assoc' _ _ _)
  neg_add a := El.ext' (FF.neg_add' a.el)
  mul_comm _ _ := El.ext' (FF.mul_comm' _ _)
  mul_assoc a b c := El.ext' (FF.mul_assoc' V.ok a.el b.el c.el)
  mul_one a := El.ext' (FF.mul_one' V.ok a.el)
  left_distrib a b c := El.ext' (FF.mul_add' V.ok a.el b.el c.el)
instance : CR (El V) := (core V).toCR
theorem zero_val : (0 : El V).val = 0 := rfl
theorem one_val : (1 : El V).val = 1 := by
  have : (1 : El V) = (0 : El V) + (core V).one := rfl
  rw [this]
  have e : (0 : El V) + (core V).one = (core V).one := by grind
  rw [e]; rfl
theorem add_val (a b : El V) : (a + b).val = V.F.add a.val b.val := rfl
theorem mul_val (a b : El V) : (a * b).val = V.F.mul a.val b.val := rfl
instance : Fld (El V) where
  one_ne h := by
    have : (1 : El V).val = (0 : El V).val := by rw [h]
    rw [one_val, zero_val] at this; omega
  inv a ha := by
    refine ⟨⟨V.F.inv a.val, FF.inv_el V.ok _⟩, El.ext' ?_⟩
    have h0 : a.val ≠ 0 := fun h => ha (El.ext' (by rw [h, zero_val]))
    rw [mul_val, one_val]
    exact FF.mul_inv' V.ok a.el h0
open Classical in
/-- A number as an element. -/
noncomputable def of (a : Int) : El V := if h : V.F.el a then ⟨a, h⟩ else 0
variable {V}
theorem of_val {a : Int} (h : V.F.el a) : (of V a).val = a := by unfold of; rw [dif_pos h]
theorem val_of (a : El V) : of V a.val = a := El.ext' (of_val a.el)
theorem of_inj {a b : Int} (ha : V.F.el a) (hb : V.F.el b) (h : of V a = of V b) : a = b := by
  rw [← of_val ha, ← of_val hb, h]
theorem of_zero : of V 0 = 0 := El.ext' (by rw [of_val (FF.zero_el V.ok)]; rfl)
theorem of_one : of V 1 = 1 := El.ext' (by rw [of_val (FF.one_el V.ok), one_val])
theorem of_add {a b : Int} (ha : V.F.el a) (hb : V.F.el b) : of V (V.F.add a b) = of V a + of V b :=
  El.ext' (by rw [of_val (FF.add_el V.ok ha hb), add_val, of_val ha, of_val hb])
theorem of_mul {a b : Int} (ha : V.F.el a) (hb : V.F.el b) : of V (V.F.mul a b) = of V a * of V b :=
  El.ext' (by rw [of_val (FF.mul_el V.ok a b), mul_val, of_val ha, of_val hb])
theorem of_eq_zero {a : Int} (ha : V.F.el a) : of V a = 0 ↔ a = 0 :=
  ⟨fun h => of_inj ha (FF.zero_el V.ok) (h.trans of_zero.symm), fun h => by rw [h, of_zero]⟩
theorem of_pow {a : Int} (ha : V.F.el a) (n : Nat) : of V (V.F.pow a n) = of V a ^ n := by
  induction n with
  | zero => show of V 1 = _; rw [of_one]; grind
  | succ n ih => show of V (V.F.mul _ _) = _; rw [of_mul (FF.pow_el V.ok a n) ha, ih]; grind
/-- Powers of X. -/
abbrev xp (V : VF) (n : Nat) : PS (El V) := (PS.X : PS (El V)) ^ n
/-- All numbers of a list are elements. -/
def els (V : VF) (l : List Int) : Prop := ∀ z ∈ l, V.F.el z
/-- A list as a polynomial. -/
noncomputable def ps (V : VF) (l : List Int) : PS (El V) := ⟨fun n => of V (l.getD n 0)⟩
theorem els.getD {l : List Int} (h : els V l) (n : Nat) : V.F.el (l.getD n 0) := by
  rw [List.getD_eq_getElem?_getD]
  by_cases hn : n < l.length
  · rw [List.getElem?_eq_getElem hn]; exact h _ (List.getElem_mem hn)
  · rw [List.getElem?_eq_none (by omega)]; exact FF.zero_el V.ok
theorem els_nil : els V [] := fun _ h => by cases h
theorem els.take {l : List Int} (h : els V l) (n : Nat) : els V (l.take n) := fun z hz => h z (List.mem_of_mem_take hz)
theorem els.drop {l : List Int} (h : els V l) (n : Nat) : els V (l.drop n) := fun z hz => h z (List.mem_of_mem_drop hz)
theorem els.set {l : List Int} (h : els V l) (n : Nat) {a : Int} (ha : V.F.el a) : els V (l.set n a) := fun z hz => by
  rcases List.mem_or_eq_of_mem_set hz with h1 | h1
  · exact h z h1
  · rw [h1]; exact ha
theorem els_replicate (n : Nat) : els V (List.replicate n 0) := fun z hz => by
  rw [List.eq_of_mem_replicate hz]; exact FF.zero_el V.ok
theorem ps_c (l : List Int) (n : Nat) : (ps V l).c n = of V (l.getD n 0) := rfl
theorem ps_nil : ps V [] = 0 := PS.ext' fun n => by rw [ps_c]; exact of_zero
theorem ps_dlt (l : List Int) : (ps V l).dlt l.length := fun i hi => by
  rw [ps_c, List.getD_eq_getElem?_getD, List.getElem?_eq_none hi]; exact of_zero
theorem ps_poly (l : List Int) : (ps V l).IsPoly := ⟨_, ps_dlt l⟩
theorem X_pow_mul_c {K : Type} [CR K] (n : Nat) : ∀ (f : PS K) (i : Nat), ((PS.X : PS K) ^ n * f).c i = if n ≤ i then f.c (i - n) else 0 := by
  induction n with
  | zero => intro f i; have : (PS.X : PS K) ^ 0 * f = f := by grind
            rw [this]; simp
  | succ n ih =>
    intro f i
    have : (PS.X : PS K) ^ (n + 1) * f = PS.X * ((PS.X : PS K) ^ n * f) := by grind
    rw [this]
    cases i with
    | zero => rw [PS.X_mul_c_zero, if_neg (by omega)]
    | succ i => rw [PS.X_mul_c_succ, ih]; simp
theorem ps_set (l : List Int) (j : Nat) (hj : j < l.length) (v : Int) : ps V (l.set j v) = ps V l + (xp V j) * PS.C (of V v - of V (l.getD j 0)) := PS.ext' fun n => by
  rw [PS.add_c, X_pow_mul_c, ps_c, ps_c]
  by_cases h : j ≤ n
  · rw [if_pos h]
    by_cases e : n = j
    · subst e
      rw [Nat.sub_self, PS.C_c_zero, List.getD_eq_getElem?_getD, List.getElem?_set_self hj]
      show of V v = _; grind
    · obtain ⟨i, hi⟩ : ∃ i, n - j = i + 1 := ⟨n - j - 1, by omega⟩
      rw [hi, PS.C_c_succ, List.getD_eq_getElem?_getD, List.getElem?_set_ne (by omega), ← List.getD_eq_getElem?_getD]; grind
  · rw [if_neg h, List.getD_eq_getElem?_getD, List.getElem?_set_ne (by omega), ← List.getD_eq_getElem?_getD]; grind
theorem ps_replicate (n : Nat) : ps V (List.replicate n 0) = 0 := PS.ext' fun i => by
  rw [ps_c, List.getD_eq_getElem?_getD, List.getElem?_replicate]
  by_cases h : i < n
  · rw [if_pos h]; exact of_zero
  · rw [if_neg h]; exact of_zero
theorem ps_inj {l m : List Int} (hl : els V l) (hm : els V m) (hn : l.length = m.length) (h : ps V l = ps V m) : l = m := by
  apply List.ext_getElem hn
  intro i h1 h2
  have : (ps V l).c i = (ps V m).c i := by rw [h]
  rw [ps_c, ps_c] at this
  have e := of_inj (hl.getD i) (hm.getD i) this
  rw [List.getD_eq_getElem?_getD, List.getD_eq_getElem?_getD, List.getElem?_eq_getElem h1, List.getElem?_eq_getElem h2] at e
  exact e
/-- No zero at the end. -/
def tight (l : List Int) : Prop := 0 < l.length → l.getD (l.length - 1) 0 ≠ 0
/-- A polynomial of the program's: elements, no zero at the end. -/
structure isP (V : VF) (l : List Int) : Prop where
  els : els V l
  tight : tight l
theorem isP_nil : isP V [] := ⟨els_nil, fun h => by simp at h⟩
theorem isP.top {l : List Int} (h : isP V l) (hn : 0 < l.length) : (ps V l).c (l.length - 1) ≠ 0 := fun e =>
  h.tight hn ((of_eq_zero (h.els.getD _)).1 e)
theorem isP.len_le {l : List Int} (h : isP V l) {n : Nat} (hd : (ps V l).dlt n) : l.length ≤ n := by
  apply Nat.le_of_not_lt
  intro hn
  exact h.top (by omega) (hd _ (by omega))
theorem isP_inj {l m : List Int} (hl : isP V l) (hm : isP V m) (h : ps V l = ps V m) : l = m := by
  refine ps_inj hl.els hm.els ?_ h
  have h1 := hl.len_le (n := m.length) (by rw [h]; exact ps_dlt m)
  have h2 := hm.len_le (n := l.length) (by rw [← h]; exact ps_dlt l)
  omega
/-- Where a list ends without its last zeros, looked at from n on downward. -/
def tlen (l : List Int) : Nat → Nat
  | 0 => 0
  | n + 1 => if l.getD n 0 = 0 then tlen l n else n + 1
def trim (l : List Int) : List Int := l.take (tlen l l.length)
theorem tlen_le (l : List Int) (n : Nat) : tlen l n ≤ n := by
  induction n with
  | zero => exact Nat.le_refl _
  | succ n ih => unfold tlen; split <;> omega
theorem tlen_zero (l : List Int) (n i : Nat) (h : tlen l n ≤ i) (hi : i < n) : l.getD i 0 = 0 := by
  induction n with
  | zero => omega
  | succ n ih =>
    unfold tlen at h
    split at h
    · rename_i h0
      by_cases e : i = n
      · rw [e, h0]
      · exact ih h (by omega)
    · omega
theorem tlen_top (l : List Int) (n : Nat) (h : 0 < tlen l n) : l.getD (tlen l n - 1) 0 ≠ 0 := by
  induction n with
  | zero => simp [tlen] at h
  | succ n ih =>
    unfold tlen at h ⊢
    split
    · rename_i h0; rw [if_pos h0] at h; exact ih h
    · rename_i h0; simpa using h0
theorem trim_length (l : List Int) : (trim l).length = tlen l l.length := by
  unfold trim; rw [List.length_take, Nat.min_eq_left (tlen_le _ _)]
theorem getD_take (l : List Int) (n i : Nat) : (l.take n).getD i 0 = if i < n then l.getD i 0 else 0 := by
  rw [List.getD_eq_getElem?_getD, List.getElem?_take]
  split
  · rw [List.getD_eq_getElem?_getD]
  · rfl
theorem trim_getD (l : List Int) (i : Nat) : (trim l).getD i 0 = l.getD i 0 := by
  unfold trim; rw [getD_take]
  split
  · rfl
  · rename_i h
    by_cases hi : i < l.length
    · exact (tlen_zero l _ i (by omega) hi).symm
    · rw [List.getD_eq_getElem?_getD, List.getElem?_eq_none (by omega)]; rfl
theorem ps_trim (l : List Int) : ps V (trim l) = ps V l := PS.ext' fun n => by rw [ps_c, ps_c, trim_getD]
theorem isP_trim {l : List Int} (h : els V l) : isP V (trim l) := by
  refine ⟨h.take _, fun h0 => ?_⟩
  rw [trim_getD, trim_length]
  rw [trim_length] at h0
  exact tlen_top l _ h0
/-- The value of a list at an element, as the program reckons it. -/
noncomputable def evl (V : VF) (l : List Int) (x : Int) : El V := PS.ev (ps V l) (of V x)
end VF
end Go.Proofs.YtdcmebegnekkcaaGreat
/-
  The one list of a polynomial. Plain mathematics.
-/
namespace Go.Proofs.YtdcmebegnekkcaaGreat
namespace VF
variable {V : VF}

open Classical in
/-- The list of a polynomial, with no zero at its end. -/
noncomputable def lst (V : VF) (f : PS (El V)) : List Int := if h : ∃ l, isP V l ∧ ps V l = f then Classical.choose h else []
theorem lst_of {l : List Int} (h : isP V l) {f : PS (El V)} (e : ps V l = f) : lst V f = l := by
  have hx : ∃ l, isP V l ∧ ps V l = f := ⟨l, h, e⟩
  unfold lst
  rw [dif_pos hx]
  have h2 := Classical.choose_spec hx
  exact isP_inj h2.1 h (h2.2.trans e.symm)
def cut (V : VF) (f : PS (El V)) (n : Nat) : List Int := (List.range n).map fun i => (f.c i).val
theorem cut_getD (f : PS (El V)) (n i : Nat) : (cut V f n).getD i 0 = if i < n then (f.c i).val else 0 := by
  unfold cut
  rw [List.getD_eq_getElem?_getD]
  split
  · rename_i h; simp [h]
  · rename_i h; simp [h]
theorem cut_els (f : PS (El V)) (n : Nat) : els V (cut V f n) := fun z hz => by
  unfold cut at hz
  obtain ⟨i, _, rfl⟩ := List.mem_map.1 hz
  exact (f.c i).el
theorem cut_ps {f : PS (El V)} {n : Nat} (h : f.dlt n) : ps V (cut V f n) = f := PS.ext' fun i => by
  rw [ps_c, cut_getD]
  split
  · exact val_of _
  · rw [h i (by omega)]; exact of_zero
theorem lst_ok {f : PS (El V)} (h : f.IsPoly) : isP V (lst V f) ∧ ps V (lst V f) = f := by
  obtain ⟨n, hn⟩ := h
  have h1 : isP V (trim (cut V f n)) := isP_trim (cut_els _ _)
  have h2 : ps V (trim (cut V f n)) = f := by rw [ps_trim, cut_ps hn]
  rw [lst_of h1 h2]
  exact ⟨h1, h2⟩
theorem lst_isP {f : PS (El V)} (h : f.IsPoly) : isP V (lst V f) := (lst_ok h).1
theorem lst_eq {f : PS (El V)} (h : f.IsPoly) : ps V (lst V f) = f := (lst_ok h).2
theorem lst_len {f : PS (El V)} {n : Nat} (h : f.dlt n) : (lst V f).length ≤ n := (lst_isP ⟨n, h⟩).len_le (by rw [lst_eq ⟨n, h⟩]; exact h)
/-- A scaled list. -/
def scl (F : FF) (by' : Int) (l : List Int) : List Int := l.map fun x => F.mul x by'
/-- p = q * d + r. -/
structure DivOf (V : VF) (p d q r : List Int) : Prop where
  hq : isP V q
  hr : isP V r
  eq : ps V p = ps V q * ps V d + ps V r
  len : r.length < d.length
theorem DivOf.uniq {p d q r q' r' : List Int} (hd : isP V d) (h : DivOf V p d q r) (h' : DivOf V p d q' r') : q = q' ∧ r = r' := by
  have hl := h.len
  obtain ⟨m, hm⟩ : ∃ m, d.length = m + 1 := ⟨d.length - 1, by omega⟩
  have h1 : (ps V d).dlt (m + 1) := by rw [← hm]; exact ps_dlt d
  have h2 : (ps V d).c m ≠ 0 := by have := hd.top (by omega); rw [hm] at this; exact this
  have hr : (ps V r).dlt m := (ps_dlt r).mono (by omega)
  have hr' : (ps V r').dlt m := (ps_dlt r').mono (by have := h'.len; omega)
  have := PS.div_unique h1 h2 (ps_poly q) (ps_poly q') hr hr' (h.eq.symm.trans h'.eq)
  exact ⟨isP_inj h.hq h'.hq this.1, isP_inj h.hr h'.hr this.2⟩
open Classical in
noncomputable def dqr (V : VF) (p d : List Int) : List Int × List Int := if h : ∃ x : List Int × List Int, DivOf V p d x.1 x.2 then Classical.choose h else ([], [])
theorem dqr_of {p d q r : List Int} (hd : isP V d) (h : DivOf V p d q r) : dqr V p d = (q, r) := by
  have hx : ∃ x : List Int × List Int, DivOf V p d x.1 x.2 := ⟨(q, r), h⟩
  unfold dqr
  rw [dif_pos hx]
  have h2 := (Classical.choose_spec hx).uniq hd h
  exact Prod.ext h2.1 h2.2
theorem DivOf.small {p d : List Int} (hp : isP V p) (h : p.length < d.length) : DivOf V p d [] p := ⟨isP_nil, hp, by rw [ps_nil]; grind, h⟩
end VF
end Go.Proofs.YtdcmebegnekkcaaGreat
/-
  Locators, syndromes, the formula of Forney, the key equation, and the algorithm of Euclid. Over any field. Plain mathematics.
-/
namespace Go.Proofs.YtdcmebegnekkcaaGreat
namespace PS
section
variable {K : Type} [CR K]
/-- 1 - a X. -/
def lf (a : K) : PS K := 1 - C a * X
/-- The polynomial with factors 1 - a X. -/
def lam : List K → PS K
  | [] => 1
  | a :: l => lf a * lam l
def geom (a : K) : PS K := ⟨fun j => a ^ j⟩
/-- The series of the syndromes of errors (locator, value). -/
def gs : List (K × K) → PS K
  | [] => 0
  | p :: E => C (p.2 * p.1) * geom p.1 + gs E
/-- The evaluator. -/
def om : List (K × K) → PS K
  | [] => 0
  | p :: E => C (p.2 * p.1) * lam (E.map (·.1)) + lf p.1 * om E
/-! ### The derivative -/
/-- A natural number in the ring. -/
def nk : Nat → K
  | 0 => 0
  | n + 1 => nk n + 1
def D (f : PS K) : PS K := ⟨fun n => nk (n + 1) * f.c (n + 1)⟩
end
end PS
end Go.Proofs.YtdcmebegnekkcaaGreat
/-
  The algorithm of Berlekamp and Massey: the shortest recurrence. Over any field. Plain mathematics.
-/
namespace Go.Proofs.YtdcmebegnekkcaaGreat
namespace PS
section
variable {K : Type} [CR K]
/-- c with length L generates the first n elements of S. -/
structure Gen (S c : PS K) (L n : Nat) : Prop where
  one : c.c 0 = 1
  deg : c.dlt (L + 1)
  zero : ∀ k, L ≤ k → k < n → (c * S).c k = 0
theorem Gen.mono {S c : PS K} {L n m : Nat} (h : Gen S c L n) (hm : m ≤ n) : Gen S c L m := ⟨h.one, h.deg, fun k h1 h2 => h.zero k h1 (by omega)⟩
/-- The state of the algorithm. -/
structure St (K : Type) where
  now : PS K
  before : PS K
  L : Nat
  shift : Nat
  last : K
/-- What holds of the state behind k elements. -/
structure Inv (S : PS K) (k : Nat) (s : St K) : Prop where
  gen : Gen S s.now s.L k
  least : ∀ c' L', Gen S c' L' k → s.L ≤ L'
  le : s.L ≤ k
  last0 : s.last ≠ 0
  bone : s.before.c 0 = 1
  /-- either nothing but zeros so far, or the earlier polynomial fails just here -/
  old : (s.L = 0 ∧ s.now = 1 ∧ s.before = 1 ∧ s.shift = k + 1 ∧ s.last = 1) ∨
    (0 < s.L ∧ 0 < s.shift ∧ ((X : PS K) ^ s.shift * s.before).dlt (k + 2 - s.L) ∧ (∀ i, k + 1 - s.L ≤ i → i < k → ((X : PS K) ^ s.shift * s.before * S).c i = 0) ∧ ((X : PS K) ^ s.shift * s.before * S).c k = s.last)
def start : St K := ⟨1, 1, 0, 1, 1⟩
/-- A step: 'd' is the miss, 'q' the quotient of the misses. -/
def step (k : Nat) (s : St K) (d q : K) (zero : Bool) : St K :=
  if zero then { s with shift := s.shift + 1 }
  else
    let next := s.now + C (-q) * ((X : PS K) ^ s.shift * s.before)
    if 2 * s.L ≤ k then ⟨next, s.now, k + 1 - s.L, 1, d⟩ else { s with now := next, shift := s.shift + 1 }
end
end PS
end Go.Proofs.YtdcmebegnekkcaaGreat
/-
  The shortest recurrence, element by element, as both programs reckon it. Plain mathematics.
-/
namespace Go.Proofs.YtdcmebegnekkcaaGreat
namespace PS
variable {K : Type} [CR K]
/-- The first i terms of the sum that ends at k. -/
def ms (f S : PS K) (k : Nat) : Nat → K
  | 0 => 0
  | i + 1 => ms f S k i + f.c i * S.c (k - i)
end PS
open PS
variable {V : VF}
/-- The state behind k elements. -/
noncomputable def bm (V : VF) (S : PS (El V)) : Nat → St (El V)
  | 0 => start
  | k + 1 =>
    open Classical in
    if ((bm V S k).now * S).c k = 0 then { bm V S k with shift := (bm V S k).shift + 1 }
    else step k (bm V S k) (((bm V S k).now * S).c k) (((bm V S k).now * S).c k * VF.of V (V.F.inv (bm V S k).last.val)) false
/-- The next polynomial, where the sum is not zero. -/
noncomputable def bmNext (V : VF) (S : PS (El V)) (k : Nat) : PS (El V) :=
  (bm V S k).now + C (-(((bm V S k).now * S).c k * VF.of V (V.F.inv (bm V S k).last.val))) * ((X : PS (El V)) ^ (bm V S k).shift * (bm V S k).before)
/-- What the programs keep of the state. -/
structure BmOk (V : VF) (S : PS (El V)) (k : Nat) : Prop where
  now : (bm V S k).now.IsPoly
  before : (bm V S k).before.IsPoly
  nlen : (VF.lst V (bm V S k).now).length ≤ (bm V S k).L + 1
  blen : (VF.lst V (bm V S k).before).length ≤ k + 1
  one : (bm V S k).now.c 0 = 1
  le : (bm V S k).L ≤ k
  shift : (bm V S k).shift ≤ k + 1
  last : (bm V S k).last.val ≠ 0
end Go.Proofs.YtdcmebegnekkcaaGreat
/-
  Long division of lists of coefficients, step by step. Plain mathematics.
-/
namespace Go.Proofs.YtdcmebegnekkcaaGreat

/-- What holds when the coefficients of the quotient from k on are known. -/
structure DivInv (V : VF) (p q : List Int) (k : Nat) (fO fR : PS (El V)) : Prop where
  eq : VF.ps V p = fO * VF.ps V q + fR
  low : fR.dlt (k + (q.length - 1))
  zero : ∀ i, i < k → fO.c i = 0
  poly : fO.IsPoly
theorem DivInv.start {V : VF} {p q : List Int} {k : Nat} (hk : k + (q.length - 1) = p.length) : DivInv V p q k 0 (VF.ps V p) :=
  ⟨by grind, by rw [hk]; exact VF.ps_dlt p, fun _ _ => rfl, PS.isPoly_zero⟩
theorem xpC_c {V : VF} (k i : Nat) (a : El V) : (VF.xp V k * PS.C a).c i = if i = k then a else 0 := by
  unfold VF.xp
  rw [VF.X_pow_mul_c]
  by_cases h : i = k
  · subst h; rw [if_pos (Nat.le_refl _), if_pos rfl, Nat.sub_self]; exact PS.C_c_zero a
  · rw [if_neg h]
    split
    · obtain ⟨j, hj⟩ : ∃ j, i - k = j + 1 := ⟨i - k - 1, by omega⟩
      rw [hj]; exact PS.C_c_succ a j
    · rfl
theorem xp_poly {V : VF} (k : Nat) : PS.IsPoly (VF.xp V k) := by
  unfold VF.xp
  induction k with
  | zero => have : (PS.X : PS (El V)) ^ 0 = 1 := by grind
            rw [this]; exact PS.isPoly_one
  | succ k ih => have : (PS.X : PS (El V)) ^ (k + 1) = (PS.X : PS (El V)) ^ k * (PS.X : PS (El V)) := by grind
                 rw [this]; exact ih.mul PS.isPoly_X
theorem DivInv.step {V : VF} {p q : List Int} {k : Nat} {fO fR : PS (El V)} (h : DivInv V p q (k + 1) fO fR) (hq : 0 < q.length) {y : El V} (hy : y * (VF.ps V q).c (q.length - 1) = fR.c (k + (q.length - 1))) :
    DivInv V p q k (fO + VF.xp V k * PS.C y) (fR - VF.xp V k * PS.C y * VF.ps V q) := by
  refine ⟨?_, fun i hi => ?_, fun i hi => ?_, h.poly.add ((xp_poly k).mul (PS.isPoly_C _))⟩
  · rw [h.eq]; grind
  · have e : VF.xp V k * PS.C y * VF.ps V q = VF.xp V k * (PS.C y * VF.ps V q) := by grind
    rw [PS.sub_c, e]
    unfold VF.xp
    rw [VF.X_pow_mul_c, if_pos (by omega), PS.C_mul_c]
    by_cases hi2 : i = k + (q.length - 1)
    · subst hi2
      rw [show k + (q.length - 1) - k = q.length - 1 by omega, hy]; grind
    · rw [h.low i (by omega), VF.ps_dlt q (i - k) (by omega)]; grind
  · rw [PS.add_c, h.zero i (by omega), xpC_c, if_neg (by omega)]; grind
theorem DivInv.done {V : VF} {p q : List Int} {fO fR : PS (El V)} (h : DivInv V p q 0 fO fR) (hq : 0 < q.length) : VF.DivOf V p q (VF.lst V fO) (VF.lst V fR) := by
  have hR : fR.IsPoly := ⟨_, h.low⟩
  refine ⟨VF.lst_isP h.poly, VF.lst_isP hR, ?_, ?_⟩
  · rw [VF.lst_eq h.poly, VF.lst_eq hR]; exact h.eq
  · have := VF.lst_len h.low; omega
end Go.Proofs.YtdcmebegnekkcaaGreat
/-
  Continued sequences. Plain mathematics; no program in sight.
-/
namespace Go.Proofs.YtdcmebegnekkcaaGreat
set_option linter.unusedVariables false

/-- The number k of a list (0 beyond its end). -/
def gz (l : List Int) (k : Nat) : Int := l.getD k 0
/-- The sum of the first i products of a polynomial and a list that ends at k. -/
def smTo (F : FF) (cs zs : List Int) (k : Nat) : Nat → Int
  | 0 => 0
  | i + 1 => F.add (smTo F cs zs k i) (F.mul (gz cs i) (gz zs (k - i)))
/-- The next element of a sequence. -/
def nxI (F : FF) (cs zs : List Int) : Int := F.neg (smTo F cs (zs ++ [0]) zs.length (min cs.length (zs.length + 1)))
/-- The sequence with m elements more. -/
def contTo (F : FF) (cs zs : List Int) : Nat → List Int
  | 0 => zs
  | m + 1 => contTo F cs zs m ++ [nxI F cs (contTo F cs zs m)]
/-- What the program sums up: the differences from the second product on. -/
def subTo (F : FF) (cs zs : List Int) : Nat → Int
  | 0 => 0
  | i + 1 => F.add (subTo F cs zs i) (F.neg (F.mul (gz cs (i + 1)) (gz zs (zs.length - (i + 1)))))
end Go.Proofs.YtdcmebegnekkcaaGreat
/-
  Polynomials through points: Newton's and Lagrange's ways. Plain mathematics; no program in sight.
-/
namespace Go.Proofs.YtdcmebegnekkcaaGreat
open PS
set_option linter.unusedVariables false
variable {V : VF}

/-- The numbers of a list as elements. -/
noncomputable def pt (V : VF) (xs : List Int) (i : Nat) : El V := VF.of V (gz xs i)
/-- The first m numbers differ. -/
def Apart (xs : List Int) (m : Nat) : Prop := ∀ i j, i < m → j < m → gz xs i = gz xs j → i = j
theorem Apart.pt {xs : List Int} (hx : VF.els V xs) {m : Nat} (h : Apart xs m) {i j : Nat} (hi : i < m) (hj : j < m) (e : pt V xs i = pt V xs j) : i = j :=
  h i j hi hj (VF.of_inj (hx.getD i) (hx.getD j) e)
theorem Apart.next {xs : List Int} {m : Nat} (h : Apart xs m) (h2 : ∀ i, i < m → gz xs i ≠ gz xs m) : Apart xs (m + 1) := fun i j hi hj e => by
  rcases Nat.lt_or_ge i m with h3 | h3 <;> rcases Nat.lt_or_ge j m with h4 | h4
  · exact h i j h3 h4 e
  · have : j = m := by omega
    subst this; exact absurd e (h2 i h3)
  · have : i = m := by omega
    subst this; exact absurd e.symm (h2 j h4)
  · omega
/-- Through the first m points, with no more coefficients. -/
structure FitAt (V : VF) (xs ys : List Int) (m : Nat) (f : PS (El V)) : Prop where
  dlt : f.dlt m
  val : ∀ i, i < m → ev f (pt V xs i) = pt V ys i
theorem FitAt.uniq {xs ys : List Int} {m : Nat} (hx : VF.els V xs) (ha : Apart xs m) {f g : PS (El V)} (hf : FitAt V xs ys m f) (hg : FitAt V xs ys m g) : f = g := by
  refine eq_of_values ((List.range m).map fun i => pt V xs i) hf.dlt hg.dlt ?_ ?_ (by simp)
  · rw [List.nodup_iff_pairwise_ne, List.pairwise_map]
    exact List.Pairwise.imp_of_mem (fun {a b} h1 h2 h3 e => h3 (ha.pt hx (List.mem_range.1 h1) (List.mem_range.1 h2) e)) (List.nodup_iff_pairwise_ne.1 List.nodup_range)
  · intro a h
    obtain ⟨i, hi, rfl⟩ := List.mem_map.1 h
    rw [hf.val i (List.mem_range.1 hi), hg.val i (List.mem_range.1 hi)]
open Classical in
/-- The list of the polynomial through all points. -/
noncomputable def fitL (V : VF) (xs ys : List Int) : List Int := if h : ∃ f, FitAt V xs ys xs.length f then VF.lst V (Classical.choose h) else []
/-- The product of X - x for the first m numbers. -/
structure Newt (V : VF) (xs : List Int) (m : Nat) (z : PS (El V)) : Prop where
  dlt : z.dlt (m + 1)
  zero : ∀ i, i < m → ev z (pt V xs i) = 0
  root : ∀ x, ev z x = 0 → ∃ i, i < m ∧ x = pt V xs i
theorem Newt.start (xs : List Int) : Newt V xs 0 1 := ⟨dlt_one, fun i h => by omega, fun x h => by rw [ev_one] at h; exact absurd h (Fld.one_ne)⟩
theorem ev_mul_lin {z : PS (El V)} (hz : z.IsPoly) (a x : El V) : ev (z * (X - C a)) x = ev z x * (x - a) := by rw [ev_mul hz (isPoly_lin a), ev_lin]
theorem Newt.step {xs : List Int} {m : Nat} {z : PS (El V)} (h : Newt V xs m z) : Newt V xs (m + 1) (z * (X - C (pt V xs m))) := by
  refine ⟨?_, ?_, ?_⟩
  · exact (dlt_mul (g := X - C (pt V xs m)) (m := 1) (dlt_sub dlt_X ((dlt_C _).mono (by omega))) m z h.dlt).mono (by omega)
  · intro i hi
    rw [ev_mul_lin ⟨_, h.dlt⟩]
    rcases Nat.lt_or_ge i m with h1 | h1
    · rw [h.zero i h1]; grind
    · have : i = m := by omega
      subst this; grind
  · intro x hx
    rw [ev_mul_lin ⟨_, h.dlt⟩] at hx
    by_cases h0 : ev z x = 0
    · obtain ⟨i, hi, e⟩ := h.root x h0
      exact ⟨i, by omega, e⟩
    · have := mul_eq_zero' hx h0
      exact ⟨m, by omega, by grind⟩
theorem Newt.new {xs : List Int} (hx : VF.els V xs) {m : Nat} {z : PS (El V)} (h : Newt V xs m z) (h0 : ev z (pt V xs m) ≠ 0) : ∀ i, i < m → gz xs i ≠ gz xs m := fun i hi e => h0 (by
  have := h.zero i hi
  unfold pt at this ⊢; rw [← e]; exact this)
theorem Newt.old {xs : List Int} (hx : VF.els V xs) {m : Nat} {z : PS (El V)} (h : Newt V xs m z) (h0 : ev z (pt V xs m) = 0) : ∃ i, i < m ∧ gz xs i = gz xs m := by
  obtain ⟨i, hi, e⟩ := h.root _ h0
  exact ⟨i, hi, (VF.of_inj (hx.getD m) (hx.getD i) e).symm⟩
/-- The product of X - x for the first k numbers but number i, and its value at number i. -/
structure Lagr (V : VF) (xs : List Int) (i k : Nat) (t : PS (El V)) (u : El V) : Prop where
  dlt : t.dlt (if k ≤ i then k + 1 else k)
  zero : ∀ m, m < k → m ≠ i → ev t (pt V xs m) = 0
  val : u = ev t (pt V xs i)
  ne : u ≠ 0
theorem Lagr.start (xs : List Int) (i : Nat) : Lagr V xs i 0 1 1 := ⟨by rw [if_pos (by omega)]; exact dlt_one, fun m h => by omega, by rw [ev_one], Fld.one_ne⟩
theorem Lagr.skip {xs : List Int} {i : Nat} {t : PS (El V)} {u : El V} (h : Lagr V xs i i t u) : Lagr V xs i (i + 1) t u :=
  ⟨by have := h.dlt; rw [if_pos (Nat.le_refl _)] at this; rw [if_neg (by omega)]; exact this, fun m hm hne => h.zero m (by omega) hne, h.val, h.ne⟩
theorem Lagr.poly {xs : List Int} {i k : Nat} {t : PS (El V)} {u : El V} (h : Lagr V xs i k t u) : t.IsPoly := ⟨_, h.dlt⟩
theorem Lagr.step {xs : List Int} (hx : VF.els V xs) {i k n : Nat} (ha : Apart xs n) (hi : i < n) (hk : k < n) (hne : k ≠ i) {t : PS (El V)} {u : El V} (h : Lagr V xs i k t u) :
    Lagr V xs i (k + 1) (t * (X - C (pt V xs k))) (u * (pt V xs i + - pt V xs k)) := by
  refine ⟨?_, ?_, ?_, ?_⟩
  · have hd : (X - C (pt V xs k) : PS (El V)).dlt (1 + 1) := dlt_sub dlt_X ((dlt_C _).mono (by omega))
    have h1 := h.dlt
    by_cases hki : k ≤ i
    · rw [if_pos hki] at h1
      rw [if_pos (by omega)]
      exact (dlt_mul hd k t h1).mono (by omega)
    · rw [if_neg hki] at h1
      rw [if_neg (by omega)]
      obtain ⟨k', rfl⟩ : ∃ k', k = k' + 1 := ⟨k - 1, by omega⟩
      exact (dlt_mul hd k' t h1).mono (by omega)
  · intro m hm hmi
    rw [ev_mul_lin h.poly]
    rcases Nat.lt_or_ge m k with h1 | h1
    · rw [h.zero m h1 hmi]; grind
    · have : m = k := by omega
      subst this; grind
  · rw [ev_mul_lin h.poly, ← h.val]; grind
  · refine mul_ne h.ne fun e => hne ?_
    have : pt V xs k = pt V xs i := by grind
    exact ha.pt hx hk hi this
/-- Through the first i points, and 0 at the others. -/
structure LagTo (V : VF) (xs ys : List Int) (n i : Nat) (f : PS (El V)) : Prop where
  dlt : f.dlt n
  val : ∀ m, m < i → ev f (pt V xs m) = pt V ys m
  rest : ∀ m, i ≤ m → m < n → ev f (pt V xs m) = 0
theorem LagTo.start (xs ys : List Int) (n : Nat) : LagTo V xs ys n 0 0 := ⟨dlt_zero _, fun m h => by omega, fun m _ _ => ev_zero _⟩
theorem LagTo.step {xs ys : List Int} {n i : Nat} (hi : i < n) {f t : PS (El V)} {u s : El V} (h : LagTo V xs ys n i f) (ht : Lagr V xs i n t u) (hs : s * u = pt V ys i) : LagTo V xs ys n (i + 1) (f + t * C s) := by
  have hd := ht.dlt
  rw [if_neg (by omega)] at hd
  have htp : t.IsPoly := ⟨_, hd⟩
  have hfp : f.IsPoly := ⟨_, h.dlt⟩
  have e : ∀ x, ev (f + t * C s) x = ev f x + ev t x * s := fun x => by rw [ev_add hfp (htp.mul (isPoly_C _)), ev_mul htp (isPoly_C _), ev_C]
  refine ⟨dlt_add h.dlt (by have := dlt_C_mul s hd; rw [show t * C s = C s * t by grind]; exact this), fun m hm => ?_, fun m hm hmn => ?_⟩
  · rw [e]
    rcases Nat.lt_or_ge m i with h1 | h1
    · rw [h.val m h1, ht.zero m (by omega) (by omega)]; grind
    · have : m = i := by omega
      subst this
      rw [h.rest m (Nat.le_refl _) hi, ← ht.val, ← hs]; grind
  · rw [e, h.rest m (by omega) hmn, ht.zero m hmn (by omega)]; grind
end Go.Proofs.YtdcmebegnekkcaaGreat
/-
  Gauss' elimination, step by step. Plain mathematics; no program in sight.
-/
namespace Go.Proofs.YtdcmebegnekkcaaGreat
namespace PS
set_option linter.unusedVariables false
variable {K : Type} [CR K]

/-- The sum of the first n products. -/
def dot (f x : Nat → K) : Nat → K
  | 0 => 0
  | m + 1 => dot f x m + f m * x m
theorem dot_congr {f f' x x' : Nat → K} (n : Nat) (h : ∀ m, m < n → f m = f' m ∧ x m = x' m) : dot f x n = dot f' x' n := by
  induction n with
  | zero => rfl
  | succ n ih => show dot f x n + _ = dot f' x' n + _; rw [ih (fun m hm => h m (by omega)), (h n (by omega)).1, (h n (by omega)).2]
theorem dot_sub (a : K) (f g x : Nat → K) (n : Nat) : dot (fun m => f m + - (a * g m)) x n = dot f x n + - (a * dot g x n) := by
  induction n with
  | zero => show (0 : K) = 0 + - (a * 0); grind
  | succ n ih => show dot (fun m => f m + - (a * g m)) x n + _ = (dot f x n + _) + - (a * (dot g x n + _)); rw [ih]; grind
theorem dot_zero {f x : Nat → K} (n : Nat) (h : ∀ m, m < n → f m * x m = 0) : dot f x n = 0 := by
  induction n with
  | zero => rfl
  | succ n ih => show dot f x n + _ = 0; rw [ih (fun m hm => h m (by omega)), h n (by omega)]; grind
theorem dot_one {f x : Nat → K} (n j : Nat) (hj : j < n) (h : ∀ m, m < n → m ≠ j → f m * x m = 0) : dot f x n = f j * x j := by
  induction n with
  | zero => omega
  | succ n ih =>
    show dot f x n + f n * x n = _
    by_cases e : j = n
    · subst e; rw [dot_zero _ (fun m hm => h m (by omega) (by omega))]; grind
    · rw [ih (by omega) (fun m hm hne => h m (by omega) hne), h n (by omega) (fun e' => e e'.symm)]; grind
/-- A system of n equations: column n bears the right sides. -/
abbrev Mx (K : Type) := Nat → Nat → K
/-- x solves the system. -/
def Sol (n : Nat) (M : Mx K) (x : Nat → K) : Prop := ∀ j, j < n → dot (M j) x n = M j n
/-- Only zeros solve the homogeneous system. -/
def NonS (n : Nat) (M : Mx K) : Prop := ∀ x : Nat → K, (∀ j, j < n → dot (M j) x n = 0) → ∀ m, m < n → x m = 0
theorem Sol.uniq {n : Nat} {M : Mx K} (hn : NonS n M) {x y : Nat → K} (hx : Sol n M x) (hy : Sol n M y) : ∀ m, m < n → x m = y m := by
  have h := hn (fun m => x m + - (1 * y m)) (fun j hj => by
    have e : ∀ k, dot (M j) (fun m => x m + - (1 * y m)) k = dot (M j) x k + - dot (M j) y k := by
      intro k
      induction k with
      | zero => show (0 : K) = 0 + -0; grind
      | succ k ih => show dot (M j) (fun m => x m + - (1 * y m)) k + _ = (dot (M j) x k + _) + - (dot (M j) y k + _); rw [ih]; grind
    rw [e, hx j hj, hy j hj]; grind)
  intro m hm
  have := h m hm
  grind
/-- The state of the elimination ahead of column k. -/
structure GI (n : Nat) (A : Mx K) (k : Nat) (M : Mx K) : Prop where
  unit : ∀ m, m < k → ∀ j, j < n → M j m = if j = m then 1 else 0
  sol : ∀ x, Sol n M x ↔ Sol n A x
  nons : NonS n M
theorem GI.start {n : Nat} {A : Mx K} (h : NonS n A) : GI n A 0 A := ⟨fun m hm => by omega, fun x => Iff.rfl, h⟩
/-- There is a pivot. -/
theorem GI.pivot [Fld K] {n k : Nat} {A M : Mx K} (h : GI n A k M) (hk : k < n) : ∃ j, k ≤ j ∧ j < n ∧ M j k ≠ 0 := by
  apply Classical.byContradiction
  intro hn
  have h0 : ∀ j, k ≤ j → j < n → M j k = 0 := fun j h1 h2 => Classical.byContradiction fun h3 => hn ⟨j, h1, h2, h3⟩
  have := h.nons (fun m => if m < k then - M m k else if m = k then 1 else 0) (fun j hj => by
    -- all terms but those of columns j and k are 0
    have key : ∀ N, N ≤ n → dot (M j) (fun m => if m < k then - M m k else if m = k then 1 else 0) N = (if j < N ∧ j < k then - M j k else 0) + (if k < N then M j k else 0) := by
      intro N
      induction N with
      | zero => intro _; show (0 : K) = _; rw [if_neg (by omega), if_neg (by omega)]; grind
      | succ N ih =>
        intro hN
        show dot _ _ N + M j N * (if N < k then - M N k else if N = k then 1 else 0) = _
        rw [ih (by omega)]
        by_cases h1 : N < k
        · rw [if_pos h1, h.unit N h1 j hj, if_neg (show ¬ k < N by omega), if_neg (show ¬ k < N + 1 by omega)]
          by_cases h2 : j = N
          · subst h2; rw [if_neg (by omega), if_pos rfl, if_pos ⟨by omega, h1⟩]; grind
          · rw [if_neg h2]
            by_cases h3 : j < N ∧ j < k
            · rw [if_pos h3, if_pos ⟨by omega, h3.2⟩]; grind
            · rw [if_neg h3, if_neg (by omega)]; grind
        · rw [if_neg h1]
          by_cases h2 : N = k
          · subst h2
            rw [if_pos rfl, if_neg (show ¬ N < N by omega), if_pos (show N < N + 1 by omega)]
            by_cases h3 : j < N
            · rw [if_pos ⟨h3, h3⟩, if_pos ⟨by omega, h3⟩]; grind
            · rw [if_neg (by omega), if_neg (by omega)]; grind
          · rw [if_neg h2, if_pos (show k < N by omega), if_pos (show k < N + 1 by omega)]
            by_cases h3 : j < k
            · rw [if_pos ⟨by omega, h3⟩, if_pos ⟨by omega, h3⟩]; grind
            · rw [if_neg (by omega), if_neg (by omega)]; grind
    rw [key n (Nat.le_refl _), if_pos hk]
    by_cases h3 : j < k
    · rw [if_pos ⟨hj, h3⟩]; grind
    · rw [if_neg (by omega), h0 j (by omega) hj]; grind) k hk
  simp only [if_neg (Nat.lt_irrefl k), if_true] at this
  exact Fld.one_ne this
/-- Rows k and p change places. -/
def swapR (M : Mx K) (k p : Nat) : Mx K := fun j => M (if j = k then p else if j = p then k else j)
/-- Row k times a, from column c on. -/
def scaleR (M : Mx K) (k c n : Nat) (a : K) : Mx K := fun j m => if j = k ∧ c ≤ m ∧ m ≤ n then M j m * a else M j m
/-- Row k is scaled so that its pivot is 1. -/
structure GS (n : Nat) (A : Mx K) (k : Nat) (M : Mx K) : Prop where
  gi : GI n A k M
  one : M k k = 1
/-- Row j minus f times row k, from column k on. -/
def elimR (M : Mx K) (j k n : Nat) (f : K) : Mx K := fun i m => if i = j ∧ k ≤ m ∧ m ≤ n then M i m + - (f * M k m) else M i m
/-- The rows below J have been cleared in column k. -/
structure GE (n : Nat) (A : Mx K) (k J : Nat) (M : Mx K) : Prop where
  gs : GS n A k M
  clear : ∀ j, j < J → j < n → j ≠ k → M j k = 0
theorem GS.start {n k : Nat} {A M : Mx K} (h : GS n A k M) : GE n A k 0 M := ⟨h, fun j hj => by omega⟩
theorem GE.skip {n k J : Nat} {A M : Mx K} (h : GE n A k J M) (h2 : J = k ∨ M J k = 0) : GE n A k (J + 1) M :=
  ⟨h.gs, fun j hj hn hne => by
    rcases Nat.lt_or_ge j J with h3 | h3
    · exact h.clear j h3 hn hne
    · have : j = J := by omega
      subst this
      rcases h2 with h2 | h2
      · exact absurd h2 hne
      · exact h2⟩
theorem GE.step {n k J : Nat} {A M : Mx K} (h : GE n A k J M) (hk : k < n) (hJ : J < n) (hne : J ≠ k) : GE n A k (J + 1) (elimR M J k n (M J k)) := by
  have hg := h.gs.gi
  have hrow : ∀ m, m ≤ n → elimR M J k n (M J k) J m = M J m + - (M J k * M k m) := by
    intro m hm
    unfold elimR
    by_cases h1 : k ≤ m
    · rw [if_pos ⟨rfl, h1, hm⟩]
    · rw [if_neg (by omega), hg.unit m (by omega) k hk, if_neg (by omega)]; grind
  have hoth : ∀ j, j ≠ J → elimR M J k n (M J k) j = M j := fun j hj => by funext m; unfold elimR; rw [if_neg (by omega)]
  have hd : ∀ x, dot (elimR M J k n (M J k) J) x n = dot (M J) x n + - (M J k * dot (M k) x n) := fun x => by
    rw [← dot_sub]; exact dot_congr n (fun m hm => ⟨hrow m (by omega), rfl⟩)
  refine ⟨⟨⟨fun m hm j hj => ?_, fun x => ?_, fun x hx => ?_⟩, ?_⟩, fun j hj hn hjk => ?_⟩
  · by_cases h1 : j = J
    · subst h1; rw [hrow m (by omega), hg.unit m hm j hj, hg.unit m hm k hk, if_neg (show ¬ k = m by omega)]; grind
    · rw [hoth j h1]; exact hg.unit m hm j hj
  · rw [← hg.sol]
    constructor
    · intro hx j hj
      have hkk := hx k hk
      rw [hoth k (fun e => hne e.symm)] at hkk
      by_cases h1 : j = J
      · subst h1
        have := hx j hj
        rw [hd, hrow n (Nat.le_refl _), hkk] at this
        grind
      · have := hx j hj; rw [hoth j h1] at this; exact this
    · intro hx j hj
      by_cases h1 : j = J
      · subst h1; rw [hd, hrow n (Nat.le_refl _), hx j hj, hx k hk]
      · rw [hoth j h1]; exact hx j hj
  · refine hg.nons x (fun j hj => ?_)
    have hkk := hx k hk
    rw [hoth k (fun e => hne e.symm)] at hkk
    by_cases h1 : j = J
    · subst h1
      have := hx j hj
      rw [hd, hkk] at this
      grind
    · have := hx j hj; rw [hoth j h1] at this; exact this
  · rw [hoth k (fun e => hne e.symm)]; exact h.gs.one
  · rcases Nat.lt_or_ge j J with h3 | h3
    · rw [hoth j (by omega)]; exact h.clear j h3 hn hjk
    · have : j = J := by omega
      subst this
      rw [hrow k (by omega), h.gs.one]; grind
theorem GE.done {n k : Nat} {A M : Mx K} (h : GE n A k n M) (hk : k < n) : GI n A (k + 1) M :=
  ⟨fun m hm j hj => by
    rcases Nat.lt_or_ge m k with h1 | h1
    · exact h.gs.gi.unit m h1 j hj
    · have : m = k := by omega
      subst this
      by_cases h2 : j = m
      · subst h2; rw [if_pos rfl]; exact h.gs.one
      · rw [if_neg h2]; exact h.clear j hj hj h2, h.gs.gi.sol, h.gs.gi.nons⟩
theorem GI.done {n : Nat} {A M : Mx K} (h : GI n A n M) : Sol n A (fun j => M j n) := by
  rw [← h.sol]
  intro j hj
  rw [dot_one n j hj (fun m hm hne => by rw [h.unit m hm j hj, if_neg (fun e => hne e.symm)]; grind), h.unit j hj j hj, if_pos rfl]; grind
end PS
end Go.Proofs.YtdcmebegnekkcaaGreat
