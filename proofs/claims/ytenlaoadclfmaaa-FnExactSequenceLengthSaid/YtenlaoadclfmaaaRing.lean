/-
  Commutative rings for the tactic 'grind', and the ring of power series over a ring. Plain mathematics; no program in sight.
-/
namespace Go.Proofs.Ytenlaoadclfmaaa

abbrev clsOf {C : Type → Type} {α : Type} (_ : C α) : Type → Type := C
/-- Commutative rings, by the name of one that core has an instance of. -/
abbrev CR : Type → Type := clsOf Dyadic.instCommRing

/-- A commutative ring's data and laws, without the numerals. -/
structure RingCore (α : Type) where
  zero : α
  one : α
  add : α → α → α
  mul : α → α → α
  neg : α → α
  add_zero : ∀ a, add a zero = a
  add_comm : ∀ a b, add a b = add b a
  add_assoc : ∀ a b c, add (add a b) c = add a (add b c)
  neg_add : ∀ a, add (neg a) a = zero
  mul_comm : ∀ a b, mul a b = mul b a
  mul_assoc : ∀ a b c, mul (mul a b) c = mul a (mul b c)
  mul_one : ∀ a, mul a one = a
  left_distrib : ∀ a b c, mul a (add b c) = add (mul a b) (mul a c)

namespace RingCore
variable {α : Type} (R : RingCore α)
theorem cancel {a b c : α} (h : R.add a b = R.add a c) : b = c := by
  have h1 : R.add (R.neg a) (R.add a b) = R.add (R.neg a) (R.add a c) := by rw [h]
  rwa [← R.add_assoc, ← R.add_assoc, R.neg_add, R.add_comm R.zero, R.add_comm R.zero, R.add_zero, R.add_zero] at h1
theorem mul_zero (a : α) : R.mul a R.zero = R.zero := by
  apply R.cancel (a := R.mul a R.zero)
  rw [← R.left_distrib, R.add_zero, R.add_zero]
def nat : Nat → α
  | 0 => R.zero
  | n + 1 => R.add (nat n) R.one
def int : Int → α
  | .ofNat n => R.nat n
  | .negSucc n => R.neg (R.nat (n + 1))
def pow (a : α) : Nat → α
  | 0 => R.one
  | n + 1 => R.mul (pow a n) a
theorem neg_unique {a b : α} (h : R.add b a = R.zero) : b = R.neg a := by
  apply R.cancel (a := a)
  rw [R.add_comm a b, h, R.add_comm, R.neg_add]
theorem neg_neg (a : α) : R.neg (R.neg a) = a := (R.neg_unique (by rw [R.add_comm, R.neg_add])).symm
theorem neg_zero : R.neg R.zero = R.zero := (R.neg_unique (R.add_zero _)).symm
theorem neg_mul (a b : α) : R.mul (R.neg a) b = R.neg (R.mul a b) := by
  apply R.neg_unique
  rw [R.mul_comm _ b, R.mul_comm a b, ← R.left_distrib, R.neg_add, R.mul_zero]
theorem int_neg (i : Int) : R.int (-i) = R.neg (R.int i) := by
  match i with
  | .ofNat 0 => exact R.neg_zero.symm
  | .ofNat (n + 1) => rfl
  | .negSucc n => exact (R.neg_neg _).symm
@[reducible] def toCR : CR α :=
  @_root_.id (clsOf Dyadic.instCommRing α)
  { add := R.add, mul := R.mul, neg := R.neg, sub := fun a b => R.add a (R.neg b)
    natCast := ⟨R.nat⟩
    ofNat := fun n => ⟨R.nat n⟩
    nsmul := ⟨fun n a => R.mul (R.nat n) a⟩
    npow := ⟨R.pow⟩
    intCast := ⟨R.int⟩
    zsmul := ⟨fun n a => R.mul (R.int n) a⟩
    add_zero := R.add_zero
    add_comm := R.add_comm
    add_assoc := R.add_assoc
    mul_assoc := R.mul_assoc
    mul_one := fun a => by show R.mul a (R.add R.zero R.one) = a; rw [R.add_comm, R.add_zero, R.mul_one]
    one_mul := fun a => by show R.mul (R.add R.zero R.one) a = a; rw [R.add_comm, R.add_zero, R.mul_comm, R.mul_one]
    left_distrib := R.left_distrib
    right_distrib := fun a b c => by
      show R.mul (R.add a b) c = R.add (R.mul a c) (R.mul b c)
      rw [R.mul_comm, R.left_distrib, R.mul_comm c, R.mul_comm c]
    zero_mul := fun a => by show R.mul R.zero a = R.zero; rw [R.mul_comm, R.mul_zero]
    mul_zero := R.mul_zero
    pow_zero := fun _ => by show R.one = R.add R.zero R.one; rw [R.add_comm, R.add_zero]
    pow_succ := fun _ _ => rfl
    ofNat_succ := fun a => by
      show R.nat (a + 1) = R.add (R.nat a) (R.add R.zero R.one)
      rw [R.add_comm R.zero, R.add_zero]; rfl
    neg_add_cancel := R.neg_add
    sub_eq_add_neg := fun _ _ => rfl
    neg_zsmul := fun i a => by
      show R.mul (R.int (-i)) a = R.neg (R.mul (R.int i) a)
      rw [R.int_neg, R.neg_mul]
    zsmul_natCast_eq_nsmul := fun _ _ => rfl
    intCast_neg := R.int_neg
    mul_comm := R.mul_comm }
end RingCore

/-! ### Power series -/
/-- A power series: its coefficients. -/
structure PS (K : Type) where
  c : Nat → K
namespace PS
variable {K : Type} [CR K]
omit [CR K] in
theorem ext' {f g : PS K} (h : ∀ n, f.c n = g.c n) : f = g := by
  cases f; cases g; congr 1; funext n; exact h n
def tail (f : PS K) : PS K := ⟨fun n => f.c (n + 1)⟩
def conv (f g : PS K) : Nat → K
  | 0 => f.c 0 * g.c 0
  | n + 1 => f.c 0 * g.c (n + 1) + conv f.tail g n
def smul (a : K) (f : PS K) : PS K := ⟨fun n => a * f.c n⟩
theorem conv_add_left (n : Nat) : ∀ f h g : PS K, conv ⟨fun n => f.c n + h.c n⟩ g n = conv f g n + conv h g n := by
  induction n with
  | zero => intro f h g; simp only [conv]; grind
  | succ n ih =>
    intro f h g
    simp only [conv]
    have := ih f.tail h.tail g
    simp only [tail] at this ⊢
    rw [this]; grind
theorem conv_add_right (n : Nat) : ∀ f g h : PS K, conv f ⟨fun n => g.c n + h.c n⟩ n = conv f g n + conv f h n := by
  induction n with
  | zero => intro f h g; simp only [conv]; grind
  | succ n ih => intro f h g; simp only [conv]; rw [ih]; grind
theorem conv_smul_left (n : Nat) : ∀ (a : K) (f g : PS K), conv ⟨fun n => a * f.c n⟩ g n = a * conv f g n := by
  induction n with
  | zero => intro a f g; simp only [conv]; grind
  | succ n ih =>
    intro a f g; simp only [conv]
    have := ih a f.tail g
    simp only [tail] at this ⊢
    rw [this]; grind
theorem conv_succ' (n : Nat) : ∀ f g : PS K, conv f g (n + 1) = conv f g.tail n + f.c (n + 1) * g.c 0 := by
  induction n with
  | zero => intro f g; simp only [conv, tail]
  | succ n ih =>
    intro f g
    rw [conv, ih f.tail g, conv]
    simp only [tail]
    grind
theorem conv_comm (n : Nat) : ∀ f g : PS K, conv f g n = conv g f n := by
  induction n with
  | zero => intro f g; simp only [conv]; grind
  | succ n ih => intro f g; rw [conv, conv_succ', ih f.tail g]; grind
theorem conv_tail (f g : PS K) : tail ⟨conv f g⟩ = ⟨fun n => (smul (f.c 0) g.tail).c n + (PS.mk (conv f.tail g)).c n⟩ := by
  apply ext'; intro n; simp only [tail, conv, smul]
theorem conv_assoc (n : Nat) : ∀ f g h : PS K, conv ⟨conv f g⟩ h n = conv f ⟨conv g h⟩ n := by
  induction n with
  | zero => intro f g h; simp only [conv]; grind
  | succ n ih =>
    intro f g h
    rw [conv, conv_tail, conv_add_left, ih f.tail g h, conv]
    have := conv_smul_left n (f.c 0) g.tail h
    simp only [smul]
    rw [this]
    show conv f g 0 * h.c (n + 1) + _ = f.c 0 * conv g h (n + 1) + _
    simp only [conv]
    grind
def core : RingCore (PS K) where
  zero := ⟨fun _ => 0⟩
  one := ⟨fun n => if n = 0 then 1 else 0⟩
  add f g := ⟨fun n => f.c n + g.c n⟩
  mul f g := ⟨conv f g⟩
  neg f := ⟨fun n => - f.c n⟩
  add_zero f := ext' fun n => by show f.c n + 0 = f.c n; grind
  add_comm f g := ext' fun n => by show f.c n + g.c n = g.c n + f.c n; grind
  add_assoc f g h := ext' fun n => by show f.c n + g.c n + h.c n = f.c n + (g.c n + h.c n); grind
  neg_add f := ext' fun n => by show - f.c n + f.c n = 0; grind
  mul_comm f g := ext' fun n => conv_comm n f g
  mul_assoc f g h := ext' fun n => conv_assoc n f g h
  mul_one f := ext' fun n => by
    show conv f _ n = f.c n
    rw [conv_comm]
    cases n with
    | zero => simp only [conv]; grind
    | succ n =>
      simp only [conv]
      have hz : ∀ n, conv (tail (⟨fun n => if n = 0 then 1 else 0⟩ : PS K)) f n = 0 := by
        intro n
        have : ∀ m (z : PS K), (∀ k, z.c k = 0) → conv z f m = 0 := by
          intro m
          induction m with
          | zero => intro z hz; simp only [conv, hz]; grind
          | succ m ih => intro z hz; simp only [conv, hz]; rw [ih _ (fun k => hz (k + 1))]; grind
        exact this n _ (fun k => by simp [tail])
      rw [hz]; grind
  left_distrib f g h := ext' fun n => conv_add_right n f g h
instance : CR (PS K) := core.toCR
theorem add_c (f g : PS K) (n : Nat) : (f + g).c n = f.c n + g.c n := rfl
theorem neg_c (f : PS K) (n : Nat) : (-f).c n = - f.c n := rfl
theorem sub_c (f g : PS K) (n : Nat) : (f - g).c n = f.c n - g.c n := by
  show f.c n + - g.c n = _; grind
theorem mul_c (f g : PS K) (n : Nat) : (f * g).c n = conv f g n := rfl
theorem zero_c (n : Nat) : (0 : PS K).c n = 0 := rfl
theorem one_c (n : Nat) : (1 : PS K).c n = if n = 0 then 1 else 0 := by
  show (0 : K) + (if n = 0 then 1 else 0) = _; grind
example (f g h : PS K) (e : f = g * h) : f * f + h = g * h * g * h + h := by grind
end PS
#print axioms PS.core
end Go.Proofs.Ytenlaoadclfmaaa
