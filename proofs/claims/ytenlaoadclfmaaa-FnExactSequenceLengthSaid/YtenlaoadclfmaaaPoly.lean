/-
  Polynomials as power series that end: values, roots, division. Over any field. Plain mathematics.
-/
import Derived.Test.YtenlaoadclfmaaaRing
namespace Go.Proofs.Ytenlaoadclfmaaa

/-- Every element but 0 has an inverse. -/
class Fld (K : Type) [CR K] : Prop where
  one_ne : (1 : K) ≠ 0
  inv : ∀ a : K, a ≠ 0 → ∃ b : K, a * b = 1

section
variable {K : Type} [CR K]
theorem mul_eq_zero' [Fld K] {a b : K} (h : a * b = 0) (ha : a ≠ 0) : b = 0 := by
  obtain ⟨c, hc⟩ := Fld.inv a ha
  have : b = (a * c) * b := by rw [hc]; grind
  grind
theorem mul_ne [Fld K] {a b : K} (ha : a ≠ 0) (hb : b ≠ 0) : a * b ≠ 0 := fun h => hb (mul_eq_zero' h ha)
theorem mul_cancel' [Fld K] {a b c : K} (h : a * b = a * c) (ha : a ≠ 0) : b = c := by
  have : a * (b - c) = 0 := by grind
  have := mul_eq_zero' this ha
  grind
end

namespace PS
section
variable {K : Type} [CR K]
/-- Coefficients from n on are 0. -/
def dlt (f : PS K) (n : Nat) : Prop := ∀ i, n ≤ i → f.c i = 0
def IsPoly (f : PS K) : Prop := ∃ n, f.dlt n
def X : PS K := ⟨fun n => if n = 1 then 1 else 0⟩
def C (a : K) : PS K := ⟨fun n => if n = 0 then a else 0⟩
theorem C_c_zero (a : K) : (C a).c 0 = a := rfl
theorem C_c_succ (a : K) (n : Nat) : (C a).c (n + 1) = 0 := rfl
theorem conv_zero_left (m : Nat) : ∀ z g : PS K, (∀ k, z.c k = 0) → conv z g m = 0 := by
  induction m with
  | zero => intro z g hz; simp only [conv, hz]; grind
  | succ m ih => intro z g hz; simp only [conv, hz]; rw [ih _ _ (fun k => hz (k + 1))]; grind
theorem C_mul_c (a : K) (f : PS K) (n : Nat) : (C a * f).c n = a * f.c n := by
  rw [mul_c]
  cases n with
  | zero => simp only [conv]; rfl
  | succ n => simp only [conv]; rw [conv_zero_left _ _ _ (fun k => rfl), C_c_zero]; grind
theorem X_mul_c_zero (f : PS K) : (X * f).c 0 = 0 := by
  rw [mul_c]; simp only [conv]; show (0 : K) * _ = 0; grind
theorem X_mul_c_succ (f : PS K) (n : Nat) : (X * f).c (n + 1) = f.c n := by
  rw [mul_c]; simp only [conv]
  have e : tail (X : PS K) = C 1 := by apply ext'; intro m; cases m <;> rfl
  rw [e]
  have := C_mul_c (1 : K) f n
  rw [mul_c] at this
  rw [this]
  show (0 : K) * _ + _ = _
  grind
theorem split0 (f : PS K) : f = C (f.c 0) + X * f.tail := by
  apply ext'; intro n
  rw [add_c]
  cases n with
  | zero => rw [X_mul_c_zero, C_c_zero]; grind
  | succ n => rw [X_mul_c_succ, C_c_succ]; show f.c (n + 1) = 0 + f.c (n + 1); grind
theorem C_add (a b : K) : C (a + b) = C a + C b := by
  apply ext'; intro n; rw [add_c]; cases n with
  | zero => rfl
  | succ n => show (0 : K) = 0 + 0; grind
theorem C_mul (a b : K) : C (a * b) = C a * C b := by
  apply ext'; intro n; rw [C_mul_c]; cases n with
  | zero => rfl
  | succ n => show (0 : K) = a * 0; grind
theorem C_zero : C (0 : K) = 0 := by
  apply ext'; intro n; rw [zero_c]; cases n <;> rfl
theorem C_one : C (1 : K) = 1 := by
  apply ext'; intro n; rw [one_c]; cases n <;> rfl
theorem C_neg (a : K) : C (-a) = - C a := by
  apply ext'; intro n; rw [neg_c]; cases n with
  | zero => rfl
  | succ n => show (0 : K) = - 0; grind
theorem C_inj {a b : K} (h : C a = C b) : a = b := by
  have : (C a).c 0 = (C b).c 0 := by rw [h]
  exact this

theorem dlt.mono {f : PS K} {n m : Nat} (h : f.dlt n) (hm : n ≤ m) : f.dlt m := fun i hi => h i (by omega)
theorem dlt_zero (n : Nat) : (0 : PS K).dlt n := fun _ _ => rfl
theorem dlt_C (a : K) : (C a).dlt 1 := fun i hi => by
  obtain ⟨j, rfl⟩ : ∃ j, i = j + 1 := ⟨i - 1, by omega⟩
  rfl
theorem dlt_one : (1 : PS K).dlt 1 := by rw [← C_one]; exact dlt_C _
theorem dlt_X : (X : PS K).dlt 2 := fun i hi => by
  show (if i = 1 then (1 : K) else 0) = 0
  rw [if_neg (by omega)]
theorem dlt_add {f g : PS K} {n : Nat} (hf : f.dlt n) (hg : g.dlt n) : (f + g).dlt n := fun i hi => by
  rw [add_c, hf i hi, hg i hi]; grind
theorem dlt_neg {f : PS K} {n : Nat} (hf : f.dlt n) : (-f).dlt n := fun i hi => by
  rw [neg_c, hf i hi]; grind
theorem dlt_sub {f g : PS K} {n : Nat} (hf : f.dlt n) (hg : g.dlt n) : (f - g).dlt n := fun i hi => by
  rw [sub_c, hf i hi, hg i hi]; grind
theorem dlt_tail {f : PS K} {n : Nat} (hf : f.dlt (n + 1)) : f.tail.dlt n := fun i hi => hf (i + 1) (by omega)
theorem eq_zero_of_dlt {f : PS K} (hf : f.dlt 0) : f = 0 := ext' fun n => hf n (by omega)
theorem dlt_C_mul {f : PS K} {n : Nat} (a : K) (hf : f.dlt n) : (C a * f).dlt n := fun i hi => by
  rw [C_mul_c, hf i hi]; grind
theorem dlt_X_mul {f : PS K} {n : Nat} (hf : f.dlt n) : (X * f).dlt (n + 1) := fun i hi => by
  obtain ⟨j, rfl⟩ : ∃ j, i = j + 1 := ⟨i - 1, by omega⟩
  rw [X_mul_c_succ]; exact hf j (by omega)
theorem tail_mul (f g : PS K) : f * g = C (f.c 0) * g + X * (f.tail * g) := by
  have := split0 f
  have h2 : f * g = (C (f.c 0) + X * f.tail) * g := by rw [← this]
  rw [h2]; grind
/-- The degree of a product: n + m - 1 coefficients, and none where one factor has none. -/
theorem dlt_mul {g : PS K} {m : Nat} (hg : g.dlt (m + 1)) : ∀ (n : Nat) (f : PS K), f.dlt (n + 1) → (f * g).dlt (n + m + 1) := by
  intro n
  induction n with
  | zero =>
    intro f hf
    have e : f = C (f.c 0) := by
      apply ext'; intro i
      cases i with
      | zero => rfl
      | succ i => exact hf (i + 1) (by omega)
    rw [e, Nat.zero_add]; exact dlt_C_mul _ hg
  | succ n ih =>
    intro f hf
    rw [tail_mul]
    refine dlt_add ((dlt_C_mul _ hg).mono (by omega)) ?_
    have := dlt_X_mul (ih f.tail (dlt_tail hf))
    exact this.mono (by omega)
theorem dlt_mul' {f g : PS K} {n m : Nat} (hf : f.dlt n) (hg : g.dlt m) : (f * g).dlt (n + m) := by
  cases n with
  | zero => rw [eq_zero_of_dlt hf]; intro i hi; have : (0 : PS K) * g = 0 := by grind
            rw [this]; rfl
  | succ n =>
    cases m with
    | zero => rw [eq_zero_of_dlt hg]; intro i hi; have : f * (0 : PS K) = 0 := by grind
              rw [this]; rfl
    | succ m => exact (dlt_mul hg n f hf).mono (by omega)
/-- The coefficient at the greatest place of a product. -/
theorem mul_top {g : PS K} {m : Nat} (hg : g.dlt (m + 1)) : ∀ (n : Nat) (f : PS K), f.dlt (n + 1) → (f * g).c (n + m) = f.c n * g.c m := by
  intro n
  induction n with
  | zero =>
    intro f hf
    have e : f = C (f.c 0) := by
      apply ext'; intro i
      cases i with
      | zero => rfl
      | succ i => exact hf (i + 1) (by omega)
    have e2 : f * g = C (f.c 0) * g := by rw [← e]
    rw [e2, C_mul_c, Nat.zero_add]
  | succ n ih =>
    intro f hf
    rw [tail_mul, add_c, C_mul_c, hg (n + 1 + m) (by omega)]
    have : n + 1 + m = n + m + 1 := by omega
    rw [this, X_mul_c_succ, ih f.tail (dlt_tail hf)]
    show f.c 0 * 0 + f.c (n + 1) * g.c m = _
    grind
theorem IsPoly.add {f g : PS K} (hf : f.IsPoly) (hg : g.IsPoly) : (f + g).IsPoly := by
  obtain ⟨n, hn⟩ := hf; obtain ⟨m, hm⟩ := hg
  exact ⟨max n m, dlt_add (hn.mono (by omega)) (hm.mono (by omega))⟩
theorem IsPoly.neg {f : PS K} (hf : f.IsPoly) : (-f).IsPoly := by
  obtain ⟨n, hn⟩ := hf; exact ⟨n, dlt_neg hn⟩
theorem IsPoly.sub {f g : PS K} (hf : f.IsPoly) (hg : g.IsPoly) : (f - g).IsPoly := by
  obtain ⟨n, hn⟩ := hf; obtain ⟨m, hm⟩ := hg
  exact ⟨max n m, dlt_sub (hn.mono (by omega)) (hm.mono (by omega))⟩
theorem IsPoly.mul {f g : PS K} (hf : f.IsPoly) (hg : g.IsPoly) : (f * g).IsPoly := by
  obtain ⟨n, hn⟩ := hf; obtain ⟨m, hm⟩ := hg
  exact ⟨n + m, dlt_mul' hn hm⟩
theorem isPoly_C (a : K) : (C a).IsPoly := ⟨1, dlt_C a⟩
theorem isPoly_X : (X : PS K).IsPoly := ⟨2, dlt_X⟩
theorem isPoly_one : (1 : PS K).IsPoly := ⟨1, dlt_one⟩
theorem isPoly_zero : (0 : PS K).IsPoly := ⟨0, dlt_zero 0⟩
theorem IsPoly.tail {f : PS K} (hf : f.IsPoly) : f.tail.IsPoly := by
  obtain ⟨n, hn⟩ := hf; exact ⟨n, dlt_tail (hn.mono (by omega))⟩

/-! ### Values -/
def eval : Nat → PS K → K → K
  | 0, _, _ => 0
  | n + 1, f, a => f.c 0 + a * eval n f.tail a
theorem eval_zero_of (n : Nat) : ∀ (f : PS K) (a : K), (∀ i, f.c i = 0) → eval n f a = 0 := by
  induction n with
  | zero => intro f a _; rfl
  | succ n ih => intro f a h; simp only [eval]; rw [ih _ _ (fun i => h (i + 1)), h]; grind
theorem eval_mono (n : Nat) : ∀ (f : PS K) (a : K) (m : Nat), f.dlt n → n ≤ m → eval m f a = eval n f a := by
  induction n with
  | zero => intro f a m hf _; exact eval_zero_of _ _ _ (fun i => hf i (by omega))
  | succ n ih =>
    intro f a m hf hm
    obtain ⟨k, rfl⟩ : ∃ k, m = k + 1 := ⟨m - 1, by omega⟩
    simp only [eval]
    rw [ih f.tail a k (dlt_tail hf) (by omega)]
open Classical in
/-- The value of a polynomial. -/
noncomputable def ev (f : PS K) (a : K) : K := if h : f.IsPoly then eval (choose h) f a else 0
theorem ev_eq {f : PS K} {n : Nat} (h : f.dlt n) (a : K) : ev f a = eval n f a := by
  have hp : f.IsPoly := ⟨n, h⟩
  unfold ev
  rw [dif_pos hp]
  rcases Nat.le_total n (Classical.choose hp) with hl | hl
  · rw [eval_mono n f a _ h hl]
  · rw [eval_mono _ f a n (Classical.choose_spec hp) hl]
theorem ev_step {f : PS K} (h : f.IsPoly) (a : K) : ev f a = f.c 0 + a * ev f.tail a := by
  obtain ⟨n, hn⟩ := h
  rw [ev_eq (hn.mono (Nat.le_succ n)), ev_eq (dlt_tail (hn.mono (Nat.le_succ n)))]
  rfl
theorem ev_zero (a : K) : ev (0 : PS K) a = 0 := by rw [ev_eq (dlt_zero 0)]; rfl
theorem ev_C (b a : K) : ev (C b) a = b := by
  rw [ev_eq (dlt_C b)]; show b + a * 0 = b; grind
theorem ev_one (a : K) : ev (1 : PS K) a = 1 := by rw [← C_one, ev_C]
theorem eval_add (n : Nat) : ∀ (f g : PS K) (a : K), eval n (f + g) a = eval n f a + eval n g a := by
  induction n with
  | zero => intro f g a; show (0 : K) = 0 + 0; grind
  | succ n ih =>
    intro f g a
    simp only [eval]
    have e : (f + g).tail = f.tail + g.tail := ext' fun i => rfl
    rw [e, ih, add_c]; grind
theorem eval_neg (n : Nat) : ∀ (f : PS K) (a : K), eval n (-f) a = - eval n f a := by
  induction n with
  | zero => intro f a; show (0 : K) = - 0; grind
  | succ n ih =>
    intro f a
    simp only [eval]
    have e : (-f).tail = -f.tail := ext' fun i => rfl
    rw [e, ih, neg_c]; grind
theorem eval_C_mul (n : Nat) : ∀ (b : K) (f : PS K) (a : K), eval n (C b * f) a = b * eval n f a := by
  induction n with
  | zero => intro b f a; show (0 : K) = b * 0; grind
  | succ n ih =>
    intro b f a
    simp only [eval]
    have e : (C b * f).tail = C b * f.tail := ext' fun i => by
      show (C b * f).c (i + 1) = _
      rw [C_mul_c, C_mul_c]; rfl
    rw [e, ih, C_mul_c]; grind
theorem ev_add {f g : PS K} (hf : f.IsPoly) (hg : g.IsPoly) (a : K) : ev (f + g) a = ev f a + ev g a := by
  obtain ⟨n, hn⟩ := hf; obtain ⟨m, hm⟩ := hg
  have h1 := hn.mono (Nat.le_max_left n m)
  have h2 := hm.mono (Nat.le_max_right n m)
  rw [ev_eq (dlt_add h1 h2), ev_eq h1, ev_eq h2, eval_add]
theorem ev_neg {f : PS K} (hf : f.IsPoly) (a : K) : ev (-f) a = - ev f a := by
  obtain ⟨n, hn⟩ := hf
  rw [ev_eq (dlt_neg hn), ev_eq hn, eval_neg]
theorem ev_sub {f g : PS K} (hf : f.IsPoly) (hg : g.IsPoly) (a : K) : ev (f - g) a = ev f a - ev g a := by
  have : f - g = f + -g := by grind
  rw [this, ev_add hf hg.neg, ev_neg hg]; grind
theorem ev_C_mul {f : PS K} (hf : f.IsPoly) (b a : K) : ev (C b * f) a = b * ev f a := by
  obtain ⟨n, hn⟩ := hf
  rw [ev_eq (dlt_C_mul b hn), ev_eq hn, eval_C_mul]
theorem tail_X_mul (f : PS K) : (X * f).tail = f := ext' fun i => X_mul_c_succ f i
theorem ev_X_mul {f : PS K} (hf : f.IsPoly) (a : K) : ev (X * f) a = a * ev f a := by
  rw [ev_step (isPoly_X.mul hf), X_mul_c_zero, tail_X_mul]; grind
theorem ev_X (a : K) : ev (X : PS K) a = a := by
  have : (X : PS K) = X * 1 := by grind
  rw [this, ev_X_mul isPoly_one, ev_one]; grind
theorem ev_mul' {g : PS K} (hg : g.IsPoly) (a : K) : ∀ (n : Nat) (f : PS K), f.dlt n → ev (f * g) a = ev f a * ev g a := by
  intro n
  induction n with
  | zero =>
    intro f hf
    rw [eq_zero_of_dlt hf, ev_zero]
    have : (0 : PS K) * g = 0 := by grind
    rw [this, ev_zero]; grind
  | succ n ih =>
    intro f hf
    have hp : f.tail.IsPoly := ⟨n, dlt_tail hf⟩
    rw [tail_mul, ev_add ((isPoly_C _).mul hg) (isPoly_X.mul (hp.mul hg)), ev_C_mul hg, ev_X_mul (hp.mul hg), ih _ (dlt_tail hf), ev_step ⟨_, hf⟩]
    grind
theorem ev_mul {f g : PS K} (hf : f.IsPoly) (hg : g.IsPoly) (a : K) : ev (f * g) a = ev f a * ev g a := by
  obtain ⟨n, hn⟩ := hf; exact ev_mul' hg a n f hn
/-! ### Roots -/
def tails (f : PS K) : Nat → PS K
  | 0 => f
  | n + 1 => (tails f n).tail
omit [CR K] in
theorem tails_c (f : PS K) (n i : Nat) : (tails f n).c i = f.c (n + i) := by
  induction n generalizing i with
  | zero => simp [tails]
  | succ n ih => show (tails f n).c (i + 1) = _; rw [ih]; congr 1; omega
theorem tails_dlt {f : PS K} {n : Nat} (h : f.dlt n) (k : Nat) : (tails f k).dlt (n - k) := fun i hi => by
  rw [tails_c]; exact h _ (by omega)
/-- The quotient by X - a. -/
noncomputable def quot (f : PS K) (a : K) : PS K := ⟨fun i => ev (tails f (i + 1)) a⟩
theorem quot_dlt {f : PS K} {n : Nat} (h : f.dlt (n + 1)) (a : K) : (quot f a).dlt n := fun i hi => by
  show ev (tails f (i + 1)) a = 0
  rw [ev_eq (tails_dlt h (i + 1))]
  have : n + 1 - (i + 1) = 0 := by omega
  rw [this]; rfl
theorem quot_mul {f : PS K} (h : f.IsPoly) (a : K) : f = (X - C a) * quot f a + C (ev f a) := by
  have e1 : (X - C a) * quot f a + C (ev f a) = X * quot f a - C a * quot f a + C (ev f a) := by grind
  rw [e1]
  obtain ⟨n, hn⟩ := h
  apply ext'; intro i
  have hs : ∀ k, ev (tails f k) a = f.c k + a * ev (tails f (k + 1)) a := fun k => by
    rw [ev_step ⟨_, tails_dlt hn k⟩, tails_c]; rfl
  rw [add_c, sub_c, C_mul_c]
  cases i with
  | zero =>
    rw [X_mul_c_zero, C_c_zero]
    show f.c 0 = 0 - a * ev (tails f 1) a + ev f a
    have := hs 0
    have e : ev f a = ev (tails f 0) a := rfl
    rw [e, this]; grind
  | succ i =>
    rw [X_mul_c_succ, C_c_succ]
    show f.c (i + 1) = ev (tails f (i + 1)) a - a * ev (tails f (i + 1 + 1)) a + 0
    rw [hs (i + 1)]; grind
theorem factor {f : PS K} {n : Nat} (h : f.dlt (n + 1)) {a : K} (ha : ev f a = 0) : ∃ g : PS K, f = (X - C a) * g ∧ g.dlt n := by
  refine ⟨quot f a, ?_, quot_dlt h a⟩
  have := quot_mul ⟨_, h⟩ a
  rw [ha, C_zero] at this
  grind
theorem ev_lin (a b : K) : ev (X - C a) b = b - a := by
  rw [ev_sub isPoly_X (isPoly_C a), ev_X, ev_C]
theorem isPoly_lin (a : K) : (X - C a : PS K).IsPoly := isPoly_X.sub (isPoly_C a)
/-- A polynomial with at least as many roots as coefficients is 0. -/
theorem roots_zero [Fld K] : ∀ (l : List K) (f : PS K) (n : Nat), f.dlt n → l.Nodup → (∀ a ∈ l, ev f a = 0) → n ≤ l.length → f = 0 := by
  intro l
  induction l with
  | nil => intro f n hf _ _ hn; simp at hn; subst hn; exact eq_zero_of_dlt hf
  | cons a l ih =>
    intro f n hf hd hr hn
    cases n with
    | zero => exact eq_zero_of_dlt hf
    | succ n =>
      obtain ⟨g, rfl, hg⟩ := factor hf (hr a (by simp))
      have hd' := List.nodup_cons.1 hd
      have : g = 0 := ih g n hg hd'.2 (fun b hb => by
        have h1 := hr b (by simp [hb])
        rw [ev_mul (isPoly_lin a) ⟨_, hg⟩, ev_lin] at h1
        have hne : b - a ≠ 0 := fun h => by
          have : b = a := by grind
          exact hd'.1 (this ▸ hb)
        exact mul_eq_zero' h1 hne) (by simp at hn; omega)
      rw [this]; grind
/-- Two polynomials that agree at enough places are equal. -/
theorem eq_of_values [Fld K] (l : List K) {f g : PS K} {n : Nat} (hf : f.dlt n) (hg : g.dlt n) (hd : l.Nodup) (hv : ∀ a ∈ l, ev f a = ev g a) (hn : n ≤ l.length) : f = g := by
  have : f - g = 0 := roots_zero l (f - g) n (dlt_sub hf hg) hd (fun a ha => by
    rw [ev_sub ⟨_, hf⟩ ⟨_, hg⟩, hv a ha]; grind) hn
  grind
/-- No product of two polynomials that are not 0 is 0; by degrees. -/
theorem exists_top {f : PS K} (hp : f.IsPoly) (h : f ≠ 0) : ∃ n, f.dlt (n + 1) ∧ f.c n ≠ 0 := by
  obtain ⟨n, hn⟩ := hp
  induction n with
  | zero => exact absurd (eq_zero_of_dlt hn) h
  | succ n ih =>
    by_cases e : f.c n = 0
    · exact ih (fun i hi => by
        by_cases hi' : i = n
        · rw [hi', e]
        · exact hn i (by omega))
    · exact ⟨n, hn, e⟩
theorem mul_ne_zero_poly [Fld K] {f g : PS K} (hf : f.IsPoly) (hg : g.IsPoly) (h1 : f ≠ 0) (h2 : g ≠ 0) : f * g ≠ 0 := by
  obtain ⟨n, hn, hn0⟩ := exists_top hf h1
  obtain ⟨m, hm, hm0⟩ := exists_top hg h2
  intro h
  have := mul_top hm n f hn
  rw [h, zero_c] at this
  exact mul_ne hn0 hm0 this.symm
/-- Quotient and remainder are unique. -/
theorem div_unique [Fld K] {q q' d r r' : PS K} {m : Nat} (hd : d.dlt (m + 1)) (hm : d.c m ≠ 0) (hq : q.IsPoly) (hq' : q'.IsPoly) (hr : r.dlt m) (hr' : r'.dlt m) (h : q * d + r = q' * d + r') : q = q' ∧ r = r' := by
  have e : (q - q') * d = r' - r := by grind
  have hz : q - q' = 0 := by
    apply Classical.byContradiction
    intro hne
    obtain ⟨n, hn, hn0⟩ := exists_top (hq.sub hq') hne
    have h1 := mul_top hd n _ hn
    rw [e, dlt_sub hr' hr (n + m) (by omega)] at h1
    exact mul_ne hn0 hm h1.symm
  have h1 : q = q' := by grind
  refine ⟨h1, ?_⟩
  subst h1
  grind
end
end PS
end Go.Proofs.Ytenlaoadclfmaaa
