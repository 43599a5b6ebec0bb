/-
  The algorithm of Berlekamp and Massey: the shortest recurrence. Over any field. Plain mathematics.
-/
import Derived.Test.YtenlaoadclfmaaaKey
namespace Go.Proofs.Ytenlaoadclfmaaa
namespace PS
section
variable {K : Type} [CR K]
/-- c with length L generates the first n elements of S. -/
structure Gen (S c : PS K) (L n : Nat) : Prop where
  one : c.c 0 = 1
  deg : c.dlt (L + 1)
  zero : ∀ k, L ≤ k → k < n → (c * S).c k = 0
theorem Gen.mono {S c : PS K} {L n m : Nat} (h : Gen S c L n) (hm : m ≤ n) : Gen S c L m := ⟨h.one, h.deg, fun k h1 h2 => h.zero k h1 (by omega)⟩
/-- Low part and rest of a series. -/
theorem cut_at (f : PS K) (n : Nat) : ∃ lo hi : PS K, f = lo + (X : PS K) ^ n * hi ∧ lo.dlt n ∧ (∀ i, i < n → lo.c i = f.c i) ∧ ∀ i, hi.c i = f.c (n + i) := by
  refine ⟨⟨fun i => if i < n then f.c i else 0⟩, ⟨fun i => f.c (n + i)⟩, ext' fun i => ?_, fun i hi => if_neg (by omega), fun i hi => if_pos hi, fun _ => rfl⟩
  rw [add_c, Xpow_c]
  by_cases h : i < n
  · rw [if_neg (by omega)]; show f.c i = (if i < n then f.c i else 0) + 0; rw [if_pos h]; grind
  · rw [if_pos (by omega)]; show f.c i = (if i < n then f.c i else 0) + f.c (n + (i - n)); rw [if_neg h]
    have : n + (i - n) = i := by omega
    rw [this]; grind
/-- MASSEY: a recurrence that fails at n forces a length of at least n + 1 - L. -/
theorem massey [Fld K] {S c c' : PS K} {L L' n : Nat} (h : Gen S c L n) (hd : (c * S).c n ≠ 0) (h' : Gen S c' L' (n + 1)) : n + 1 ≤ L + L' := by
  apply Classical.byContradiction
  intro hlt
  obtain ⟨a, r, ha, had, hai, hr⟩ := cut_at (c * S) n
  obtain ⟨a', r', ha', had', hai', hr'⟩ := cut_at (c' * S) (n + 1)
  have hadL : a.dlt L := fun i hi => by
    by_cases hin : i < n
    · rw [hai i hin]; exact h.zero i hi hin
    · exact had i (by omega)
  have hadL' : a'.dlt L' := fun i hi => by
    by_cases hin : i < n + 1
    · rw [hai' i hin]; exact h'.zero i hi hin
    · exact had' i (by omega)
  have e : c' * a + (X : PS K) ^ n * (c' * r) = c * a' + (X : PS K) ^ (n + 1) * (c * r') := by
    have e1 : c' * (c * S) = c * (c' * S) := by grind
    rw [ha, ha'] at e1
    grind
  have e2 : (c' * a + (X : PS K) ^ n * (c' * r)).c n = (c * a' + (X : PS K) ^ (n + 1) * (c * r')).c n := by rw [e]
  rw [add_c, add_c, Xpow_c, Xpow_c, if_pos (Nat.le_refl n), if_neg (by omega), Nat.sub_self, mul_c_zero, h'.one, hr 0] at e2
  have z1 : (c' * a).c n = 0 := by
    cases hL : L with
    | zero =>
      rw [hL] at hadL; rw [eq_zero_of_dlt hadL]
      have : c' * (0 : PS K) = 0 := by grind
      rw [this]; rfl
    | succ m => rw [hL] at hadL; exact dlt_mul hadL L' c' h'.deg n (by omega)
  have z2 : (c * a').c n = 0 := by
    cases hL : L' with
    | zero =>
      rw [hL] at hadL'; rw [eq_zero_of_dlt hadL']
      have : c * (0 : PS K) = 0 := by grind
      rw [this]; rfl
    | succ m => rw [hL] at hadL'; exact dlt_mul hadL' L c h.deg n (by omega)
  rw [z1, z2] at e2
  apply hd
  have : n + 0 = n := rfl
  rw [this] at e2
  grind
/-- The state of the algorithm. -/
structure St (K : Type) where
  now : PS K
  before : PS K
  L : Nat
  shift : Nat
  last : K
/-- What holds of the state behind k elements. -/
structure Inv (S : PS K) (k : Nat) (s : St K) : Prop where
  gen : Gen S s.now s.L k
  least : ∀ c' L', Gen S c' L' k → s.L ≤ L'
  le : s.L ≤ k
  last0 : s.last ≠ 0
  bone : s.before.c 0 = 1
  /-- either nothing but zeros so far, or the earlier polynomial fails just here -/
  old : (s.L = 0 ∧ s.now = 1 ∧ s.before = 1 ∧ s.shift = k + 1 ∧ s.last = 1) ∨
    (0 < s.L ∧ 0 < s.shift ∧ ((X : PS K) ^ s.shift * s.before).dlt (k + 2 - s.L) ∧ (∀ i, k + 1 - s.L ≤ i → i < k → ((X : PS K) ^ s.shift * s.before * S).c i = 0) ∧ ((X : PS K) ^ s.shift * s.before * S).c k = s.last)
def start : St K := ⟨1, 1, 0, 1, 1⟩
theorem inv_start [Fld K] (S : PS K) : Inv S 0 start :=
  ⟨⟨(one_c 0).trans (if_pos rfl), dlt_one, fun k _ h => by omega⟩, fun _ _ _ => Nat.zero_le _, Nat.le_refl _, Fld.one_ne, (one_c 0).trans (if_pos rfl), .inl ⟨rfl, rfl, rfl, rfl, rfl⟩⟩
/-- A step: 'd' is the miss, 'q' the quotient of the misses. -/
def step (k : Nat) (s : St K) (d q : K) (zero : Bool) : St K :=
  if zero then { s with shift := s.shift + 1 }
  else
    let next := s.now + C (-q) * ((X : PS K) ^ s.shift * s.before)
    if 2 * s.L ≤ k then ⟨next, s.now, k + 1 - s.L, 1, d⟩ else { s with now := next, shift := s.shift + 1 }
theorem C_mul_mul_c (a : K) (f g : PS K) (i : Nat) : (C a * f * g).c i = a * (f * g).c i := by
  have : C a * f * g = C a * (f * g) := by grind
  rw [this, C_mul_c]
theorem inv_step_zero {S : PS K} {k : Nat} {s : St K} (h : Inv S k s) (hd : (s.now * S).c k = 0) : Inv S (k + 1) { s with shift := s.shift + 1 } := by
  refine ⟨⟨h.gen.one, h.gen.deg, fun i h1 h2 => ?_⟩, fun c' L' h' => h.least c' L' (h'.mono (by omega)), by have := h.le; show s.L ≤ k + 1; omega, h.last0, h.bone, ?_⟩
  · by_cases e : i = k
    · rw [e]; exact hd
    · exact h.gen.zero i h1 (by omega)
  · rcases h.old with ⟨a, b, c, d, e⟩ | ⟨a, b, c, d, e⟩
    · exact .inl ⟨a, b, c, by show s.shift + 1 = _; omega, e⟩
    · have hle := h.le
      have e1 : (X : PS K) ^ (s.shift + 1) * s.before = X * ((X : PS K) ^ s.shift * s.before) := by grind
      have e2 : (X : PS K) ^ (s.shift + 1) * s.before * S = X * ((X : PS K) ^ s.shift * s.before * S) := by grind
      refine .inr ⟨a, Nat.succ_pos _, ?_, ?_, ?_⟩
      · show ((X : PS K) ^ (s.shift + 1) * s.before).dlt (k + 1 + 2 - s.L)
        rw [e1]; exact (dlt_X_mul c).mono (by omega)
      · intro i h1 h2
        show ((X : PS K) ^ (s.shift + 1) * s.before * S).c i = 0
        rw [e2]
        cases i with
        | zero => exact X_mul_c_zero _
        | succ i => rw [X_mul_c_succ]; exact d i (by show k + 1 - s.L ≤ i; have : k + 1 + 1 - s.L ≤ i + 1 := h1; omega) (by omega)
      · show ((X : PS K) ^ (s.shift + 1) * s.before * S).c (k + 1) = s.last
        rw [e2, X_mul_c_succ]; exact e
theorem low_zero {S : PS K} {k : Nat} (h : ∀ i, i < k → ((1 : PS K) * S).c i = 0) (f : PS K) : ∀ i, i < k → (f * S).c i = 0 := by
  intro i hi
  obtain ⟨lo, hi', e, hlo, hloi, _⟩ := cut_at S k
  have z : lo = 0 := ext' fun j => by
    by_cases hj : j < k
    · rw [hloi j hj]
      have := h j hj
      have e1 : (1 : PS K) * S = S := by grind
      rw [e1] at this; exact this
    · exact hlo j (by omega)
  have e2 : f * S = (X : PS K) ^ k * (f * hi') := by rw [e, z]; grind
  rw [e2, Xpow_c, if_neg (by omega)]
theorem inv_step [Fld K] {S : PS K} {k : Nat} {s : St K} (h : Inv S k s) {q : K} (hd : (s.now * S).c k ≠ 0) (hq : q * s.last = (s.now * S).c k) :
    Inv S (k + 1) (step k s ((s.now * S).c k) q false) ∧ (step k s ((s.now * S).c k) q false).L = max s.L (k + 1 - s.L) := by
  have hle := h.le
  have hleast : ∀ c' L', Gen S c' L' (k + 1) → max s.L (k + 1 - s.L) ≤ L' := fun c' L' h' => by
    have h1 := h.least c' L' (h'.mono (by omega))
    have h2 := massey h.gen hd h'
    omega
  -- what the next polynomial does
  have hnext : Gen S (s.now + C (-q) * ((X : PS K) ^ s.shift * s.before)) (max s.L (k + 1 - s.L)) (k + 1) := by
    rcases h.old with ⟨a, b, c, d, e⟩ | ⟨a, b, c, d, e⟩
    · refine ⟨?_, ?_, ?_⟩
      · rw [add_c, h.gen.one, C_mul_c, Xpow_c, if_neg (by omega)]; grind
      · refine dlt_add (h.gen.deg.mono (by omega)) (dlt_C_mul _ ?_)
        intro i hi
        rw [Xpow_c, c, one_c]
        split
        · rw [if_neg (by omega)]
        · rfl
      · intro i h1 h2; omega
    · refine ⟨?_, ?_, ?_⟩
      · rw [add_c, h.gen.one, C_mul_c, Xpow_c, if_neg (by omega)]; grind
      · exact dlt_add (h.gen.deg.mono (by omega)) (dlt_C_mul _ (c.mono (by omega)))
      · intro i h1 h2
        have e1 : (s.now + C (-q) * ((X : PS K) ^ s.shift * s.before)) * S = s.now * S + C (-q) * ((X : PS K) ^ s.shift * s.before) * S := by grind
        rw [e1, add_c, C_mul_mul_c]
        by_cases hi : i = k
        · rw [hi, e]; grind
        · rw [h.gen.zero i (by omega) (by omega), d i (by omega) (by omega)]; grind
  unfold step
  rw [if_neg (by simp)]
  by_cases hL : 2 * s.L ≤ k
  · rw [if_pos hL]
    have hmx : max s.L (k + 1 - s.L) = k + 1 - s.L := by omega
    rw [hmx] at hnext hleast ⊢
    refine ⟨⟨hnext, hleast, by show k + 1 - s.L ≤ k + 1; omega, hd, h.gen.one, .inr ⟨by show 0 < k + 1 - s.L; omega, Nat.one_pos, ?_, ?_, ?_⟩⟩, rfl⟩
    · show ((X : PS K) ^ 1 * s.now).dlt (k + 1 + 2 - (k + 1 - s.L))
      have e1 : (X : PS K) ^ 1 * s.now = X * s.now := by grind
      rw [e1]; exact (dlt_X_mul h.gen.deg).mono (by omega)
    · intro i h1 h2
      show ((X : PS K) ^ 1 * s.now * S).c i = 0
      have h1' : k + 1 + 1 - (k + 1 - s.L) ≤ i := h1
      have e1 : (X : PS K) ^ 1 * s.now * S = X * (s.now * S) := by grind
      rw [e1]
      cases i with
      | zero => exact X_mul_c_zero _
      | succ i => rw [X_mul_c_succ]; exact h.gen.zero i (by omega) (by omega)
    · show ((X : PS K) ^ 1 * s.now * S).c (k + 1) = (s.now * S).c k
      have e1 : (X : PS K) ^ 1 * s.now * S = X * (s.now * S) := by grind
      rw [e1, X_mul_c_succ]
  · rw [if_neg hL]
    have hmx : max s.L (k + 1 - s.L) = s.L := by omega
    rw [hmx] at hnext hleast ⊢
    refine ⟨⟨hnext, hleast, by show s.L ≤ k + 1; omega, h.last0, h.bone, .inr ?_⟩, rfl⟩
    rcases h.old with ⟨a, b, c, d, e⟩ | ⟨a, b, c, d, e⟩
    · omega
    · have e1 : (X : PS K) ^ (s.shift + 1) * s.before = X * ((X : PS K) ^ s.shift * s.before) := by grind
      have e2 : (X : PS K) ^ (s.shift + 1) * s.before * S = X * ((X : PS K) ^ s.shift * s.before * S) := by grind
      refine ⟨a, Nat.succ_pos _, ?_, ?_, ?_⟩
      · show ((X : PS K) ^ (s.shift + 1) * s.before).dlt (k + 1 + 2 - s.L)
        rw [e1]; exact (dlt_X_mul c).mono (by omega)
      · intro i h1 h2
        show ((X : PS K) ^ (s.shift + 1) * s.before * S).c i = 0
        rw [e2]
        cases i with
        | zero => exact X_mul_c_zero _
        | succ i => rw [X_mul_c_succ]; exact d i (by have : k + 1 + 1 - s.L ≤ i + 1 := h1; omega) (by omega)
      · show ((X : PS K) ^ (s.shift + 1) * s.before * S).c (k + 1) = s.last
        rw [e2, X_mul_c_succ]; exact e
/-- A recurrence of the least length, of at most half the elements, is the locator polynomial. 'O' is what the locator polynomial leaves, at no inverse locator 0. -/
theorem rec_unique [Fld K] {S c O w : PS K} {L n : Nat} (l : List K) (hl : l.Nodup) (hinv : ∀ a ∈ l, ∃ b, a * b = 1 ∧ ev O b ≠ 0)
    (hS : lam l * S = O + (X : PS K) ^ n * w) (hO : O.dlt l.length) (hn : 2 * l.length ≤ n) (hc : Gen S c L n) (hL : L ≤ l.length) : c = lam l ∧ L = l.length := by
  obtain ⟨a, r, ha, had, hai, hr⟩ := cut_at (c * S) n
  have hadL : a.dlt L := fun i hi => by
    by_cases hin : i < n
    · rw [hai i hin]; exact hc.zero i hi hin
    · exact had i (by omega)
  have e1 : c * O - lam l * a = (X : PS K) ^ n * (lam l * r - c * w) := by
    have : c * (lam l * S) = lam l * (c * S) := by grind
    rw [hS, ha] at this
    grind
  have d1 : (c * O - lam l * a).dlt n := by
    refine dlt_sub ?_ ?_
    · cases hk : l.length with
      | zero =>
        rw [hk] at hO; rw [eq_zero_of_dlt hO]
        have : c * (0 : PS K) = 0 := by grind
        rw [this]; exact dlt_zero _
      | succ m => rw [hk] at hO; exact (dlt_mul hO L c hc.deg).mono (by omega)
    · cases hk : L with
      | zero =>
        rw [hk] at hadL; rw [eq_zero_of_dlt hadL]
        have : lam l * (0 : PS K) = 0 := by grind
        rw [this]; exact dlt_zero _
      | succ m => rw [hk] at hadL; exact (dlt_mul hadL l.length (lam l) (dlt_lam l)).mono (by omega)
  rw [e1] at d1
  have e2 := Xpow_dlt_zero d1
  have e3 : c * O = lam l * a := by
    have : c * O - lam l * a = 0 := by rw [e1, e2]; grind
    grind
  obtain ⟨g, hg, hgd⟩ := lam_dvd l c (L + 1) hc.deg hl (fun x hx => by
    obtain ⟨b, hab, hb⟩ := hinv x hx
    refine ⟨b, hab, ?_⟩
    have h1 : ev (c * O) b = ev (lam l * a) b := by rw [e3]
    rw [ev_mul ⟨_, hc.deg⟩ ⟨_, hO⟩, ev_mul (isPoly_lam l) ⟨_, hadL⟩, (ev_lam_zero l hab).2 hx] at h1
    have h2 : ev O b * ev c b = 0 := by grind
    exact mul_eq_zero' h2 hb)
  have h0 : g.c 0 = 1 := by
    have := hc.one
    rw [hg, mul_c_zero, lam_c_zero] at this
    grind
  have hLl : L = l.length := by
    apply Classical.byContradiction
    intro hne
    have : L + 1 - l.length = 0 := by omega
    rw [this] at hgd
    rw [eq_zero_of_dlt hgd] at h0
    rw [zero_c] at h0
    exact Fld.one_ne h0.symm
  refine ⟨?_, hLl⟩
  have hg1 : g = 1 := ext' fun i => by
    rw [one_c]
    cases i with
    | zero => rw [h0]; rfl
    | succ i => rw [if_neg (by omega)]; exact hgd (i + 1) (by omega)
  rw [hg, hg1]; grind
end
end PS
end Go.Proofs.Ytenlaoadclfmaaa
