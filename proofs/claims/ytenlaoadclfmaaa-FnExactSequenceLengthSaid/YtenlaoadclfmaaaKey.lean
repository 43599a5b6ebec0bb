/-
  Locators, syndromes, the formula of Forney, the key equation, and the algorithm of Euclid. Over any field. Plain mathematics.
-/
import Derived.Test.YtenlaoadclfmaaaPoly
namespace Go.Proofs.Ytenlaoadclfmaaa
namespace PS
section
variable {K : Type} [CR K]
/-- 1 - a X. -/
def lf (a : K) : PS K := 1 - C a * X
/-- The polynomial with factors 1 - a X. -/
def lam : List K → PS K
  | [] => 1
  | a :: l => lf a * lam l
def geom (a : K) : PS K := ⟨fun j => a ^ j⟩
/-- The series of the syndromes of errors (locator, value). -/
def gs : List (K × K) → PS K
  | [] => 0
  | p :: E => C (p.2 * p.1) * geom p.1 + gs E
/-- The evaluator. -/
def om : List (K × K) → PS K
  | [] => 0
  | p :: E => C (p.2 * p.1) * lam (E.map (·.1)) + lf p.1 * om E
theorem lf_geom (a : K) : lf a * geom a = 1 := by
  unfold lf
  have e : (1 - C a * X) * geom a = geom a - C a * (X * geom a) := by grind
  rw [e]
  apply ext'; intro n
  rw [sub_c, C_mul_c, one_c]
  cases n with
  | zero => rw [X_mul_c_zero]; show a ^ 0 - a * 0 = _; simp; grind
  | succ n => rw [X_mul_c_succ]; show a ^ (n + 1) - a * a ^ n = _; simp; grind
theorem lam_gs (E : List (K × K)) : lam (E.map (·.1)) * gs E = om E := by
  induction E with
  | nil => show (1 : PS K) * 0 = 0; grind
  | cons p E ih =>
    show lf p.1 * lam (E.map (·.1)) * (C (p.2 * p.1) * geom p.1 + gs E) = C (p.2 * p.1) * lam (E.map (·.1)) + lf p.1 * om E
    have := lf_geom p.1
    grind
theorem lam_append (l m : List K) : lam (l ++ m) = lam l * lam m := by
  induction l with
  | nil => show lam m = 1 * lam m; grind
  | cons a l ih => show lf a * lam (l ++ m) = lf a * lam l * lam m; rw [ih]; grind
theorem gs_append (E D : List (K × K)) : gs (E ++ D) = gs E + gs D := by
  induction E with
  | nil => show gs D = 0 + gs D; grind
  | cons p E ih => show _ + gs (E ++ D) = _ + gs E + gs D; rw [ih]; grind
theorem om_append (E D : List (K × K)) : om (E ++ D) = om E * lam (D.map (·.1)) + lam (E.map (·.1)) * om D := by
  rw [← lam_gs, ← lam_gs, ← lam_gs, List.map_append, lam_append, gs_append]; grind
theorem dlt_lf (a : K) : (lf a).dlt 2 := dlt_sub (dlt_one.mono (by omega)) (by
  have := dlt_mul' (dlt_C a) (dlt_X (K := K))
  intro i hi
  rw [C_mul_c]
  show a * (if i = 1 then (1 : K) else 0) = 0
  rw [if_neg (by omega)]; grind)
theorem isPoly_lf (a : K) : (lf a).IsPoly := ⟨2, dlt_lf a⟩
theorem dlt_lam (l : List K) : (lam l).dlt (l.length + 1) := by
  induction l with
  | nil => exact dlt_one
  | cons a l ih =>
    have := dlt_mul (m := l.length) ih 1 (lf a) (dlt_lf a)
    show (lf a * lam l).dlt _
    exact this.mono (by simp only [List.length_cons]; omega)
theorem isPoly_lam (l : List K) : (lam l).IsPoly := ⟨_, dlt_lam l⟩
theorem dlt_om (E : List (K × K)) : (om E).dlt E.length := by
  induction E with
  | nil => exact dlt_zero _
  | cons p E ih =>
    refine dlt_add ?_ ?_
    · refine dlt_C_mul _ ?_
      have := dlt_lam (E.map (·.1))
      rw [List.length_map] at this
      exact this
    · cases hE : E.length with
      | zero =>
        rw [hE] at ih
        rw [eq_zero_of_dlt ih]
        have : lf p.1 * (0 : PS K) = 0 := by grind
        rw [this]; exact dlt_zero _
      | succ m =>
        rw [hE] at ih
        have := dlt_mul ih 1 (lf p.1) (dlt_lf _)
        exact this.mono (by simp only [List.length_cons, hE]; omega)
theorem isPoly_om (E : List (K × K)) : (om E).IsPoly := ⟨_, dlt_om E⟩
theorem lf_c_zero (a : K) : (lf a).c 0 = 1 := by
  unfold lf
  rw [sub_c, C_mul_c, one_c]
  show 1 - a * (if 0 = 1 then (1 : K) else 0) = 1
  simp; grind
theorem mul_c_zero (f g : PS K) : (f * g).c 0 = f.c 0 * g.c 0 := rfl
theorem lam_c_zero (l : List K) : (lam l).c 0 = 1 := by
  induction l with
  | nil => exact (one_c 0).trans (if_pos rfl)
  | cons a l ih => show (lf a * lam l).c 0 = 1; rw [mul_c_zero, lf_c_zero, ih]; grind
theorem ev_lf (a b : K) : ev (lf a) b = 1 - a * b := by
  unfold lf
  rw [ev_sub isPoly_one ((isPoly_C a).mul isPoly_X), ev_one, ev_mul (isPoly_C a) isPoly_X, ev_C, ev_X]
theorem ev_lam_cons (a : K) (l : List K) (b : K) : ev (lam (a :: l)) b = (1 - a * b) * ev (lam l) b := by
  show ev (lf a * lam l) b = _
  rw [ev_mul (isPoly_lf a) (isPoly_lam l), ev_lf]
/-- At an inverse locator the locator polynomial is 0 exactly if the locator is one of its own. -/
theorem ev_lam_zero [Fld K] (l : List K) {a b : K} (hab : a * b = 1) : ev (lam l) b = 0 ↔ a ∈ l := by
  induction l with
  | nil =>
    show ev (1 : PS K) b = 0 ↔ _
    rw [ev_one]; simp; exact Fld.one_ne
  | cons a' l ih =>
    rw [ev_lam_cons]
    constructor
    · intro h
      by_cases e : 1 - a' * b = 0
      · have : a' = a := by
          have : a' = a' * (a * b) := by rw [hab]; grind
          grind
        simp [this]
      · exact List.mem_cons_of_mem _ (ih.1 (mul_eq_zero' h e))
    · intro h
      rcases List.mem_cons.1 h with e | h
      · subst e
        rw [hab]; grind
      · rw [ih.2 h]; grind
/-- The evaluator at the inverse of a locator. -/
theorem ev_om_at (E1 E2 : List (K × K)) (a e b : K) (hab : a * b = 1) : ev (om (E1 ++ (a, e) :: E2)) b = e * a * (ev (lam (E1.map (·.1))) b * ev (lam (E2.map (·.1))) b) := by
  rw [om_append]
  rw [ev_add ((isPoly_om _).mul (isPoly_lam _)) ((isPoly_lam _).mul (isPoly_om _)), ev_mul (isPoly_om _) (isPoly_lam _), ev_mul (isPoly_lam _) (isPoly_om _)]
  have e1 : ev (lam (((a, e) :: E2).map (·.1))) b = 0 := by
    show ev (lam (a :: E2.map (·.1))) b = 0
    rw [ev_lam_cons, hab]; grind
  have e2 : ev (om ((a, e) :: E2)) b = e * a * ev (lam (E2.map (·.1))) b := by
    show ev (C (e * a) * lam (E2.map (·.1)) + lf a * om E2) b = _
    rw [ev_add ((isPoly_C _).mul (isPoly_lam _)) ((isPoly_lf _).mul (isPoly_om _)), ev_mul (isPoly_C _) (isPoly_lam _), ev_mul (isPoly_lf _) (isPoly_om _), ev_C, ev_lf, hab]; grind
  rw [e1, e2]; grind
/-- The coefficients of the series of errors are their syndromes. -/
theorem gs_c (E : List (K × K)) (j : Nat) : (gs E).c j = (E.map fun p => p.2 * p.1 ^ (j + 1)).foldr (· + ·) 0 := by
  induction E with
  | nil => rfl
  | cons p E ih =>
    show (C (p.2 * p.1) * geom p.1 + gs E).c j = p.2 * p.1 ^ (j + 1) + _
    rw [add_c, C_mul_c, ih]
    show p.2 * p.1 * p.1 ^ j + _ = _
    grind
/-! ### The derivative -/
/-- A natural number in the ring. -/
def nk : Nat → K
  | 0 => 0
  | n + 1 => nk n + 1
def D (f : PS K) : PS K := ⟨fun n => nk (n + 1) * f.c (n + 1)⟩
theorem nk_one : (nk 1 : K) = 1 := by show (0 : K) + 1 = 1; grind
theorem D_add (f g : PS K) : D (f + g) = D f + D g := ext' fun n => by
  rw [add_c]
  show nk (n + 1) * (f + g).c (n + 1) = nk (n + 1) * f.c (n + 1) + nk (n + 1) * g.c (n + 1)
  rw [add_c]; grind
theorem D_C_mul (a : K) (f : PS K) : D (C a * f) = C a * D f := ext' fun n => by
  rw [C_mul_c]
  show nk (n + 1) * (C a * f).c (n + 1) = a * (nk (n + 1) * f.c (n + 1))
  rw [C_mul_c]; grind
theorem D_X_mul (f : PS K) : D (X * f) = f + X * D f := ext' fun n => by
  rw [add_c]
  show nk (n + 1) * (X * f).c (n + 1) = f.c n + _
  rw [X_mul_c_succ]
  cases n with
  | zero => rw [X_mul_c_zero]; show nk 1 * _ = _; rw [nk_one]; grind
  | succ n =>
    rw [X_mul_c_succ]
    show nk (n + 1 + 1) * f.c (n + 1) = f.c (n + 1) + nk (n + 1) * f.c (n + 1)
    have : (nk (n + 1 + 1) : K) = nk (n + 1) + 1 := rfl
    rw [this]; grind
theorem dlt_D {f : PS K} {n : Nat} (h : f.dlt (n + 1)) : (D f).dlt n := fun i hi => by
  show nk (i + 1) * f.c (i + 1) = 0
  rw [h (i + 1) (by omega)]; grind
theorem D_mul' (g : PS K) : ∀ (n : Nat) (f : PS K), f.dlt n → D (f * g) = D f * g + f * D g := by
  intro n
  induction n with
  | zero =>
    intro f hf
    rw [eq_zero_of_dlt hf]
    have e : (0 : PS K) * g = 0 := by grind
    have e2 : D (0 : PS K) = 0 := ext' fun i => by show _ * (0 : K) = 0; grind
    rw [e, e2]; grind
  | succ n ih =>
    intro f hf
    have h1 := ih f.tail (dlt_tail hf)
    have h2 := tail_mul f g
    have h3 : D f = D (C (f.c 0) + X * f.tail) := by rw [← split0 f]
    have h4 : D (C (f.c 0)) = 0 := ext' fun i => by show nk (i + 1) * 0 = 0; grind
    rw [h2, D_add, D_C_mul, D_X_mul, h1, h3, D_add, h4, D_X_mul]
    have h5 := split0 f
    have h6 : f * D g = C (f.c 0) * D g + X * f.tail * D g := by
      have : f * D g = (C (f.c 0) + X * f.tail) * D g := by rw [← h5]
      rw [this]; grind
    rw [h6]; grind
theorem D_mul {f : PS K} (hf : f.IsPoly) (g : PS K) : D (f * g) = D f * g + f * D g := by
  obtain ⟨n, hn⟩ := hf; exact D_mul' g n f hn
theorem isPoly_D {f : PS K} (h : f.IsPoly) : (D f).IsPoly := by
  obtain ⟨n, hn⟩ := h; exact ⟨n, dlt_D (hn.mono (Nat.le_succ n))⟩
theorem D_lf (a : K) : D (lf a) = C (-a) := by
  apply ext'; intro n
  show nk (n + 1) * (1 - C a * X : PS K).c (n + 1) = _
  rw [sub_c, C_mul_c, one_c]
  show nk (n + 1) * ((if n + 1 = 0 then 1 else 0) - a * (if n + 1 = 1 then (1 : K) else 0)) = _
  cases n with
  | zero => show nk 1 * _ = _; rw [nk_one]; simp; show _ = -a; grind
  | succ n => simp; show _ = (0 : K); grind
theorem ev_D_lam_at (l1 l2 : List K) (a b : K) (hab : a * b = 1) : ev (D (lam (l1 ++ a :: l2))) b = - a * (ev (lam l1) b * ev (lam l2) b) := by
  have e : lam (l1 ++ a :: l2) = lf a * (lam l1 * lam l2) := by
    rw [lam_append]; show lam l1 * (lf a * lam l2) = _; grind
  have hp := (isPoly_lam l1).mul (isPoly_lam l2)
  rw [e, D_mul (isPoly_lf a), ev_add ((isPoly_D (isPoly_lf a)).mul hp) ((isPoly_lf a).mul (isPoly_D hp)), D_lf, ev_mul (isPoly_C _) hp, ev_C, ev_mul (isPoly_lf a) (isPoly_D hp), ev_lf, hab, ev_mul (isPoly_lam l1) (isPoly_lam l2)]
  grind
/-- FORNEY: the value of an error out of the evaluator and the derivative of the locator. -/
theorem forney [Fld K] (E1 E2 : List (K × K)) (a e b : K) (hab : a * b = 1) (hd : ((E1 ++ (a, e) :: E2).map (·.1)).Nodup) :
    ev (D (lam ((E1 ++ (a, e) :: E2).map (·.1)))) b ≠ 0 ∧ ev (om (E1 ++ (a, e) :: E2)) b = - e * ev (D (lam ((E1 ++ (a, e) :: E2).map (·.1)))) b := by
  rw [List.map_append, List.map_cons] at hd ⊢
  rw [ev_om_at E1 E2 a e b hab, ev_D_lam_at _ _ a b hab]
  obtain ⟨hd1, hd2, hd3⟩ := List.nodup_append.1 hd
  have hd4 := List.nodup_cons.1 hd2
  have ha : a ≠ 0 := fun h => by
    rw [h] at hab; have : (0 : K) * b = 0 := by grind
    rw [this] at hab; exact Fld.one_ne hab.symm
  have h1 : ev (lam (E1.map (·.1))) b ≠ 0 := fun h => hd3 a ((ev_lam_zero _ hab).1 h) a (by simp) rfl
  have h2 : ev (lam (E2.map (·.1))) b ≠ 0 := fun h => hd4.1 ((ev_lam_zero _ hab).1 h)
  exact ⟨mul_ne (fun h => ha (by grind)) (mul_ne h1 h2), by grind⟩
/-- The series with some places shifted in ends at once if its product has few places. -/
theorem Xpow_c (n : Nat) : ∀ (f : PS K) (i : Nat), ((X : PS K) ^ n * f).c i = if n ≤ i then f.c (i - n) else 0 := by
  induction n with
  | zero => intro f i; have : (X : PS K) ^ 0 * f = f := by grind
            rw [this]; simp
  | succ n ih =>
    intro f i
    have : (X : PS K) ^ (n + 1) * f = X * ((X : PS K) ^ n * f) := by grind
    rw [this]
    cases i with
    | zero => rw [X_mul_c_zero, if_neg (by omega)]
    | succ i => rw [X_mul_c_succ, ih]; simp
theorem Xpow_dlt_zero {d : Nat} {h : PS K} (hd : ((X : PS K) ^ d * h).dlt d) : h = 0 := ext' fun n => by
  have := hd (d + n) (by omega)
  rw [Xpow_c, if_pos (by omega)] at this
  rw [zero_c, ← this]; congr 1; omega
/-- Few errors: all syndromes 0 only if all values are 0. -/
theorem values_zero [Fld K] (E : List (K × K)) (hd : (E.map (·.1)).Nodup) (hn0 : ∀ p ∈ E, p.1 ≠ 0) (hs : ∀ j, j < E.length → (gs E).c j = 0) : ∀ p ∈ E, p.2 = 0 := by
  intro p hp
  have hz : ∃ h : PS K, gs E = (X : PS K) ^ E.length * h := by
    refine ⟨⟨fun i => (gs E).c (E.length + i)⟩, ext' fun n => ?_⟩
    rw [Xpow_c]
    split
    · show _ = (gs E).c (E.length + (n - E.length)); congr 1; omega
    · exact hs n (by omega)
  obtain ⟨h, hh⟩ := hz
  have h1 : om E = (X : PS K) ^ E.length * (lam (E.map (·.1)) * h) := by rw [← lam_gs, hh]; grind
  have h2 := dlt_om E
  rw [h1] at h2
  have h3 := Xpow_dlt_zero h2
  have h4 : om E = 0 := by rw [h1, h3]; grind
  obtain ⟨E1, E2, rfl⟩ := List.append_of_mem hp
  obtain ⟨b, hb⟩ := Fld.inv p.1 (hn0 p hp)
  have hf := forney E1 E2 p.1 p.2 b hb hd
  rw [h4, ev_zero] at hf
  apply Classical.byContradiction
  intro hne
  have := hf.2
  exact mul_ne (fun hh : -p.2 = 0 => hne (by grind)) hf.1 this.symm
/-- Roots at inverse locators: the locator polynomial divides. -/
theorem lam_dvd [Fld K] : ∀ (l : List K) (v : PS K) (n : Nat), v.dlt n → l.Nodup → (∀ a ∈ l, ∃ b, a * b = 1 ∧ ev v b = 0) → ∃ c : PS K, v = lam l * c ∧ c.dlt (n - l.length) := by
  intro l
  induction l with
  | nil => intro v n hv _ _; exact ⟨v, by show v = 1 * v; grind, hv⟩
  | cons a l ih =>
    intro v n hv hd hr
    have hd' := List.nodup_cons.1 hd
    obtain ⟨c, hc, hcd⟩ := ih v n hv hd'.2 (fun x hx => hr x (by simp [hx]))
    obtain ⟨b, hab, hvb⟩ := hr a (by simp)
    rw [hc, ev_mul (isPoly_lam l) ⟨_, hcd⟩] at hvb
    have hcb : ev c b = 0 := mul_eq_zero' hvb (fun h => hd'.1 ((ev_lam_zero l hab).1 h))
    by_cases hz : n - l.length = 0
    · rw [hz] at hcd
      have := eq_zero_of_dlt hcd
      refine ⟨0, ?_, dlt_zero _⟩
      rw [hc, this]; grind
    · obtain ⟨g, hg, hgd⟩ := factor (n := n - l.length - 1) (hcd.mono (by omega)) hcb
      refine ⟨C (-b) * g, ?_, (dlt_C_mul _ hgd).mono (by simp only [List.length_cons]; omega)⟩
      show v = lf a * lam l * (C (-b) * g)
      rw [hc, hg]
      have e : C a * C b = (1 : PS K) := by rw [← C_mul, hab, C_one]
      have e2 : C (-b) = - C b := C_neg b
      unfold lf
      rw [e2]; grind
/-- If a product of polynomials is 1, both are constants. -/
theorem unit_const [Fld K] {c g : PS K} (hc : c.IsPoly) (hg : g.IsPoly) (h : c * g = 1) : c = C (c.c 0) ∧ c.c 0 ≠ 0 := by
  have hc0 : c ≠ 0 := fun e => by
    rw [e] at h
    have h1 : (1 : PS K) = 0 := by grind
    have : (1 : PS K).c 0 = (0 : PS K).c 0 := by rw [h1]
    rw [one_c, if_pos rfl, zero_c] at this
    exact Fld.one_ne (K := K) this
  have hg0 : g ≠ 0 := fun e => by
    rw [e] at h
    have h1 : (1 : PS K) = 0 := by grind
    have : (1 : PS K).c 0 = (0 : PS K).c 0 := by rw [h1]
    rw [one_c, if_pos rfl, zero_c] at this
    exact Fld.one_ne (K := K) this
  obtain ⟨n, hn, hn0⟩ := exists_top hc hc0
  obtain ⟨m, hm, hm0⟩ := exists_top hg hg0
  have ht := mul_top hm n c hn
  rw [h, one_c] at ht
  have hnm : n + m = 0 := by
    apply Classical.byContradiction
    intro hne
    rw [if_neg hne] at ht
    exact mul_ne hn0 hm0 ht.symm
  obtain rfl : n = 0 := by omega
  refine ⟨ext' fun i => ?_, hn0⟩
  cases i with
  | zero => rfl
  | succ i => exact hn (i + 1) (by omega)
/-- THE KEY EQUATION: what the algorithm of Euclid stops at is the locator polynomial, up to a factor. 'S' is the series of the syndromes (times the erasures' locator), a polynomial; 'w', 'u' the unknown cofactors of X^d. -/
theorem euclid_key [Fld K] (d s B : Nat) {S O w v r u ua va : PS K} (l : List K) (hl : l.Nodup) (hinv : ∀ a ∈ l, ∃ b, a * b = 1 ∧ ev O b ≠ 0)
    (hS : lam l * S = O + (X : PS K) ^ d * w) (hw : w.IsPoly) (hO : O.IsPoly)
    (hr : r = u * (X : PS K) ^ d + v * S) (hdet : ua * v - u * va = 1 ∨ ua * v - u * va = -1) (hua : ua.IsPoly) (hva : va.IsPoly)
    (hv : v.dlt (s + 1)) (hlen : l.length ≤ s) (hrB : r.dlt B) (hOd : O.dlt (d - s)) (hBs : B + s ≤ d) :
    ∃ c : K, c ≠ 0 ∧ v = C c * lam l := by
  have hvp : v.IsPoly := ⟨_, hv⟩
  have e1 : v * O - lam l * r = (X : PS K) ^ d * (-(v * w) - lam l * u) := by grind
  have d1 : (v * O - lam l * r).dlt d := by
    refine dlt_sub ?_ ?_
    · cases hk : d - s with
      | zero =>
        rw [hk] at hOd
        rw [eq_zero_of_dlt hOd]
        have : v * (0 : PS K) = 0 := by grind
        rw [this]; exact dlt_zero _
      | succ m => rw [hk] at hOd; exact (dlt_mul hOd s v hv).mono (by omega)
    · cases hB : B with
      | zero =>
        rw [hB] at hrB
        rw [eq_zero_of_dlt hrB]
        have : lam l * (0 : PS K) = 0 := by grind
        rw [this]; exact dlt_zero _
      | succ m => rw [hB] at hrB; exact (dlt_mul hrB l.length (lam l) (dlt_lam l)).mono (by omega)
  rw [e1] at d1
  have e2 := Xpow_dlt_zero d1
  have e3 : v * O = lam l * r := by
    have : v * O - lam l * r = 0 := by rw [e1, e2]; grind
    grind
  obtain ⟨c, hc, hcd⟩ := lam_dvd l v (s + 1) hv hl (fun a ha => by
    obtain ⟨b, hab, hb⟩ := hinv a ha
    refine ⟨b, hab, ?_⟩
    have h1 : ev (v * O) b = ev (lam l * r) b := by rw [e3]
    rw [ev_mul hvp hO, ev_mul (isPoly_lam l) ⟨_, hrB⟩, (ev_lam_zero l hab).2 ha] at h1
    have h2 : ev O b * ev v b = 0 := by grind
    exact mul_eq_zero' h2 hb)
  have hcp : c.IsPoly := ⟨_, hcd⟩
  have e4 : lam l * u = - (v * w) := by grind
  -- lam l = v * g
  have hg : ∃ g : PS K, g.IsPoly ∧ lam l = v * g := by
    rcases hdet with hdet | hdet
    · refine ⟨ua * lam l + w * va, (hua.mul (isPoly_lam l)).add (hw.mul hva), ?_⟩
      have : lam l = lam l * (ua * v - u * va) := by rw [hdet]; grind
      grind
    · refine ⟨-(ua * lam l + w * va), ((hua.mul (isPoly_lam l)).add (hw.mul hva)).neg, ?_⟩
      have : lam l = - (lam l * (ua * v - u * va)) := by rw [hdet]; grind
      grind
  obtain ⟨g, hgp, hg⟩ := hg
  have hlam0 : lam l ≠ 0 := fun e => by
    have : (lam l).c 0 = (0 : PS K).c 0 := by rw [e]
    rw [lam_c_zero, zero_c] at this
    exact Fld.one_ne this
  have h1 : c * g = 1 := by
    apply Classical.byContradiction
    intro hne
    have hne' : c * g - 1 ≠ 0 := fun e => hne (by grind)
    have := mul_ne_zero_poly (isPoly_lam l) ((hcp.mul hgp).sub isPoly_one) hlam0 hne'
    apply this
    have : lam l * (c * g - 1) = v * g - lam l := by rw [hc]; grind
    rw [this, ← hg]; grind
  obtain ⟨h2, h3⟩ := unit_const hcp hgp h1
  refine ⟨c.c 0, h3, ?_⟩
  rw [hc, h2, C_c_zero]; grind
end
end PS
end Go.Proofs.Ytenlaoadclfmaaa
