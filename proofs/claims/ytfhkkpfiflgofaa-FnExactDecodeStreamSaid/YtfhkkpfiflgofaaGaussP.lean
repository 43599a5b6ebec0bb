/-
  Gauss' elimination, step by step. Plain mathematics; no program in sight.
-/
import Derived.Test.YtfhkkpfiflgofaaMath
namespace Go.Proofs.Ytfhkkpfiflgofaa
namespace PS
set_option linter.unusedVariables false
variable {K : Type} [CR K]

/-- The sum of the first n products. -/
def dot (f x : Nat → K) : Nat → K
  | 0 => 0
  | m + 1 => dot f x m + f m * x m
theorem dot_congr {f f' x x' : Nat → K} (n : Nat) (h : ∀ m, m < n → f m = f' m ∧ x m = x' m) : dot f x n = dot f' x' n := by
  induction n with
  | zero => rfl
  | succ n ih => show dot f x n + _ = dot f' x' n + _; rw [ih (fun m hm => h m (by omega)), (h n (by omega)).1, (h n (by omega)).2]
theorem dot_scale (a : K) (f x : Nat → K) (n : Nat) : dot (fun m => f m * a) x n = dot f x n * a := by
  induction n with
  | zero => show (0 : K) = 0 * a; grind
  | succ n ih => show dot (fun m => f m * a) x n + _ = (dot f x n + _) * a; rw [ih]; grind
theorem dot_sub (a : K) (f g x : Nat → K) (n : Nat) : dot (fun m => f m + - (a * g m)) x n = dot f x n + - (a * dot g x n) := by
  induction n with
  | zero => show (0 : K) = 0 + - (a * 0); grind
  | succ n ih => show dot (fun m => f m + - (a * g m)) x n + _ = (dot f x n + _) + - (a * (dot g x n + _)); rw [ih]; grind
theorem dot_zero {f x : Nat → K} (n : Nat) (h : ∀ m, m < n → f m * x m = 0) : dot f x n = 0 := by
  induction n with
  | zero => rfl
  | succ n ih => show dot f x n + _ = 0; rw [ih (fun m hm => h m (by omega)), h n (by omega)]; grind
theorem dot_one {f x : Nat → K} (n j : Nat) (hj : j < n) (h : ∀ m, m < n → m ≠ j → f m * x m = 0) : dot f x n = f j * x j := by
  induction n with
  | zero => omega
  | succ n ih =>
    show dot f x n + f n * x n = _
    by_cases e : j = n
    · subst e; rw [dot_zero _ (fun m hm => h m (by omega) (by omega))]; grind
    · rw [ih (by omega) (fun m hm hne => h m (by omega) hne), h n (by omega) (fun e' => e e'.symm)]; grind
/-- A system of n equations: column n bears the right sides. -/
abbrev Mx (K : Type) := Nat → Nat → K
/-- x solves the system. -/
def Sol (n : Nat) (M : Mx K) (x : Nat → K) : Prop := ∀ j, j < n → dot (M j) x n = M j n
/-- Only zeros solve the homogeneous system. -/
def NonS (n : Nat) (M : Mx K) : Prop := ∀ x : Nat → K, (∀ j, j < n → dot (M j) x n = 0) → ∀ m, m < n → x m = 0
theorem Sol.uniq {n : Nat} {M : Mx K} (hn : NonS n M) {x y : Nat → K} (hx : Sol n M x) (hy : Sol n M y) : ∀ m, m < n → x m = y m := by
  have h := hn (fun m => x m + - (1 * y m)) (fun j hj => by
    have e : ∀ k, dot (M j) (fun m => x m + - (1 * y m)) k = dot (M j) x k + - dot (M j) y k := by
      intro k
      induction k with
      | zero => show (0 : K) = 0 + -0; grind
      | succ k ih => show dot (M j) (fun m => x m + - (1 * y m)) k + _ = (dot (M j) x k + _) + - (dot (M j) y k + _); rw [ih]; grind
    rw [e, hx j hj, hy j hj]; grind)
  intro m hm
  have := h m hm
  grind
/-- The state of the elimination ahead of column k. -/
structure GI (n : Nat) (A : Mx K) (k : Nat) (M : Mx K) : Prop where
  unit : ∀ m, m < k → ∀ j, j < n → M j m = if j = m then 1 else 0
  sol : ∀ x, Sol n M x ↔ Sol n A x
  nons : NonS n M
theorem GI.start {n : Nat} {A : Mx K} (h : NonS n A) : GI n A 0 A := ⟨fun m hm => by omega, fun x => Iff.rfl, h⟩
/-- There is a pivot. -/
theorem GI.pivot [Fld K] {n k : Nat} {A M : Mx K} (h : GI n A k M) (hk : k < n) : ∃ j, k ≤ j ∧ j < n ∧ M j k ≠ 0 := by
  apply Classical.byContradiction
  intro hn
  have h0 : ∀ j, k ≤ j → j < n → M j k = 0 := fun j h1 h2 => Classical.byContradiction fun h3 => hn ⟨j, h1, h2, h3⟩
  have := h.nons (fun m => if m < k then - M m k else if m = k then 1 else 0) (fun j hj => by
    -- all terms but those of columns j and k are 0
    have key : ∀ N, N ≤ n → dot (M j) (fun m => if m < k then - M m k else if m = k then 1 else 0) N = (if j < N ∧ j < k then - M j k else 0) + (if k < N then M j k else 0) := by
      intro N
      induction N with
      | zero => intro _; show (0 : K) = _; rw [if_neg (by omega), if_neg (by omega)]; grind
      | succ N ih =>
        intro hN
        show dot _ _ N + M j N * (if N < k then - M N k else if N = k then 1 else 0) = _
        rw [ih (by omega)]
        by_cases h1 : N < k
        · rw [if_pos h1, h.unit N h1 j hj, if_neg (show ¬ k < N by omega), if_neg (show ¬ k < N + 1 by omega)]
          by_cases h2 : j = N
          · subst h2; rw [if_neg (by omega), if_pos rfl, if_pos ⟨by omega, h1⟩]; grind
          · rw [if_neg h2]
            by_cases h3 : j < N ∧ j < k
            · rw [if_pos h3, if_pos ⟨by omega, h3.2⟩]; grind
            · rw [if_neg h3, if_neg (by omega)]; grind
        · rw [if_neg h1]
          by_cases h2 : N = k
          · subst h2
            rw [if_pos rfl, if_neg (show ¬ N < N by omega), if_pos (show N < N + 1 by omega)]
            by_cases h3 : j < N
            · rw [if_pos ⟨h3, h3⟩, if_pos ⟨by omega, h3⟩]; grind
            · rw [if_neg (by omega), if_neg (by omega)]; grind
          · rw [if_neg h2, if_pos (show k < N by omega), if_pos (show k < N + 1 by omega)]
            by_cases h3 : j < k
            · rw [if_pos ⟨by omega, h3⟩, if_pos ⟨by omega, h3⟩]; grind
            · rw [if_neg (by omega), if_neg (by omega)]; grind
    rw [key n (Nat.le_refl _), if_pos hk]
    by_cases h3 : j < k
    · rw [if_pos ⟨hj, h3⟩]; grind
    · rw [if_neg (by omega), h0 j (by omega) hj]; grind) k hk
  simp only [if_neg (Nat.lt_irrefl k), if_true] at this
  exact Fld.one_ne this
/-- Rows k and p change places. -/
def swapR (M : Mx K) (k p : Nat) : Mx K := fun j => M (if j = k then p else if j = p then k else j)
theorem GI.swap {n k p : Nat} {A M : Mx K} (h : GI n A k M) (hk : k < n) (hp : p < n) (hkp : k ≤ p) : GI n A k (swapR M k p) := by
  have hs : ∀ j, j < n → (if j = k then p else if j = p then k else j) < n := fun j hj => by split <;> (try split) <;> omega
  have hinv : ∀ j, (if (if j = k then p else if j = p then k else j) = k then p else if (if j = k then p else if j = p then k else j) = p then k else (if j = k then p else if j = p then k else j)) = j := by
    intro j
    by_cases h1 : j = k
    · subst h1
      rw [if_pos rfl]
      by_cases h2 : p = j
      · rw [if_pos h2]; exact h2
      · rw [if_neg h2, if_pos rfl]
    · rw [if_neg h1]
      by_cases h2 : j = p
      · rw [if_pos h2, if_pos rfl]; exact h2.symm
      · rw [if_neg h2, if_neg h1, if_neg h2]
  refine ⟨fun m hm j hj => ?_, fun x => ?_, fun x hx => ?_⟩
  · show M _ m = _
    rw [h.unit m hm _ (hs j hj)]
    by_cases h1 : j = k
    · rw [if_pos h1, if_neg (by omega), if_neg (by omega)]
    · rw [if_neg h1]
      by_cases h2 : j = p
      · rw [if_pos h2, if_neg (by omega), if_neg (by omega)]
      · rw [if_neg h2]
  · rw [← h.sol]
    constructor
    · intro hx j hj
      have := hx _ (hs j hj)
      unfold swapR at this
      rw [hinv j] at this
      exact this
    · intro hx j hj
      exact hx _ (hs j hj)
  · refine h.nons x (fun j hj => ?_)
    have := hx _ (hs j hj)
    unfold swapR at this
    rw [hinv j] at this
    exact this
/-- Row k times a, from column c on. -/
def scaleR (M : Mx K) (k c n : Nat) (a : K) : Mx K := fun j m => if j = k ∧ c ≤ m ∧ m ≤ n then M j m * a else M j m
/-- Row k is scaled so that its pivot is 1. -/
structure GS (n : Nat) (A : Mx K) (k : Nat) (M : Mx K) : Prop where
  gi : GI n A k M
  one : M k k = 1
theorem GI.scale {n k : Nat} {A M : Mx K} (h : GI n A k M) (hk : k < n) {a : K} (ha : M k k * a = 1) : GS n A k (scaleR M k k n a) := by
  have hrow : ∀ m, m ≤ n → scaleR M k k n a k m = M k m * a := by
    intro m hm
    unfold scaleR
    by_cases h1 : k ≤ m
    · rw [if_pos ⟨rfl, h1, hm⟩]
    · rw [if_neg (by omega), h.unit m (by omega) k hk, if_neg (by omega)]; grind
  have hoth : ∀ j, j ≠ k → scaleR M k k n a j = M j := fun j hj => by funext m; unfold scaleR; rw [if_neg (by omega)]
  have hd : ∀ x, dot (scaleR M k k n a k) x n = dot (M k) x n * a := fun x => by
    rw [← dot_scale]; exact dot_congr n (fun m hm => ⟨hrow m (by omega), rfl⟩)
  refine ⟨⟨fun m hm j hj => ?_, fun x => ?_, fun x hx => ?_⟩, ?_⟩
  · by_cases h1 : j = k
    · subst h1; rw [hrow m (by omega), h.unit m hm j hj, if_neg (by omega)]; grind
    · rw [hoth j h1]; exact h.unit m hm j hj
  · rw [← h.sol]
    constructor
    · intro hx j hj
      by_cases h1 : j = k
      · subst h1
        have := hx j hj
        rw [hd, hrow n (Nat.le_refl _)] at this
        have e : dot (M j) x n * a * M j j = M j n * a * M j j := by rw [this]
        grind
      · have := hx j hj; rw [hoth j h1] at this; exact this
    · intro hx j hj
      by_cases h1 : j = k
      · subst h1; rw [hd, hrow n (Nat.le_refl _), hx j hj]
      · rw [hoth j h1]; exact hx j hj
  · refine h.nons x (fun j hj => ?_)
    by_cases h1 : j = k
    · subst h1
      have := hx j hj
      rw [hd] at this
      have e : dot (M j) x n * a * M j j = 0 * M j j := by rw [this]
      grind
    · have := hx j hj; rw [hoth j h1] at this; exact this
  · rw [hrow k (by omega)]; exact ha
/-- Row j minus f times row k, from column k on. -/
def elimR (M : Mx K) (j k n : Nat) (f : K) : Mx K := fun i m => if i = j ∧ k ≤ m ∧ m ≤ n then M i m + - (f * M k m) else M i m
/-- The rows below J have been cleared in column k. -/
structure GE (n : Nat) (A : Mx K) (k J : Nat) (M : Mx K) : Prop where
  gs : GS n A k M
  clear : ∀ j, j < J → j < n → j ≠ k → M j k = 0
theorem GS.start {n k : Nat} {A M : Mx K} (h : GS n A k M) : GE n A k 0 M := ⟨h, fun j hj => by omega⟩
theorem GE.skip {n k J : Nat} {A M : Mx K} (h : GE n A k J M) (h2 : J = k ∨ M J k = 0) : GE n A k (J + 1) M :=
  ⟨h.gs, fun j hj hn hne => by
    rcases Nat.lt_or_ge j J with h3 | h3
    · exact h.clear j h3 hn hne
    · have : j = J := by omega
      subst this
      rcases h2 with h2 | h2
      · exact absurd h2 hne
      · exact h2⟩
theorem GE.step {n k J : Nat} {A M : Mx K} (h : GE n A k J M) (hk : k < n) (hJ : J < n) (hne : J ≠ k) : GE n A k (J + 1) (elimR M J k n (M J k)) := by
  have hg := h.gs.gi
  have hrow : ∀ m, m ≤ n → elimR M J k n (M J k) J m = M J m + - (M J k * M k m) := by
    intro m hm
    unfold elimR
    by_cases h1 : k ≤ m
    · rw [if_pos ⟨rfl, h1, hm⟩]
    · rw [if_neg (by omega), hg.unit m (by omega) k hk, if_neg (by omega)]; grind
  have hoth : ∀ j, j ≠ J → elimR M J k n (M J k) j = M j := fun j hj => by funext m; unfold elimR; rw [if_neg (by omega)]
  have hd : ∀ x, dot (elimR M J k n (M J k) J) x n = dot (M J) x n + - (M J k * dot (M k) x n) := fun x => by
    rw [← dot_sub]; exact dot_congr n (fun m hm => ⟨hrow m (by omega), rfl⟩)
  refine ⟨⟨⟨fun m hm j hj => ?_, fun x => ?_, fun x hx => ?_⟩, ?_⟩, fun j hj hn hjk => ?_⟩
  · by_cases h1 : j = J
    · subst h1; rw [hrow m (by omega), hg.unit m hm j hj, hg.unit m hm k hk, if_neg (show ¬ k = m by omega)]; grind
    · rw [hoth j h1]; exact hg.unit m hm j hj
  · rw [← hg.sol]
    constructor
    · intro hx j hj
      have hkk := hx k hk
      rw [hoth k (fun e => hne e.symm)] at hkk
      by_cases h1 : j = J
      · subst h1
        have := hx j hj
        rw [hd, hrow n (Nat.le_refl _), hkk] at this
        grind
      · have := hx j hj; rw [hoth j h1] at this; exact this
    · intro hx j hj
      by_cases h1 : j = J
      · subst h1; rw [hd, hrow n (Nat.le_refl _), hx j hj, hx k hk]
      · rw [hoth j h1]; exact hx j hj
  · refine hg.nons x (fun j hj => ?_)
    have hkk := hx k hk
    rw [hoth k (fun e => hne e.symm)] at hkk
    by_cases h1 : j = J
    · subst h1
      have := hx j hj
      rw [hd, hkk] at this
      grind
    · have := hx j hj; rw [hoth j h1] at this; exact this
  · rw [hoth k (fun e => hne e.symm)]; exact h.gs.one
  · rcases Nat.lt_or_ge j J with h3 | h3
    · rw [hoth j (by omega)]; exact h.clear j h3 hn hjk
    · have : j = J := by omega
      subst this
      rw [hrow k (by omega), h.gs.one]; grind
theorem GE.done {n k : Nat} {A M : Mx K} (h : GE n A k n M) (hk : k < n) : GI n A (k + 1) M :=
  ⟨fun m hm j hj => by
    rcases Nat.lt_or_ge m k with h1 | h1
    · exact h.gs.gi.unit m h1 j hj
    · have : m = k := by omega
      subst this
      by_cases h2 : j = m
      · subst h2; rw [if_pos rfl]; exact h.gs.one
      · rw [if_neg h2]; exact h.clear j hj hj h2, h.gs.gi.sol, h.gs.gi.nons⟩
theorem GI.done {n : Nat} {A M : Mx K} (h : GI n A n M) : Sol n A (fun j => M j n) := by
  rw [← h.sol]
  intro j hj
  rw [dot_one n j hj (fun m hm hne => by rw [h.unit m hm j hj, if_neg (fun e => hne e.symm)]; grind), h.unit j hj j hj, if_pos rfl]; grind
end PS
end Go.Proofs.Ytfhkkpfiflgofaa
