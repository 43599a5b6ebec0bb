/-
  The parts SpecMul, SpecField, SpecEl.
-/
import Derived.Test.YtmbphpmabopifaaDoorCalcs
import Derived.Laws.BitsAllLaws
import Derived.Deep.RegionHeld3
/-
  The walks of the reference's sums and products in a field.
-/
namespace Go.Proofs.YtmbphpmabopifaaDoor
open Go.RowKit
set_option linter.unusedVariables false

/-- The field's value. -/
abbrev fV (p pw g : Int) : Value := .agg #[.int .i64 p, .int .i64 pw, .int .i64 g]
/-- The numbers of a field, within the bounds in which the reference reckons with them. -/
def Ranged (p pw g : Int) : Prop := (pw = 1 ∧ 3 ≤ p ∧ p ≤ 1021) ∨ (3 ≤ pw ∧ pw ≤ 8 ∧ ((2 ^ pw.toNat : Nat) : Int) ≤ g ∧ g < 2 * ((2 ^ pw.toNat : Nat) : Int))
theorem ranged_of {p pw g : Int} (h : validB p pw g = true) : Ranged p pw g := by
  unfold validB at h; simp only [decide_eq_true_eq] at h
  rcases h with ⟨h1, h2, h3, _⟩ | ⟨_, h2, h3, h4, h5, _⟩
  · exact .inl ⟨h1, h2, h3⟩
  · exact .inr ⟨h2, h3, h4, h5⟩
theorem below1 (w : World) (o : Obj) : Below w.heap.size w (w.alloc o) := (Below.refl _ _).alloc (Nat.le_refl _) _

theorem and_one (b : Nat) (hb : b < 1000000) (k : Nat) : bits BinOp.and IntKind.i64 ((b : Int) / 2 ^ k) 1 = if b.testBit k then 1 else 0 := by
  have e : ((b : Int) / 2 ^ k) = ((b / 2 ^ k : Nat) : Int) := by simp
  have hle : b / 2 ^ k ≤ b := Nat.div_le_self _ _
  rw [e, i64_and _ _ (Int.natCast_nonneg _) (Int.ofNat_lt.2 (Nat.lt_of_le_of_lt hle (Nat.lt_trans hb (by decide)))) (by decide) (by decide), Int.toNat_natCast]
  show (((b / 2 ^ k) &&& 1 : Nat) : Int) = _
  rw [nat_mask1, Nat.testBit_eq_decide_div_mod_eq]
  by_cases h : b / 2 ^ k % 2 = 1
  · simp [h]
  · have : b / 2 ^ k % 2 = 0 := by omega
    simp [this]
theorem clmulTo_lt (P a b : Nat) (ha : a < 2 ^ P) : ∀ k, clmulTo a b k < 2 ^ (P + k) := by
  intro k
  induction k with
  | zero => exact Nat.two_pow_pos _
  | succ k ih =>
    have e : (2 : Nat) ^ (P + (k + 1)) = 2 * 2 ^ (P + k) := by rw [← Nat.add_assoc, Nat.pow_succ]; omega
    have h1 : a * 2 ^ k < 2 ^ (P + k) := by rw [Nat.pow_add]; exact Nat.mul_lt_mul_of_pos_right ha (Nat.two_pow_pos k)
    unfold clmulTo
    split
    · exact Nat.xor_lt_two_pow (by omega) (by omega)
    · omega
theorem xor_nat (a b : Nat) (ha : a < 1000000) (hb : b < 1000000) : bits BinOp.xor IntKind.i64 (a : Int) (b : Int) = ((a ^^^ b : Nat) : Int) := by
  rw [i64_xor _ _ (by omega) (by omega) (by omega) (by omega)]; unfold xorI; simp only [Int.toNat_natCast]
theorem mul_pow_bd {a b P k : Nat} (ha : a < 2 ^ P) (h : P + k ≤ b) : a * 2 ^ k < 2 ^ b := by
  refine Nat.lt_of_lt_of_le ?_ (Nat.pow_le_pow_right (by omega) h)
  rw [Nat.pow_add]; exact Nat.mul_lt_mul_of_pos_right ha (Nat.two_pow_pos k)
theorem shl_nat (a k : Nat) (h : a * 2 ^ k < 1000000) : wrap64 ((a : Int) * 2 ^ k) = ((a * 2 ^ k : Nat) : Int) := by
  have e : ((a : Int) * 2 ^ k) = ((a * 2 ^ k : Nat) : Int) := by simp
  rw [e]; exact IntWalk.wrap64_in _ (by omega)
theorem step1_facts (P a b k : Nat) (h8 : P ≤ 8) (hlt : k < P) (ha : a < 2 ^ P) :
    wrap64 ((a : Int) * 2 ^ k) = ((a * 2 ^ k : Nat) : Int) ∧ bits BinOp.xor IntKind.i64 (clmulTo a b k : Nat) ((a * 2 ^ k : Nat) : Int) = ((clmulTo a b k ^^^ a * 2 ^ k : Nat) : Int) := by
  have h1 := clmulTo_lt P a b ha k
  have h2 : 2 ^ (P + k) ≤ 2 ^ 16 := Nat.pow_le_pow_right (by omega) (by omega)
  have h3 : a * 2 ^ k < 2 ^ 16 := mul_pow_bd ha (by omega)
  have h4 : clmulTo a b k < 2 ^ 16 := Nat.lt_of_lt_of_le h1 h2
  have e : (2 : Nat) ^ 16 = 65536 := by decide
  rw [e] at h3 h4
  exact ⟨shl_nat a k (Nat.lt_trans h3 (by decide)), xor_nat _ _ (Nat.lt_trans h4 (by decide)) (Nat.lt_trans h3 (by decide))⟩
theorem step2_facts (P poly c i : Nat) (h8 : P ≤ 8) (hi : i ≤ P) (hp : poly < 2 ^ (P + 1)) (hc : c < 131072) :
    wrap64 ((poly : Int) * 2 ^ i) = ((poly * 2 ^ i : Nat) : Int) ∧ bits BinOp.xor IntKind.i64 (c : Int) ((poly * 2 ^ i : Nat) : Int) = ((c ^^^ poly * 2 ^ i : Nat) : Int) ∧ c ^^^ poly * 2 ^ i < 131072 := by
  have h3 : poly * 2 ^ i < 2 ^ 17 := mul_pow_bd hp (by omega)
  have e : (2 : Nat) ^ 17 = 131072 := by decide
  have h4 : c ^^^ poly * 2 ^ i < 2 ^ 17 := Nat.xor_lt_two_pow (by rw [e]; exact hc) h3
  rw [e] at h3 h4
  exact ⟨shl_nat poly i (Nat.lt_trans h3 (by decide)), xor_nat _ _ (Nat.lt_trans hc (by decide)) (Nat.lt_trans h3 (by decide)), h4⟩
theorem clmul_end (P a b : Nat) (h8 : P ≤ 8) (ha : a < 2 ^ P) : clmulTo a b P < 131072 :=
  Nat.lt_of_lt_of_le (clmulTo_lt P a b ha P) (show 2 ^ (P + P) ≤ 2 ^ 17 from Nat.pow_le_pow_right (by decide) (by omega))
/-- Two as a factor. -/
theorem specMulB_two (P poly x : Nat) (h3 : 3 ≤ P) (hp : 2 ^ P ≤ poly) (hp2 : poly < 2 ^ (P + 1)) (hx : x < 2 ^ P) : ((specMulB P poly x 2 : Nat) : Int) = timesB ((2 ^ P : Nat) : Int) poly x := by
  have hcl : ∀ k, 2 ≤ k → clmulTo x 2 k = 2 * x := by
    intro k hk
    induction k with
    | zero => omega
    | succ k ih =>
      by_cases e : k = 1
      · subst e
        show (if Nat.testBit 2 1 then (if Nat.testBit 2 0 then 0 ^^^ (x * 2 ^ 0) else 0) ^^^ (x * 2 ^ 1) else _) = _
        have e1 : Nat.testBit 2 1 = true := by decide
        have e0 : Nat.testBit 2 0 = false := by decide
        rw [e1, e0]; simp; omega
      · have hb : Nat.testBit 2 k = false := Nat.testBit_lt_two_pow (Nat.lt_of_lt_of_le (show 2 < 2 ^ 2 by decide) (Nat.pow_le_pow_right (by omega) (by omega)))
        show (if Nat.testBit 2 k then _ else clmulTo x 2 k) = _
        rw [hb]; simp; exact ih (by omega)
  unfold specMulB
  have hlt : 2 * x < 2 ^ (P + 1) := by rw [Nat.pow_succ]; omega
  rw [hcl P (by omega), red_low poly P 1 (P + 1) (2 * x) hlt (by omega)]
  exact (red_two poly P hp hp2 0 x hx).2
end Go.Proofs.YtmbphpmabopifaaDoor
/-
  The walks of the reference's fields: which are valid, and their products.
-/
namespace Go.Proofs.YtmbphpmabopifaaDoor
open Go.RowKit
set_option linter.unusedVariables false

/-- The box that a field lies in, while it is a parameter. -/
structure Box (w : World) (B : Nat) (p pw g : Int) : Prop where
  lt : B < w.heap.size
  c0 : w.cell? ⟨B, 0, none⟩ = some (.int .i64 p)
  c1 : w.cell? ⟨B, 1, none⟩ = some (.int .i64 pw)
  c2 : w.cell? ⟨B, 2, none⟩ = some (.int .i64 g)
theorem box_new (w : World) (p pw g : Int) (t : TypeId) : Box (w.alloc (.cells #[.int .i64 p, .int .i64 pw, .int .i64 g] t)) w.heap.size p pw g :=
  ⟨by simp, by simp [go_sem], by simp [go_sem], by simp [go_sem]⟩
theorem Box.below {w w' : World} {B C : Nat} {p pw g : Int} (h : Box w B p pw g) (hb : Below C w w') (hC : B < C) : Box w' B p pw g :=
  ⟨by have := hb.size; have := h.lt; omega, (hb.cell (p := ⟨B, 0, none⟩) hC).trans h.c0, (hb.cell (p := ⟨B, 1, none⟩) hC).trans h.c1, (hb.cell (p := ⟨B, 2, none⟩) hC).trans h.c2⟩
/-- None of the powers from the first to the one ahead of n is 0 or 1. -/
def Fine1 (T : Int → Int) (n : Nat) : Prop := ∀ m, 0 < m → m < n → orb T m ≠ 0 ∧ orb T m ≠ 1
theorem Fine1.next {T : Int → Int} {n : Nat} (h : Fine1 T n) (h0 : orb T n ≠ 0) (h1 : orb T n ≠ 1) : Fine1 T (n + 1) := fun m a b => by
  by_cases e : m = n
  · subst e; exact ⟨h0, h1⟩
  · exact h m a (by omega)
/-- How the reference's search for the order ends. -/
theorem runs_end {T : Int → Int} {N n : Nat} (hN : 0 < N) (hn : 0 < n) (hn2 : n ≤ N + 1) (hf : Fine1 T n) (he : orb T n = 1 ∨ orb T n = 0 ∨ n = N + 1) :
    goodB T N = (decide (orb T n = 1) && decide (n = N)) := by
  by_cases h1 : orb T n = 1
  · by_cases h2 : n = N
    · subst h2
      have : goodB T n = true := by
        unfold goodB; simp only [decide_eq_true_eq]
        refine ⟨fun m hm => ?_, h1⟩
        by_cases h0 : m = 0
        · subst h0; exact ⟨by show (1 : Int) ≠ 0; omega, fun h => by omega⟩
        · exact ⟨(hf m (by omega) hm).1, fun _ => (hf m (by omega) hm).2⟩
      rw [this]; simp [h1]
    · by_cases h3 : n < N
      · rw [goodB_no1 h3 hn h1]; simp [h2]
      · have : n = N + 1 := by omega
        have hh : goodB T N = false := by
          rw [Bool.eq_false_iff]
          intro hg
          exact (hf N hN (by omega)).2 (good_of hg).2
        rw [hh]; simp [h2]
  · have hh : goodB T N = false := by
      rw [Bool.eq_false_iff]
      intro hg
      have hg := good_of hg
      rcases he with h | h | h
      · exact h1 h
      · rcases Nat.lt_trichotomy n N with hl | hl | hl
        · exact (hg.1 n hl).1 h
        · rw [← hl] at hg; exact h1 hg.2
        · exact (hf N hN hl).2 hg.2
      · exact (hf N hN (by omega)).2 hg.2
    rw [hh]; simp [h1]
/-- No generator from 1 to h. -/
def NoGen1 (p h : Int) : Prop := ∀ x : Int, 1 ≤ x → x < h → goodB (timesP x p) (nP p) = false
theorem NoGen1.next {p h : Int} (a : NoGen1 p h) (b : goodB (timesP h p) (nP p) = false) : NoGen1 p (h + 1) := fun x h1 h2 => by
  by_cases e : x = h
  · rw [e]; exact b
  · exact a x h1 (by omega)
theorem one_no (p : Int) (h3 : 3 ≤ p) : goodB (timesP 1 p) (nP p) = false :=
  goodB_no1 (k := 1) (by unfold nP; omega) (by omega) (by show timesP 1 p 1 = 1; unfold timesP; exact Int.emod_eq_of_lt (by omega) (by omega))
theorem valid_prime {p g : Int} (h3 : 3 ≤ p) (hp : p ≤ 1021) (hpr : primeB p = true) (hg1 : 1 ≤ g) (hg2 : g < p) (hn : NoGen1 p g) : validB p 1 g = goodB (timesP g p) (nP p) := by
  cases hh : goodB (timesP g p) (nP p)
  · refine validB_not (fun v => ?_) (fun v => by have := v.2.1; omega)
    rw [v.2.2.2.2.2.2.1] at hh; cases hh
  · have h2 : 2 ≤ g := by
      apply Classical.byContradiction
      intro h
      obtain rfl : g = 1 := by omega
      rw [one_no p h3] at hh; cases hh
    unfold validB; simp only [decide_eq_true_eq]
    exact .inl ⟨rfl, h3, hp, hpr, h2, hg2, hh, fun x a b => hn x (by omega) b⟩
theorem valid_prime_no {p g h : Int} (h1 : 1 ≤ h) (hh : h < g) (h3 : 3 ≤ p) (hg : goodB (timesP h p) (nP p) = true) : validB p 1 g = false := by
  refine validB_not (fun v => ?_) (fun v => by have := v.2.1; omega)
  by_cases h2 : 2 ≤ h
  · have := v.2.2.2.2.2.2.2 h h2 hh; rw [this] at hg; cases hg
  · obtain rfl : h = 1 := by omega
    rw [one_no p h3] at hg; cases hg
end Go.Proofs.YtmbphpmabopifaaDoor
/-
  The walks of the reference's element checks and sums; the two FieldAdd.
-/
namespace Go.Proofs.YtmbphpmabopifaaDoor
open Go.RowKit
set_option linter.unusedVariables false

theorem RowAt.below {w w' : World} {a : Option Addr} {n C : Nat} {zs : List Int} (h : RowAt w a n zs) (hb : Below C w w') (hC : ∀ x, a = some x → x.block < C) : RowAt w' a n zs :=
  ⟨h.len, h.small, fun hn => by
    obtain ⟨b, off, rfl, hlt, hc⟩ := h.at' hn
    exact ⟨b, off, rfl, by have := hb.size; omega, fun j hj => (hb.cell (p := ⟨b, off + j, none⟩) (hC ⟨b, off, none⟩ rfl)).trans (hc j hj)⟩⟩
theorem RowAt.below' {w w' : World} {a : Option Addr} {n : Nat} {zs : List Int} (h : RowAt w a n zs) (hb : Below w.heap.size w w') : RowAt w' a n zs :=
  ⟨h.len, h.small, fun hn => by
    obtain ⟨b, off, rfl, hlt, hc⟩ := h.at' hn
    exact ⟨b, off, rfl, by have := hb.size; omega, fun j hj => (hb.cell (p := ⟨b, off + j, none⟩) hlt).trans (hc j hj)⟩⟩
/-- The code of a field and elements. -/
noncomputable def codeE (p pw g : Int) (zs : List Int) : Int := if validB p pw g = true then (if allB (ffOf p pw g) zs = true then 0 else 2) else 1
end Go.Proofs.YtmbphpmabopifaaDoor
