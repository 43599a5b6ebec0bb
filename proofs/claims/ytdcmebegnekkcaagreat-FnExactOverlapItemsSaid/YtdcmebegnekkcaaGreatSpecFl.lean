/-
  The parts SpecMul, SpecField, SpecEl.
-/
import Derived.Test.YtdcmebegnekkcaaGreatCalcs
import Derived.Laws.BitsAllLaws
import Derived.Deep.RegionHeld3
/-
  The walks of the reference's sums and products in a field.
-/
namespace Go.Proofs.YtdcmebegnekkcaaGreat
open Go.RowKit
set_option linter.unusedVariables false

/-- The field's value. -/
abbrev fV (p pw g : Int) : Value := .agg #[.int .i64 p, .int .i64 pw, .int .i64 g]
/-- The numbers of a field, within the bounds in which the reference reckons with them. -/
def Ranged (p pw g : Int) : Prop := (pw = 1 ∧ 3 ≤ p ∧ p ≤ 1021) ∨ (3 ≤ pw ∧ pw ≤ 8 ∧ ((2 ^ pw.toNat : Nat) : Int) ≤ g ∧ g < 2 * ((2 ^ pw.toNat : Nat) : Int))
theorem ranged_of {p pw g : Int} (h : validB p pw g = true) : Ranged p pw g := by
  unfold validB at h; simp only [decide_eq_true_eq] at h
  rcases h with ⟨h1, h2, h3, _⟩ | ⟨_, h2, h3, h4, h5, _⟩
  · exact .inl ⟨h1, h2, h3⟩
  · exact .inr ⟨h2, h3, h4, h5⟩
theorem below1 (w : World) (o : Obj) : Below w.heap.size w (w.alloc o) := (Below.refl _ _).alloc (Nat.le_refl _) _

theorem l02Size_any (p pw g : Int) (w : World) (h : Ranged p pw g) :
    Calls Tryz.prog 74 #[fV p pw g] w fun e w' => e = .returned (.int .i64 (ffOf p pw g).size) ∧ Below w.heap.size w w' := by
  rcases h with ⟨rfl, h1, h2⟩ | ⟨h1, h2, h3, h4⟩
  · have hf := Lib.hid (show (ffOf p 1 g).size = p by unfold ffOf; rw [if_pos rfl])
    go_enter Tryz.func74, Tryz.ntmps74
    go_wp2
    go_ret
    exact ⟨ret_int hf.out.symm, below1 _ _⟩
  · have e : ((2 ^ pw.toNat : Nat) : Int) = (2 : Int) ^ pw.toNat := by simp
    have hhi : 2 ^ pw.toNat ≤ 2 ^ 8 := Nat.pow_le_pow_right (by omega) (by omega)
    have hf := Lib.hid (show (ffOf p pw g).size = wrap64 ((2 : Int) ^ pw.toNat) by
      unfold ffOf; rw [if_neg (by omega), ← e, IntWalk.wrap64_in _ (by omega)])
    have hp' : (pw == 1) = false := by simp; omega
    clear e hhi h3 h4
    go_enter Tryz.func74, Tryz.ntmps74
    go_wp2
    go_ret
    exact ⟨ret_int hf.out.symm, below1 _ _⟩
theorem and_one (b : Nat) (hb : b < 1000000) (k : Nat) : bits BinOp.and IntKind.i64 ((b : Int) / 2 ^ k) 1 = if b.testBit k then 1 else 0 := by
  have e : ((b : Int) / 2 ^ k) = ((b / 2 ^ k : Nat) : Int) := by simp
  have hle : b / 2 ^ k ≤ b := Nat.div_le_self _ _
  rw [e, i64_and _ _ (Int.natCast_nonneg _) (Int.ofNat_lt.2 (Nat.lt_of_le_of_lt hle (Nat.lt_trans hb (by decide)))) (by decide) (by decide), Int.toNat_natCast]
  show (((b / 2 ^ k) &&& 1 : Nat) : Int) = _
  rw [nat_mask1, Nat.testBit_eq_decide_div_mod_eq]
  by_cases h : b / 2 ^ k % 2 = 1
  · simp [h]
  · have : b / 2 ^ k % 2 = 0 := by omega
    simp [this]
theorem clmulTo_lt (P a b : Nat) (ha : a < 2 ^ P) : ∀ k, clmulTo a b k < 2 ^ (P + k) := by
  intro k
  induction k with
  | zero => exact Nat.two_pow_pos _
  | succ k ih =>
    have e : (2 : Nat) ^ (P + (k + 1)) = 2 * 2 ^ (P + k) := by rw [← Nat.add_assoc, Nat.pow_succ]; omega
    have h1 : a * 2 ^ k < 2 ^ (P + k) := by rw [Nat.pow_add]; exact Nat.mul_lt_mul_of_pos_right ha (Nat.two_pow_pos k)
    unfold clmulTo
    split
    · exact Nat.xor_lt_two_pow (by omega) (by omega)
    · omega
theorem xor_nat (a b : Nat) (ha : a < 1000000) (hb : b < 1000000) : bits BinOp.xor IntKind.i64 (a : Int) (b : Int) = ((a ^^^ b : Nat) : Int) := by
  rw [i64_xor _ _ (by omega) (by omega) (by omega) (by omega)]; unfold xorI; simp only [Int.toNat_natCast]
theorem mul_pow_bd {a b P k : Nat} (ha : a < 2 ^ P) (h : P + k ≤ b) : a * 2 ^ k < 2 ^ b := by
  refine Nat.lt_of_lt_of_le ?_ (Nat.pow_le_pow_right (by omega) h)
  rw [Nat.pow_add]; exact Nat.mul_lt_mul_of_pos_right ha (Nat.two_pow_pos k)
theorem shl_nat (a k : Nat) (h : a * 2 ^ k < 1000000) : wrap64 ((a : Int) * 2 ^ k) = ((a * 2 ^ k : Nat) : Int) := by
  have e : ((a : Int) * 2 ^ k) = ((a * 2 ^ k : Nat) : Int) := by simp
  rw [e]; exact IntWalk.wrap64_in _ (by omega)
theorem step2_facts (P poly c i : Nat) (h8 : P ≤ 8) (hi : i ≤ P) (hp : poly < 2 ^ (P + 1)) (hc : c < 131072) :
    wrap64 ((poly : Int) * 2 ^ i) = ((poly * 2 ^ i : Nat) : Int) ∧ bits BinOp.xor IntKind.i64 (c : Int) ((poly * 2 ^ i : Nat) : Int) = ((c ^^^ poly * 2 ^ i : Nat) : Int) ∧ c ^^^ poly * 2 ^ i < 131072 := by
  have h3 : poly * 2 ^ i < 2 ^ 17 := mul_pow_bd hp (by omega)
  have e : (2 : Nat) ^ 17 = 131072 := by decide
  have h4 : c ^^^ poly * 2 ^ i < 2 ^ 17 := Nat.xor_lt_two_pow (by rw [e]; exact hc) h3
  rw [e] at h3 h4
  exact ⟨shl_nat poly i (Nat.lt_trans h3 (by decide)), xor_nat _ _ (Nat.lt_trans hc (by decide)) (Nat.lt_trans h3 (by decide)), h4⟩
theorem clmul_end (P a b : Nat) (h8 : P ≤ 8) (ha : a < 2 ^ P) : clmulTo a b P < 131072 :=
  Nat.lt_of_lt_of_le (clmulTo_lt P a b ha P) (show 2 ^ (P + P) ≤ 2 ^ 17 from Nat.pow_le_pow_right (by decide) (by omega))
set_option maxHeartbeats 400000 in
theorem l02Mul_bin (P poly a b : Nat) (p : Int) (h3 : 3 ≤ P) (h8 : P ≤ 8) (hp : 2 ^ P ≤ poly) (hp2 : poly < 2 ^ (P + 1)) (ha : a < 2 ^ P) (hb : b < 2 ^ P) (w : World) :
    Calls Tryz.prog 79 #[fV p P poly, .int .i64 a, .int .i64 b] w fun e w' => e = .returned (.int .i64 (specMulB P poly a b : Nat)) ∧ Below w.heap.size w w' := by
  have hp' : ((P : Int) == 1) = false := by simp; omega
  have e8 : 2 ^ P ≤ 2 ^ 8 := Nat.pow_le_pow_right (by omega) h8
  have e9 : 2 ^ (P + 1) ≤ 2 ^ 9 := Nat.pow_le_pow_right (by omega) (by omega)
  have HA := Lib.hid ha
  have HP2 := Lib.hid hp2
  have ha8 : a < 256 := by omega
  have hb8 : b < 256 := by omega
  have hb9 : b < 1000000 := by omega
  clear e8 e9 ha hb hp hp2
  go_enter Tryz.func79, Tryz.ntmps79
  go_wp2
  go_loop [7, 8] (fun o t => ∃ k : Nat, k ≤ P ∧ t = .int .i64 k ∧ o = .int .i64 (clmulTo a b k : Nat)) (fun _ t => P - (intOf t).toNat)
  case atStart => exact ⟨0, by omega, rfl, rfl⟩
  case round =>
    obtain ⟨k, hk, rfl, rfl⟩ := hrel
    by_cases hlt : k < P
    · have h1 := and_one b (by omega) k
      have hcl := clmulTo_lt P a b HA.out k
      have hcl2 : clmulTo a b k < 65536 := Nat.lt_of_lt_of_le hcl (show 2 ^ (P + k) ≤ 2 ^ 16 from Nat.pow_le_pow_right (by omega) (by omega))
      have hsm : a * 2 ^ k < 2 ^ 16 := mul_pow_bd HA.out (by omega)
      have h2 := shl_nat a k (by omega)
      have h3' := xor_nat (clmulTo a b k) (a * 2 ^ k) (by omega) (by omega)
      cases hbit : b.testBit k
      · rw [hbit] at h1
        simp only [Bool.false_eq_true, if_false] at h1
        have hf := Lib.hid (show clmulTo a b (k + 1) = clmulTo a b k by simp [clmulTo, hbit])
        clear h2 h3' hbit
        go_wp2
        go_round
        case rel => exact ⟨k + 1, by omega, by go_num, by rw [hf.out]⟩
        case measure => simp [intOf]; omega
      · rw [hbit] at h1
        simp only [if_true] at h1
        have hf := Lib.hid (show clmulTo a b (k + 1) = clmulTo a b k ^^^ a * 2 ^ k by simp [clmulTo, hbit])
        generalize clmulTo a b k = c at *
        generalize a * 2 ^ k = s at *
        generalize c ^^^ s = c2 at *
        clear hbit
        go_wp2
        go_round
        case rel => exact ⟨k + 1, by omega, by go_num, by rw [hf.out]⟩
        case measure => simp [intOf]; omega
    · obtain rfl : k = P := by omega
      have hinit : red poly k (k + 1) (clmulTo a b k) = specMulB k poly a b := rfl
      have hcl2 := clmul_end k a b h8 HA.out
      obtain ⟨r, hr⟩ : ∃ r, r = specMulB k poly a b := ⟨_, rfl⟩
      rw [← hr] at hinit
      have HI := Lib.hid hinit
      have HR := Lib.hid hr
      clear hinit hr
      generalize clmulTo a b k = c at *
      go_wp2
      go_loop [7, 9] (fun o t => ∃ (j c : Nat), j ≤ k + 1 ∧ t = .int .i64 ((k : Int) + j - 1) ∧ o = .int .i64 c ∧ c < 131072 ∧ Hid (red poly k j c = r)) (fun _ t => (intOf t + 1 - k).toNat)
      case atStart => exact ⟨k + 1, c, by omega, by go_num, rfl, hcl2, HI⟩
      case round =>
        obtain ⟨j, c, hj, rfl, rfl, hc, hred⟩ := hrel
        by_cases h0 : 0 < j
        · obtain ⟨i, rfl⟩ : ∃ i, j = i + 1 := ⟨j - 1, by omega⟩
          have et : (k : Int) + ((i + 1 : Nat) : Int) - 1 = ((k + i : Nat) : Int) := by omega
          rw [et]
          have h1 := and_one c (Nat.lt_trans hc (by decide)) (k + i)
          obtain ⟨h2, h3', hxl⟩ := step2_facts k poly c i h8 (by omega) HP2.out hc
          have et2 : ((k + i : Nat) : Int) - (k : Int) = (i : Int) := by omega
          have hki : k + i < 64 := by omega
          cases hbit : c.testBit (k + i)
          · rw [hbit] at h1
            simp only [Bool.false_eq_true, if_false] at h1
            have hf := Lib.hid (show red poly k i c = r by have := hred.out; simp only [red, redStep, hbit] at this; simpa using this)
            clear h2 h3' hbit hred hxl et et2
            go_wp2
            go_round
            case rel => exact ⟨i, c, by omega, by go_num, rfl, hc, hf⟩
            case measure => simp [intOf]; omega
          · rw [hbit] at h1
            simp only [if_true] at h1
            have hf := Lib.hid (show red poly k i (c ^^^ (poly * 2 ^ i)) = r by have := hred.out; simp only [red, redStep, hbit] at this; simpa using this)
            generalize poly * 2 ^ i = s at *
            generalize c ^^^ s = c2 at *
            clear hbit hred et
            go_wp2
            go_round
            case rel => exact ⟨i, c2, by omega, by go_num, rfl, hxl, hf⟩
            case measure => simp [intOf]; omega
        · obtain rfl : j = 0 := by omega
          have hf := Lib.hid (show c = r from hred.out)
          have et : (k : Int) + ((0 : Nat) : Int) - 1 = (k : Int) - 1 := by omega
          rw [et]
          clear hred et
          go_wp2
          go_ret
          exact ⟨ret_int (by rw [hf.out, HR.out]), below1 _ _⟩
/-- The reference's product over a field of prime size. -/
theorem l02Mul_prime (p g a b : Int) (h3 : 3 ≤ p) (hp : p ≤ 1021) (ha0 : 0 ≤ a) (ha : a < p) (hb0 : 0 ≤ b) (hb : b < p) (w : World) :
    Calls Tryz.prog 79 #[fV p 1 g, .int .i64 a, .int .i64 b] w fun e w' => e = .returned (.int .i64 (a * b % p)) ∧ Below w.heap.size w w' := by
  have hm : 0 ≤ a * b ∧ a * b ≤ 1042441 := by
    have h6 : a * b ≤ 1021 * 1021 := Int.mul_le_mul (by omega) (by omega) (by omega) (by omega)
    have h7 : 0 ≤ a * b := Int.mul_nonneg ha0 hb0
    omega
  have hp0 : ¬ p = 0 := by omega
  go_enter Tryz.func79, Tryz.ntmps79
  go_wp2
  go_ret
  exact ⟨rfl, below1 _ _⟩
/-- Two as a factor. -/
theorem specMulB_two (P poly x : Nat) (h3 : 3 ≤ P) (hp : 2 ^ P ≤ poly) (hp2 : poly < 2 ^ (P + 1)) (hx : x < 2 ^ P) : ((specMulB P poly x 2 : Nat) : Int) = timesB ((2 ^ P : Nat) : Int) poly x := by
  have hcl : ∀ k, 2 ≤ k → clmulTo x 2 k = 2 * x := by
    intro k hk
    induction k with
    | zero => omega
    | succ k ih =>
      by_cases e : k = 1
      · subst e
        show (if Nat.testBit 2 1 then (if Nat.testBit 2 0 then 0 ^^^ (x * 2 ^ 0) else 0) ^^^ (x * 2 ^ 1) else _) = _
        have e1 : Nat.testBit 2 1 = true := by decide
        have e0 : Nat.testBit 2 0 = false := by decide
        rw [e1, e0]; simp; omega
      · have hb : Nat.testBit 2 k = false := Nat.testBit_lt_two_pow (Nat.lt_of_lt_of_le (show 2 < 2 ^ 2 by decide) (Nat.pow_le_pow_right (by omega) (by omega)))
        show (if Nat.testBit 2 k then _ else clmulTo x 2 k) = _
        rw [hb]; simp; exact ih (by omega)
  unfold specMulB
  have hlt : 2 * x < 2 ^ (P + 1) := by rw [Nat.pow_succ]; omega
  rw [hcl P (by omega), red_low poly P 1 (P + 1) (2 * x) hlt (by omega)]
  exact (red_two poly P hp hp2 0 x hx).2
end Go.Proofs.YtdcmebegnekkcaaGreat
/-
  The walks of the reference's fields: which are valid, and their products.
-/
namespace Go.Proofs.YtdcmebegnekkcaaGreat
open Go.RowKit
set_option linter.unusedVariables false

/-- The box that a field lies in, while it is a parameter. -/
structure Box (w : World) (B : Nat) (p pw g : Int) : Prop where
  lt : B < w.heap.size
  c0 : w.cell? ⟨B, 0, none⟩ = some (.int .i64 p)
  c1 : w.cell? ⟨B, 1, none⟩ = some (.int .i64 pw)
  c2 : w.cell? ⟨B, 2, none⟩ = some (.int .i64 g)
theorem box_new (w : World) (p pw g : Int) (t : TypeId) : Box (w.alloc (.cells #[.int .i64 p, .int .i64 pw, .int .i64 g] t)) w.heap.size p pw g :=
  ⟨by simp, by simp [go_sem], by simp [go_sem], by simp [go_sem]⟩
theorem Box.below {w w' : World} {B C : Nat} {p pw g : Int} (h : Box w B p pw g) (hb : Below C w w') (hC : B < C) : Box w' B p pw g :=
  ⟨by have := hb.size; have := h.lt; omega, (hb.cell (p := ⟨B, 0, none⟩) hC).trans h.c0, (hb.cell (p := ⟨B, 1, none⟩) hC).trans h.c1, (hb.cell (p := ⟨B, 2, none⟩) hC).trans h.c2⟩
/-- None of the powers from the first to the one ahead of n is 0 or 1. -/
def Fine1 (T : Int → Int) (n : Nat) : Prop := ∀ m, 0 < m → m < n → orb T m ≠ 0 ∧ orb T m ≠ 1
theorem Fine1.next {T : Int → Int} {n : Nat} (h : Fine1 T n) (h0 : orb T n ≠ 0) (h1 : orb T n ≠ 1) : Fine1 T (n + 1) := fun m a b => by
  by_cases e : m = n
  · subst e; exact ⟨h0, h1⟩
  · exact h m a (by omega)
/-- How the reference's search for the order ends. -/
theorem runs_end {T : Int → Int} {N n : Nat} (hN : 0 < N) (hn : 0 < n) (hn2 : n ≤ N + 1) (hf : Fine1 T n) (he : orb T n = 1 ∨ orb T n = 0 ∨ n = N + 1) :
    goodB T N = (decide (orb T n = 1) && decide (n = N)) := by
  by_cases h1 : orb T n = 1
  · by_cases h2 : n = N
    · subst h2
      have : goodB T n = true := by
        unfold goodB; simp only [decide_eq_true_eq]
        refine ⟨fun m hm => ?_, h1⟩
        by_cases h0 : m = 0
        · subst h0; exact ⟨by show (1 : Int) ≠ 0; omega, fun h => by omega⟩
        · exact ⟨(hf m (by omega) hm).1, fun _ => (hf m (by omega) hm).2⟩
      rw [this]; simp [h1]
    · by_cases h3 : n < N
      · rw [goodB_no1 h3 hn h1]; simp [h2]
      · have : n = N + 1 := by omega
        have hh : goodB T N = false := by
          rw [Bool.eq_false_iff]
          intro hg
          exact (hf N hN (by omega)).2 (good_of hg).2
        rw [hh]; simp [h2]
  · have hh : goodB T N = false := by
      rw [Bool.eq_false_iff]
      intro hg
      have hg := good_of hg
      rcases he with h | h | h
      · exact h1 h
      · rcases Nat.lt_trichotomy n N with hl | hl | hl
        · exact (hg.1 n hl).1 h
        · rw [← hl] at hg; exact h1 hg.2
        · exact (hf N hN hl).2 hg.2
      · exact (hf N hN (by omega)).2 hg.2
    rw [hh]; simp [h1]
set_option maxHeartbeats 1000000 in
theorem l02Runs_any (p pw g gg : Int) (T : Int → Int) (hr : Ranged p pw g) (N : Nat) (hN : (ffOf p pw g).size = (N : Int) + 1) (hN2 : 2 ≤ N) (hN3 : N ≤ 1020) (hT : ∀ x, 0 ≤ x → x < (N : Int) + 1 → 0 ≤ T x ∧ T x < (N : Int) + 1)
    (h1 : T 1 = gg) (hmul : ∀ W x, 0 ≤ x → x < (N : Int) + 1 → Calls Tryz.prog 79 #[fV p pw g, .int .i64 x, .int .i64 gg] W fun e w' => e = .returned (.int .i64 (T x)) ∧ Below W.heap.size W w') (w : World) :
    Calls Tryz.prog 72 #[fV p pw g, .int .i64 gg] w fun e w' => e = .returned (.bool (goodB T N)) ∧ Below w.heap.size w w' := by
  have hrange : ∀ k, 0 ≤ orb T k ∧ orb T k < (N : Int) + 1 := by
    intro k
    induction k with
    | zero => exact ⟨by show (0 : Int) ≤ 1; omega, by show (1 : Int) < (N : Int) + 1; omega⟩
    | succ k ih => exact hT _ ih.1 ih.2
  have HR := Lib.hid hrange
  have HM := Lib.hid hmul
  have HN := Lib.hid hN
  have hsize : ∀ W, Calls Tryz.prog 74 #[fV p pw g] W fun e w' => e = .returned (.int .i64 ((N : Int) + 1)) ∧ Below W.heap.size W w' := fun W => by
    have := l02Size_any p pw g W hr
    rw [hN] at this; exact this
  have HS := Lib.hid hsize
  have HG := Lib.hid (show orb T 1 = gg from h1)
  clear hrange hmul hsize hN hT h1 hr
  go_enter Tryz.func72, Tryz.ntmps72
  go_wp2_with fail
  go_loopw [5, 6] (fun x t wr => ∃ n : Nat, 0 < n ∧ n ≤ N + 1 ∧ t = .int .i64 n ∧ x = .int .i64 (orb T n) ∧ Hid (Fine1 T n) ∧ Below w.heap.size w wr ∧ Box wr w.heap.size p pw g) (fun _ t _ => N + 2 - (intOf t).toNat)
  case atStart => exact ⟨1, by omega, by omega, rfl, by rw [HG.out], fun m a b => by omega, below1 _ _, box_new _ _ _ _ _⟩
  case round =>
    obtain ⟨n, hn, hn2, rfl, hxe, hf, hbel, hbox⟩ := hrel
    have hr := HR.out n
    have hend := fun he => runs_end (T := T) (show 0 < N by omega) hn hn2 hf.out he
    obtain ⟨x, hx⟩ : ∃ x, x = orb T n := ⟨_, rfl⟩
    rw [← hx] at hxe hr hend
    subst hxe
    have HX := Lib.hid hx
    have HE := Lib.hid hend
    have HB := Lib.hid hbel
    have HBX := Lib.hid hbox
    obtain ⟨hlt, c0, c1, c2⟩ := hbox
    clear hx hbel hend
    by_cases hx1 : x = 1
    · have b1 : (x != 1) = false := by simp [hx1]
      have b2 : (x == 1) = true := by simp [hx1]
      have hv := HE.out (.inl hx1)
      rw [decide_eq_true hx1] at hv
      simp only [Bool.true_and] at hv
      have HV := Lib.hid hv
      clear hx1 hv
      go_wp2_with fail
      refine (HS.out _).mono ?_
      rintro e w1 ⟨rfl, hb1⟩
      have HB1 := Lib.hid (HB.out.trans (hb1.mono (by omega)))
      clear hb1
      have b3 : ((n : Int) == (N : Int)) = decide (n = N) := by
        by_cases h : n = N
        · simp [h]
        · have : ¬ (n : Int) = N := by omega
          simp [h, this]
      go_wp2_with fail
      go_ret
      exact ⟨ret_bool (by rw [HV.out]), HB1.out⟩
    · have b1 : (x != 1) = true := by simp [hx1]
      have b2 : (x == 1) = false := by simp [hx1]
      by_cases hx0 : x = 0
      · have b3 : (x != 0) = false := by simp [hx0]
        have hv := HE.out (.inr (.inl hx0))
        rw [decide_eq_false hx1] at hv
        simp only [Bool.false_and] at hv
        have HV := Lib.hid hv
        clear hx1 hx0 hv
        go_wp2_with fail
        go_ret
        exact ⟨ret_bool HV.out.symm, HB.out⟩
      · have b3 : (x != 0) = true := by simp [hx0]
        have hfn := Lib.hid (hf.out.next (HX.out ▸ hx0) (HX.out ▸ hx1))
        by_cases hlt2 : n ≤ N
        · have hnx := Lib.hid (show T x = orb T (n + 1) by rw [HX.out]; rfl)
          have hlt3 : (n : Int) < (N : Int) + 1 := by omega
          clear hx1 hx0
          go_wp2_with fail
          refine (HS.out _).mono ?_
          rintro e w1 ⟨rfl, hb1⟩
          have hB1 := Lib.hid (HB.out.trans (hb1.mono (by omega)))
          have hX1 := HBX.out.below hb1 hlt
          have HX1 := Lib.hid hX1
          obtain ⟨hl1, d0, d1, d2⟩ := hX1
          clear hb1
          go_wp2_with fail
          refine (HM.out _ x hr.1 hr.2).mono ?_
          rintro e w2 ⟨rfl, hb2⟩
          have hB2 := Lib.hid (hB1.out.trans (hb2.mono (by omega)))
          have hX2 := Lib.hid (HX1.out.below hb2 hl1)
          clear hb2
          go_wp2_with fail
          go_roundw
          case rel => exact ⟨n + 1, by omega, by omega, by go_num, by rw [hnx.out], hfn, hB2.out, hX2.out⟩
          case measure => simp [intOf]; omega
        · have hge : ¬ (n : Int) < (N : Int) + 1 := by omega
          have hv := HE.out (.inr (.inr (by omega)))
          rw [decide_eq_false hx1] at hv
          simp only [Bool.false_and] at hv
          have HV := Lib.hid hv
          clear hx1 hx0 hv
          go_wp2_with fail
          refine (HS.out _).mono ?_
          rintro e w1 ⟨rfl, hb1⟩
          have HB1 := Lib.hid (HB.out.trans (hb1.mono (by omega)))
          clear hb1
          go_wp2_with fail
          go_ret
          exact ⟨ret_bool HV.out.symm, HB1.out⟩

theorem runs_prime (p g h : Int) (h3 : 3 ≤ p) (hp : p ≤ 1021) (h1 : 1 ≤ h) (h2 : h < p) (w : World) :
    Calls Tryz.prog 72 #[fV p 1 g, .int .i64 h] w fun e w' => e = .returned (.bool (goodB (timesP h p) (nP p))) ∧ Below w.heap.size w w' := by
  have hs : (ffOf p 1 g).size = p := by unfold ffOf; rw [if_pos rfl]
  have hN : ((nP p : Nat) : Int) = p - 1 := by unfold nP; omega
  exact l02Runs_any p 1 g h (timesP h p) (.inl ⟨rfl, h3, hp⟩) (nP p) (by rw [hs, hN]; omega) (by omega) (by omega)
    (fun x _ _ => by rw [hN]; exact ⟨Int.emod_nonneg _ (by omega), by have := Int.emod_lt_of_pos (x * h) (show 0 < p by omega); unfold timesP; omega⟩)
    (by unfold timesP; rw [Int.one_mul, Int.emod_eq_of_lt (by omega) h2])
    (fun W x hx0 hx1 => l02Mul_prime p g x h h3 hp hx0 (by omega) (by omega) h2 W) w
theorem runs_bin (P poly : Nat) (p : Int) (h3 : 3 ≤ P) (h8 : P ≤ 8) (hp : 2 ^ P ≤ poly) (hp2 : poly < 2 ^ (P + 1)) (w : World) :
    Calls Tryz.prog 72 #[fV p P poly, .int .i64 2] w fun e w' => e = .returned (.bool (goodB (timesB ((2 ^ P : Nat) : Int) poly) (2 ^ P - 1))) ∧ Below w.heap.size w w' := by
  have hs : (ffOf p P poly).size = ((2 ^ P : Nat) : Int) := by unfold ffOf; rw [if_neg (by omega)]; simp
  have hlo : 2 ^ 3 ≤ 2 ^ P := Nat.pow_le_pow_right (by omega) h3
  have hhi : 2 ^ P ≤ 2 ^ 8 := Nat.pow_le_pow_right (by omega) h8
  have e1 : 2 ^ (P + 1) = 2 * 2 ^ P := by rw [Nat.pow_succ]; omega
  have hN : ((2 ^ P - 1 : Nat) : Int) + 1 = ((2 ^ P : Nat) : Int) := by omega
  refine l02Runs_any p P poly 2 (timesB ((2 ^ P : Nat) : Int) poly) (.inr ⟨by omega, by omega, by rw [Int.toNat_natCast]; omega, by rw [Int.toNat_natCast]; omega⟩) (2 ^ P - 1) (by rw [hs, hN]) (by omega) (by omega)
    (fun x h0 h1 => by rw [hN] at h1 ⊢; exact timesB_range P poly x (by omega) (by omega) h0 h1)
    (by unfold timesB; rw [if_neg (by omega)]; rfl) (fun W x h0 h1 => ?_) w
  rw [hN] at h1
  obtain ⟨X, rfl⟩ := Int.eq_ofNat_of_zero_le h0
  have := l02Mul_bin P poly X 2 p h3 h8 hp hp2 (by omega) (by omega) W
  rw [specMulB_two P poly X h3 hp hp2 (by omega)] at this
  exact this
/-- No generator from 1 to h. -/
def NoGen1 (p h : Int) : Prop := ∀ x : Int, 1 ≤ x → x < h → goodB (timesP x p) (nP p) = false
theorem NoGen1.next {p h : Int} (a : NoGen1 p h) (b : goodB (timesP h p) (nP p) = false) : NoGen1 p (h + 1) := fun x h1 h2 => by
  by_cases e : x = h
  · rw [e]; exact b
  · exact a x h1 (by omega)
theorem one_no (p : Int) (h3 : 3 ≤ p) : goodB (timesP 1 p) (nP p) = false :=
  goodB_no1 (k := 1) (by unfold nP; omega) (by omega) (by show timesP 1 p 1 = 1; unfold timesP; exact Int.emod_eq_of_lt (by omega) (by omega))
theorem valid_prime {p g : Int} (h3 : 3 ≤ p) (hp : p ≤ 1021) (hpr : primeB p = true) (hg1 : 1 ≤ g) (hg2 : g < p) (hn : NoGen1 p g) : validB p 1 g = goodB (timesP g p) (nP p) := by
  cases hh : goodB (timesP g p) (nP p)
  · refine validB_not (fun v => ?_) (fun v => by have := v.2.1; omega)
    rw [v.2.2.2.2.2.2.1] at hh; cases hh
  · have h2 : 2 ≤ g := by
      apply Classical.byContradiction
      intro h
      obtain rfl : g = 1 := by omega
      rw [one_no p h3] at hh; cases hh
    unfold validB; simp only [decide_eq_true_eq]
    exact .inl ⟨rfl, h3, hp, hpr, h2, hg2, hh, fun x a b => hn x (by omega) b⟩
theorem valid_prime_no {p g h : Int} (h1 : 1 ≤ h) (hh : h < g) (h3 : 3 ≤ p) (hg : goodB (timesP h p) (nP p) = true) : validB p 1 g = false := by
  refine validB_not (fun v => ?_) (fun v => by have := v.2.1; omega)
  by_cases h2 : 2 ≤ h
  · have := v.2.2.2.2.2.2.2 h h2 hh; rw [this] at hg; cases hg
  · obtain rfl : h = 1 := by omega
    rw [one_no p h3] at hg; cases hg
set_option maxHeartbeats 1000000 in
theorem isField_prime (p g : Int) (w : World) (h3 : 3 ≤ p) (hp : p ≤ 1021) (hpr : primeB p = true) (hg1 : 1 ≤ g) (hg2 : g < p) :
    Calls Tryz.prog 64 #[fV p 1 g] w fun e w' => e = .returned (.bool (validB p 1 g)) ∧ Below w.heap.size w w' := by
  have hin := inR_true h3 hp
  have hin2 := inR_true hg1 (show g ≤ p - 1 by omega)
  have HPR := Lib.hid hpr
  go_enter Tryz.func64, Tryz.ntmps64
  go_wp2_with fail
  refine (l01In_any _ _ _ _).mono ?_
  rintro e w' ⟨rfl, rfl⟩
  go_wp2_with fail
  refine (l02Prime_any p (by omega) (by omega) _).mono ?_
  rintro e w' ⟨rfl, rfl⟩
  go_wp2_with fail
  refine (l01In_any _ _ _ _).mono ?_
  rintro e w' ⟨rfl, rfl⟩
  go_wp2_with fail
  clear hpr
  go_loopw [3] (fun t wr => ∃ h : Int, 1 ≤ h ∧ h ≤ g ∧ t = .int .i64 h ∧ Hid (NoGen1 p h) ∧ Below w.heap.size w wr ∧ Box wr w.heap.size p 1 g) (fun t _ => (g - intOf t).toNat)
  case atStart => exact ⟨1, by omega, hg1, rfl, fun x a b => by omega, below1 _ _, box_new _ _ _ _ _⟩
  case round =>
    obtain ⟨h, h1, h2, rfl, hng, hbel, hbox⟩ := hrel
    have HB := Lib.hid hbel
    have HBX := Lib.hid hbox
    obtain ⟨hlt, c0, c1, c2⟩ := hbox
    clear hbel
    by_cases hlt2 : h < g
    · cases hgd : goodB (timesP h p) (nP p)
      · have hnn := Lib.hid (hng.out.next hgd)
        go_wp2_with fail
        refine (runs_prime p g h h3 hp h1 (by omega) _).mono ?_
        rintro e w1 ⟨rfl, hb1⟩
        have hB1 := Lib.hid (HB.out.trans (hb1.mono (by omega)))
        have hX1 := Lib.hid (HBX.out.below hb1 hlt)
        clear hb1
        go_wp2_with fail
        go_roundw
        case rel => exact ⟨h + 1, by omega, by omega, rfl, hnn, hB1.out, hX1.out⟩
        case measure => simp [intOf]; omega
      · have hf := Lib.hid (valid_prime_no (g := g) h1 hlt2 h3 hgd)
        go_wp2_with fail
        refine (runs_prime p g h h3 hp h1 (by omega) _).mono ?_
        rintro e w1 ⟨rfl, hb1⟩
        have hB1 := Lib.hid (HB.out.trans (hb1.mono (by omega)))
        clear hb1
        go_wp2_with fail
        go_ret
        exact ⟨ret_bool hf.out.symm, hB1.out⟩
    · obtain rfl : h = g := by omega
      have hf := Lib.hid (valid_prime h3 hp HPR.out hg1 hg2 hng.out)
      go_wp2_with fail
      refine (runs_prime p h h h3 hp h1 (by omega) _).mono ?_
      rintro e w1 ⟨rfl, hb1⟩
      have hB1 := Lib.hid (HB.out.trans (hb1.mono (by omega)))
      clear hb1
      go_wp2_with fail
      go_ret
      exact ⟨ret_bool hf.out.symm, hB1.out⟩
theorem isField_any (p pw g : Int) (w : World) :
    Calls Tryz.prog 64 #[fV p pw g] w fun e w' => e = .returned (.bool (validB p pw g)) ∧ Below w.heap.size w w' := by
  by_cases hpw : pw = 1
  · subst hpw
    by_cases hin : 3 ≤ p ∧ p ≤ 1021
    · have hin' := inR_true hin.1 hin.2
      cases hpr : primeB p
      · have hf := Lib.hid (validB_not (p := p) (pw := 1) (g := g) (fun v => by have := v.2.2.2.1; rw [hpr] at this; cases this) (fun v => by have := v.2.1; omega))
        go_enter Tryz.func64, Tryz.ntmps64
        go_wp2_with fail
        refine (l01In_any _ _ _ _).mono ?_
        rintro e w' ⟨rfl, rfl⟩
        go_wp2_with fail
        refine (l02Prime_any p (by omega) (by omega) _).mono ?_
        rintro e w' ⟨rfl, rfl⟩
        go_wp2_with fail
        go_ret
        exact ⟨ret_bool hf.out.symm, below1 _ _⟩
      · by_cases hg : 1 ≤ g ∧ g ≤ p - 1
        · exact isField_prime p g w hin.1 hin.2 hpr hg.1 (by omega)
        · have hg' := inR_false hg
          have hf := Lib.hid (validB_not (p := p) (pw := 1) (g := g) (fun v => by have h1 := v.2.2.2.2.1; have h2 := v.2.2.2.2.2.1; omega) (fun v => by have := v.2.1; omega))
          go_enter Tryz.func64, Tryz.ntmps64
          go_wp2_with fail
          refine (l01In_any _ _ _ _).mono ?_
          rintro e w' ⟨rfl, rfl⟩
          go_wp2_with fail
          refine (l02Prime_any p (by omega) (by omega) _).mono ?_
          rintro e w' ⟨rfl, rfl⟩
          go_wp2_with fail
          refine (l01In_any _ _ _ _).mono ?_
          rintro e w' ⟨rfl, rfl⟩
          go_wp2_with fail
          go_ret
          exact ⟨ret_bool hf.out.symm, below1 _ _⟩
    · have hin' := inR_false hin
      have hf := Lib.hid (validB_not (p := p) (pw := 1) (g := g) (fun v => hin ⟨v.2.1, v.2.2.1⟩) (fun v => by have := v.2.1; omega))
      go_enter Tryz.func64, Tryz.ntmps64
      go_wp2_with fail
      refine (l01In_any _ _ _ _).mono ?_
      rintro e w' ⟨rfl, rfl⟩
      go_wp2_with fail
      go_ret
      exact ⟨ret_bool hf.out.symm, below1 _ _⟩
  · have hpw' : (pw == 1) = false := by simp [hpw]
    by_cases hp2 : p = 2
    · have hp2' : (p != 2) = false := by simp [hp2]
      by_cases hin : 3 ≤ pw ∧ pw ≤ 8
      · have hin' := inR_true hin.1 hin.2
        obtain ⟨P, rfl⟩ := Int.eq_ofNat_of_zero_le (show 0 ≤ pw by omega)
        have hlo : 2 ^ 3 ≤ 2 ^ P := Nat.pow_le_pow_right (by omega) (by omega)
        have hhi : 2 ^ P ≤ 2 ^ 8 := Nat.pow_le_pow_right (by omega) (by omega)
        have e1 : 2 ^ (P + 1) = 2 * 2 ^ P := by rw [Nat.pow_succ]; omega
        obtain ⟨sz, hsz⟩ : ∃ sz : Int, sz = ((2 ^ P : Nat) : Int) := ⟨_, rfl⟩
        have e : ((2 ^ P : Nat) : Int) = (2 : Int) ^ P := by simp
        have hsh1 : wrap64 ((2 : Int) ^ P) = sz := by rw [← e, ← hsz]; exact IntWalk.wrap64_in _ (by omega)
        have hsh2 : wrap64 ((2 : Int) * 2 ^ P) = 2 * sz := by rw [← e, ← hsz]; exact IntWalk.wrap64_in _ (by omega)
        have hszb : 8 ≤ sz ∧ sz ≤ 256 := by omega
        by_cases hg : sz ≤ g ∧ g ≤ 2 * sz - 1
        · have hg' := inR_true hg.1 hg.2
          obtain ⟨poly, rfl⟩ := Int.eq_ofNat_of_zero_le (show 0 ≤ g by omega)
          have hrb := runs_bin P poly p (by omega) (by omega) (by omega) (by omega)
          have hf : validB p P poly = goodB (timesB ((2 ^ P : Nat) : Int) poly) (2 ^ P - 1) := by
            cases hh : goodB (timesB ((2 ^ P : Nat) : Int) poly) (2 ^ P - 1)
            · refine validB_not (fun v => hpw v.1) (fun v => ?_)
              have := v.2.2.2.2.2
              rw [Int.toNat_natCast, hh] at this; cases this
            · unfold validB; simp only [decide_eq_true_eq]
              exact .inr ⟨hp2, hin.1, hin.2, by rw [Int.toNat_natCast]; omega, by rw [Int.toNat_natCast]; omega, by rw [Int.toNat_natCast]; exact hh⟩
          have HRB := Lib.hid hrb
          have HF := Lib.hid hf
          clear hrb hf hlo hhi e1 e hsz hp2 hpw
          go_enter Tryz.func64, Tryz.ntmps64
          go_wp2_with fail
          refine (l01In_any _ _ _ _).mono ?_
          rintro e w' ⟨rfl, rfl⟩
          go_wp2_with fail
          refine (l01In_any _ _ _ _).mono ?_
          rintro e w' ⟨rfl, rfl⟩
          go_wp2_with fail
          refine (HRB.out _).mono ?_
          rintro e w1 ⟨rfl, hb1⟩
          have hB1 := Lib.hid ((below1 _ _).trans (hb1.mono (by simp)))
          clear hb1
          go_wp2_with fail
          go_ret
          exact ⟨ret_bool HF.out.symm, hB1.out⟩
        · have hg' := inR_false hg
          have hf := Lib.hid (validB_not (p := p) (pw := P) (g := g) (fun v => hpw v.1) (fun v => hg ⟨by have := v.2.2.2.1; rw [Int.toNat_natCast] at this; omega, by have := v.2.2.2.2.1; rw [Int.toNat_natCast] at this; omega⟩))
          clear hlo hhi e1 e hsz hp2 hpw
          go_enter Tryz.func64, Tryz.ntmps64
          go_wp2_with fail
          refine (l01In_any _ _ _ _).mono ?_
          rintro e w' ⟨rfl, rfl⟩
          go_wp2_with fail
          refine (l01In_any _ _ _ _).mono ?_
          rintro e w' ⟨rfl, rfl⟩
          go_wp2_with fail
          go_ret
          exact ⟨ret_bool hf.out.symm, below1 _ _⟩
      · have hin' := inR_false hin
        have hf := Lib.hid (validB_not (p := p) (pw := pw) (g := g) (fun v => hpw v.1) (fun v => hin ⟨v.2.1, v.2.2.1⟩))
        clear hp2 hpw
        go_enter Tryz.func64, Tryz.ntmps64
        go_wp2_with fail
        refine (l01In_any _ _ _ _).mono ?_
        rintro e w' ⟨rfl, rfl⟩
        go_wp2_with fail
        go_ret
        exact ⟨ret_bool hf.out.symm, below1 _ _⟩
    · have hp2' : (p != 2) = true := by simp [hp2]
      have hf := Lib.hid (validB_not (p := p) (pw := pw) (g := g) (fun v => hpw v.1) (fun v => hp2 v.1))
      clear hp2 hpw
      go_enter Tryz.func64, Tryz.ntmps64
      go_wp2_with fail
      go_ret
      exact ⟨ret_bool hf.out.symm, below1 _ _⟩
end Go.Proofs.YtdcmebegnekkcaaGreat
/-
  The walks of the reference's element checks and sums; the two FieldAdd.
-/
namespace Go.Proofs.YtdcmebegnekkcaaGreat
open Go.RowKit
set_option linter.unusedVariables false

theorem RowAt.below {w w' : World} {a : Option Addr} {n C : Nat} {zs : List Int} (h : RowAt w a n zs) (hb : Below C w w') (hC : ∀ x, a = some x → x.block < C) : RowAt w' a n zs :=
  ⟨h.len, h.small, fun hn => by
    obtain ⟨b, off, rfl, hlt, hc⟩ := h.at' hn
    exact ⟨b, off, rfl, by have := hb.size; omega, fun j hj => (hb.cell (p := ⟨b, off + j, none⟩) (hC ⟨b, off, none⟩ rfl)).trans (hc j hj)⟩⟩
theorem RowAt.below' {w w' : World} {a : Option Addr} {n : Nat} {zs : List Int} (h : RowAt w a n zs) (hb : Below w.heap.size w w') : RowAt w' a n zs :=
  ⟨h.len, h.small, fun hn => by
    obtain ⟨b, off, rfl, hlt, hc⟩ := h.at' hn
    exact ⟨b, off, rfl, by have := hb.size; omega, fun j hj => (hb.cell (p := ⟨b, off + j, none⟩) hlt).trans (hc j hj)⟩⟩
/-- The code of a field and elements. -/
noncomputable def codeE (p pw g : Int) (zs : List Int) : Int := if validB p pw g = true then (if allB (ffOf p pw g) zs = true then 0 else 2) else 1
theorem l02Mul_any (p pw g : Int) (hv : validB p pw g = true) (x y : Int) (hx : (ffOf p pw g).el x) (hy : (ffOf p pw g).el y) (w : World) :
    Calls Tryz.prog 79 #[fV p pw g, .int .i64 x, .int .i64 y] w fun e w' => e = .returned (.int .i64 ((ffOf p pw g).mul x y)) ∧ Below w.heap.size w w' := by
  have ok := ffOf_ok hv
  have hlo := ok.lo
  have hhi := ok.hi
  rcases ranged_of hv with ⟨rfl, h1, h2⟩ | ⟨h1, h2, h3, h4⟩
  · have e : (ffOf p 1 g).size = p := by unfold ffOf; rw [if_pos rfl]
    have hm := mulP_eq (ffOf p 1 g) ok (by unfold ffOf; rw [if_pos rfl]) x y hx hy
    rw [← hm, e]
    obtain ⟨hx0, hx1⟩ := hx
    obtain ⟨hy0, hy1⟩ := hy
    exact l02Mul_prime p g x y h1 h2 hx0 (by omega) hy0 (by omega) w
  · obtain ⟨P, rfl⟩ := Int.eq_ofNat_of_zero_le (show 0 ≤ pw by omega)
    rw [Int.toNat_natCast] at h3 h4
    obtain ⟨poly, rfl⟩ := Int.eq_ofNat_of_zero_le (show 0 ≤ g by omega)
    obtain ⟨X, rfl⟩ := Int.eq_ofNat_of_zero_le hx.1
    obtain ⟨Y, rfl⟩ := Int.eq_ofNat_of_zero_le hy.1
    have e1 : 2 ^ (P + 1) = 2 * 2 ^ P := by rw [Nat.pow_succ]; omega
    have e : (ffOf p P poly) = ⟨true, ((2 ^ P : Nat) : Int), poly⟩ := by unfold ffOf; rw [if_neg (by omega)]; simp
    have hX := hx.2
    have hY := hy.2
    rw [e] at hX hY ok ⊢
    have hm := specMulB_eq ⟨true, ((2 ^ P : Nat) : Int), poly⟩ ok poly P (by omega) (by omega) rfl rfl rfl X Y (Int.ofNat_lt.1 hX) (Int.ofNat_lt.1 hY)
    rw [← hm]
    exact l02Mul_bin P poly X Y p (by omega) (by omega) (by omega) (by omega) (Int.ofNat_lt.1 hX) (Int.ofNat_lt.1 hY) w
end Go.Proofs.YtdcmebegnekkcaaGreat
