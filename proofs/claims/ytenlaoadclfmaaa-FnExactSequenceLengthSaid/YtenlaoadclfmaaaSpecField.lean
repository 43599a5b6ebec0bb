/-
  The walks of the reference's fields: which are valid, and their products.
-/
import Derived.Test.YtenlaoadclfmaaaSpecMul
namespace Go.Proofs.Ytenlaoadclfmaaa
open Go.RowKit
set_option linter.unusedVariables false

/-- The box that a field lies in, while it is a parameter. -/
structure Box (w : World) (B : Nat) (p pw g : Int) : Prop where
  lt : B < w.heap.size
  c0 : w.cell? ⟨B, 0, none⟩ = some (.int .i64 p)
  c1 : w.cell? ⟨B, 1, none⟩ = some (.int .i64 pw)
  c2 : w.cell? ⟨B, 2, none⟩ = some (.int .i64 g)
theorem box_new (w : World) (p pw g : Int) (t : TypeId) : Box (w.alloc (.cells #[.int .i64 p, .int .i64 pw, .int .i64 g] t)) w.heap.size p pw g :=
  ⟨by simp, by simp [go_sem], by simp [go_sem], by simp [go_sem]⟩
theorem Box.below {w w' : World} {B C : Nat} {p pw g : Int} (h : Box w B p pw g) (hb : Below C w w') (hC : B < C) : Box w' B p pw g :=
  ⟨by have := hb.size; have := h.lt; omega, (hb.cell (p := ⟨B, 0, none⟩) hC).trans h.c0, (hb.cell (p := ⟨B, 1, none⟩) hC).trans h.c1, (hb.cell (p := ⟨B, 2, none⟩) hC).trans h.c2⟩
/-- None of the powers from the first to the one ahead of n is 0 or 1. -/
def Fine1 (T : Int → Int) (n : Nat) : Prop := ∀ m, 0 < m → m < n → orb T m ≠ 0 ∧ orb T m ≠ 1
theorem Fine1.next {T : Int → Int} {n : Nat} (h : Fine1 T n) (h0 : orb T n ≠ 0) (h1 : orb T n ≠ 1) : Fine1 T (n + 1) := fun m a b => by
  by_cases e : m = n
  · subst e; exact ⟨h0, h1⟩
  · exact h m a (by omega)
/-- How the reference's search for the order ends. -/
theorem runs_end {T : Int → Int} {N n : Nat} (hN : 0 < N) (hn : 0 < n) (hn2 : n ≤ N + 1) (hf : Fine1 T n) (he : orb T n = 1 ∨ orb T n = 0 ∨ n = N + 1) :
    goodB T N = (decide (orb T n = 1) && decide (n = N)) := by
  by_cases h1 : orb T n = 1
  · by_cases h2 : n = N
    · subst h2
      have : goodB T n = true := by
        unfold goodB; simp only [decide_eq_true_eq]
        refine ⟨fun m hm => ?_, h1⟩
        by_cases h0 : m = 0
        · subst h0; exact ⟨by show (1 : Int) ≠ 0; omega, fun h => by omega⟩
        · exact ⟨(hf m (by omega) hm).1, fun _ => (hf m (by omega) hm).2⟩
      rw [this]; simp [h1]
    · by_cases h3 : n < N
      · rw [goodB_no1 h3 hn h1]; simp [h2]
      · have : n = N + 1 := by omega
        have hh : goodB T N = false := by
          rw [Bool.eq_false_iff]
          intro hg
          exact (hf N hN (by omega)).2 (good_of hg).2
        rw [hh]; simp [h2]
  · have hh : goodB T N = false := by
      rw [Bool.eq_false_iff]
      intro hg
      have hg := good_of hg
      rcases he with h | h | h
      · exact h1 h
      · rcases Nat.lt_trichotomy n N with hl | hl | hl
        · exact (hg.1 n hl).1 h
        · rw [← hl] at hg; exact h1 hg.2
        · exact (hf N hN hl).2 hg.2
      · exact (hf N hN (by omega)).2 hg.2
    rw [hh]; simp [h1]
set_option maxHeartbeats 1000000 in
theorem l02Runs_any (p pw g gg : Int) (T : Int → Int) (hr : Ranged p pw g) (N : Nat) (hN : (ffOf p pw g).size = (N : Int) + 1) (hN2 : 2 ≤ N) (hN3 : N ≤ 1020) (hT : ∀ x, 0 ≤ x → x < (N : Int) + 1 → 0 ≤ T x ∧ T x < (N : Int) + 1)
    (h1 : T 1 = gg) (hmul : ∀ W x, 0 ≤ x → x < (N : Int) + 1 → Calls Try.prog 102 #[fV p pw g, .int .i64 x, .int .i64 gg] W fun e w' => e = .returned (.int .i64 (T x)) ∧ Below W.heap.size W w') (w : World) :
    Calls Try.prog 86 #[fV p pw g, .int .i64 gg] w fun e w' => e = .returned (.bool (goodB T N)) ∧ Below w.heap.size w w' := by
  have hrange : ∀ k, 0 ≤ orb T k ∧ orb T k < (N : Int) + 1 := by
    intro k
    induction k with
    | zero => exact ⟨by show (0 : Int) ≤ 1; omega, by show (1 : Int) < (N : Int) + 1; omega⟩
    | succ k ih => exact hT _ ih.1 ih.2
  have HR := Lib.hid hrange
  have HM := Lib.hid hmul
  have HN := Lib.hid hN
  have hsize : ∀ W, Calls Try.prog 75 #[fV p pw g] W fun e w' => e = .returned (.int .i64 ((N : Int) + 1)) ∧ Below W.heap.size W w' := fun W => by
    have := l02Size_any p pw g W hr
    rw [hN] at this; exact this
  have HS := Lib.hid hsize
  have HG := Lib.hid (show orb T 1 = gg from h1)
  clear hrange hmul hsize hN hT h1 hr
  go_enter Try.func86, Try.ntmps86
  go_wp2_with fail
  go_loopw [5, 6] (fun x t wr => ∃ n : Nat, 0 < n ∧ n ≤ N + 1 ∧ t = .int .i64 n ∧ x = .int .i64 (orb T n) ∧ Hid (Fine1 T n) ∧ Below w.heap.size w wr ∧ Box wr w.heap.size p pw g) (fun _ t _ => N + 2 - (intOf t).toNat)
  case atStart => exact ⟨1, by omega, by omega, rfl, by rw [HG.out], fun m a b => by omega, below1 _ _, box_new _ _ _ _ _⟩
  case round =>
    obtain ⟨n, hn, hn2, rfl, hxe, hf, hbel, hbox⟩ := hrel
    have hr := HR.out n
    have hend := fun he => runs_end (T := T) (show 0 < N by omega) hn hn2 hf.out he
    obtain ⟨x, hx⟩ : ∃ x, x = orb T n := ⟨_, rfl⟩
    rw [← hx] at hxe hr hend
    subst hxe
    have HX := Lib.hid hx
    have HE := Lib.hid hend
    have HB := Lib.hid hbel
    have HBX := Lib.hid hbox
    obtain ⟨hlt, c0, c1, c2⟩ := hbox
    clear hx hbel hend
    by_cases hx1 : x = 1
    · have b1 : (x != 1) = false := by simp [hx1]
      have b2 : (x == 1) = true := by simp [hx1]
      have hv := HE.out (.inl hx1)
      rw [decide_eq_true hx1] at hv
      simp only [Bool.true_and] at hv
      have HV := Lib.hid hv
      clear hx1 hv
      go_wp2_with fail
      refine (HS.out _).mono ?_
      rintro e w1 ⟨rfl, hb1⟩
      have HB1 := Lib.hid (HB.out.trans (hb1.mono (by omega)))
      clear hb1
      have b3 : ((n : Int) == (N : Int)) = decide (n = N) := by
        by_cases h : n = N
        · simp [h]
        · have : ¬ (n : Int) = N := by omega
          simp [h, this]
      go_wp2_with fail
      go_ret
      exact ⟨ret_bool (by rw [HV.out]), HB1.out⟩
    · have b1 : (x != 1) = true := by simp [hx1]
      have b2 : (x == 1) = false := by simp [hx1]
      by_cases hx0 : x = 0
      · have b3 : (x != 0) = false := by simp [hx0]
        have hv := HE.out (.inr (.inl hx0))
        rw [decide_eq_false hx1] at hv
        simp only [Bool.false_and] at hv
        have HV := Lib.hid hv
        clear hx1 hx0 hv
        go_wp2_with fail
        go_ret
        exact ⟨ret_bool HV.out.symm, HB.out⟩
      · have b3 : (x != 0) = true := by simp [hx0]
        have hfn := Lib.hid (hf.out.next (HX.out ▸ hx0) (HX.out ▸ hx1))
        by_cases hlt2 : n ≤ N
        · have hnx := Lib.hid (show T x = orb T (n + 1) by rw [HX.out]; rfl)
          have hlt3 : (n : Int) < (N : Int) + 1 := by omega
          clear hx1 hx0
          go_wp2_with fail
          refine (HS.out _).mono ?_
          rintro e w1 ⟨rfl, hb1⟩
          have hB1 := Lib.hid (HB.out.trans (hb1.mono (by omega)))
          have hX1 := HBX.out.below hb1 hlt
          have HX1 := Lib.hid hX1
          obtain ⟨hl1, d0, d1, d2⟩ := hX1
          clear hb1
          go_wp2_with fail
          refine (HM.out _ x hr.1 hr.2).mono ?_
          rintro e w2 ⟨rfl, hb2⟩
          have hB2 := Lib.hid (hB1.out.trans (hb2.mono (by omega)))
          have hX2 := Lib.hid (HX1.out.below hb2 hl1)
          clear hb2
          go_wp2_with fail
          go_roundw
          case rel => exact ⟨n + 1, by omega, by omega, by go_num, by rw [hnx.out], hfn, hB2.out, hX2.out⟩
          case measure => simp [intOf]; omega
        · have hge : ¬ (n : Int) < (N : Int) + 1 := by omega
          have hv := HE.out (.inr (.inr (by omega)))
          rw [decide_eq_false hx1] at hv
          simp only [Bool.false_and] at hv
          have HV := Lib.hid hv
          clear hx1 hx0 hv
          go_wp2_with fail
          refine (HS.out _).mono ?_
          rintro e w1 ⟨rfl, hb1⟩
          have HB1 := Lib.hid (HB.out.trans (hb1.mono (by omega)))
          clear hb1
          go_wp2_with fail
          go_ret
          exact ⟨ret_bool HV.out.symm, HB1.out⟩

theorem runs_prime (p g h : Int) (h3 : 3 ≤ p) (hp : p ≤ 1021) (h1 : 1 ≤ h) (h2 : h < p) (w : World) :
    Calls Try.prog 86 #[fV p 1 g, .int .i64 h] w fun e w' => e = .returned (.bool (goodB (timesP h p) (nP p))) ∧ Below w.heap.size w w' := by
  have hs : (ffOf p 1 g).size = p := by unfold ffOf; rw [if_pos rfl]
  have hN : ((nP p : Nat) : Int) = p - 1 := by unfold nP; omega
  exact l02Runs_any p 1 g h (timesP h p) (.inl ⟨rfl, h3, hp⟩) (nP p) (by rw [hs, hN]; omega) (by omega) (by omega)
    (fun x _ _ => by rw [hN]; exact ⟨Int.emod_nonneg _ (by omega), by have := Int.emod_lt_of_pos (x * h) (show 0 < p by omega); unfold timesP; omega⟩)
    (by unfold timesP; rw [Int.one_mul, Int.emod_eq_of_lt (by omega) h2])
    (fun W x hx0 hx1 => l02Mul_prime p g x h h3 hp hx0 (by omega) (by omega) h2 W) w
theorem runs_bin (P poly : Nat) (p : Int) (h3 : 3 ≤ P) (h8 : P ≤ 8) (hp : 2 ^ P ≤ poly) (hp2 : poly < 2 ^ (P + 1)) (w : World) :
    Calls Try.prog 86 #[fV p P poly, .int .i64 2] w fun e w' => e = .returned (.bool (goodB (timesB ((2 ^ P : Nat) : Int) poly) (2 ^ P - 1))) ∧ Below w.heap.size w w' := by
  have hs : (ffOf p P poly).size = ((2 ^ P : Nat) : Int) := by unfold ffOf; rw [if_neg (by omega)]; simp
  have hlo : 2 ^ 3 ≤ 2 ^ P := Nat.pow_le_pow_right (by omega) h3
  have hhi : 2 ^ P ≤ 2 ^ 8 := Nat.pow_le_pow_right (by omega) h8
  have e1 : 2 ^ (P + 1) = 2 * 2 ^ P := by rw [Nat.pow_succ]; omega
  have hN : ((2 ^ P - 1 : Nat) : Int) + 1 = ((2 ^ P : Nat) : Int) := by omega
  refine l02Runs_any p P poly 2 (timesB ((2 ^ P : Nat) : Int) poly) (.inr ⟨by omega, by omega, by rw [Int.toNat_natCast]; omega, by rw [Int.toNat_natCast]; omega⟩) (2 ^ P - 1) (by rw [hs, hN]) (by omega) (by omega)
    (fun x h0 h1 => by rw [hN] at h1 ⊢; exact timesB_range P poly x (by omega) (by omega) h0 h1)
    (by unfold timesB; rw [if_neg (by omega)]; rfl) (fun W x h0 h1 => ?_) w
  rw [hN] at h1
  obtain ⟨X, rfl⟩ := Int.eq_ofNat_of_zero_le h0
  have := l02Mul_bin P poly X 2 p h3 h8 hp hp2 (by omega) (by omega) W
  rw [specMulB_two P poly X h3 hp hp2 (by omega)] at this
  exact this
/-- No generator from 1 to h. -/
def NoGen1 (p h : Int) : Prop := ∀ x : Int, 1 ≤ x → x < h → goodB (timesP x p) (nP p) = false
theorem NoGen1.next {p h : Int} (a : NoGen1 p h) (b : goodB (timesP h p) (nP p) = false) : NoGen1 p (h + 1) := fun x h1 h2 => by
  by_cases e : x = h
  · rw [e]; exact b
  · exact a x h1 (by omega)
theorem one_no (p : Int) (h3 : 3 ≤ p) : goodB (timesP 1 p) (nP p) = false :=
  goodB_no1 (k := 1) (by unfold nP; omega) (by omega) (by show timesP 1 p 1 = 1; unfold timesP; exact Int.emod_eq_of_lt (by omega) (by omega))
theorem valid_prime {p g : Int} (h3 : 3 ≤ p) (hp : p ≤ 1021) (hpr : primeB p = true) (hg1 : 1 ≤ g) (hg2 : g < p) (hn : NoGen1 p g) : validB p 1 g = goodB (timesP g p) (nP p) := by
  cases hh : goodB (timesP g p) (nP p)
  · refine validB_not (fun v => ?_) (fun v => by have := v.2.1; omega)
    rw [v.2.2.2.2.2.2.1] at hh; cases hh
  · have h2 : 2 ≤ g := by
      apply Classical.byContradiction
      intro h
      obtain rfl : g = 1 := by omega
      rw [one_no p h3] at hh; cases hh
    unfold validB; simp only [decide_eq_true_eq]
    exact .inl ⟨rfl, h3, hp, hpr, h2, hg2, hh, fun x a b => hn x (by omega) b⟩
theorem valid_prime_no {p g h : Int} (h1 : 1 ≤ h) (hh : h < g) (h3 : 3 ≤ p) (hg : goodB (timesP h p) (nP p) = true) : validB p 1 g = false := by
  refine validB_not (fun v => ?_) (fun v => by have := v.2.1; omega)
  by_cases h2 : 2 ≤ h
  · have := v.2.2.2.2.2.2.2 h h2 hh; rw [this] at hg; cases hg
  · obtain rfl : h = 1 := by omega
    rw [one_no p h3] at hg; cases hg
set_option maxHeartbeats 1000000 in
theorem isField_prime (p g : Int) (w : World) (h3 : 3 ≤ p) (hp : p ≤ 1021) (hpr : primeB p = true) (hg1 : 1 ≤ g) (hg2 : g < p) :
    Calls Try.prog 43 #[fV p 1 g] w fun e w' => e = .returned (.bool (validB p 1 g)) ∧ Below w.heap.size w w' := by
  have hin := inR_true h3 hp
  have hin2 := inR_true hg1 (show g ≤ p - 1 by omega)
  have HPR := Lib.hid hpr
  go_enter Try.func43, Try.ntmps43
  go_wp2_with fail
  refine (l01In_any _ _ _ _).mono ?_
  rintro e w' ⟨rfl, rfl⟩
  go_wp2_with fail
  refine (l02Prime_any p (by omega) (by omega) _).mono ?_
  rintro e w' ⟨rfl, rfl⟩
  go_wp2_with fail
  refine (l01In_any _ _ _ _).mono ?_
  rintro e w' ⟨rfl, rfl⟩
  go_wp2_with fail
  clear hpr
  go_loopw [3] (fun t wr => ∃ h : Int, 1 ≤ h ∧ h ≤ g ∧ t = .int .i64 h ∧ Hid (NoGen1 p h) ∧ Below w.heap.size w wr ∧ Box wr w.heap.size p 1 g) (fun t _ => (g - intOf t).toNat)
  case atStart => exact ⟨1, by omega, hg1, rfl, fun x a b => by omega, below1 _ _, box_new _ _ _ _ _⟩
  case round =>
    obtain ⟨h, h1, h2, rfl, hng, hbel, hbox⟩ := hrel
    have HB := Lib.hid hbel
    have HBX := Lib.hid hbox
    obtain ⟨hlt, c0, c1, c2⟩ := hbox
    clear hbel
    by_cases hlt2 : h < g
    · cases hgd : goodB (timesP h p) (nP p)
      · have hnn := Lib.hid (hng.out.next hgd)
        go_wp2_with fail
        refine (runs_prime p g h h3 hp h1 (by omega) _).mono ?_
        rintro e w1 ⟨rfl, hb1⟩
        have hB1 := Lib.hid (HB.out.trans (hb1.mono (by omega)))
        have hX1 := Lib.hid (HBX.out.below hb1 hlt)
        clear hb1
        go_wp2_with fail
        go_roundw
        case rel => exact ⟨h + 1, by omega, by omega, rfl, hnn, hB1.out, hX1.out⟩
        case measure => simp [intOf]; omega
      · have hf := Lib.hid (valid_prime_no (g := g) h1 hlt2 h3 hgd)
        go_wp2_with fail
        refine (runs_prime p g h h3 hp h1 (by omega) _).mono ?_
        rintro e w1 ⟨rfl, hb1⟩
        have hB1 := Lib.hid (HB.out.trans (hb1.mono (by omega)))
        clear hb1
        go_wp2_with fail
        go_ret
        exact ⟨ret_bool hf.out.symm, hB1.out⟩
    · obtain rfl : h = g := by omega
      have hf := Lib.hid (valid_prime h3 hp HPR.out hg1 hg2 hng.out)
      go_wp2_with fail
      refine (runs_prime p h h h3 hp h1 (by omega) _).mono ?_
      rintro e w1 ⟨rfl, hb1⟩
      have hB1 := Lib.hid (HB.out.trans (hb1.mono (by omega)))
      clear hb1
      go_wp2_with fail
      go_ret
      exact ⟨ret_bool hf.out.symm, hB1.out⟩
theorem isField_any (p pw g : Int) (w : World) :
    Calls Try.prog 43 #[fV p pw g] w fun e w' => e = .returned (.bool (validB p pw g)) ∧ Below w.heap.size w w' := by
  by_cases hpw : pw = 1
  · subst hpw
    by_cases hin : 3 ≤ p ∧ p ≤ 1021
    · have hin' := inR_true hin.1 hin.2
      cases hpr : primeB p
      · have hf := Lib.hid (validB_not (p := p) (pw := 1) (g := g) (fun v => by have := v.2.2.2.1; rw [hpr] at this; cases this) (fun v => by have := v.2.1; omega))
        go_enter Try.func43, Try.ntmps43
        go_wp2_with fail
        refine (l01In_any _ _ _ _).mono ?_
        rintro e w' ⟨rfl, rfl⟩
        go_wp2_with fail
        refine (l02Prime_any p (by omega) (by omega) _).mono ?_
        rintro e w' ⟨rfl, rfl⟩
        go_wp2_with fail
        go_ret
        exact ⟨ret_bool hf.out.symm, below1 _ _⟩
      · by_cases hg : 1 ≤ g ∧ g ≤ p - 1
        · exact isField_prime p g w hin.1 hin.2 hpr hg.1 (by omega)
        · have hg' := inR_false hg
          have hf := Lib.hid (validB_not (p := p) (pw := 1) (g := g) (fun v => by have h1 := v.2.2.2.2.1; have h2 := v.2.2.2.2.2.1; omega) (fun v => by have := v.2.1; omega))
          go_enter Try.func43, Try.ntmps43
          go_wp2_with fail
          refine (l01In_any _ _ _ _).mono ?_
          rintro e w' ⟨rfl, rfl⟩
          go_wp2_with fail
          refine (l02Prime_any p (by omega) (by omega) _).mono ?_
          rintro e w' ⟨rfl, rfl⟩
          go_wp2_with fail
          refine (l01In_any _ _ _ _).mono ?_
          rintro e w' ⟨rfl, rfl⟩
          go_wp2_with fail
          go_ret
          exact ⟨ret_bool hf.out.symm, below1 _ _⟩
    · have hin' := inR_false hin
      have hf := Lib.hid (validB_not (p := p) (pw := 1) (g := g) (fun v => hin ⟨v.2.1, v.2.2.1⟩) (fun v => by have := v.2.1; omega))
      go_enter Try.func43, Try.ntmps43
      go_wp2_with fail
      refine (l01In_any _ _ _ _).mono ?_
      rintro e w' ⟨rfl, rfl⟩
      go_wp2_with fail
      go_ret
      exact ⟨ret_bool hf.out.symm, below1 _ _⟩
  · have hpw' : (pw == 1) = false := by simp [hpw]
    by_cases hp2 : p = 2
    · have hp2' : (p != 2) = false := by simp [hp2]
      by_cases hin : 3 ≤ pw ∧ pw ≤ 8
      · have hin' := inR_true hin.1 hin.2
        obtain ⟨P, rfl⟩ := Int.eq_ofNat_of_zero_le (show 0 ≤ pw by omega)
        have hlo : 2 ^ 3 ≤ 2 ^ P := Nat.pow_le_pow_right (by omega) (by omega)
        have hhi : 2 ^ P ≤ 2 ^ 8 := Nat.pow_le_pow_right (by omega) (by omega)
        have e1 : 2 ^ (P + 1) = 2 * 2 ^ P := by rw [Nat.pow_succ]; omega
        obtain ⟨sz, hsz⟩ : ∃ sz : Int, sz = ((2 ^ P : Nat) : Int) := ⟨_, rfl⟩
        have e : ((2 ^ P : Nat) : Int) = (2 : Int) ^ P := by simp
        have hsh1 : wrap64 ((2 : Int) ^ P) = sz := by rw [← e, ← hsz]; exact IntWalk.wrap64_in _ (by omega)
        have hsh2 : wrap64 ((2 : Int) * 2 ^ P) = 2 * sz := by rw [← e, ← hsz]; exact IntWalk.wrap64_in _ (by omega)
        have hszb : 8 ≤ sz ∧ sz ≤ 256 := by omega
        by_cases hg : sz ≤ g ∧ g ≤ 2 * sz - 1
        · have hg' := inR_true hg.1 hg.2
          obtain ⟨poly, rfl⟩ := Int.eq_ofNat_of_zero_le (show 0 ≤ g by omega)
          have hrb := runs_bin P poly p (by omega) (by omega) (by omega) (by omega)
          have hf : validB p P poly = goodB (timesB ((2 ^ P : Nat) : Int) poly) (2 ^ P - 1) := by
            cases hh : goodB (timesB ((2 ^ P : Nat) : Int) poly) (2 ^ P - 1)
            · refine validB_not (fun v => hpw v.1) (fun v => ?_)
              have := v.2.2.2.2.2
              rw [Int.toNat_natCast, hh] at this; cases this
            · unfold validB; simp only [decide_eq_true_eq]
              exact .inr ⟨hp2, hin.1, hin.2, by rw [Int.toNat_natCast]; omega, by rw [Int.toNat_natCast]; omega, by rw [Int.toNat_natCast]; exact hh⟩
          have HRB := Lib.hid hrb
          have HF := Lib.hid hf
          clear hrb hf hlo hhi e1 e hsz hp2 hpw
          go_enter Try.func43, Try.ntmps43
          go_wp2_with fail
          refine (l01In_any _ _ _ _).mono ?_
          rintro e w' ⟨rfl, rfl⟩
          go_wp2_with fail
          refine (l01In_any _ _ _ _).mono ?_
          rintro e w' ⟨rfl, rfl⟩
          go_wp2_with fail
          refine (HRB.out _).mono ?_
          rintro e w1 ⟨rfl, hb1⟩
          have hB1 := Lib.hid ((below1 _ _).trans (hb1.mono (by simp)))
          clear hb1
          go_wp2_with fail
          go_ret
          exact ⟨ret_bool HF.out.symm, hB1.out⟩
        · have hg' := inR_false hg
          have hf := Lib.hid (validB_not (p := p) (pw := P) (g := g) (fun v => hpw v.1) (fun v => hg ⟨by have := v.2.2.2.1; rw [Int.toNat_natCast] at this; omega, by have := v.2.2.2.2.1; rw [Int.toNat_natCast] at this; omega⟩))
          clear hlo hhi e1 e hsz hp2 hpw
          go_enter Try.func43, Try.ntmps43
          go_wp2_with fail
          refine (l01In_any _ _ _ _).mono ?_
          rintro e w' ⟨rfl, rfl⟩
          go_wp2_with fail
          refine (l01In_any _ _ _ _).mono ?_
          rintro e w' ⟨rfl, rfl⟩
          go_wp2_with fail
          go_ret
          exact ⟨ret_bool hf.out.symm, below1 _ _⟩
      · have hin' := inR_false hin
        have hf := Lib.hid (validB_not (p := p) (pw := pw) (g := g) (fun v => hpw v.1) (fun v => hin ⟨v.2.1, v.2.2.1⟩))
        clear hp2 hpw
        go_enter Try.func43, Try.ntmps43
        go_wp2_with fail
        refine (l01In_any _ _ _ _).mono ?_
        rintro e w' ⟨rfl, rfl⟩
        go_wp2_with fail
        go_ret
        exact ⟨ret_bool hf.out.symm, below1 _ _⟩
    · have hp2' : (p != 2) = true := by simp [hp2]
      have hf := Lib.hid (validB_not (p := p) (pw := pw) (g := g) (fun v => hpw v.1) (fun v => hp2 v.1))
      clear hp2 hpw
      go_enter Try.func43, Try.ntmps43
      go_wp2_with fail
      go_ret
      exact ⟨ret_bool hf.out.symm, below1 _ _⟩
end Go.Proofs.Ytenlaoadclfmaaa
