/-
  The parts SpecAdd, SF.
-/
import Derived.Test.YtfhkkpfiflgofaaOwn
import Derived.Test.YtfhkkpfiflgofaaProd
/-
  The walk of the reference's sum.
-/
namespace Go.Proofs.Ytfhkkpfiflgofaa
open Go.RowKit
set_option linter.unusedVariables false

end Go.Proofs.Ytfhkkpfiflgofaa
/-
  The reference's arithmetic in one bundle; powers and inverses.
-/
namespace Go.Proofs.Ytfhkkpfiflgofaa
open Go.RowKit
set_option linter.unusedVariables false

/-- The reference's field is the field V. -/
structure SF (V : VF) (p pw g : Int) : Prop where
  hv : validB p pw g = true
  hV : V.F = ffOf p pw g
theorem SF.of {p pw g : Int} (hv : validB p pw g = true) : SF ⟨ffOf p pw g, ffOf_ok hv⟩ p pw g := ⟨hv, rfl⟩
theorem SF.add {V : VF} {p pw g : Int} (h : SF V p pw g) (x y : Int) (hx : V.F.el x) (hy : V.F.el y) (W : World) :
    Calls Try.prog 82 #[fV p pw g, .int .i64 x, .int .i64 y] W fun e w' => e = .returned (.int .i64 (V.F.add x y)) ∧ Below W.heap.size W w' := by
  have hV := h.hV; rw [hV] at hx hy ⊢; exact l02Add_any p pw g h.hv x y hx hy W
theorem SF.mul {V : VF} {p pw g : Int} (h : SF V p pw g) (x y : Int) (hx : V.F.el x) (hy : V.F.el y) (W : World) :
    Calls Try.prog 126 #[fV p pw g, .int .i64 x, .int .i64 y] W fun e w' => e = .returned (.int .i64 (V.F.mul x y)) ∧ Below W.heap.size W w' := by
  have hV := h.hV; rw [hV] at hx hy ⊢; exact l02Mul_any p pw g h.hv x y hx hy W
theorem SF.neg {V : VF} {p pw g : Int} (h : SF V p pw g) (x : Int) (hx : V.F.el x) (W : World) :
    Calls Try.prog 71 #[fV p pw g, .int .i64 x] W fun e w' => e = .returned (.int .i64 (V.F.neg x)) ∧ Below W.heap.size W w' := by
  have hV := h.hV; rw [hV] at hx ⊢; exact l02Neg_any p pw g h.hv x hx W
theorem SF.size {V : VF} {p pw g : Int} (h : SF V p pw g) (W : World) :
    Calls Try.prog 78 #[fV p pw g] W fun e w' => e = .returned (.int .i64 V.F.size) ∧ Below W.heap.size W w' := by
  have hV := h.hV; rw [hV]; exact l02Size_any p pw g W (ranged_of h.hv)
theorem SF.lmul {V : VF} {p pw g : Int} (h : SF V p pw g) {w : World} {a : Option Addr} {n cap : Nat} {xs : List Int} (hr : RowAt w a n xs) (hn : n ≤ 4096)
    {a' : Option Addr} {n' cap' : Nat} {ys : List Int} (hr' : RowAt w a' n' ys) (hn' : n' ≤ 4096) (hx : VF.els V xs) (hy : VF.els V ys) :
    Calls Try.prog 134 #[fV p pw g, .slice a n cap, .slice a' n' cap'] w fun e w' => ∃ v, e = .returned v ∧ Below w.heap.size w w' ∧ OwnL w' w.heap.size v (VF.lst V (VF.ps V xs * VF.ps V ys)) :=
  l03Mul_any p pw g h.hv V h.hV hr hn hr' hn' hx hy
/-- What is left of a power behind some squarings. -/
def PowLeft (V : VF) (a : Int) (n : Nat) (o a' : Int) (m : Nat) : Prop := V.F.el o ∧ V.F.el a' ∧ VF.of V o * VF.of V a' ^ m = VF.of V a ^ n
theorem sq_pow {K : Type} [CR K] (x : K) (k : Nat) : (x * x) ^ k = x ^ (2 * k) := by
  induction k with
  | zero => grind
  | succ k ih => rw [show 2 * (k + 1) = 2 * k + 1 + 1 by omega]; grind
theorem PowLeft.even {V : VF} {a o a' : Int} {n m : Nat} (h : PowLeft V a n o a' m) (hm : m % 2 = 0) : PowLeft V a n o (V.F.mul a' a') (m / 2) := by
  obtain ⟨h1, h2, h3⟩ := h
  refine ⟨h1, FF.mul_el V.ok _ _, ?_⟩
  rw [VF.of_mul h2 h2, sq_pow, show 2 * (m / 2) = m by omega]; exact h3
theorem PowLeft.odd {V : VF} {a o a' : Int} {n m : Nat} (h : PowLeft V a n o a' m) (hm : m % 2 = 1) : PowLeft V a n (V.F.mul o a') (V.F.mul a' a') (m / 2) := by
  obtain ⟨h1, h2, h3⟩ := h
  refine ⟨FF.mul_el V.ok _ _, FF.mul_el V.ok _ _, ?_⟩
  rw [VF.of_mul h2 h2, VF.of_mul h1 h2, sq_pow, ← h3]
  have e : m = 2 * (m / 2) + 1 := by omega
  generalize 2 * (m / 2) = k at *
  subst e; grind
theorem PowLeft.end {V : VF} {a o a' : Int} {n : Nat} (ha : V.F.el a) (h : PowLeft V a n o a' 0) : o = V.F.pow a n := by
  obtain ⟨h1, h2, h3⟩ := h
  refine VF.of_inj h1 (FF.pow_el V.ok _ _) ?_
  rw [VF.of_pow ha, ← h3]; grind
set_option maxHeartbeats 1000000 in
theorem SF.pow {V : VF} {p pw g : Int} (h : SF V p pw g) (a : Int) (n : Nat) (ha : V.F.el a) (hn : n ≤ 1000000000) (w : World) :
    Calls Try.prog 159 #[fV p pw g, .int .i64 a, .int .i64 n] w fun e w' => e = .returned (.int .i64 (V.F.pow a n)) ∧ Below w.heap.size w w' := by
  have HE := Lib.hid (fun o a' (h : PowLeft V a n o a' 0) => h.end ha)
  have H0 := Lib.hid (show PowLeft V a n 1 a n from ⟨FF.one_el V.ok, ha, by rw [VF.of_one]; grind⟩)
  clear ha
  go_enter Try.func159, Try.ntmps159
  go_wp2_with fail
  go_loopw [1, 2, 7] (fun x t o wr => ∃ (m : Nat) (a' o' : Int), m ≤ n ∧ x = .int .i64 a' ∧ t = .int .i64 m ∧ o = .int .i64 o' ∧ Hid (PowLeft V a n o' a' m) ∧ Hid (Below w.heap.size w wr) ∧ Hid (Box wr w.heap.size p pw g)) (fun _ t _ _ => (intOf t).toNat)
  case atStart => exact ⟨n, a, 1, by omega, rfl, rfl, rfl, H0, Lib.hid (below1 _ _), Lib.hid (box_new _ _ _ _ _)⟩
  case round =>
    obtain ⟨m, a', o', hm, rfl, rfl, rfl, hp, hbel, hbox⟩ := hrel
    clear H0
    obtain ⟨hlt, c0, c1, c2⟩ := hbox.out
    by_cases h0 : 0 < m
    · have hel := hp.out.1
      have hel' := hp.out.2.1
      have HM := Lib.hid (fun W => h.mul o' a' hel hel' W)
      have HS := Lib.hid (fun W => h.mul a' a' hel' hel' W)
      have e2 : (m : Int) / 2 = ((m / 2 : Nat) : Int) := by omega
      have E2 := Lib.hid e2
      have hm2 : m / 2 < m := by omega
      clear e2
      by_cases hodd : m % 2 = 1
      · have ho : ((m : Int) % 2 == 1) = true := by simp; omega
        have hp2 := Lib.hid (hp.out.odd hodd)
        clear hodd
        go_wp2_with fail
        refine (HM.out _).mono ?_
        rintro e w2 ⟨rfl, hb2⟩
        have hbox2 := hbox.out.below hb2 hlt
        have HBX2 := Lib.hid hbox2
        obtain ⟨hlt2, d0, d1, d2⟩ := hbox2
        have HB2 := Lib.hid (hbel.out.trans (hb2.mono hbel.out.size))
        clear hb2 c0 c1 c2
        go_wp2_with fail
        refine (HS.out _).mono ?_
        rintro e w3 ⟨rfl, hb3⟩
        have HB3 := Lib.hid (HB2.out.trans (hb3.mono HB2.out.size))
        have HX3 := Lib.hid (HBX2.out.below hb3 hlt2)
        clear hb3 d0 d1 d2
        go_wp2_with fail
        go_roundw
        case rel => exact ⟨m / 2, _, _, by omega, rfl, by rw [E2.out], rfl, hp2, HB3, HX3⟩
        case measure => rw [E2.out]; simp [intOf]; omega
      · have ho : ((m : Int) % 2 == 1) = false := by simp; omega
        have hp2 := Lib.hid (hp.out.even (by omega))
        clear hodd
        go_wp2_with fail
        refine (HS.out _).mono ?_
        rintro e w3 ⟨rfl, hb3⟩
        have HB3 := Lib.hid (hbel.out.trans (hb3.mono hbel.out.size))
        have HX3 := Lib.hid (hbox.out.below hb3 hlt)
        clear hb3 c0 c1 c2
        go_wp2_with fail
        go_roundw
        case rel => exact ⟨m / 2, _, _, by omega, rfl, by rw [E2.out], rfl, hp2, HB3, HX3⟩
        case measure => rw [E2.out]; simp [intOf]; omega
    · obtain rfl : m = 0 := by omega
      have hf := Lib.hid (HE.out _ _ hp.out)
      go_wp2_with fail
      go_ret
      exact ⟨ret_int hf.out, hbel.out⟩
set_option maxHeartbeats 1000000 in
theorem SF.inv {V : VF} {p pw g : Int} (h : SF V p pw g) (a : Int) (ha : V.F.el a) (h0 : a ≠ 0) (w : World) :
    Calls Try.prog 137 #[fV p pw g, .int .i64 a] w fun e w' => e = .returned (.int .i64 (V.F.inv a)) ∧ Below w.heap.size w w' := by
  have hf := Lib.hid (FF.inv_pow V.ok ha h0)
  have hN := FF.N_size V.ok
  have hlo := V.ok.lo
  have hhi := V.ok.hi
  have e1 : V.F.size - 2 = ((V.F.N - 1 : Nat) : Int) := by omega
  have E1 := Lib.hid e1
  have HP := Lib.hid (fun W => h.pow a (V.F.N - 1) ha (by omega) W)
  have HS := Lib.hid (fun W => h.size W)
  have w1 : IntKind.i64.wrap (V.F.size - 2) = V.F.size - 2 := IntWalk.i64_in _ (by omega)
  clear e1 hN h0
  generalize V.F.size = sz at *
  go_enter Try.func137, Try.ntmps137
  go_wp2_with fail
  have HX := box_new w p pw g FTa
  obtain ⟨hlt, c0, c1, c2⟩ := HX
  go_region_held3 (fun w' => w'.cell? ⟨w.heap.size, 0, none⟩ = some (.int .i64 p) ∧ w'.cell? ⟨w.heap.size, 1, none⟩ = some (.int .i64 pw) ∧ w'.cell? ⟨w.heap.size, 2, none⟩ = some (.int .i64 g))
    (first | go_keep | ((try (dsimp only)); go_split_ands; (repeat' apply And.intro); all_goals (first | go_keep | exact keep_cell hbP (by assumption) | exact keep_cell hbS (by assumption))))
    (first | (go_at_call 78; refine (HS.out _).mono ?_; rintro e w5 ⟨rfl, hbS⟩) | (go_at_call 159; rw [E1.out]; refine (HP.out _).mono ?_; rintro e w6 ⟨rfl, hbP⟩))
  have HB := Lib.hid (Below.more (Below.more (Below.trans (below1 w _) (Drew.below (drew1 _) _)) (Nat.le_refl _) hbS) (Nat.le_refl _) hbP)
  go_wp2_with fail
  go_ret
  exact ⟨ret_int hf.out, HB.out⟩
theorem SF.gen {V : VF} {p pw g : Int} (h : SF V p pw g) (w : World) :
    Calls Try.prog 128 #[fV p pw g] w fun e w' => e = .returned (.int .i64 (V.F.exp 1)) ∧ Below w.heap.size w w' := by
  have hV := h.hV
  have hv := h.hv
  have hok := V.ok
  by_cases h1 : pw = 1
  · subst h1
    have hf := Lib.hid (show V.F.exp 1 = g by
      rw [hV]
      have hr := ranged_of hv
      unfold validB at hv; simp only [decide_eq_true_eq] at hv
      have e1 : (ffOf p 1 g) = ⟨false, p, g⟩ := by unfold ffOf; rw [if_pos rfl]
      rw [e1]
      show timesP g p 1 = g
      unfold timesP
      rcases hv with ⟨_, h1, h2, h3, h4, h5⟩ | ⟨_, h1, _⟩
      · rw [Int.one_mul]; exact Int.emod_eq_of_lt (by omega) (by omega)
      · omega)
    clear hV hv h hok
    go_enter Try.func128, Try.ntmps128
    go_wp2
    go_ret
    exact ⟨ret_int hf.out.symm, below1 _ _⟩
  · have h1' : (pw == 1) = false := by simp [h1]
    have hf := Lib.hid (show V.F.exp 1 = 2 by
      have hlo := V.ok.lo
      rw [hV] at hlo ⊢
      have e1 : (ffOf p pw g) = ⟨true, ((2 ^ pw.toNat : Nat) : Int), g⟩ := by unfold ffOf; rw [if_neg h1]
      have hr := ranged_of hv
      have h8 : 2 ^ 3 ≤ 2 ^ pw.toNat := Nat.pow_le_pow_right (by omega) (by rcases hr with ⟨h, _⟩ | ⟨h, _⟩ <;> omega)
      rw [e1]
      show timesB _ g 1 = 2
      unfold timesB
      rw [if_neg (by simp only [Int.mul_one]; omega)]; rfl)
    clear hV hv h h1 hok
    go_enter Try.func128, Try.ntmps128
    go_wp2
    go_ret
    exact ⟨ret_int hf.out.symm, below1 _ _⟩
end Go.Proofs.Ytfhkkpfiflgofaa
