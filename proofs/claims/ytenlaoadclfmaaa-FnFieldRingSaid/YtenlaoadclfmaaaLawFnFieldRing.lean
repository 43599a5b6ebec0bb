/-
  The walk of the law FnFieldRing.
-/
import Derived.Test.YtenlaoadclfmaaaDraw3
import Derived.Test.YtenlaoadclfmaaaDice
import Derived.Test.YtenlaoadclfmaaaFrameB
namespace Go.Proofs.Ytenlaoadclfmaaa
open Go.RowKit
set_option linter.unusedVariables false

theorem big_any (w : World) (c : Option Addr) (n cap : Nat) : Calls Try.prog 27 #[.slice c n cap] w fun e w' => e = .returned (.bool (decide ((4096 : Int) < (n : Int)))) ∧ w = w' := by
  go_enter Try.func27, Try.ntmps27
  go_wp2_with fail
  go_ret
  exact ⟨rfl, rfl⟩
theorem sizeR_pos {p pw g : Int} (h : validB p pw g = true) : 1 ≤ sizeR p pw g := by
  unfold sizeR; rw [if_pos h]; have := (ffOf_ok h).lo; omega
theorem Dice.below {w w' : World} {d : Nat} (h : Dice w d) (hb : Below w.heap.size w w') : Dice w' d := by
  obtain ⟨c, n, cap, bs, i, sd, h⟩ := h; exact ⟨c, n, cap, bs, i, sd, h.below hb⟩
/-- The plain law. -/
theorem ring_plain {p pw g a b c : Int} (h : codeE p pw g [a, b] = 0) (h0 : 0 ≤ c) (h1 : c < sizeR p pw g) :
    codeE p pw g [c, faddR p pw g a b] = 0 ∧ codeE p pw g [c, a] = 0 ∧ codeE p pw g [c, b] = 0 ∧ codeE p pw g [fmulR p pw g c a, fmulR p pw g c b] = 0 ∧ fmulR p pw g c (faddR p pw g a b) = faddR p pw g (fmulR p pw g c a) (fmulR p pw g c b) := by
  obtain ⟨hv, hz⟩ := codeE_zero h
  have ok := ffOf_ok hv
  have ha := hz a (by simp)
  have hb := hz b (by simp)
  have hc : (ffOf p pw g).el c := ⟨h0, by unfold sizeR at h1; rw [if_pos hv] at h1; exact h1⟩
  have two : ∀ {x y : Int}, (ffOf p pw g).el x → (ffOf p pw g).el y → codeE p pw g [x, y] = 0 := fun hx hy => by
    unfold codeE; rw [if_pos hv, if_pos (allB_iff.2 (by simp; exact ⟨hx, hy⟩))]
  have eadd : ∀ {x y : Int}, (ffOf p pw g).el x → (ffOf p pw g).el y → faddR p pw g x y = (ffOf p pw g).add x y := fun hx hy => by unfold faddR; rw [if_pos (two hx hy)]
  have emul : ∀ {x y : Int}, (ffOf p pw g).el x → (ffOf p pw g).el y → fmulR p pw g x y = (ffOf p pw g).mul x y := fun hx hy => by unfold fmulR; rw [if_pos (two hx hy)]
  have l1 := FF.add_el ok ha hb
  have l2 := FF.mul_el ok c a
  have l3 := FF.mul_el ok c b
  rw [eadd ha hb, emul hc ha, emul hc hb, emul hc l1, eadd l2 l3]
  exact ⟨two hc l1, two hc ha, two hc hb, two l2 l3, FF.mul_add' ok hc ha hb⟩
set_option maxHeartbeats 4000000 in
theorem lawFnFieldRing (s0 : Option Addr) (n0 cap0 : Nat) (z0 : List Int) (w : World) (hr : RowB w s0 n0 z0) :
    Calls Try.prog 6 #[.slice s0 n0 cap0] w fun e w' => e = .returned (.bool true) ∧ Below w.heap.size w w' := by
  have HR := Lib.hid hr
  clear hr
  go_enter Try.func6, Try.ntmps6
  go_wp2_with fail
  refine (big_any _ _ _ _).mono ?_
  rintro e w1 ⟨rfl, rfl⟩
  by_cases hbig : (4096 : Int) < (n0 : Int)
  · go_wp2_with fail
    go_ret
    exact ⟨rfl, Below.refl _ _⟩
  go_wp2_with fail
  refine (DrawFieldAdd_any HR.out).mono ?_
  rintro e w1 ⟨p, pw, g, a, b, rfl, hb1⟩
  have B1 := Lib.hid (hb1.alloc hb1.size (.cells #[.int .i64 p, .int .i64 pw, .int .i64 g] FTa))
  have X1 := Lib.hid (FB.new w1 p pw g)
  have x1 := X1.out.lt
  obtain ⟨X, hX⟩ : ∃ X, X = w1.heap.size := ⟨_, rfl⟩
  rw [← hX] at X1 x1
  clear hb1
  go_wp2_with fail
  rw [← hX]
  clear hX
  generalize w1.alloc (.cells #[.int .i64 p, .int .i64 pw, .int .i64 g] FTa) = w2 at *
  have c0 := X1.out.c0
  have c1 := X1.out.c1
  have c2 := X1.out.c2
  have B2 := Lib.hid B1.out
  have X2 := Lib.hid X1.out
  clear B1 X1
  go_wp2_with fail
  refine (implFieldAdd_any p pw g a b _).mono ?_
  rintro e w3 ⟨rfl, hb3⟩
  have B3 := Lib.hid (B2.out.trans (hb3.mono B2.out.size))
  have X3 := Lib.hid (X2.out.below hb3 X2.out.lt)
  clear c0 c1 c2 hb3 B2 X2
  have c0 := X3.out.c0
  have c1 := X3.out.c1
  have c2 := X3.out.c2
  go_wp2_with fail
  refine (specFieldAdd_any p pw g a b _).mono ?_
  rintro e w4 ⟨rfl, hb4⟩
  have B4 := Lib.hid (B3.out.trans (hb4.mono B3.out.size))
  have X4 := Lib.hid (X3.out.below hb4 X3.out.lt)
  clear c0 c1 c2 hb4 B3 X3
  have c0 := X4.out.c0
  have c1 := X4.out.c1
  have c2 := X4.out.c2
  by_cases hcd : codeE p pw g [a, b] = 0
  rotate_left
  · have hne : (codeE p pw g [a, b] != 0) = true := by simp [hcd]
    clear hcd
    go_wp2_with fail
    go_ret
    exact ⟨rfl, B4.out⟩
  have HC := Lib.hid hcd
  have hne : (codeE p pw g [a, b] != 0) = false := by simp [hcd]
  have HP := Lib.hid (fun c h0 h1 => ring_plain (c := c) hcd h0 h1)
  have hsz := sizeR_pos (codeE_zero hcd).1
  have hsb := sizeR_bd p pw g
  clear hcd
  generalize faddR p pw g a b = x at *
  generalize codeE p pw g [a, b] = cd at *
  have hR4 := Lib.hid (HR.out.below' B4.out)
  have hl4 := X4.out.lt
  go_wp2_with fail
  go_region_held3 (fun w' => w'.cell? ⟨X, 0, none⟩ = some (.int .i64 p) ∧ w'.cell? ⟨X, 1, none⟩ = some (.int .i64 pw) ∧ w'.cell? ⟨X, 2, none⟩ = some (.int .i64 g))
    (first | go_keep | ((try (dsimp only)); go_split_ands; (repeat' apply And.intro); all_goals (first | assumption | exact keep_cell hbS (by assumption) | exact keep_cell hbR (by assumption) | exact hdD.cell (by assumption) hdX)))
    (first
      | (go_at_call 33; refine (specFieldSize_any p pw g _).mono ?_; rintro e w6 ⟨rfl, hbS⟩)
      | (go_at_call 31; (first | refine (roll_any (hR4.out.below' (Below.trans (Drew.below (drew1 _) _) hbS)) _).mono ?_ | refine (roll_any (hR4.out.below' (Drew.below (drew1 _) _)) _).mono ?_); rintro e w7 ⟨d, rfl, hd, hbR, hdice⟩; have hdX : X ≠ d := Nat.ne_of_lt (Nat.lt_of_lt_of_le hl4 hd))
      | (go_at_call 32; (first | refine (below_any (Dice.below hdice hbS) _ hsz (by omega)).mono ?_ | refine (below_any hdice _ hsz (by omega)).mono ?_); rintro e w8 ⟨r, rfl, hr0, hr1, hdD⟩))
  have hz4 := B4.out.size
  have hb7 := Below.trans (Drew.below (drew1 w4) w4.heap.size) hbR
  have hb6 := Below.more hb7 (Nat.le_refl _) hbS
  have B8 := Lib.hid ((B4.out.trans (hb6.mono hz4)).trans (hdD.below (B := w.heap.size) (Nat.le_trans hz4 hd) (Nat.le_trans hz4 hb6.size)))
  have X8 := Lib.hid ((X4.out.below hb6 hl4).dr hdD hdX)
  obtain ⟨e1, e2, e3, e4, e5⟩ := HP.out r hr0 hr1
  clear c0 c1 c2 B4 X4 hb6 hb7 hbS hbR hdD hdice hsz hsb hd hdX hl4 hz4 HP
  have c0 := X8.out.c0
  have c1 := X8.out.c1
  have c2 := X8.out.c2
  go_wp2_with fail
  refine (implFieldMul_any p pw g r x _).mono ?_
  rintro e w9 ⟨rfl, hb9⟩
  have B9 := Lib.hid (B8.out.trans (hb9.mono B8.out.size))
  have X9 := Lib.hid (X8.out.below hb9 X8.out.lt)
  clear c0 c1 c2 hb9 B8 X8
  have c0 := X9.out.c0
  have c1 := X9.out.c1
  have c2 := X9.out.c2
  go_wp2_with fail
  refine (implFieldMul_any p pw g r a _).mono ?_
  rintro e w10 ⟨rfl, hb10⟩
  have B10 := Lib.hid (B9.out.trans (hb10.mono B9.out.size))
  have X10 := Lib.hid (X9.out.below hb10 X9.out.lt)
  clear c0 c1 c2 hb10 B9 X9
  have c0 := X10.out.c0
  have c1 := X10.out.c1
  have c2 := X10.out.c2
  go_wp2_with fail
  refine (implFieldMul_any p pw g r b _).mono ?_
  rintro e w11 ⟨rfl, hb11⟩
  have B11 := Lib.hid (B10.out.trans (hb11.mono B10.out.size))
  have X11 := Lib.hid (X10.out.below hb11 X10.out.lt)
  clear c0 c1 c2 hb11 B10 X10
  have c0 := X11.out.c0
  have c1 := X11.out.c1
  have c2 := X11.out.c2
  go_wp2_with fail
  refine (implFieldAdd_any p pw g (fmulR p pw g r a) (fmulR p pw g r b) _).mono ?_
  rintro e w12 ⟨rfl, hb12⟩
  have B12 := Lib.hid (B11.out.trans (hb12.mono B11.out.size))
  have X12 := Lib.hid (X11.out.below hb12 X11.out.lt)
  clear c0 c1 c2 hb12 B11 X11
  have c0 := X12.out.c0
  have c1 := X12.out.c1
  have c2 := X12.out.c2
  go_wp2_with fail
  go_ret
  exact ⟨rfl, B12.out⟩
end Go.Proofs.Ytenlaoadclfmaaa
