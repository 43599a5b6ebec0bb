/-
  The walk of the law FnFieldInverse.
-/
import Derived.Test.YtenlaoadclfmaaaDraw3
import Derived.Test.YtenlaoadclfmaaaFrameB
namespace Go.Proofs.Ytenlaoadclfmaaa
open Go.RowKit
set_option linter.unusedVariables false

theorem bigI_any (w : World) (c : Option Addr) (n cap : Nat) : Calls Try.prog 27 #[.slice c n cap] w fun e w' => e = .returned (.bool (decide ((4096 : Int) < (n : Int)))) ∧ w = w' := by
  go_enter Try.func27, Try.ntmps27
  go_wp2_with fail
  go_ret
  exact ⟨rfl, rfl⟩
/-- The plain law. -/
theorem inverse_plain {p pw g a : Int} (h : finvC p pw g a = 0) :
    codeE p pw g [a, finvR p pw g a] = 0 ∧ codeE p pw g [a] = 0 ∧ codeE p pw g [a, fnegR p pw g a] = 0 ∧ fmulR p pw g a (finvR p pw g a) = 1 ∧ faddR p pw g a (fnegR p pw g a) = 0 := by
  unfold finvC at h
  by_cases hc : codeE p pw g [a] = 0
  · rw [if_pos hc] at h
    have h0 : a ≠ 0 := fun e => by rw [if_pos e] at h; cases h
    obtain ⟨hv, hz⟩ := codeE_zero hc
    have ok := ffOf_ok hv
    have ha := hz a (by simp)
    have two : ∀ {x y : Int}, (ffOf p pw g).el x → (ffOf p pw g).el y → codeE p pw g [x, y] = 0 := fun hx hy => by
      unfold codeE; rw [if_pos hv, if_pos (allB_iff.2 (by simp; exact ⟨hx, hy⟩))]
    have eadd : ∀ {x y : Int}, (ffOf p pw g).el x → (ffOf p pw g).el y → faddR p pw g x y = (ffOf p pw g).add x y := fun hx hy => by unfold faddR; rw [if_pos (two hx hy)]
    have emul : ∀ {x y : Int}, (ffOf p pw g).el x → (ffOf p pw g).el y → fmulR p pw g x y = (ffOf p pw g).mul x y := fun hx hy => by unfold fmulR; rw [if_pos (two hx hy)]
    have ei : finvR p pw g a = (ffOf p pw g).inv a := by unfold finvR; rw [if_pos ⟨hc, h0⟩]
    have en : fnegR p pw g a = (ffOf p pw g).neg a := by unfold fnegR; rw [if_pos hc]
    have li := FF.inv_el ok a
    have ln := FF.neg_el ha
    rw [ei, en, emul ha li, eadd ha ln]
    exact ⟨two ha li, hc, two ha ln, FF.mul_inv' ok ha h0, by rw [FF.add_comm']; exact FF.neg_add' ha⟩
  · rw [if_neg hc] at h; exact absurd h hc
set_option maxHeartbeats 4000000 in
theorem lawFnFieldInverse (s0 : Option Addr) (n0 cap0 : Nat) (z0 : List Int) (w : World) (hr : RowB w s0 n0 z0) :
    Calls Try.prog 9 #[.slice s0 n0 cap0] w fun e w' => e = .returned (.bool true) ∧ Below w.heap.size w w' := by
  have HR := Lib.hid hr
  clear hr
  go_enter Try.func9, Try.ntmps9
  go_wp2_with fail
  refine (bigI_any _ _ _ _).mono ?_
  rintro e w1 ⟨rfl, rfl⟩
  by_cases hbig : (4096 : Int) < (n0 : Int)
  · go_wp2_with fail
    go_ret
    exact ⟨rfl, Below.refl _ _⟩
  go_wp2_with fail
  refine (DrawFieldInv_any HR.out).mono ?_
  rintro e w1 ⟨p, pw, g, a, rfl, hb1⟩
  have B1 := Lib.hid (hb1.alloc hb1.size (.cells #[.int .i64 p, .int .i64 pw, .int .i64 g] FTa))
  have X1 := Lib.hid (FB.new w1 p pw g)
  have x1 := X1.out.lt
  obtain ⟨X, hX⟩ : ∃ X, X = w1.heap.size := ⟨_, rfl⟩
  rw [← hX] at X1 x1
  clear hb1
  go_wp2_with fail
  rw [← hX]
  clear hX
  generalize w1.alloc (.cells #[.int .i64 p, .int .i64 pw, .int .i64 g] FTa) = w2 at *
  have c0 := X1.out.c0
  have c1 := X1.out.c1
  have c2 := X1.out.c2
  have B2 := Lib.hid B1.out
  have X2 := Lib.hid X1.out
  clear B1 X1
  go_wp2_with fail
  refine (implFieldInv_any p pw g a _).mono ?_
  rintro e w3 ⟨rfl, hb3⟩
  have B3 := Lib.hid (B2.out.trans (hb3.mono B2.out.size))
  have X3 := Lib.hid (X2.out.below hb3 X2.out.lt)
  clear c0 c1 c2 hb3 B2 X2
  have c0 := X3.out.c0
  have c1 := X3.out.c1
  have c2 := X3.out.c2
  go_wp2_with fail
  refine (specFieldInv_any p pw g a _).mono ?_
  rintro e w4 ⟨rfl, hb4⟩
  have B4 := Lib.hid (B3.out.trans (hb4.mono B3.out.size))
  have X4 := Lib.hid (X3.out.below hb4 X3.out.lt)
  clear c0 c1 c2 hb4 B3 X3
  have c0 := X4.out.c0
  have c1 := X4.out.c1
  have c2 := X4.out.c2
  have HP := Lib.hid (fun h => inverse_plain (p := p) (pw := pw) (g := g) (a := a) h)
  have hl4 := X4.out.lt
  generalize finvR p pw g a = x at *
  generalize finvC p pw g a = cd at *
  go_wp2_with fail
  go_region_held3 (fun w' => w'.cell? ⟨X, 0, none⟩ = some (.int .i64 p) ∧ w'.cell? ⟨X, 1, none⟩ = some (.int .i64 pw) ∧ w'.cell? ⟨X, 2, none⟩ = some (.int .i64 g))
    (first | go_keep | ((try (dsimp only)); go_split_ands; (repeat' apply And.intro); all_goals (first | assumption | exact keep_cell hbS (by assumption) | exact keep_cell hbR (by assumption))))
    (first
      | (go_at_call 43; refine (isField_any p pw g _).mono ?_; rintro e w6 ⟨rfl, hbS⟩)
      | (go_at_call 42; refine (implIsField_any p pw g _).mono ?_; rintro e w5 ⟨rfl, hbR⟩))
  have hb5 := Below.trans (Drew.below (drew1 w4) w4.heap.size) hbR
  have B6 := Lib.hid (B4.out.trans ((Below.more hb5 (Nat.le_refl _) hbS).mono B4.out.size))
  have X6 := Lib.hid (X4.out.below (Below.more hb5 (Nat.le_refl _) hbS) hl4)
  clear c0 c1 c2 B4 X4 hb5 hbS hbR hl4
  have c0 := X6.out.c0
  have c1 := X6.out.c1
  have c2 := X6.out.c2
  by_cases hcd : cd = 0
  rotate_left
  · have hne : (cd != 0) = true := by simp [hcd]
    clear hcd
    go_wp2_with fail
    go_ret
    exact ⟨rfl, B6.out⟩
  have hne : (cd != 0) = false := by simp [hcd]
  obtain ⟨e1, e2, e3, e4, e5⟩ := HP.out hcd
  clear hcd HP
  go_wp2_with fail
  refine (implFieldMul_any p pw g a x _).mono ?_
  rintro e w7 ⟨rfl, hb7⟩
  have B7 := Lib.hid (B6.out.trans (hb7.mono B6.out.size))
  have X7 := Lib.hid (X6.out.below hb7 X6.out.lt)
  clear c0 c1 c2 hb7 B6 X6
  have c0 := X7.out.c0
  have c1 := X7.out.c1
  have c2 := X7.out.c2
  go_wp2_with fail
  refine (implFieldNeg_any p pw g a _).mono ?_
  rintro e w8 ⟨rfl, hb8⟩
  have B8 := Lib.hid (B7.out.trans (hb8.mono B7.out.size))
  have X8 := Lib.hid (X7.out.below hb8 X7.out.lt)
  clear c0 c1 c2 hb8 B7 X7
  have c0 := X8.out.c0
  have c1 := X8.out.c1
  have c2 := X8.out.c2
  go_wp2_with fail
  refine (implFieldAdd_any p pw g a (fnegR p pw g a) _).mono ?_
  rintro e w9 ⟨rfl, hb9⟩
  have B9 := Lib.hid (B8.out.trans (hb9.mono B8.out.size))
  have X9 := Lib.hid (X8.out.below hb9 X8.out.lt)
  clear c0 c1 c2 hb9 B8 X8
  have c0 := X9.out.c0
  have c1 := X9.out.c1
  have c2 := X9.out.c2
  go_wp2_with fail
  go_ret
  exact ⟨rfl, B9.out⟩
end Go.Proofs.Ytenlaoadclfmaaa
