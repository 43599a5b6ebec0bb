/-
  The walk of the reference's sum.
-/
import Derived.Test.YtenlaoadclfmaaaSpecOwn
namespace Go.Proofs.Ytenlaoadclfmaaa
open Go.RowKit
set_option linter.unusedVariables false

set_option maxRecDepth 20000 in
set_option maxHeartbeats 4000000 in
theorem l03Add_any (p pw g : Int) (hv : validB p pw g = true) (V : VF) (hV : V.F = ffOf p pw g) {w : World} {a : Option Addr} {n cap : Nat} {xs : List Int} (hr : RowAt w a n xs) (hn : n ≤ 4096)
    {a' : Option Addr} {n' cap' : Nat} {ys : List Int} (hr' : RowAt w a' n' ys) (hn' : n' ≤ 4096) (hx : VF.els V xs) (hy : VF.els V ys) :
    Calls Try.prog 56 #[fV p pw g, .slice a n cap, .slice a' n' cap'] w fun e w' => ∃ v, e = .returned v ∧ Below w.heap.size w w' ∧ OwnL w' w.heap.size v (plusL V.F xs ys) := by
  have HADD := Lib.hid (fun W x y (hx : V.F.el x) (hy : V.F.el y) => by have := l02Add_any p pw g hv x y (by rw [← hV]; exact hx) (by rw [← hV]; exact hy) W; rw [← hV] at this; exact this)
  have HR := Lib.hid hr
  have HR' := Lib.hid hr'
  have hl := Lib.hid hr.len
  have hl' := Lib.hid hr'.len
  have HX := Lib.hid hx
  have HY := Lib.hid hy
  have hpl := Lib.hid (addC_plusL hx hy)
  clear hr hr' hx hy hv hV
  go_enter Try.func56, Try.ntmps56
  go_wp2_with fail
  have hb0 := Lib.hid ((below1 w (.cells #[.int .i64 p, .int .i64 pw, .int .i64 g] FTa)).alloc (by simp) (.cells #[] 2))
  have hx0 := Lib.hid ((box_new w p pw g FTa).below ((Below.refl _ _).alloc (Nat.le_refl _) (.cells #[] 2)) (by simp))
  go_loopw [7, 8] (fun o t wr => ∃ k : Nat, k ≤ max n n' ∧ t = .int .i64 k ∧ OwnL wr (w.heap.size + 1) o (addC V.F xs ys k) ∧ Below w.heap.size w wr ∧ Box wr w.heap.size p pw g) (fun _ t _ => (max n n' - intOf t).toNat)
  case atStart => exact ⟨0, by omega, rfl, OwnL.empty _ _ (by simp) _ (by simp), hb0.out, hx0.out⟩
  case round =>
    obtain ⟨k, hk, rfl, hown, hbel, hbox⟩ := hrel
    have HB := Lib.hid hbel
    have HBX := Lib.hid hbox
    have HOWN := Lib.hid hown
    have hbs := hbel.size
    obtain ⟨hlt, c0, c1, c2⟩ := hbox
    clear hown hbel
    by_cases h0 : k < max n n'
    · have hstep := Lib.hid (addC_succ V.F xs ys k)
      have hll : (addC V.F xs ys k).length ≤ 16777216 := by rw [addC_length]; omega
      have hr1 := HR.out.below' (HB.out.trans ((Below.refl _ wr).drew.mono hbs))
      have hr2 := HR'.out.below' (HB.out.trans ((Below.refl _ wr).drew.mono hbs))
      have HA1 := Lib.hid (l03At_any (cap := cap) hr1 k (by omega))
      have HA2 := Lib.hid (l03At_any (cap := cap') hr2 k (by omega))
      have HAD := Lib.hid (fun W => HADD.out W (gi xs k) (gi ys k) (HX.out.getD k) (HY.out.getD k))
      clear hr1 hr2
      generalize addC V.F xs ys k = r at *
      generalize gi xs k = x at *
      generalize gi ys k = y at *
      by_cases h1 : k < n
      rotate_left
      have h2 : k < n' := by omega
      all_goals
        go_wp2_with fail
        go_region_held3 (fun w' => w'.cell? ⟨w.heap.size, 0, none⟩ = some (.int .i64 p) ∧ w'.cell? ⟨w.heap.size, 1, none⟩ = some (.int .i64 pw) ∧ w'.cell? ⟨w.heap.size, 2, none⟩ = some (.int .i64 g))
          (first | go_keep | ((try (dsimp only)); (repeat' apply And.intro); all_goals (first | go_keep | exact (hb5.cell (p := ⟨w.heap.size, 0, none⟩) (Nat.lt_succ_self _)).trans ((hb4.cell (p := ⟨w.heap.size, 0, none⟩) hlt).trans c0) | exact (hb5.cell (p := ⟨w.heap.size, 1, none⟩) (Nat.lt_succ_self _)).trans ((hb4.cell (p := ⟨w.heap.size, 1, none⟩) hlt).trans c1) | exact (hb5.cell (p := ⟨w.heap.size, 2, none⟩) (Nat.lt_succ_self _)).trans ((hb4.cell (p := ⟨w.heap.size, 2, none⟩) hlt).trans c2) | exact (hb4.cell (p := ⟨w.heap.size, 0, none⟩) hlt).trans c0 | exact (hb4.cell (p := ⟨w.heap.size, 1, none⟩) hlt).trans c1 | exact (hb4.cell (p := ⟨w.heap.size, 2, none⟩) hlt).trans c2)))
          (first | (go_at_call 108; (first | (with_reducible refine HA1.out.mono ?_) | (with_reducible refine HA2.out.mono ?_)); rintro e w3 ⟨rfl, rfl⟩) | (go_at_call 74; refine (HAD.out _).mono ?_; rintro e w4 ⟨rfl, hb4⟩) | (have _ := hb4; refine step_one rfl _ _ _ rfl Try.underlying24 (V.F.add x y) (HOWN.out.below ((Below.refl _ wr).drew.trans hb4)) rfl _ rfl rfl hll ?_; intro v' w5 hown5 hb5))
        all_goals
          have HO5 := Lib.hid hown5
          have hb45 := (Below.refl _ wr).drew.trans hb4
          have HB5 := Lib.hid (HB.out.trans ((hb45.mono hbs).trans (hb5.mono (by omega))))
          have HX5 := Lib.hid ((HBX.out.below hb45 hlt).below hb5 (by omega))
          clear hown5 hb5 hb4 hb45
          go_wp2_with fail
          go_roundw
          case rel => exact ⟨k + 1, by omega, by go_num, by rw [hstep.out]; exact HO5.out, HB5.out, HX5.out⟩
          case measure => simp [intOf]; omega
    · have e1 : ¬ k < n := by omega
      have e2 : ¬ k < n' := by omega
      have ek : k = max n n' := by omega
      obtain ⟨ao, co, rfl, hle, hno, hat⟩ := HOWN.out.cap
      have HT := Lib.hid (l03Trim_any (cap := co) hat.row hle hno (by rw [addC_length]; omega))
      have hfe := Lib.hid (show VF.trim (addC V.F xs ys k) = plusL V.F xs ys by rw [ek, ← hl.out, ← hl'.out]; exact hpl.out)
      clear hat hle c0 c1 c2 ek
      go_wp2_with fail
      refine HT.out.mono ?_
      rintro e w7 ⟨v, rfl, hb7, ho7⟩
      have HB7 := Lib.hid (HB.out.trans (hb7.mono hbs))
      have HO7 := Lib.hid (show OwnL w7 w.heap.size v (plusL V.F xs ys) by
        rw [← hfe.out]; exact ho7.lower hbs)
      clear hb7 ho7
      go_wp2_with fail
      go_ret
      exact ⟨_, rfl, HB7.out, HO7.out⟩
end Go.Proofs.Ytenlaoadclfmaaa
