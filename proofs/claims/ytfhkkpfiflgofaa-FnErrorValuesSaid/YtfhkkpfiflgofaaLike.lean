/-
  The walk of likeInts.
-/
import Derived.Test.YtfhkkpfiflgofaaDraw
namespace Go.Proofs.Ytfhkkpfiflgofaa
open Go.RowKit
set_option linter.unusedVariables false

theorem bigL_any (w : World) (c : Option Addr) (n cap : Nat) : Calls Try.prog 17 #[.slice c n cap] w fun e w' => e = .returned (.bool (decide ((4096 : Int) < (n : Int)))) ∧ w = w' := by
  go_enter Try.func17, Try.ntmps17
  go_wp2_with fail
  go_ret
  exact ⟨rfl, rfl⟩
theorem eq_of_gi {xs ys : List Int} (h : xs.length = ys.length) (hh : ∀ k, k < xs.length → gi xs k = gi ys k) : xs = ys := by
  apply List.ext_getElem h
  intro k h1 h2
  have := hh k h1
  unfold gi at this
  simpa [List.getD_eq_getElem?_getD, h1, h2] using this
theorem likeInts_any {w : World} {a a' : Option Addr} {n cap n' cap' : Nat} {xs ys : List Int} (hr : RowAt w a n xs) (hr' : RowAt w a' n' ys) :
    Calls Try.prog 21 #[.slice a n cap, .slice a' n' cap'] w fun e w' => e = .returned (.bool (decide (xs = ys))) ∧ Below w.heap.size w w' := by
  have HR := Lib.hid hr
  have HR' := Lib.hid hr'
  have hsm := hr.small
  have hl := Lib.hid hr.len
  have hl' := Lib.hid hr'.len
  clear hr hr'
  go_enter Try.func21, Try.ntmps21
  by_cases hn : n = n'
  · subst hn
    go_wp2_with fail
    go_loopw [5] (fun t wr => ∃ k : Nat, k ≤ n ∧ t = .int .i64 k ∧ Hid (∀ j, j < k → gi xs j = gi ys j) ∧ Hid (Below w.heap.size w wr)) (fun t _ => n - (intOf t).toNat)
    case atStart => exact ⟨0, by omega, rfl, Lib.hid (fun j hj => by omega), Lib.hid (Below.refl _ _)⟩
    case round =>
      obtain ⟨k, hk, rfl, hall, hb⟩ := hrel
      by_cases hlt : k < n
      · obtain ⟨b1, o1, rfl, _, hcs⟩ := (HR.out.below' hb.out).at' (by omega)
        obtain ⟨b2, o2, rfl, _, hcs'⟩ := (HR'.out.below' hb.out).at' (by omega)
        have hc1 := hcs k hlt
        have hc2 := hcs' k hlt
        clear hcs hcs'
        by_cases he : gi xs k = gi ys k
        · have hne : (gi xs k != gi ys k) = false := by simp [he]
          have H2 := Lib.hid (show ∀ j, j < k + 1 → gi xs j = gi ys j from fun j hj => by
            by_cases e : j = k
            · subst e; exact he
            · exact hall.out j (by omega))
          clear he
          have HB := Lib.hid (hb.out.trans (Drew.below (⟨1, rfl⟩ : Drew wr wr.drew) _))
          generalize gi xs k = x at *
          generalize gi ys k = y at *
          go_wp2_with fail
          go_region
          go_wp2_with fail
          go_roundw
          case rel => exact ⟨k + 1, by omega, by go_num, H2, HB⟩
          case measure => simp [intOf]; omega
        · have hne : (gi xs k != gi ys k) = true := by simp [he]
          have hf := Lib.hid (show decide (xs = ys) = false from by simp; intro e; exact he (by rw [e]))
          clear he
          have HB := Lib.hid (hb.out.trans (Drew.below (⟨1, rfl⟩ : Drew wr wr.drew) _))
          generalize gi xs k = x at *
          generalize gi ys k = y at *
          go_wp2_with fail
          go_region
          go_wp2_with fail
          go_ret
          exact ⟨ret_bool hf.out.symm, HB.out⟩
      · have hf := Lib.hid (show decide (xs = ys) = true from decide_eq_true (eq_of_gi (by rw [hl.out, hl'.out]) (fun j hj => hall.out j (by rw [hl.out] at hj; omega))))
        go_wp2_with fail
        go_ret
        exact ⟨ret_bool hf.out.symm, hb.out⟩
  · have hne : ((n : Int) != (n' : Int)) = true := by simp; omega
    have hf := Lib.hid (show decide (xs = ys) = false from by simp; intro e; exact hn (by rw [← hl.out, ← hl'.out, e]))
    go_wp2_with fail
    go_ret
    exact ⟨ret_bool hf.out.symm, Below.refl _ _⟩
end Go.Proofs.Ytfhkkpfiflgofaa
