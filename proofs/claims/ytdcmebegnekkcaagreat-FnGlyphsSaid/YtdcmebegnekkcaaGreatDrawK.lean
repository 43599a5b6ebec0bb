/-
  The parts Like, Dice, FrameB.
-/
import Derived.Test.YtdcmebegnekkcaaGreatDraw
import Derived.Test.YtdcmebegnekkcaaGreatFrames
/-
  The walk of likeInts.
-/
namespace Go.Proofs.YtdcmebegnekkcaaGreat
open Go.RowKit
set_option linter.unusedVariables false

theorem bigL_any (w : World) (c : Option Addr) (n cap : Nat) : Calls Tryz.prog 7 #[.slice c n cap] w fun e w' => e = .returned (.bool (decide ((4096 : Int) < (n : Int)))) ∧ w = w' := by
  go_enter Tryz.func7, Tryz.ntmps7
  go_wp2_with fail
  go_ret
  exact ⟨rfl, rfl⟩
theorem eq_of_gi {xs ys : List Int} (h : xs.length = ys.length) (hh : ∀ k, k < xs.length → gi xs k = gi ys k) : xs = ys := by
  apply List.ext_getElem h
  intro k h1 h2
  have := hh k h1
  unfold gi at this
  simpa [List.getD_eq_getElem?_getD, h1, h2] using this
theorem likeInts_any {w : World} {a a' : Option Addr} {n cap n' cap' : Nat} {xs ys : List Int} (hr : RowAt w a n xs) (hr' : RowAt w a' n' ys) :
    Calls Tryz.prog 11 #[.slice a n cap, .slice a' n' cap'] w fun e w' => e = .returned (.bool (decide (xs = ys))) ∧ Below w.heap.size w w' := by
  have HR := Lib.hid hr
  have HR' := Lib.hid hr'
  have hsm := hr.small
  have hl := Lib.hid hr.len
  have hl' := Lib.hid hr'.len
  clear hr hr'
  go_enter Tryz.func11, Tryz.ntmps11
  by_cases hn : n = n'
  · subst hn
    go_wp2_with fail
    go_loopw [5] (fun t wr => ∃ k : Nat, k ≤ n ∧ t = .int .i64 k ∧ Hid (∀ j, j < k → gi xs j = gi ys j) ∧ Hid (Below w.heap.size w wr)) (fun t _ => n - (intOf t).toNat)
    case atStart => exact ⟨0, by omega, rfl, Lib.hid (fun j hj => by omega), Lib.hid (Below.refl _ _)⟩
    case round =>
      obtain ⟨k, hk, rfl, hall, hb⟩ := hrel
      by_cases hlt : k < n
      · obtain ⟨b1, o1, rfl, _, hcs⟩ := (HR.out.below' hb.out).at' (by omega)
        obtain ⟨b2, o2, rfl, _, hcs'⟩ := (HR'.out.below' hb.out).at' (by omega)
        have hc1 := hcs k hlt
        have hc2 := hcs' k hlt
        clear hcs hcs'
        by_cases he : gi xs k = gi ys k
        · have hne : (gi xs k != gi ys k) = false := by simp [he]
          have H2 := Lib.hid (show ∀ j, j < k + 1 → gi xs j = gi ys j from fun j hj => by
            by_cases e : j = k
            · subst e; exact he
            · exact hall.out j (by omega))
          clear he
          have HB := Lib.hid (hb.out.trans (Drew.below (⟨1, rfl⟩ : Drew wr wr.drew) _))
          generalize gi xs k = x at *
          generalize gi ys k = y at *
          go_wp2_with fail
          go_region
          go_wp2_with fail
          go_roundw
          case rel => exact ⟨k + 1, by omega, by go_num, H2, HB⟩
          case measure => simp [intOf]; omega
        · have hne : (gi xs k != gi ys k) = true := by simp [he]
          have hf := Lib.hid (show decide (xs = ys) = false from by simp; intro e; exact he (by rw [e]))
          clear he
          have HB := Lib.hid (hb.out.trans (Drew.below (⟨1, rfl⟩ : Drew wr wr.drew) _))
          generalize gi xs k = x at *
          generalize gi ys k = y at *
          go_wp2_with fail
          go_region
          go_wp2_with fail
          go_ret
          exact ⟨ret_bool hf.out.symm, HB.out⟩
      · have hf := Lib.hid (show decide (xs = ys) = true from decide_eq_true (eq_of_gi (by rw [hl.out, hl'.out]) (fun j hj => hall.out j (by rw [hl.out] at hj; omega))))
        go_wp2_with fail
        go_ret
        exact ⟨ret_bool hf.out.symm, hb.out⟩
  · have hne : ((n : Int) != (n' : Int)) = true := by simp; omega
    have hf := Lib.hid (show decide (xs = ys) = false from by simp; intro e; exact hn (by rw [← hl.out, ← hl'.out, e]))
    go_wp2_with fail
    go_ret
    exact ⟨ret_bool hf.out.symm, Below.refl _ _⟩
end Go.Proofs.YtdcmebegnekkcaaGreat
/-
  The walks of the dice of the laws.
-/
namespace Go.Proofs.YtdcmebegnekkcaaGreat
open Go.RowKit
set_option linter.unusedVariables false

section
variable {w : World} {d : Nat} {c : Option Addr} {n cap : Nat} {bs : List Int} {i : Nat} {h : Int}
end
end Go.Proofs.YtdcmebegnekkcaaGreat
/-
  What comes in as a slice of bytes can be read.
-/
namespace Go.Proofs.YtdcmebegnekkcaaGreat
open Go.ChangeShapes Go.WideShapes Go.ChangeAt Go.RowKit Go.Joins
set_option linter.unusedVariables false

/-- A slice of bytes that came in. -/
theorem open_bytes {H : Type} {enc : TypeId × Value → H} {W : World} {a : Option Addr} {len cap : Nat} {d : DataW H} {p : List MemPlace}
    (h : DataW.Trod enc Tryz.prog W 0 (fun _ => true) true 22 (.slice a len cap) d p) : ∃ zs, RowB W a len zs := by
  obtain ⟨fuel, hf⟩ := h
  rcases open_ints Tryz.underlying22 Tryz.underlying5 (by kernel_rfl) hf with ⟨hcs, _⟩ | ⟨x, l, c, zs, hcs, _, hl, hm, hz, _, hcell, hwz⟩
  · simp [Value.cells] at hcs
    obtain ⟨rfl, rfl, rfl⟩ := hcs
    exact ⟨[], rfl, by omega, fun j => by unfold gi; simp, fun h => by omega⟩
  · simp [Value.cells] at hcs
    obtain ⟨rfl, rfl, rfl⟩ := hcs
    have hz' : zs.length = cap := by simpa using hz
    unfold maxLen at hm
    refine ⟨zs.take len, by rw [List.length_take]; omega, by omega, fun j => ?_, fun hn => ?_⟩
    · by_cases hj : j < len
      · rw [gi_take hj]
        have hjl : j < zs.length := by omega
        have := hwz (zs[j]) (List.getElem_mem hjl)
        have e : gi zs j = zs[j] := by unfold gi; simp [hjl]
        rw [e]
        unfold Lit.wf at this
        simp only [Bool.and_eq_true, IntKind.min, IntKind.max, IntKind.signed, IntKind.bits] at this
        simp at this
        omega
      · have e : gi (zs.take len) j = 0 := by unfold gi; rw [List.getD_eq_getElem?_getD, List.getElem?_eq_none (by rw [List.length_take]; omega)]; rfl
        rw [e]; omega
    · obtain ⟨b, off, spot⟩ := x
      have h0 := hcell 0 (by omega)
      have hspot : spot = none := by simpa [Addr.add] using World.cell?_spot h0
      subst hspot
      refine ⟨b, off, rfl, World.block_lt_of_cell? _ ⟨b, off, none⟩ (by simpa [Addr.add] using h0), fun j hj => ?_⟩
      have := hcell j (by omega)
      rw [addr_add] at this
      rw [gi_take hj]
      exact this
end Go.Proofs.YtdcmebegnekkcaaGreat
