/-
  The walk of trim.
-/
import Derived.Test.YtenlaoadclfmaaaCode
import Derived.Test.YtenlaoadclfmaaaStep
import Derived.Test.YtenlaoadclfmaaaEval
import Derived.Laws.OwnMore
namespace Go.Proofs.Ytenlaoadclfmaaa
open Go.RowKit
set_option linter.unusedVariables false

theorem tlen_succ_zero {l : List Int} {k : Nat} (h : gi l k = 0) : VF.tlen l (k + 1) = VF.tlen l k := by
  unfold gi at h; show (if l.getD k 0 = 0 then _ else _) = _; rw [if_pos h]
theorem tlen_succ_ne {l : List Int} {k : Nat} (h : gi l k ≠ 0) : VF.tlen l (k + 1) = k + 1 := by
  unfold gi at h; show (if l.getD k 0 = 0 then _ else _) = _; rw [if_neg h]
theorem trim_any {w : World} {a : Option Addr} {n cap : Nat} {zs : List Int} (hr : RowAt w a n zs) (hcap : n ≤ cap) :
    Calls Try.prog 110 #[.slice a n cap] w fun e w' => e = .returned (.slice a (VF.tlen zs n) cap) ∧ w = w' := by
  have HR := Lib.hid hr
  have hl := Lib.hid hr.len
  have hsm := hr.small
  clear hr
  go_enter Try.func110, Try.ntmps110
  go_wp2_with fail
  go_loop [3] (fun t => ∃ k : Nat, k ≤ n ∧ t = .int .i64 k ∧ Hid (VF.tlen zs n = VF.tlen zs k)) (fun t => (intOf t).toNat)
  case atStart => exact ⟨n, by omega, rfl, rfl⟩
  case round =>
    obtain ⟨k, hk, rfl, ht⟩ := hrel
    by_cases h0 : 0 < k
    · obtain ⟨i, rfl⟩ : ∃ i, k = i + 1 := ⟨k - 1, by omega⟩
      have et : ((i + 1 : Nat) : Int) - 1 = (i : Int) := by omega
      have et2 : (0 : Int) < ((i + 1 : Nat) : Int) := by omega
      obtain ⟨b1, o1, rfl, hb1, hcs⟩ := HR.out.at' (by omega)
      have hcell := hcs i (by omega)
      have hi : i < n := by omega
      clear hcs
      by_cases hz : gi zs i = 0
      · have hzb : (gi zs i == 0) = true := by simp [hz]
        have ht2 := Lib.hid (ht.out.trans (tlen_succ_zero hz))
        clear hz
        generalize ((i + 1 : Nat) : Int) = I at *
        go_wp2_with fail
        go_round
        case rel => exact ⟨i, by omega, rfl, ht2⟩
        case measure => simp [intOf]; omega
      · have hzb : (gi zs i == 0) = false := by simp [hz]
        have ht2 := Lib.hid (ht.out.trans (tlen_succ_ne hz))
        have h3 : i + 1 ≤ n := hk
        clear hz
        go_wp2_with fail
        go_ret
        exact ⟨by rw [ht2.out]; rfl, rfl⟩
    · obtain rfl : k = 0 := by omega
      go_wp2_with fail
      go_ret
      exact ⟨by rw [ht.out]; rfl, rfl⟩
/-- An owned slice, laid open. -/
theorem OwnL.form {w : World} {B : Nat} {v : Value} {zs : List Int} (h : OwnL w B v zs) (hn : 0 < zs.length) :
    ∃ g cap cur, v = .slice (some ⟨g, 0, none⟩) zs.length cap ∧ B ≤ g ∧ g < w.heap.size ∧ w.heap[g]? = some (.cells cur 2 (0, 0)) ∧ zs.length ≤ cap ∧ OwnAt w B (some ⟨g, 0, none⟩) zs.length zs := by
  obtain ⟨a, c, e, _, ho⟩ := h.shape
  rcases h.2.2 with ⟨rfl, h0⟩ | ⟨g, cap, cur, rfl, hg, hh, hc, hm, hs, ht⟩
  · omega
  · simp only [Value.slice.injEq] at e
    obtain ⟨rfl, _, rfl⟩ := e
    exact ⟨g, cap, cur, rfl, hg, lt_of_heap hh, hh, hc, ho⟩
theorem OwnL.cap {w : World} {B : Nat} {v : Value} {zs : List Int} (h : OwnL w B v zs) : ∃ a cap, v = .slice a zs.length cap ∧ zs.length ≤ cap ∧ (a = none → cap = 0) ∧ OwnAt w B a zs.length zs := by
  by_cases h0 : 0 < zs.length
  · obtain ⟨g, cap, cur, e, _, _, _, hc, ho⟩ := h.form h0
    exact ⟨_, cap, e, hc, (fun h => by cases h), ho⟩
  · obtain ⟨a, c, e, h1, ho⟩ := h.shape
    exact ⟨a, c, e, by omega, h1, ho⟩
theorem OwnL.set {w : World} {B : Nat} {g cap n : Nat} {zs : List Int} (h : OwnL w B (.slice (some ⟨g, 0, none⟩) n cap) zs) {k : Nat} (hk : k < zs.length) (z : Int) :
    OwnL (w.setCell ⟨g, k, none⟩ (.int .i64 z)) B (.slice (some ⟨g, 0, none⟩) n cap) (zs.set k z) := by
  obtain ⟨hB, h2⟩ := h
  have hn : n = zs.length := by
    rcases h2.2 with ⟨h', _⟩ | ⟨g', cap', cur, h', _⟩
    · cases h'
    · simp only [Value.slice.injEq] at h'; exact h'.2.1
  subst hn
  refine ⟨by simpa [World.setCell] using hB, ?_⟩
  have h3 := (World.ownsRow.stored h2 k (.int .i64 z)).1
  rw [List.length_set, List.map_set]
  exact h3
theorem OwnL.takeN {w : World} {B n cap : Nat} {a : Option Addr} {zs : List Int} (h : OwnL w B (.slice a n cap) zs) {k : Nat} (hk : k ≤ n) : OwnL w B (.slice a k cap) (zs.take k) := by
  obtain ⟨hB, hl, h2⟩ := h
  rcases h2 with ⟨e, h0⟩ | ⟨g, cp, cur, e, hg, hh, hc, hm, hs, ht⟩
  · simp only [Value.slice.injEq] at e
    obtain ⟨rfl, rfl, rfl⟩ := e
    obtain rfl : k = 0 := by omega
    exact ⟨hB, by simp, .inl ⟨rfl, by simp⟩⟩
  · simp only [Value.slice.injEq] at e
    obtain ⟨rfl, rfl, rfl⟩ := e
    have hk2 : (zs.take k).length = k := by rw [List.length_take]; omega
    refine ⟨hB, by simp, .inr ⟨g, cap, cur, by rw [hk2], hg, hh, by omega, hm, hs, ?_⟩⟩
    rw [hk2, List.map_take, ← ht, List.take_take]; congr 1; omega
end Go.Proofs.Ytenlaoadclfmaaa
