/-
  The walk of register.
-/
import Derived.Test.YtenlaoadclfmaaaReg
import Derived.Test.YtenlaoadclfmaaaGenerator
namespace Go.Proofs.Ytenlaoadclfmaaa
open Go.RowKit
set_option linter.unusedVariables false

theorem One.new (w : World) (v : Value) (T : TypeId) (b : Nat) (hb : b = w.heap.size) : One (w.alloc (.cells #[v] T)) b v := by subst hb; exact ⟨T, heap_alloc_new w _⟩
/-- The world behind the making of the closure's variables. -/
def regW (w : World) (b : Nat) (a : Option Addr) (n cap : Nat) (T0 T1 T4 T5 T6 T7 T8 : TypeId) : World :=
  ((((((((w.alloc (.cells #[.pointer (some ⟨b, 0, none⟩)] T0)).alloc (.cells #[.slice a n cap] T1)).alloc (.cells #[.int .i64 1] 2)).alloc (.cells #[.int .i64 1] 2)).alloc (.cells #[.slice (some ⟨w.heap.size + 1 + 1, 0, none⟩) 1 1] T4)).alloc (.cells #[.slice (some ⟨w.heap.size + 1 + 1 + 1, 0, none⟩) 1 1] T5)).alloc (.cells #[.int .i64 0] T6)).alloc (.cells #[.int .i64 1] T7)).alloc (.cells #[.int .i64 1] T8)
theorem reg_start {V : VF} (S : PS (El V)) {w : World} {b : Nat} (hcal : Cal w b V.F) {a : Option Addr} {n cap : Nat} {zs : List Int} (hr : RowAt w a n zs) (T0 T1 T4 T5 T6 T7 T8 : TypeId) :
    RegAt V S (regW w b a n cap T0 T1 T4 T5 T6 T7 T8) w.heap.size 0 zs a n cap ∧ Below w.heap.size w (regW w b a n cap T0 T1 T4 T5 T6 T7 T8) := by
  obtain ⟨W1, h1⟩ : ∃ W, W = w.alloc (.cells #[.pointer (some ⟨b, 0, none⟩)] T0) := ⟨_, rfl⟩
  obtain ⟨W2, h2⟩ : ∃ W, W = W1.alloc (.cells #[.slice a n cap] T1) := ⟨_, rfl⟩
  obtain ⟨W3, h3⟩ : ∃ W, W = W2.alloc (.cells #[.int .i64 1] 2) := ⟨_, rfl⟩
  obtain ⟨W4, h4⟩ : ∃ W, W = W3.alloc (.cells #[.int .i64 1] 2) := ⟨_, rfl⟩
  obtain ⟨W5, h5⟩ : ∃ W, W = W4.alloc (.cells #[.slice (some ⟨w.heap.size + 1 + 1, 0, none⟩) 1 1] T4) := ⟨_, rfl⟩
  obtain ⟨W6, h6⟩ : ∃ W, W = W5.alloc (.cells #[.slice (some ⟨w.heap.size + 1 + 1 + 1, 0, none⟩) 1 1] T5) := ⟨_, rfl⟩
  obtain ⟨W7, h7⟩ : ∃ W, W = W6.alloc (.cells #[.int .i64 0] T6) := ⟨_, rfl⟩
  obtain ⟨W8, h8⟩ : ∃ W, W = W7.alloc (.cells #[.int .i64 1] T7) := ⟨_, rfl⟩
  obtain ⟨W9, h9⟩ : ∃ W, W = W8.alloc (.cells #[.int .i64 1] T8) := ⟨_, rfl⟩
  have e : regW w b a n cap T0 T1 T4 T5 T6 T7 T8 = W9 := by unfold regW; rw [h9, h8, h7, h6, h5, h4, h3, h2, h1]
  rw [e]
  have s1 : W1.heap.size = w.heap.size + 1 := by rw [h1]; simp
  have s2 : W2.heap.size = w.heap.size + 2 := by rw [h2]; simp [s1]
  have s3 : W3.heap.size = w.heap.size + 3 := by rw [h3]; simp [s2]
  have s4 : W4.heap.size = w.heap.size + 4 := by rw [h4]; simp [s3]
  have s5 : W5.heap.size = w.heap.size + 5 := by rw [h5]; simp [s4]
  have s6 : W6.heap.size = w.heap.size + 6 := by rw [h6]; simp [s5]
  have s7 : W7.heap.size = w.heap.size + 7 := by rw [h7]; simp [s6]
  have s8 : W8.heap.size = w.heap.size + 8 := by rw [h8]; simp [s7]
  have b1 : Below w.heap.size w W1 := by rw [h1]; exact below1 _ _
  have b2 : Below W1.heap.size W1 W2 := by rw [h2]; exact below1 _ _
  have b3 : Below W2.heap.size W2 W3 := by rw [h3]; exact below1 _ _
  have b4 : Below W3.heap.size W3 W4 := by rw [h4]; exact below1 _ _
  have b5 : Below W4.heap.size W4 W5 := by rw [h5]; exact below1 _ _
  have b6 : Below W5.heap.size W5 W6 := by rw [h6]; exact below1 _ _
  have b7 : Below W6.heap.size W6 W7 := by rw [h7]; exact below1 _ _
  have b8 : Below W7.heap.size W7 W8 := by rw [h8]; exact below1 _ _
  have b9 : Below W8.heap.size W8 W9 := by rw [h9]; exact below1 _ _
  have c8 : Below W7.heap.size W7 W9 := b8.trans (b9.mono (by omega))
  have c7 : Below W6.heap.size W6 W9 := b7.trans (c8.mono (by omega))
  have c6 : Below W5.heap.size W5 W9 := b6.trans (c7.mono (by omega))
  have c5 : Below W4.heap.size W4 W9 := b5.trans (c6.mono (by omega))
  have c4 : Below W3.heap.size W3 W9 := b4.trans (c5.mono (by omega))
  have c3 : Below W2.heap.size W2 W9 := b3.trans (c4.mono (by omega))
  have c2 : Below W1.heap.size W1 W9 := b2.trans (c3.mono (by omega))
  have c1 : Below w.heap.size w W9 := b1.trans (c2.mono (by omega))
  have o1 : One W1 w.heap.size (.pointer (some ⟨b, 0, none⟩)) := by rw [h1]; exact One.new w _ T0 _ rfl
  have o2 : One W2 (w.heap.size + 1) (.slice a n cap) := by rw [h2]; exact One.new W1 _ T1 _ s1.symm
  have o5 : One W5 (w.heap.size + 4) (.slice (some ⟨w.heap.size + 1 + 1, 0, none⟩) 1 1) := by rw [h5]; exact One.new W4 _ T4 _ s4.symm
  have o6 : One W6 (w.heap.size + 5) (.slice (some ⟨w.heap.size + 1 + 1 + 1, 0, none⟩) 1 1) := by rw [h6]; exact One.new W5 _ T5 _ s5.symm
  have o7 : One W7 (w.heap.size + 6) (.int .i64 0) := by rw [h7]; exact One.new W6 _ T6 _ s6.symm
  have o8 : One W8 (w.heap.size + 7) (.int .i64 1) := by rw [h8]; exact One.new W7 _ T7 _ s7.symm
  have o9 : One W9 (w.heap.size + 8) (.int .i64 1) := by rw [h9]; exact One.new W8 _ T8 _ s8.symm
  have l3 : OwnL W3 w.heap.size (.slice (some ⟨w.heap.size + 1 + 1, 0, none⟩) 1 1) [1] := by rw [h3]; exact OwnL.lit1 W2 _ (by omega) _ (by omega) _ rfl
  have l4 : OwnL W4 w.heap.size (.slice (some ⟨w.heap.size + 1 + 1 + 1, 0, none⟩) 1 1) [1] := by rw [h4]; exact OwnL.lit1 W3 _ (by omega) _ (by omega) _ rfl
  have eone : VF.lst V (bm V S 0).now = [1] := lst_one V
  have eone' : VF.lst V (bm V S 0).before = [1] := lst_one V
  refine ⟨⟨⟨b, o1.below c2, hcal.below c1, hcal.lt⟩, o2.below c3, hr.below' c1, fun h0 x hx => ?_, ⟨_, 1, 1, o5.below c6, (fun h => by cases h), by rw [eone]; rfl, by rw [eone]; exact l3.below c4, fun g hg => ?_⟩, ⟨_, 1, 1, o6.below c7, (fun h => by cases h), by rw [eone']; rfl, by rw [eone']; exact l4.below c5, fun g hg => ?_⟩, o7.below c8, o8.below b9, ?_⟩, c1⟩
  · obtain ⟨b', off, e', hlt, _⟩ := hr.at' h0
    rw [hx] at e'; simp only [Option.some.injEq] at e'; rw [e']; exact hlt
  · simp [Value.ownBlock] at hg; omega
  · simp [Value.ownBlock] at hg; omega
  · have : (bm V S 0).last.val = 1 := VF.one_val V
    rw [this]; exact o9
set_option maxRecDepth 100000 in
set_option maxHeartbeats 4000000 in
theorem register_any {V : VF} {w : World} {b : Nat} (hcal : Cal w b V.F) {a : Option Addr} {n cap : Nat} {zs : List Int} (hr : RowAt w a n zs) (hn : n ≤ 64) (hz : VF.els V zs) :
    Calls Try.prog 99 #[.pointer (some ⟨b, 0, none⟩), .slice a n cap] w fun e w' => ∃ v, e = .returned (.tuple #[v, .int .i64 ((bm V (VF.ps V zs) n).L : Int)]) ∧ Below w.heap.size w w' ∧ OwnL w' w.heap.size v (VF.lst V (bm V (VF.ps V zs) n).now) := by
  have HC := Lib.hid hcal
  have HR := Lib.hid hr
  have HZ := Lib.hid hz
  clear hcal hr hz
  go_enter Try.func99, Try.ntmps99
  go_wp2_with fail
  obtain ⟨HS, HB0⟩ := reg_start (VF.ps V zs) HC.out (cap := cap) HR.out 64 24 67 67 3 3 2
  have HS0 := Lib.hid HS
  have HB0 := Lib.hid HB0
  clear HS
  go_loopw [18] (fun t wr => ∃ k : Nat, k ≤ n ∧ t = .int .i64 k ∧ Hid (RegAt V (VF.ps V zs) wr w.heap.size k zs a n cap) ∧ Hid (Below w.heap.size w wr)) (fun t _ => (n - intOf t).toNat)
  case atStart => exact ⟨0, by omega, rfl, HS0, HB0⟩
  case round =>
    obtain ⟨k, hk, rfl, hreg, hbel⟩ := hrel
    clear HS0 HB0
    by_cases hlt : k < n
    · have HSTEP := Lib.hid (regStep_any HZ.out hn hlt hreg.out)
      go_wp2_with fail
      refine HSTEP.out.mono ?_
      rintro e w2 ⟨rfl, hb2, hreg2⟩
      have HB2 := Lib.hid (hbel.out.trans hb2)
      have HR2 := Lib.hid hreg2
      clear hb2 hreg2
      go_wp2_with fail
      go_roundw
      case rel => exact ⟨k + 1, by omega, by go_num, HR2, HB2⟩
      case measure => simp [intOf]; omega
    · obtain rfl : k = n := by omega
      obtain ⟨an, ln, cn, h4, _, _, hon, _⟩ := hreg.out.now
      have c4 : wr.cell? ⟨w.heap.size + 1 + 1 + 1 + 1, 0, none⟩ = some (.slice an ln cn) := h4.cell
      have c6 : wr.cell? ⟨w.heap.size + 1 + 1 + 1 + 1 + 1 + 1, 0, none⟩ = some (.int .i64 ((bm V (VF.ps V zs) k).L : Int)) := hreg.out.len.cell
      have HON := Lib.hid hon
      clear h4 hon
      go_wp2_with fail
      go_quiet (fail)
      go_wp2_with fail
      go_ret2
      exact ⟨_, rfl, hbel.out.trans (Drew.below (drew4 wr _) _), HON.out.below (Drew.below (drew4 wr _) _)⟩
end Go.Proofs.Ytenlaoadclfmaaa
