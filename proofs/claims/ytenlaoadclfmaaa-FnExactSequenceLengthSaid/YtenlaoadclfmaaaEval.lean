/-
  The walks of the value of a polynomial, in the program and in the reference.
-/
import Derived.Test.YtenlaoadclfmaaaIsPoly
import Derived.Deep.RegionHeld3
namespace Go.Proofs.Ytenlaoadclfmaaa
open Go.RowKit
set_option linter.unusedVariables false

theorem Cal.drewN {w : World} {b : Nat} {F : FF} (h : Cal w b F) (n : Nat) : Cal (w.drewN n) b F :=
  ⟨h.ok, h.lt, (World.cell?_of_block rfl).trans h.bin, (World.cell?_of_block rfl).trans h.size, fun m hm => (World.cell?_of_block rfl).trans (h.exp m hm), fun a ha h0 => (World.cell?_of_block rfl).trans (h.log a ha h0)⟩
theorem Cal.below {w w' : World} {b : Nat} {F : FF} (h : Cal w b F) (hb : Below w.heap.size w w') : Cal w' b F :=
  ⟨h.ok, by have := hb.size; have := h.lt; omega, (hb.cell (p := ⟨b, 0, none⟩) h.lt).trans h.bin, (hb.cell (p := ⟨b, 1, none⟩) h.lt).trans h.size,
    fun m hm => (hb.cell (p := ⟨b, 2 + m, none⟩) h.lt).trans (h.exp m hm), fun a ha h0 => (hb.cell (p := ⟨b, 1023 + a.toNat, none⟩) h.lt).trans (h.log a ha h0)⟩
/-- The value of a polynomial, as both reckon it. -/
def evI (F : FF) : List Int → Int → Int
  | [], _ => 0
  | a :: l, x => F.add (F.mul (evI F l x) x) a
theorem evI_drop (F : FF) (l : List Int) (x : Int) (k : Nat) (hk : k < l.length) : evI F (l.drop k) x = F.add (F.mul (evI F (l.drop (k + 1)) x) x) (gi l k) := by
  rw [VF.drop_getD l k hk]; rfl
theorem evI_el {F : FF} (h : F.ok) {l : List Int} (hl : ∀ z ∈ l, F.el z) (x : Int) : F.el (evI F l x) := by
  induction l with
  | nil => exact FF.zero_el h
  | cons a l ih => exact FF.add_el h (FF.mul_el h _ _) (hl a (by simp))
theorem el_gi {F : FF} (h : F.ok) {l : List Int} (hl : ∀ z ∈ l, F.el z) (k : Nat) : F.el (gi l k) := VF.els.getD (V := ⟨F, h⟩) hl k
/-- The later world is the earlier one but for draws. -/
def Drew (w w' : World) : Prop := ∃ q, w' = w.drewN q
theorem Drew.refl (w : World) : Drew w w := ⟨0, rfl⟩
theorem Drew.more {w w' : World} (h : Drew w w') (n : Nat) : Drew w (w'.drewN n) := by
  obtain ⟨q, rfl⟩ := h; exact ⟨_, drewN_drewN _ _ _⟩
theorem Drew.cal {w w' : World} (h : Drew w w') {b : Nat} {F : FF} (hc : Cal w b F) : Cal w' b F := by
  obtain ⟨q, rfl⟩ := h; exact hc.drewN q
theorem Drew.row {w w' : World} (h : Drew w w') {n : Nat} {a : Option Addr} {zs : List Int} (hr : RowAt w a n zs) : RowAt w' a n zs := by
  obtain ⟨q, rfl⟩ := h; exact hr.drewN q
theorem Drew.own {w w' : World} (h : Drew w w') {n B : Nat} {a : Option Addr} {zs : List Int} (hr : OwnAt w B a n zs) : OwnAt w' B a n zs := by
  obtain ⟨q, rfl⟩ := h; exact ⟨hr.len, hr.small, hr.at'⟩
theorem Drew.below {w w' : World} (h : Drew w w') (B : Nat) : Below B w w' := by
  obtain ⟨q, rfl⟩ := h; exact below_drewN (Below.refl _ _) q
theorem Drew.trans {a b c : World} (h : Drew a b) (h2 : Drew b c) : Drew a c := by
  obtain ⟨q, rfl⟩ := h; obtain ⟨r, rfl⟩ := h2; exact ⟨_, drewN_drewN _ _ _⟩
set_option maxHeartbeats 400000 in
theorem at_any {w : World} {b : Nat} {F : FF} (hc : Cal w b F) {a : Option Addr} {n cap : Nat} {zs : List Int} (hr : RowAt w a n zs) (hel : ∀ z ∈ zs, F.el z) (x : Int) (hx : F.el x) :
    Calls Try.prog 105 #[.slice a n cap, .pointer (some ⟨b, 0, none⟩), .int .i64 x] w fun e w' => e = .returned (.int .i64 (evI F zs x)) ∧ ∃ q, w' = w.drewN q := by
  have HR := Lib.hid hr
  have HC := Lib.hid hc
  have HE := Lib.hid hel
  have HX := Lib.hid hx
  have hok := Lib.hid hc.ok
  have hl := Lib.hid hr.len
  have hsm := hr.small
  clear hr hc hel hx
  go_enter Try.func105, Try.ntmps105
  go_wp2_with fail
  go_loopw [7, 8] (fun o t wr => ∃ k : Nat, k ≤ n ∧ t = .int .i64 ((k : Int) - 1) ∧ o = .int .i64 (evI F (zs.drop k) x) ∧ Drew w wr) (fun _ t _ => (intOf t + 1).toNat)
  case atStart => exact ⟨n, by omega, rfl, by rw [List.drop_of_length_le (by rw [hl.out]; omega)]; rfl, Drew.refl _⟩
  case round =>
    obtain ⟨k, hk, rfl, rfl, hd⟩ := hrel
    have hrow := hd.row HR.out
    have hcal := hd.cal HC.out
    by_cases h0 : 0 < k
    · obtain ⟨i, rfl⟩ : ∃ i, k = i + 1 := ⟨k - 1, by omega⟩
      have et : ((i + 1 : Nat) : Int) - 1 = (i : Int) := by omega
      rw [et]
      obtain ⟨b1, o1, rfl, hb1, hcs⟩ := hrow.at' (by omega)
      have hcell := hcs i (by omega)
      have hstep := Lib.hid (evI_drop F zs x i (by rw [hl.out]; omega))
      have hel1 := Lib.hid (evI_el hok.out (l := zs.drop (i + 1)) (fun z hz => HE.out z (List.mem_of_mem_drop hz)) x)
      have hel2 := Lib.hid (el_gi hok.out HE.out i)
      have hm := fun m => mul_any (hcal.drewN m) _ x hel1.out HX.out
      have ha := fun m => add_any (hcal.drewN m) (F.mul (evI F (zs.drop (i + 1)) x) x) (gi zs i) (FF.mul_el hok.out _ _) hel2.out
      have HM := Lib.hid hm
      have HA := Lib.hid ha
      clear hcs et hm ha hrow hcal
      generalize evI F (zs.drop (i + 1)) x = v at *
      go_wp2_with fail
      go_quiet (first | (go_at_call 76; exact Calls.quiet_of (HM.out _)) | (go_at_call 72; exact Calls.quiet_of_same ((HA.out _).mono fun e w' h => ⟨h.1, h.2.symm⟩)))
      go_wp2_with fail
      go_roundw
      case rel => exact ⟨i, by omega, rfl, by rw [hstep.out], hd.more _⟩
      case measure => simp [intOf]
    · obtain rfl : k = 0 := by omega
      clear hrow hcal
      go_wp2_with fail
      go_ret
      exact ⟨rfl, hd⟩

end Go.Proofs.Ytenlaoadclfmaaa
