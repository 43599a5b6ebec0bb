/-
  Slices of integers in blocks between two numbers; what stays when one of them is written.
-/
import Derived.Test.YtenlaoadclfmaaaAppend
namespace Go.Proofs.Ytenlaoadclfmaaa
open Go.RowKit
set_option linter.unusedVariables false

/-- A slice of integers in a block from lo on, ahead of hi. -/
structure Own (w : World) (lo hi : Nat) (a : Option Addr) (n : Nat) (zs : List Int) : Prop where
  own : OwnAt w lo a n zs
  top : 0 < n → ∀ x, a = some x → x.block < hi
/-- Only blocks from lo on, ahead of hi, have been written. -/
structure Chg (lo hi : Nat) (w w' : World) : Prop where
  os : w'.os = w.os
  tape : w'.tape = w.tape
  output : w'.output = w.output
  size : w.heap.size = w'.heap.size
  block : ∀ k, k < lo ∨ hi ≤ k → w'.heap[k]? = w.heap[k]?
theorem Chg.refl (lo hi : Nat) (w : World) : Chg lo hi w w := ⟨rfl, rfl, rfl, rfl, fun _ _ => rfl⟩
theorem Chg.set {lo hi : Nat} {w wr : World} (h : Chg lo hi w wr) {b : Nat} (h1 : lo ≤ b) (h2 : b < hi) (o : Nat) (v : Value) : Chg lo hi w (wr.setCell ⟨b, o, none⟩ v) :=
  ⟨h.os, h.tape, h.output, by rw [h.size]; simp [World.setCell], fun k hk => (Below.heap_setCell _ _ _ _ (show k ≠ b by omega)).trans (h.block k hk)⟩
theorem Chg.below {lo hi : Nat} {w w' : World} (h : Chg lo hi w w') {B : Nat} (hB : B ≤ lo) : Below B w w' :=
  ⟨h.os, h.tape, h.output, by rw [h.size]; exact Nat.le_refl _, fun k hk => h.block k (.inl (by omega))⟩
theorem OwnAt.chg {w w' : World} {B lo hi n : Nat} {a : Option Addr} {zs : List Int} (h : OwnAt w B a n zs) (hc : Chg lo hi w w') (hd : ∀ x, a = some x → 0 < n → x.block < lo ∨ hi ≤ x.block) : OwnAt w' B a n zs :=
  ⟨h.len, h.small, fun hn => by
    obtain ⟨b, cur, rfl, hB, hb, r⟩ := h.at' hn
    exact ⟨b, cur, rfl, hB, (hc.block b (hd ⟨b, 0, none⟩ rfl hn)).trans hb, r⟩⟩
theorem Own.lo {w : World} {lo hi n : Nat} {a : Option Addr} {zs : List Int} (h : Own w lo hi a n zs) (hn : 0 < n) : ∀ x, a = some x → lo ≤ x.block := fun x hx => by
  obtain ⟨b, cur, e, hB, _⟩ := h.own.at' hn
  rw [hx] at e
  have : x = ⟨b, 0, none⟩ := by simpa using e
  rw [this]; exact hB
theorem Own.chg {w w' : World} {lo hi lo' hi' n : Nat} {a : Option Addr} {zs : List Int} (h : Own w lo hi a n zs) (hc : Chg lo' hi' w w') (hd : hi ≤ lo' ∨ hi' ≤ lo) : Own w' lo hi a n zs :=
  ⟨h.own.chg hc (fun x hx hn => by
    have h1 := h.top hn x hx
    have h2 := h.lo hn x hx
    omega), h.top⟩
theorem Own.below {w w' : World} {lo hi n : Nat} {a : Option Addr} {zs : List Int} (h : Own w lo hi a n zs) (hb : Below w.heap.size w w') : Own w' lo hi a n zs := ⟨h.own.below hb, h.top⟩
theorem Own.row {w : World} {lo hi n : Nat} {a : Option Addr} {zs : List Int} (h : Own w lo hi a n zs) : RowAt w a n zs := h.own.row
theorem Own.of {w : World} {lo n : Nat} {a : Option Addr} {zs : List Int} (h : OwnAt w lo a n zs) : Own w lo w.heap.size a n zs :=
  ⟨h, fun hn x hx => by
    obtain ⟨b, cur, e, _, hb, _⟩ := h.at' hn
    rw [hx] at e
    have : x = ⟨b, 0, none⟩ := by simpa using e
    rw [this]; exact lt_of_heap hb⟩
theorem Box.chg {w w' : World} {lo hi B : Nat} {p pw g : Int} (h : Box w B p pw g) (hc : Chg lo hi w w') (hB : B < lo) : Box w' B p pw g :=
  h.below (hc.below (Nat.le_refl lo)) hB
set_option maxHeartbeats 400000 in
theorem mark2_any {w : World} {lo hi n cap : Nat} {a : Option Addr} {zs : List Int} (h : Own w lo hi a n zs) (hn : n ≤ 1048576) (k : Int) (hk0 : 0 ≤ k) (hk : k ≤ 4194304) :
    Calls Try.prog 20 #[.slice a n cap, .int .i64 k] w fun e w' => e = .returned (.int .i64 (k + n)) ∧ Chg lo hi w w' ∧ Own w' lo hi a n (upFrom k n) := by
  have H := Lib.hid h
  have hlen := h.own.len
  clear h
  go_enter Try.func20, Try.ntmps20
  go_wp2_with fail
  go_loopw [1, 5] (fun kk t wr => ∃ m : Nat, m ≤ n ∧ t = .int .i64 m ∧ kk = .int .i64 (k + m) ∧ Hid (OwnAt wr lo a n (markTo zs k m)) ∧ Hid (Chg lo hi w wr)) (fun _ t _ => n - (intOf t).toNat)
  case atStart => exact ⟨0, by omega, rfl, by simp, H.out.own, Chg.refl _ _ _⟩
  case round =>
    obtain ⟨m, hm, rfl, rfl, ho, hg⟩ := hrel
    by_cases hlt : m < n
    · obtain ⟨b, cur, rfl, hlo, _⟩ := ho.out.at' (by omega)
      obtain ⟨hc, hf, hb⟩ := ho.out.place hlt
      have hhi := H.out.top (by omega) _ rfl
      have ho2 := Lib.hid (by have := ho.out.set hlt (k + m); rw [← markTo_set _ _ _ (by omega)] at this; exact this)
      have hg2 := Lib.hid (hg.out.set hlo hhi m (.int .i64 (k + m)))
      have e1 : k + (m : Int) + 1 = k + ((m + 1 : Nat) : Int) := by omega
      have E1 := Lib.hid e1
      clear hlen e1
      go_wp2_with fail
      go_roundw
      case rel => exact ⟨m + 1, by omega, by go_num, by rw [E1.out], ho2, hg2⟩
      case measure => simp [intOf]; omega
    · obtain rfl : m = n := by omega
      have hfin := Lib.hid (show OwnAt wr lo a m (upFrom k m) by have := ho.out; unfold markTo at this; rw [List.drop_of_length_le (by omega), List.append_nil] at this; exact this)
      clear hlen
      go_wp2_with fail
      go_ret
      exact ⟨rfl, hg.out, hfin.out, H.out.top⟩
end Go.Proofs.Ytenlaoadclfmaaa
