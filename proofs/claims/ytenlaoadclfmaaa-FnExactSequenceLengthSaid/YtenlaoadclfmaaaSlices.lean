/-
  Slices of integers that a call owns; the walks of the laws' helpers on them.
-/
import Derived.Test.YtenlaoadclfmaaaSpecEl
import Derived.Laws.MakeOwn
import Derived.OwnWalk
namespace Go.Proofs.Ytenlaoadclfmaaa
open Go.RowKit
set_option linter.unusedVariables false

/-- A slice of integers in a block of the call's own, from B on. -/
structure OwnAt (w : World) (B : Nat) (a : Option Addr) (n : Nat) (zs : List Int) : Prop where
  len : zs.length = n
  small : n ≤ 9223372036854775807
  at' : 0 < n → ∃ b cur, a = some ⟨b, 0, none⟩ ∧ B ≤ b ∧ w.heap[b]? = some (.cells cur 2 (0, 0)) ∧ n ≤ cur.size ∧ ∀ j, j < n → cur[j]? = some (.int .i64 (gi zs j))
theorem cell_of_heap {w : World} {b : Nat} {cur : Array Value} {t : TypeId} {fz : Nat × Nat} (h : w.heap[b]? = some (.cells cur t fz)) (o : Nat) : w.cell? ⟨b, o, none⟩ = cur[o]? := by
  unfold World.cell?; rw [h]; rfl
theorem frozen_of_heap {w : World} {b : Nat} {cur : Array Value} {t : TypeId} (h : w.heap[b]? = some (.cells cur t (0, 0))) (o : Nat) : w.frozen? ⟨b, o, none⟩ = false := by
  unfold World.frozen?; rw [h]; simp
theorem lt_of_heap {w : World} {b : Nat} {o : Obj} (h : w.heap[b]? = some o) : b < w.heap.size := (Array.getElem?_eq_some_iff.1 h).1
theorem OwnAt.row {w : World} {B n : Nat} {a : Option Addr} {zs : List Int} (h : OwnAt w B a n zs) : RowAt w a n zs :=
  ⟨h.len, h.small, fun hn => by
    obtain ⟨b, cur, rfl, _, hb, _, hc⟩ := h.at' hn
    exact ⟨b, 0, rfl, lt_of_heap hb, fun j hj => by rw [cell_of_heap hb, Nat.zero_add]; exact hc j hj⟩⟩
theorem OwnAt.grown {w w' : World} {B n : Nat} {a : Option Addr} {zs : List Int} (h : OwnAt w B a n zs) {r : Option Nat} (hg : w.grownBy w' r) (hr : ∀ b, r = some b → b < B) : OwnAt w' B a n zs :=
  ⟨h.len, h.small, fun hn => by
    obtain ⟨b, cur, rfl, hB, hb, hs, hc⟩ := h.at' hn
    exact ⟨b, cur, rfl, hB, (hg.block b (lt_of_heap hb) (fun e => by have := hr b e.symm; omega)).trans hb, hs, hc⟩⟩
theorem OwnAt.below {w w' : World} {B n : Nat} {a : Option Addr} {zs : List Int} (h : OwnAt w B a n zs) (hb : Below w.heap.size w w') : OwnAt w' B a n zs :=
  ⟨h.len, h.small, fun hn => by
    obtain ⟨b, cur, rfl, hB, hbk, hs, hc⟩ := h.at' hn
    exact ⟨b, cur, rfl, hB, (hb.block b (lt_of_heap hbk)).trans hbk, hs, hc⟩⟩
theorem OwnAt.mono {w : World} {B B' n : Nat} {a : Option Addr} {zs : List Int} (h : OwnAt w B a n zs) (hB : B' ≤ B) : OwnAt w B' a n zs :=
  ⟨h.len, h.small, fun hn => by
    obtain ⟨b, cur, rfl, hb, r⟩ := h.at' hn
    exact ⟨b, cur, rfl, by omega, r⟩⟩
theorem OwnAt.nil (w : World) (B : Nat) (a : Option Addr) : OwnAt w B a 0 [] := ⟨rfl, by omega, fun h => by omega⟩
/-- The block of an address. -/
def blk (a : Option Addr) : Option Nat := a.map (·.block)
theorem RowAt.grown {w w' : World} {n : Nat} {a : Option Addr} {zs : List Int} (h : RowAt w a n zs) {r : Option Nat} (hg : w.grownBy w' r) (hr : ∀ b, blk a = some b → r ≠ some b) : RowAt w' a n zs :=
  ⟨h.len, h.small, fun hn => by
    obtain ⟨b, off, rfl, hlt, hc⟩ := h.at' hn
    exact ⟨b, off, rfl, by have := hg.size; omega, fun j hj => (World.cell?_of_block (hg.block b hlt (fun e => hr b rfl e.symm))).trans (hc j hj)⟩⟩
/-- The numbers from k on. -/
def upFrom (k : Int) : Nat → List Int
  | 0 => []
  | n + 1 => upFrom k n ++ [k + n]
theorem upFrom_length (k : Int) (n : Nat) : (upFrom k n).length = n := by
  induction n with
  | zero => rfl
  | succ n ih => simp [upFrom, ih]
theorem upFrom_gi (k : Int) (n j : Nat) (hj : j < n) : gi (upFrom k n) j = k + j := by
  induction n with
  | zero => omega
  | succ n ih =>
    unfold gi at *
    show (upFrom k n ++ [k + n]).getD j 0 = _
    by_cases e : j = n
    · subst e
      rw [List.getD_eq_getElem?_getD, List.getElem?_append_right (by rw [upFrom_length]; omega), upFrom_length]; simp
    · rw [List.getD_eq_getElem?_getD, List.getElem?_append_left (by rw [upFrom_length]; omega), ← List.getD_eq_getElem?_getD]; exact ih (by omega)
theorem grownBy_refl (w : World) (r : Option Nat) : w.grownBy w r := ⟨rfl, rfl, rfl, Nat.le_refl _, fun _ _ _ => rfl⟩
theorem grownBy_set (w : World) (b o : Nat) (v : Value) : w.grownBy (w.setCell ⟨b, o, none⟩ v) (some b) :=
  ⟨rfl, rfl, rfl, by simp [World.setCell], fun k _ h => Below.heap_setCell _ _ _ _ (fun e => h (by rw [e]))⟩
theorem grownBy_trans {w w1 w2 : World} {r : Option Nat} (h : w.grownBy w1 r) (h2 : w1.grownBy w2 r) : w.grownBy w2 r :=
  ⟨h2.os.trans h.os, h2.tape.trans h.tape, h2.output.trans h.output, Nat.le_trans h.size h2.size, fun k hk hr => (h2.block k (Nat.lt_of_lt_of_le hk h.size) hr).trans (h.block k hk hr)⟩
theorem below_of_grown {w w' : World} {r : Option Nat} {B : Nat} (h : w.grownBy w' r) (hB : B ≤ w.heap.size) (hr : ∀ b, r = some b → B ≤ b) : Below B w w' :=
  (Below.refl B w).grown h hB hr
/-- A list behind a store, as far as marks have come. -/
def markTo (zs : List Int) (k : Int) (m : Nat) : List Int := upFrom k m ++ zs.drop m
theorem markTo_length (zs : List Int) (k : Int) (m : Nat) (h : m ≤ zs.length) : (markTo zs k m).length = zs.length := by
  unfold markTo; rw [List.length_append, upFrom_length, List.length_drop]; omega
theorem gi_append_left {l m : List Int} {j : Nat} (h : j < l.length) : gi (l ++ m) j = gi l j := by
  unfold gi; rw [List.getD_eq_getElem?_getD, List.getElem?_append_left h, ← List.getD_eq_getElem?_getD]
theorem gi_append_right {l m : List Int} {j : Nat} (h : l.length ≤ j) : gi (l ++ m) j = gi m (j - l.length) := by
  unfold gi; rw [List.getD_eq_getElem?_getD, List.getElem?_append_right h, ← List.getD_eq_getElem?_getD]
theorem gi_drop (l : List Int) (m j : Nat) : gi (l.drop m) j = gi l (m + j) := by
  unfold gi; rw [List.getD_eq_getElem?_getD, List.getElem?_drop, ← List.getD_eq_getElem?_getD]
theorem gi_set {l : List Int} {i j : Nat} {v : Int} (hi : i < l.length) : gi (l.set i v) j = if j = i then v else gi l j := by
  unfold gi
  rw [List.getD_eq_getElem?_getD]
  by_cases e : j = i
  · subst e; rw [if_pos rfl, List.getElem?_set_self hi]; rfl
  · rw [if_neg e, List.getElem?_set_ne (by omega), ← List.getD_eq_getElem?_getD]
theorem markTo_set (zs : List Int) (k : Int) (m : Nat) (h : m < zs.length) : markTo zs k (m + 1) = (markTo zs k m).set m (k + m) := by
  apply List.ext_getElem
  · rw [List.length_set, markTo_length _ _ _ h, markTo_length _ _ _ (by omega)]
  · intro j h1 h2
    have e1 : ∀ (l : List Int) (hj : j < l.length), l[j] = gi l j := fun l hj => by unfold gi; rw [List.getD_eq_getElem?_getD, List.getElem?_eq_getElem hj]; rfl
    rw [e1, e1, gi_set (by rw [markTo_length _ _ _ (by omega)]; exact h)]
    rw [markTo_length _ _ _ h] at h1
    unfold markTo
    by_cases hj : j < m
    · rw [if_neg (by omega), gi_append_left (by rw [upFrom_length]; omega), gi_append_left (by rw [upFrom_length]; omega), upFrom_gi _ _ _ (by omega), upFrom_gi _ _ _ hj]
    · by_cases e : j = m
      · subst e; rw [if_pos rfl, gi_append_left (by rw [upFrom_length]; omega), upFrom_gi _ _ _ (by omega)]
      · rw [if_neg e, gi_append_right (by rw [upFrom_length]; omega), gi_append_right (by rw [upFrom_length]; omega), upFrom_length, upFrom_length, gi_drop, gi_drop]
        congr 1; omega
theorem OwnAt.set {w : World} {B n b : Nat} {zs : List Int} (h : OwnAt w B (some ⟨b, 0, none⟩) n zs) {i : Nat} (hi : i < n) (v : Int) : OwnAt (w.setCell ⟨b, i, none⟩ (.int .i64 v)) B (some ⟨b, 0, none⟩) n (zs.set i v) :=
  ⟨by rw [List.length_set]; exact h.len, h.small, fun hn => by
    obtain ⟨b', cur, e, hB, hb, hs, hc⟩ := h.at' hn
    obtain rfl : b = b' := by simpa using e
    refine ⟨b, _, rfl, hB, heap_setCell_self _ _ _ _ _ _ _ hb, by simpa using hs, fun j hj => ?_⟩
    rw [gi_set (by rw [h.len]; exact hi)]
    by_cases e : j = i
    · subst e; rw [if_pos rfl, Array.getElem?_setIfInBounds_self_of_lt (by omega)]
    · rw [if_neg e, Array.getElem?_setIfInBounds_ne (by omega)]; exact hc j hj⟩
/-- What a walk needs of one place of an owned slice. -/
theorem OwnAt.place {w : World} {B n b : Nat} {zs : List Int} (h : OwnAt w B (some ⟨b, 0, none⟩) n zs) {i : Nat} (hi : i < n) : w.cell? ⟨b, i, none⟩ = some (.int .i64 (gi zs i)) ∧ w.frozen? ⟨b, i, none⟩ = false ∧ b < w.heap.size := by
  obtain ⟨b', cur, e, hB, hb, hs, hc⟩ := h.at' (by omega)
  obtain rfl : b = b' := by simpa using e
  exact ⟨by rw [cell_of_heap hb]; exact hc i hi, frozen_of_heap hb i, lt_of_heap hb⟩
set_option maxHeartbeats 400000 in
theorem mark_any {w : World} {B n cap : Nat} {a : Option Addr} {zs : List Int} (h : OwnAt w B a n zs) (hn : n ≤ 1048576) (k : Int) (hk0 : 0 ≤ k) (hk : k ≤ 4194304) :
    Calls Try.prog 20 #[.slice a n cap, .int .i64 k] w fun e w' => e = .returned (.int .i64 (k + n)) ∧ w.grownBy w' (blk a) ∧ OwnAt w' B a n (upFrom k n) := by
  have H := Lib.hid h
  have hlen := h.len
  clear h
  go_enter Try.func20, Try.ntmps20
  go_wp2_with fail
  go_loopw [1, 5] (fun kk t wr => ∃ m : Nat, m ≤ n ∧ t = .int .i64 m ∧ kk = .int .i64 (k + m) ∧ Hid (OwnAt wr B a n (markTo zs k m)) ∧ Hid (w.grownBy wr (blk a))) (fun _ t _ => n - (intOf t).toNat)
  case atStart => exact ⟨0, by omega, rfl, by simp, H, grownBy_refl _ _⟩
  case round =>
    obtain ⟨m, hm, rfl, rfl, ho, hg⟩ := hrel
    by_cases hlt : m < n
    · obtain ⟨b, cur, rfl, _⟩ := ho.out.at' (by omega)
      obtain ⟨hc, hf, hb⟩ := ho.out.place hlt
      have ho2 := Lib.hid (by have := ho.out.set hlt (k + m); rw [← markTo_set _ _ _ (by omega)] at this; exact this)
      have hg2 := Lib.hid (grownBy_trans hg.out (grownBy_set wr b m (.int .i64 (k + m))))
      have e1 : k + (m : Int) + 1 = k + ((m + 1 : Nat) : Int) := by omega
      have E1 := Lib.hid e1
      clear hlen e1
      go_wp2_with fail
      go_roundw
      case rel => exact ⟨m + 1, by omega, by go_num, by rw [E1.out], ho2, hg2⟩
      case measure => simp [intOf]; omega
    · obtain rfl : m = n := by omega
      have hfin := Lib.hid (show OwnAt wr B a m (upFrom k m) by have := ho.out; unfold markTo at this; rw [List.drop_of_length_le (by omega), List.append_nil] at this; exact this)
      clear hlen
      go_wp2_with fail
      go_ret
      exact ⟨rfl, hg.out, hfin.out⟩
end Go.Proofs.Ytenlaoadclfmaaa
