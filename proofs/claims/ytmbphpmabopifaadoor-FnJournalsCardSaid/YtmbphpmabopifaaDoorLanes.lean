/-
  The parts Slices, Slices2, IsPoly, Eval, FieldAdd.
-/
import Derived.Test.YtmbphpmabopifaaDoorSpecFl
import Derived.Laws.MakeOwn
import Derived.OwnWalk
import Derived.Deep.QuietTactic
import Derived.BigQuiet
import Derived.WalkSmall
import Derived.Deep.RegionHeld3
/-
  Slices of integers that a call owns; the walks of the laws' helpers on them.
-/
namespace Go.Proofs.YtmbphpmabopifaaDoor
open Go.RowKit
set_option linter.unusedVariables false

/-- A slice of integers in a block of the call's own, from B on. -/
structure OwnAt (w : World) (B : Nat) (a : Option Addr) (n : Nat) (zs : List Int) : Prop where
  len : zs.length = n
  small : n ≤ 9223372036854775807
  at' : 0 < n → ∃ b cur, a = some ⟨b, 0, none⟩ ∧ B ≤ b ∧ w.heap[b]? = some (.cells cur 2 (0, 0)) ∧ n ≤ cur.size ∧ ∀ j, j < n → cur[j]? = some (.int .i64 (gi zs j))
theorem cell_of_heap {w : World} {b : Nat} {cur : Array Value} {t : TypeId} {fz : Nat × Nat} (h : w.heap[b]? = some (.cells cur t fz)) (o : Nat) : w.cell? ⟨b, o, none⟩ = cur[o]? := by
  unfold World.cell?; rw [h]; rfl
theorem frozen_of_heap {w : World} {b : Nat} {cur : Array Value} {t : TypeId} (h : w.heap[b]? = some (.cells cur t (0, 0))) (o : Nat) : w.frozen? ⟨b, o, none⟩ = false := by
  unfold World.frozen?; rw [h]; simp
theorem lt_of_heap {w : World} {b : Nat} {o : Obj} (h : w.heap[b]? = some o) : b < w.heap.size := (Array.getElem?_eq_some_iff.1 h).1
theorem OwnAt.row {w : World} {B n : Nat} {a : Option Addr} {zs : List Int} (h : OwnAt w B a n zs) : RowAt w a n zs :=
  ⟨h.len, h.small, fun hn => by
    obtain ⟨b, cur, rfl, _, hb, _, hc⟩ := h.at' hn
    exact ⟨b, 0, rfl, lt_of_heap hb, fun j hj => by rw [cell_of_heap hb, Nat.zero_add]; exact hc j hj⟩⟩
theorem OwnAt.grown {w w' : World} {B n : Nat} {a : Option Addr} {zs : List Int} (h : OwnAt w B a n zs) {r : Option Nat} (hg : w.grownBy w' r) (hr : ∀ b, r = some b → b < B) : OwnAt w' B a n zs :=
  ⟨h.len, h.small, fun hn => by
    obtain ⟨b, cur, rfl, hB, hb, hs, hc⟩ := h.at' hn
    exact ⟨b, cur, rfl, hB, (hg.block b (lt_of_heap hb) (fun e => by have := hr b e.symm; omega)).trans hb, hs, hc⟩⟩
theorem OwnAt.below {w w' : World} {B n : Nat} {a : Option Addr} {zs : List Int} (h : OwnAt w B a n zs) (hb : Below w.heap.size w w') : OwnAt w' B a n zs :=
  ⟨h.len, h.small, fun hn => by
    obtain ⟨b, cur, rfl, hB, hbk, hs, hc⟩ := h.at' hn
    exact ⟨b, cur, rfl, hB, (hb.block b (lt_of_heap hbk)).trans hbk, hs, hc⟩⟩
theorem OwnAt.mono {w : World} {B B' n : Nat} {a : Option Addr} {zs : List Int} (h : OwnAt w B a n zs) (hB : B' ≤ B) : OwnAt w B' a n zs :=
  ⟨h.len, h.small, fun hn => by
    obtain ⟨b, cur, rfl, hb, r⟩ := h.at' hn
    exact ⟨b, cur, rfl, by omega, r⟩⟩
theorem OwnAt.nil (w : World) (B : Nat) (a : Option Addr) : OwnAt w B a 0 [] := ⟨rfl, by omega, fun h => by omega⟩
/-- The block of an address. -/
def blk (a : Option Addr) : Option Nat := a.map (·.block)
theorem RowAt.grown {w w' : World} {n : Nat} {a : Option Addr} {zs : List Int} (h : RowAt w a n zs) {r : Option Nat} (hg : w.grownBy w' r) (hr : ∀ b, blk a = some b → r ≠ some b) : RowAt w' a n zs :=
  ⟨h.len, h.small, fun hn => by
    obtain ⟨b, off, rfl, hlt, hc⟩ := h.at' hn
    exact ⟨b, off, rfl, by have := hg.size; omega, fun j hj => (World.cell?_of_block (hg.block b hlt (fun e => hr b rfl e.symm))).trans (hc j hj)⟩⟩
/-- The numbers from k on. -/
def upFrom (k : Int) : Nat → List Int
  | 0 => []
  | n + 1 => upFrom k n ++ [k + n]
theorem upFrom_length (k : Int) (n : Nat) : (upFrom k n).length = n := by
  induction n with
  | zero => rfl
  | succ n ih => simp [upFrom, ih]
theorem upFrom_gi (k : Int) (n j : Nat) (hj : j < n) : gi (upFrom k n) j = k + j := by
  induction n with
  | zero => omega
  | succ n ih =>
    unfold gi at *
    show (upFrom k n ++ [k + n]).getD j 0 = _
    by_cases e : j = n
    · subst e
      rw [List.getD_eq_getElem?_getD, List.getElem?_append_right (by rw [upFrom_length]; omega), upFrom_length]; simp
    · rw [List.getD_eq_getElem?_getD, List.getElem?_append_left (by rw [upFrom_length]; omega), ← List.getD_eq_getElem?_getD]; exact ih (by omega)
theorem grownBy_refl (w : World) (r : Option Nat) : w.grownBy w r := ⟨rfl, rfl, rfl, Nat.le_refl _, fun _ _ _ => rfl⟩
theorem grownBy_set (w : World) (b o : Nat) (v : Value) : w.grownBy (w.setCell ⟨b, o, none⟩ v) (some b) :=
  ⟨rfl, rfl, rfl, by simp [World.setCell], fun k _ h => Below.heap_setCell _ _ _ _ (fun e => h (by rw [e]))⟩
theorem grownBy_trans {w w1 w2 : World} {r : Option Nat} (h : w.grownBy w1 r) (h2 : w1.grownBy w2 r) : w.grownBy w2 r :=
  ⟨h2.os.trans h.os, h2.tape.trans h.tape, h2.output.trans h.output, Nat.le_trans h.size h2.size, fun k hk hr => (h2.block k (Nat.lt_of_lt_of_le hk h.size) hr).trans (h.block k hk hr)⟩
theorem below_of_grown {w w' : World} {r : Option Nat} {B : Nat} (h : w.grownBy w' r) (hB : B ≤ w.heap.size) (hr : ∀ b, r = some b → B ≤ b) : Below B w w' :=
  (Below.refl B w).grown h hB hr
/-- A list behind a store, as far as marks have come. -/
def markTo (zs : List Int) (k : Int) (m : Nat) : List Int := upFrom k m ++ zs.drop m
theorem markTo_length (zs : List Int) (k : Int) (m : Nat) (h : m ≤ zs.length) : (markTo zs k m).length = zs.length := by
  unfold markTo; rw [List.length_append, upFrom_length, List.length_drop]; omega
theorem gi_append_left {l m : List Int} {j : Nat} (h : j < l.length) : gi (l ++ m) j = gi l j := by
  unfold gi; rw [List.getD_eq_getElem?_getD, List.getElem?_append_left h, ← List.getD_eq_getElem?_getD]
theorem gi_append_right {l m : List Int} {j : Nat} (h : l.length ≤ j) : gi (l ++ m) j = gi m (j - l.length) := by
  unfold gi; rw [List.getD_eq_getElem?_getD, List.getElem?_append_right h, ← List.getD_eq_getElem?_getD]
theorem gi_drop (l : List Int) (m j : Nat) : gi (l.drop m) j = gi l (m + j) := by
  unfold gi; rw [List.getD_eq_getElem?_getD, List.getElem?_drop, ← List.getD_eq_getElem?_getD]
theorem gi_set {l : List Int} {i j : Nat} {v : Int} (hi : i < l.length) : gi (l.set i v) j = if j = i then v else gi l j := by
  unfold gi
  rw [List.getD_eq_getElem?_getD]
  by_cases e : j = i
  · subst e; rw [if_pos rfl, List.getElem?_set_self hi]; rfl
  · rw [if_neg e, List.getElem?_set_ne (by omega), ← List.getD_eq_getElem?_getD]
theorem markTo_set (zs : List Int) (k : Int) (m : Nat) (h : m < zs.length) : markTo zs k (m + 1) = (markTo zs k m).set m (k + m) := by
  apply List.ext_getElem
  · rw [List.length_set, markTo_length _ _ _ h, markTo_length _ _ _ (by omega)]
  · intro j h1 h2
    have e1 : ∀ (l : List Int) (hj : j < l.length), l[j] = gi l j := fun l hj => by unfold gi; rw [List.getD_eq_getElem?_getD, List.getElem?_eq_getElem hj]; rfl
    rw [e1, e1, gi_set (by rw [markTo_length _ _ _ (by omega)]; exact h)]
    rw [markTo_length _ _ _ h] at h1
    unfold markTo
    by_cases hj : j < m
    · rw [if_neg (by omega), gi_append_left (by rw [upFrom_length]; omega), gi_append_left (by rw [upFrom_length]; omega), upFrom_gi _ _ _ (by omega), upFrom_gi _ _ _ hj]
    · by_cases e : j = m
      · subst e; rw [if_pos rfl, gi_append_left (by rw [upFrom_length]; omega), upFrom_gi _ _ _ (by omega)]
      · rw [if_neg e, gi_append_right (by rw [upFrom_length]; omega), gi_append_right (by rw [upFrom_length]; omega), upFrom_length, upFrom_length, gi_drop, gi_drop]
        congr 1; omega
theorem OwnAt.set {w : World} {B n b : Nat} {zs : List Int} (h : OwnAt w B (some ⟨b, 0, none⟩) n zs) {i : Nat} (hi : i < n) (v : Int) : OwnAt (w.setCell ⟨b, i, none⟩ (.int .i64 v)) B (some ⟨b, 0, none⟩) n (zs.set i v) :=
  ⟨by rw [List.length_set]; exact h.len, h.small, fun hn => by
    obtain ⟨b', cur, e, hB, hb, hs, hc⟩ := h.at' hn
    obtain rfl : b = b' := by simpa using e
    refine ⟨b, _, rfl, hB, heap_setCell_self _ _ _ _ _ _ _ hb, by simpa using hs, fun j hj => ?_⟩
    rw [gi_set (by rw [h.len]; exact hi)]
    by_cases e : j = i
    · subst e; rw [if_pos rfl, Array.getElem?_setIfInBounds_self_of_lt (by omega)]
    · rw [if_neg e, Array.getElem?_setIfInBounds_ne (by omega)]; exact hc j hj⟩
/-- What a walk needs of one place of an owned slice. -/
theorem OwnAt.place {w : World} {B n b : Nat} {zs : List Int} (h : OwnAt w B (some ⟨b, 0, none⟩) n zs) {i : Nat} (hi : i < n) : w.cell? ⟨b, i, none⟩ = some (.int .i64 (gi zs i)) ∧ w.frozen? ⟨b, i, none⟩ = false ∧ b < w.heap.size := by
  obtain ⟨b', cur, e, hB, hb, hs, hc⟩ := h.at' (by omega)
  obtain rfl : b = b' := by simpa using e
  exact ⟨by rw [cell_of_heap hb]; exact hc i hi, frozen_of_heap hb i, lt_of_heap hb⟩
end Go.Proofs.YtmbphpmabopifaaDoor
/-
  The walks of the laws' helpers: comparing, checking the marks, copying.
-/
namespace Go.Proofs.YtmbphpmabopifaaDoor
open Go.RowKit
set_option linter.unusedVariables false

theorem RowAt.drewN {w : World} {n : Nat} {a : Option Addr} {zs : List Int} (h : RowAt w a n zs) (m : Nat) : RowAt (w.drewN m) a n zs :=
  ⟨h.len, h.small, fun hn => by
    obtain ⟨b, off, rfl, hlt, hc⟩ := h.at' hn
    exact ⟨b, off, rfl, hlt, fun j hj => (World.cell?_of_block rfl).trans (hc j hj)⟩⟩
theorem list_ext_gi {l m : List Int} (h : l.length = m.length) (he : ∀ j, j < l.length → gi l j = gi m j) : l = m := by
  apply List.ext_getElem h
  intro j h1 h2
  have := he j h1
  unfold gi at this
  rw [List.getD_eq_getElem?_getD, List.getD_eq_getElem?_getD, List.getElem?_eq_getElem h1, List.getElem?_eq_getElem h2] at this
  exact this
theorem drewN_drewN (w : World) (a b : Nat) : (w.drewN a).drewN b = w.drewN (a + b) := by
  unfold World.drewN; simp [Nat.add_assoc]
theorem info_int : (Tryd.prog.info? 2).map (fun i => (i.zero, i.size, i.bytes)) = some (some (.int .i64 0), 1, 8) := by kernel_rfl
/-- A new row of zeros. -/
theorem own_zeros (w : World) (n : Nat) (hn : n ≤ 9223372036854775807) : OwnAt (w.alloc (.cells (madeCells #[.int .i64 0] n) 2)) w.heap.size (some ⟨w.heap.size, 0, none⟩) n (List.replicate n 0) :=
  ⟨List.length_replicate, hn, fun _ => ⟨_, _, rfl, Nat.le_refl _, heap_alloc_new w _, by simp [madeCells], fun j hj => by
    have e : gi (List.replicate n 0) j = 0 := by unfold gi; rw [List.getD_eq_getElem?_getD, List.getElem?_replicate]; split <;> rfl
    rw [e]; simp [madeCells, hj, Nat.mod_one]⟩⟩
theorem run_make_ints (w : World) (t : TypeId) (ht : Tryd.prog.underlying t = some (.slice 2)) (n : Int) (h0 : 0 ≤ n) (hn : n ≤ 16777216) :
    (Instr.makeSlice t (.int .i64 n) (.int .i64 n)).run Tryd.prog w = .ok (.slice (some ⟨w.heap.size, 0, none⟩) n.toNat n.toNat) (w.alloc (.cells (madeCells #[.int .i64 0] n.toNat) 2)) := by
  obtain ⟨i0, hi, hz0, hz1, hz2⟩ := info_parts info_int
  have := run_make (P := Tryd.prog) w t 2 i0 _ ht hi hz0 .i64 .i64 n n h0 (Int.le_refl _) (by rw [hz2]; omega) (by omega)
  rw [hz1, Nat.mul_one] at this
  exact this
/-- A copy, as far as it has come. -/
def copyTo (zs : List Int) (k : Nat) : List Int := zs.take k ++ List.replicate (zs.length - k) 0
theorem copyTo_length (zs : List Int) (k : Nat) (h : k ≤ zs.length) : (copyTo zs k).length = zs.length := by
  unfold copyTo; rw [List.length_append, List.length_take, List.length_replicate]; omega
theorem copyTo_end (zs : List Int) (k : Nat) (h : zs.length ≤ k) : copyTo zs k = zs := by
  unfold copyTo; rw [List.take_of_length_le h, show zs.length - k = 0 by omega]; simp
theorem gi_take {l : List Int} {k j : Nat} (h : j < k) : gi (l.take k) j = gi l j := by
  unfold gi; rw [VF.getD_take, if_pos h]
theorem gi_replicate (n j : Nat) : gi (List.replicate n 0) j = 0 := by
  unfold gi; rw [List.getD_eq_getElem?_getD, List.getElem?_replicate]; split <;> rfl
theorem copyTo_set (zs : List Int) (k : Nat) (h : k < zs.length) : copyTo zs (k + 1) = (copyTo zs k).set k (gi zs k) := by
  apply list_ext_gi
  · rw [List.length_set, copyTo_length _ _ h, copyTo_length _ _ (by omega)]
  · intro j hj
    rw [copyTo_length _ _ h] at hj
    rw [gi_set (by rw [copyTo_length _ _ (by omega)]; exact h)]
    unfold copyTo
    by_cases h1 : j < k
    · rw [if_neg (by omega), gi_append_left (by rw [List.length_take]; omega), gi_append_left (by rw [List.length_take]; omega), gi_take (by omega), gi_take h1]
    · by_cases e : j = k
      · subst e; rw [if_pos rfl, gi_append_left (by rw [List.length_take]; omega), gi_take (by omega)]
      · rw [if_neg e, gi_append_right (by rw [List.length_take]; omega), gi_append_right (by rw [List.length_take]; omega), gi_replicate, gi_replicate]
end Go.Proofs.YtmbphpmabopifaaDoor
/-
  The walks of the checks of polynomials.
-/
namespace Go.Proofs.YtmbphpmabopifaaDoor
open Go.RowKit
set_option linter.unusedVariables false

/-- No zero at the end, as a Bool. -/
def tightB (zs : List Int) : Bool := zs.length == 0 || gi zs (zs.length - 1) != 0
/-- Whether a list is a polynomial. -/
def polyB (F : FF) (zs : List Int) : Bool := decide (zs.length ≤ 512) && (allB F zs && tightB zs)
theorem polyB_long {F : FF} {zs : List Int} (h : 512 < zs.length) : polyB F zs = false := by
  unfold polyB; rw [decide_eq_false (by omega)]; rfl
theorem polyB_all {F : FF} {zs : List Int} (h : allB F zs = false) : polyB F zs = false := by
  unfold polyB; rw [h]; simp
theorem polyB_rest {F : FF} {zs : List Int} (h : zs.length ≤ 512) (h2 : allB F zs = true) : polyB F zs = tightB zs := by
  unfold polyB; rw [decide_eq_true h, h2]; rfl
theorem tightB_nil {zs : List Int} (h : zs.length = 0) : tightB zs = true := by unfold tightB; simp [h]
theorem tightB_last {zs : List Int} {n : Nat} (hn : zs.length = n) (h : 0 < n) : tightB zs = (gi zs (n - 1) != 0) := by
  unfold tightB; rw [hn]
  have : (n == 0) = false := by simp; omega
  rw [this]; rfl
end Go.Proofs.YtmbphpmabopifaaDoor
/-
  The walks of the value of a polynomial, in the program and in the reference.
-/
namespace Go.Proofs.YtmbphpmabopifaaDoor
open Go.RowKit
set_option linter.unusedVariables false

theorem Cal.drewN {w : World} {b : Nat} {F : FF} (h : Cal w b F) (n : Nat) : Cal (w.drewN n) b F :=
  ⟨h.ok, h.lt, (World.cell?_of_block rfl).trans h.bin, (World.cell?_of_block rfl).trans h.size, fun m hm => (World.cell?_of_block rfl).trans (h.exp m hm), fun a ha h0 => (World.cell?_of_block rfl).trans (h.log a ha h0)⟩
theorem Cal.below {w w' : World} {b : Nat} {F : FF} (h : Cal w b F) (hb : Below w.heap.size w w') : Cal w' b F :=
  ⟨h.ok, by have := hb.size; have := h.lt; omega, (hb.cell (p := ⟨b, 0, none⟩) h.lt).trans h.bin, (hb.cell (p := ⟨b, 1, none⟩) h.lt).trans h.size,
    fun m hm => (hb.cell (p := ⟨b, 2 + m, none⟩) h.lt).trans (h.exp m hm), fun a ha h0 => (hb.cell (p := ⟨b, 1023 + a.toNat, none⟩) h.lt).trans (h.log a ha h0)⟩
/-- The value of a polynomial, as both reckon it. -/
def evI (F : FF) : List Int → Int → Int
  | [], _ => 0
  | a :: l, x => F.add (F.mul (evI F l x) x) a
theorem evI_drop (F : FF) (l : List Int) (x : Int) (k : Nat) (hk : k < l.length) : evI F (l.drop k) x = F.add (F.mul (evI F (l.drop (k + 1)) x) x) (gi l k) := by
  rw [VF.drop_getD l k hk]; rfl
theorem evI_el {F : FF} (h : F.ok) {l : List Int} (hl : ∀ z ∈ l, F.el z) (x : Int) : F.el (evI F l x) := by
  induction l with
  | nil => exact FF.zero_el h
  | cons a l ih => exact FF.add_el h (FF.mul_el h _ _) (hl a (by simp))
theorem el_gi {F : FF} (h : F.ok) {l : List Int} (hl : ∀ z ∈ l, F.el z) (k : Nat) : F.el (gi l k) := VF.els.getD (V := ⟨F, h⟩) hl k
/-- The later world is the earlier one but for draws. -/
def Drew (w w' : World) : Prop := ∃ q, w' = w.drewN q
theorem Drew.refl (w : World) : Drew w w := ⟨0, rfl⟩
theorem Drew.more {w w' : World} (h : Drew w w') (n : Nat) : Drew w (w'.drewN n) := by
  obtain ⟨q, rfl⟩ := h; exact ⟨_, drewN_drewN _ _ _⟩
theorem Drew.cal {w w' : World} (h : Drew w w') {b : Nat} {F : FF} (hc : Cal w b F) : Cal w' b F := by
  obtain ⟨q, rfl⟩ := h; exact hc.drewN q
theorem Drew.row {w w' : World} (h : Drew w w') {n : Nat} {a : Option Addr} {zs : List Int} (hr : RowAt w a n zs) : RowAt w' a n zs := by
  obtain ⟨q, rfl⟩ := h; exact hr.drewN q
theorem Drew.own {w w' : World} (h : Drew w w') {n B : Nat} {a : Option Addr} {zs : List Int} (hr : OwnAt w B a n zs) : OwnAt w' B a n zs := by
  obtain ⟨q, rfl⟩ := h; exact ⟨hr.len, hr.small, hr.at'⟩
theorem Drew.below {w w' : World} (h : Drew w w') (B : Nat) : Below B w w' := by
  obtain ⟨q, rfl⟩ := h; exact below_drewN (Below.refl _ _) q
theorem Drew.trans {a b c : World} (h : Drew a b) (h2 : Drew b c) : Drew a c := by
  obtain ⟨q, rfl⟩ := h; obtain ⟨r, rfl⟩ := h2; exact ⟨_, drewN_drewN _ _ _⟩
end Go.Proofs.YtmbphpmabopifaaDoor
/-
  The program's FieldAdd and the reference's; the law that they agree.
-/
namespace Go.Proofs.YtmbphpmabopifaaDoor
open Go.RowKit
set_option linter.unusedVariables false

theorem row_one (W : World) (x : Int) (t : TypeId) (b : Nat) (hb : b = W.heap.size) : RowAt (W.alloc (.cells #[.int .i64 x] t)) (some ⟨b, 0, none⟩) 1 [x] := by
  subst hb
  exact ⟨rfl, by omega, fun _ => ⟨_, 0, rfl, by simp, fun j hj => by
    obtain rfl : j = 0 := by omega
    simp [go_sem]; rfl⟩⟩
theorem row_two (W : World) (x y : Int) (t : TypeId) (b : Nat) (hb : b = W.heap.size) : RowAt (W.alloc (.cells #[.int .i64 x, .int .i64 y] t)) (some ⟨b, 0, none⟩) 2 [x, y] := by
  subst hb
  exact ⟨rfl, by omega, fun _ => ⟨_, 0, rfl, by simp, fun j hj => by
    rcases (show j = 0 ∨ j = 1 by omega) with rfl | rfl
    · simp [go_sem]; rfl
    · simp [go_sem]; rfl⟩⟩
theorem codeE_zero {p pw g : Int} {zs : List Int} (h : codeE p pw g zs = 0) : validB p pw g = true ∧ ∀ z ∈ zs, (ffOf p pw g).el z := by
  unfold codeE at h
  split at h
  · rename_i h1
    split at h
    · rename_i h2; exact ⟨h1, allB_iff.1 h2⟩
    · omega
  · omega
/-- What FieldAdd answers. -/
noncomputable def faddR (p pw g x y : Int) : Int := if codeE p pw g [x, y] = 0 then (ffOf p pw g).add x y else 0
/-- What 'elements' leaves. -/
def ElemPost (p pw g : Int) (zs : List Int) (w : World) (e : Ending) (w' : World) : Prop :=
  ∃ v, e = .returned (.tuple #[v, .int .i64 (codeE p pw g zs)]) ∧ Below w.heap.size w w' ∧ (codeE p pw g zs = 0 → ∃ b, v = .pointer (some ⟨b, 0, none⟩) ∧ w.heap.size ≤ b ∧ Cal w' b (ffOf p pw g))
end Go.Proofs.YtmbphpmabopifaaDoor
