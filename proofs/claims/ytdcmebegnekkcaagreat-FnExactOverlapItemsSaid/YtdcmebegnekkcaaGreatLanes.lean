/-
  The parts Slices, Slices2, IsPoly, Eval, FieldAdd.
-/
import Derived.Test.YtdcmebegnekkcaaGreatSpecFl
import Derived.Laws.MakeOwn
import Derived.OwnWalk
import Derived.Deep.QuietTactic
import Derived.BigQuiet
import Derived.WalkSmall
import Derived.Deep.RegionHeld3
/-
  Slices of integers that a call owns; the walks of the laws' helpers on them.
-/
namespace Go.Proofs.YtdcmebegnekkcaaGreat
open Go.RowKit
set_option linter.unusedVariables false

/-- A slice of integers in a block of the call's own, from B on. -/
structure OwnAt (w : World) (B : Nat) (a : Option Addr) (n : Nat) (zs : List Int) : Prop where
  len : zs.length = n
  small : n ≤ 9223372036854775807
  at' : 0 < n → ∃ b cur, a = some ⟨b, 0, none⟩ ∧ B ≤ b ∧ w.heap[b]? = some (.cells cur 2 (0, 0)) ∧ n ≤ cur.size ∧ ∀ j, j < n → cur[j]? = some (.int .i64 (gi zs j))
theorem cell_of_heap {w : World} {b : Nat} {cur : Array Value} {t : TypeId} {fz : Nat × Nat} (h : w.heap[b]? = some (.cells cur t fz)) (o : Nat) : w.cell? ⟨b, o, none⟩ = cur[o]? := by
  unfold World.cell?; rw [h]; rfl
theorem frozen_of_heap {w : World} {b : Nat} {cur : Array Value} {t : TypeId} (h : w.heap[b]? = some (.cells cur t (0, 0))) (o : Nat) : w.frozen? ⟨b, o, none⟩ = false := by
  unfold World.frozen?; rw [h]; simp
theorem lt_of_heap {w : World} {b : Nat} {o : Obj} (h : w.heap[b]? = some o) : b < w.heap.size := (Array.getElem?_eq_some_iff.1 h).1
theorem OwnAt.row {w : World} {B n : Nat} {a : Option Addr} {zs : List Int} (h : OwnAt w B a n zs) : RowAt w a n zs :=
  ⟨h.len, h.small, fun hn => by
    obtain ⟨b, cur, rfl, _, hb, _, hc⟩ := h.at' hn
    exact ⟨b, 0, rfl, lt_of_heap hb, fun j hj => by rw [cell_of_heap hb, Nat.zero_add]; exact hc j hj⟩⟩
theorem OwnAt.grown {w w' : World} {B n : Nat} {a : Option Addr} {zs : List Int} (h : OwnAt w B a n zs) {r : Option Nat} (hg : w.grownBy w' r) (hr : ∀ b, r = some b → b < B) : OwnAt w' B a n zs :=
  ⟨h.len, h.small, fun hn => by
    obtain ⟨b, cur, rfl, hB, hb, hs, hc⟩ := h.at' hn
    exact ⟨b, cur, rfl, hB, (hg.block b (lt_of_heap hb) (fun e => by have := hr b e.symm; omega)).trans hb, hs, hc⟩⟩
theorem OwnAt.below {w w' : World} {B n : Nat} {a : Option Addr} {zs : List Int} (h : OwnAt w B a n zs) (hb : Below w.heap.size w w') : OwnAt w' B a n zs :=
  ⟨h.len, h.small, fun hn => by
    obtain ⟨b, cur, rfl, hB, hbk, hs, hc⟩ := h.at' hn
    exact ⟨b, cur, rfl, hB, (hb.block b (lt_of_heap hbk)).trans hbk, hs, hc⟩⟩
theorem OwnAt.mono {w : World} {B B' n : Nat} {a : Option Addr} {zs : List Int} (h : OwnAt w B a n zs) (hB : B' ≤ B) : OwnAt w B' a n zs :=
  ⟨h.len, h.small, fun hn => by
    obtain ⟨b, cur, rfl, hb, r⟩ := h.at' hn
    exact ⟨b, cur, rfl, by omega, r⟩⟩
theorem OwnAt.nil (w : World) (B : Nat) (a : Option Addr) : OwnAt w B a 0 [] := ⟨rfl, by omega, fun h => by omega⟩
/-- The block of an address. -/
def blk (a : Option Addr) : Option Nat := a.map (·.block)
theorem RowAt.grown {w w' : World} {n : Nat} {a : Option Addr} {zs : List Int} (h : RowAt w a n zs) {r : Option Nat} (hg : w.grownBy w' r) (hr : ∀ b, blk a = some b → r ≠ some b) : RowAt w' a n zs :=
  ⟨h.len, h.small, fun hn => by
    obtain ⟨b, off, rfl, hlt, hc⟩ := h.at' hn
    exact ⟨b, off, rfl, by have := hg.size; omega, fun j hj => (World.cell?_of_block (hg.block b hlt (fun e => hr b rfl e.symm))).trans (hc j hj)⟩⟩
/-- The numbers from k on. -/
def upFrom (k : Int) : Nat → List Int
  | 0 => []
  | n + 1 => upFrom k n ++ [k + n]
/-- A list behind a store, as far as marks have come. -/
def markTo (zs : List Int) (k : Int) (m : Nat) : List Int := upFrom k m ++ zs.drop m
theorem gi_set {l : List Int} {i j : Nat} {v : Int} (hi : i < l.length) : gi (l.set i v) j = if j = i then v else gi l j := by
  unfold gi
  rw [List.getD_eq_getElem?_getD]
  by_cases e : j = i
  · subst e; rw [if_pos rfl, List.getElem?_set_self hi]; rfl
  · rw [if_neg e, List.getElem?_set_ne (by omega), ← List.getD_eq_getElem?_getD]
theorem OwnAt.set {w : World} {B n b : Nat} {zs : List Int} (h : OwnAt w B (some ⟨b, 0, none⟩) n zs) {i : Nat} (hi : i < n) (v : Int) : OwnAt (w.setCell ⟨b, i, none⟩ (.int .i64 v)) B (some ⟨b, 0, none⟩) n (zs.set i v) :=
  ⟨by rw [List.length_set]; exact h.len, h.small, fun hn => by
    obtain ⟨b', cur, e, hB, hb, hs, hc⟩ := h.at' hn
    obtain rfl : b = b' := by simpa using e
    refine ⟨b, _, rfl, hB, heap_setCell_self _ _ _ _ _ _ _ hb, by simpa using hs, fun j hj => ?_⟩
    rw [gi_set (by rw [h.len]; exact hi)]
    by_cases e : j = i
    · subst e; rw [if_pos rfl, Array.getElem?_setIfInBounds_self_of_lt (by omega)]
    · rw [if_neg e, Array.getElem?_setIfInBounds_ne (by omega)]; exact hc j hj⟩
/-- What a walk needs of one place of an owned slice. -/
theorem OwnAt.place {w : World} {B n b : Nat} {zs : List Int} (h : OwnAt w B (some ⟨b, 0, none⟩) n zs) {i : Nat} (hi : i < n) : w.cell? ⟨b, i, none⟩ = some (.int .i64 (gi zs i)) ∧ w.frozen? ⟨b, i, none⟩ = false ∧ b < w.heap.size := by
  obtain ⟨b', cur, e, hB, hb, hs, hc⟩ := h.at' (by omega)
  obtain rfl : b = b' := by simpa using e
  exact ⟨by rw [cell_of_heap hb]; exact hc i hi, frozen_of_heap hb i, lt_of_heap hb⟩
end Go.Proofs.YtdcmebegnekkcaaGreat
/-
  The walks of the laws' helpers: comparing, checking the marks, copying.
-/
namespace Go.Proofs.YtdcmebegnekkcaaGreat
open Go.RowKit
set_option linter.unusedVariables false

theorem RowAt.drewN {w : World} {n : Nat} {a : Option Addr} {zs : List Int} (h : RowAt w a n zs) (m : Nat) : RowAt (w.drewN m) a n zs :=
  ⟨h.len, h.small, fun hn => by
    obtain ⟨b, off, rfl, hlt, hc⟩ := h.at' hn
    exact ⟨b, off, rfl, hlt, fun j hj => (World.cell?_of_block rfl).trans (hc j hj)⟩⟩
theorem drewN_drewN (w : World) (a b : Nat) : (w.drewN a).drewN b = w.drewN (a + b) := by
  unfold World.drewN; simp [Nat.add_assoc]
theorem info_int : (Tryz.prog.info? 2).map (fun i => (i.zero, i.size, i.bytes)) = some (some (.int .i64 0), 1, 8) := by kernel_rfl
/-- A new row of zeros. -/
theorem own_zeros (w : World) (n : Nat) (hn : n ≤ 9223372036854775807) : OwnAt (w.alloc (.cells (madeCells #[.int .i64 0] n) 2)) w.heap.size (some ⟨w.heap.size, 0, none⟩) n (List.replicate n 0) :=
  ⟨List.length_replicate, hn, fun _ => ⟨_, _, rfl, Nat.le_refl _, heap_alloc_new w _, by simp [madeCells], fun j hj => by
    have e : gi (List.replicate n 0) j = 0 := by unfold gi; rw [List.getD_eq_getElem?_getD, List.getElem?_replicate]; split <;> rfl
    rw [e]; simp [madeCells, hj, Nat.mod_one]⟩⟩
theorem run_make_ints (w : World) (t : TypeId) (ht : Tryz.prog.underlying t = some (.slice 2)) (n : Int) (h0 : 0 ≤ n) (hn : n ≤ 16777216) :
    (Instr.makeSlice t (.int .i64 n) (.int .i64 n)).run Tryz.prog w = .ok (.slice (some ⟨w.heap.size, 0, none⟩) n.toNat n.toNat) (w.alloc (.cells (madeCells #[.int .i64 0] n.toNat) 2)) := by
  obtain ⟨i0, hi, hz0, hz1, hz2⟩ := info_parts info_int
  have := run_make (P := Tryz.prog) w t 2 i0 _ ht hi hz0 .i64 .i64 n n h0 (Int.le_refl _) (by rw [hz2]; omega) (by omega)
  rw [hz1, Nat.mul_one] at this
  exact this
/-- A copy, as far as it has come. -/
def copyTo (zs : List Int) (k : Nat) : List Int := zs.take k ++ List.replicate (zs.length - k) 0
theorem gi_take {l : List Int} {k j : Nat} (h : j < k) : gi (l.take k) j = gi l j := by
  unfold gi; rw [VF.getD_take, if_pos h]
end Go.Proofs.YtdcmebegnekkcaaGreat
/-
  The walks of the checks of polynomials.
-/
namespace Go.Proofs.YtdcmebegnekkcaaGreat
open Go.RowKit
set_option linter.unusedVariables false

/-- No zero at the end, as a Bool. -/
def tightB (zs : List Int) : Bool := zs.length == 0 || gi zs (zs.length - 1) != 0
/-- Whether a list is a polynomial. -/
def polyB (F : FF) (zs : List Int) : Bool := decide (zs.length ≤ 512) && (allB F zs && tightB zs)
end Go.Proofs.YtdcmebegnekkcaaGreat
/-
  The walks of the value of a polynomial, in the program and in the reference.
-/
namespace Go.Proofs.YtdcmebegnekkcaaGreat
open Go.RowKit
set_option linter.unusedVariables false

theorem Cal.drewN {w : World} {b : Nat} {F : FF} (h : Cal w b F) (n : Nat) : Cal (w.drewN n) b F :=
  ⟨h.ok, h.lt, (World.cell?_of_block rfl).trans h.bin, (World.cell?_of_block rfl).trans h.size, fun m hm => (World.cell?_of_block rfl).trans (h.exp m hm), fun a ha h0 => (World.cell?_of_block rfl).trans (h.log a ha h0)⟩
theorem Cal.below {w w' : World} {b : Nat} {F : FF} (h : Cal w b F) (hb : Below w.heap.size w w') : Cal w' b F :=
  ⟨h.ok, by have := hb.size; have := h.lt; omega, (hb.cell (p := ⟨b, 0, none⟩) h.lt).trans h.bin, (hb.cell (p := ⟨b, 1, none⟩) h.lt).trans h.size,
    fun m hm => (hb.cell (p := ⟨b, 2 + m, none⟩) h.lt).trans (h.exp m hm), fun a ha h0 => (hb.cell (p := ⟨b, 1023 + a.toNat, none⟩) h.lt).trans (h.log a ha h0)⟩
/-- The value of a polynomial, as both reckon it. -/
def evI (F : FF) : List Int → Int → Int
  | [], _ => 0
  | a :: l, x => F.add (F.mul (evI F l x) x) a
/-- The later world is the earlier one but for draws. -/
def Drew (w w' : World) : Prop := ∃ q, w' = w.drewN q
theorem Drew.refl (w : World) : Drew w w := ⟨0, rfl⟩
theorem Drew.more {w w' : World} (h : Drew w w') (n : Nat) : Drew w (w'.drewN n) := by
  obtain ⟨q, rfl⟩ := h; exact ⟨_, drewN_drewN _ _ _⟩
theorem Drew.cal {w w' : World} (h : Drew w w') {b : Nat} {F : FF} (hc : Cal w b F) : Cal w' b F := by
  obtain ⟨q, rfl⟩ := h; exact hc.drewN q
theorem Drew.row {w w' : World} (h : Drew w w') {n : Nat} {a : Option Addr} {zs : List Int} (hr : RowAt w a n zs) : RowAt w' a n zs := by
  obtain ⟨q, rfl⟩ := h; exact hr.drewN q
theorem Drew.own {w w' : World} (h : Drew w w') {n B : Nat} {a : Option Addr} {zs : List Int} (hr : OwnAt w B a n zs) : OwnAt w' B a n zs := by
  obtain ⟨q, rfl⟩ := h; exact ⟨hr.len, hr.small, hr.at'⟩
theorem Drew.below {w w' : World} (h : Drew w w') (B : Nat) : Below B w w' := by
  obtain ⟨q, rfl⟩ := h; exact below_drewN (Below.refl _ _) q
theorem Drew.trans {a b c : World} (h : Drew a b) (h2 : Drew b c) : Drew a c := by
  obtain ⟨q, rfl⟩ := h; obtain ⟨r, rfl⟩ := h2; exact ⟨_, drewN_drewN _ _ _⟩
end Go.Proofs.YtdcmebegnekkcaaGreat
/-
  The program's FieldAdd and the reference's; the law that they agree.
-/
namespace Go.Proofs.YtdcmebegnekkcaaGreat
open Go.RowKit
set_option linter.unusedVariables false

/-- What FieldAdd answers. -/
noncomputable def faddR (p pw g x y : Int) : Int := if codeE p pw g [x, y] = 0 then (ffOf p pw g).add x y else 0
/-- What 'elements' leaves. -/
def ElemPost (p pw g : Int) (zs : List Int) (w : World) (e : Ending) (w' : World) : Prop :=
  ∃ v, e = .returned (.tuple #[v, .int .i64 (codeE p pw g zs)]) ∧ Below w.heap.size w w' ∧ (codeE p pw g zs = 0 → ∃ b, v = .pointer (some ⟨b, 0, none⟩) ∧ w.heap.size ≤ b ∧ Cal w' b (ffOf p pw g))
end Go.Proofs.YtdcmebegnekkcaaGreat
