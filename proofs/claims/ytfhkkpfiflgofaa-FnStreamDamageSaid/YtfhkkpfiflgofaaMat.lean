/-
  A matrix in memory: a slice of slices, each in a block of its own.
-/
import Derived.Test.YtfhkkpfiflgofaaEucP
import Derived.Test.YtfhkkpfiflgofaaRegs
namespace Go.Proofs.Ytfhkkpfiflgofaa
open Go.RowKit
set_option linter.unusedVariables false

def upd (M : Nat → Nat → Int) (j m : Nat) (x : Int) : Nat → Nat → Int := fun i t => if i = j ∧ t = m then x else M i t
/-- The first k of n rows, each n + 1 long, have been made. -/
structure MatAt (w : World) (B R n k : Nat) (g : Nat → Nat) (M : Nat → Nat → Int) : Prop where
  blk : ∃ cur : Array Value, w.heap[R]? = some (.cells cur 26 (0, 0)) ∧ cur.size = n ∧ (∀ j, j < k → cur[j]? = some (.slice (some ⟨g j, 0, none⟩) (n + 1) (n + 1))) ∧ ∀ j, k ≤ j → j < n → cur[j]? = some (.slice none 0 0)
  rows : ∀ j, j < k → ∃ cur : Array Value, w.heap[g j]? = some (.cells cur 2 (0, 0)) ∧ cur.size = n + 1 ∧ ∀ m, m ≤ n → cur[m]? = some (.int .i64 (M j m))
  inj : ∀ i j, i < k → j < k → g i = g j → i = j
  ne : ∀ j, j < k → g j ≠ R
  base : B ≤ R ∧ ∀ j, j < k → B ≤ g j
  le : k ≤ n
theorem cell_of_blk {w : World} {b : Nat} {cur : Array Value} {t : TypeId} (h : w.heap[b]? = some (.cells cur t (0, 0))) (o : Nat) : w.cell? ⟨b, o, none⟩ = cur[o]? ∧ w.frozen? ⟨b, o, none⟩ = false ∧ b < w.heap.size :=
  ⟨cell_of_heap h o, frozen_of_heap h o, lt_of_heap h⟩
namespace MatAt
variable {w : World} {B R n k : Nat} {g : Nat → Nat} {M : Nat → Nat → Int}
theorem row (h : MatAt w B R n k g M) {j : Nat} (hj : j < k) : w.cell? ⟨R, j, none⟩ = some (.slice (some ⟨g j, 0, none⟩) (n + 1) (n + 1)) ∧ w.frozen? ⟨R, j, none⟩ = false ∧ R < w.heap.size := by
  obtain ⟨cur, hb, hs, h1, h2⟩ := h.blk
  obtain ⟨a, b, c⟩ := cell_of_blk hb j
  exact ⟨a.trans (h1 j hj), b, c⟩
theorem slot (h : MatAt w B R n k g M) {j : Nat} (hj : k ≤ j) (hn : j < n) : w.cell? ⟨R, j, none⟩ = some (.slice none 0 0) ∧ w.frozen? ⟨R, j, none⟩ = false ∧ R < w.heap.size := by
  obtain ⟨cur, hb, hs, h1, h2⟩ := h.blk
  obtain ⟨a, b, c⟩ := cell_of_blk hb j
  exact ⟨a.trans (h2 j hj hn), b, c⟩
theorem cell (h : MatAt w B R n k g M) {j m : Nat} (hj : j < k) (hm : m ≤ n) : w.cell? ⟨g j, m, none⟩ = some (.int .i64 (M j m)) ∧ w.frozen? ⟨g j, m, none⟩ = false ∧ g j < w.heap.size := by
  obtain ⟨cur, hb, hs, h1⟩ := h.rows j hj
  obtain ⟨a, b, c⟩ := cell_of_blk hb m
  exact ⟨a.trans (h1 m hm), b, c⟩
theorem below {w' : World} (h : MatAt w B R n k g M) (hb : Below w.heap.size w w') : MatAt w' B R n k g M := by
  obtain ⟨cur, h1, hs, h2, h3⟩ := h.blk
  refine ⟨⟨cur, (hb.block R (lt_of_heap h1)).trans h1, hs, h2, h3⟩, fun j hj => ?_, h.inj, h.ne, h.base, h.le⟩
  obtain ⟨c, h4, r⟩ := h.rows j hj
  exact ⟨c, (hb.block _ (lt_of_heap h4)).trans h4, r⟩
theorem congr {M' : Nat → Nat → Int} (h : MatAt w B R n k g M) (e : ∀ j m, j < k → m ≤ n → M j m = M' j m) : MatAt w B R n k g M' :=
  ⟨h.blk, fun j hj => by
    obtain ⟨c, h4, hs, r⟩ := h.rows j hj
    exact ⟨c, h4, hs, fun m hm => by rw [r m hm, e j m hj hm]⟩, h.inj, h.ne, h.base, h.le⟩
/-- A store into a row. -/
theorem set (h : MatAt w B R n k g M) {j m : Nat} (hj : j < k) (hm : m ≤ n) (x : Int) : MatAt (w.setCell ⟨g j, m, none⟩ (.int .i64 x)) B R n k g (upd M j m x) := by
  obtain ⟨cur, h1, hs, h2, h3⟩ := h.blk
  refine ⟨⟨cur, (Below.heap_setCell _ _ _ _ (fun e => h.ne j hj e.symm)).trans h1, hs, h2, h3⟩, fun i hi => ?_, h.inj, h.ne, h.base, h.le⟩
  obtain ⟨c, h4, hsz, r⟩ := h.rows i hi
  by_cases e : i = j
  · subst e
    refine ⟨c.setIfInBounds m (.int .i64 x), heap_setCell_self _ _ _ _ _ _ _ h4, by simpa using hsz, fun t ht => ?_⟩
    rw [Array.getElem?_setIfInBounds]
    unfold upd
    by_cases et : m = t
    · subst et; rw [if_pos rfl, if_pos (show m < c.size by omega), if_pos ⟨rfl, rfl⟩]
    · rw [if_neg et, if_neg (by omega)]; exact r t ht
  · refine ⟨c, (Below.heap_setCell _ _ _ _ (fun e2 => e (h.inj i j hi hj e2))).trans h4, hsz, fun t ht => ?_⟩
    unfold upd; rw [if_neg (by omega)]; exact r t ht
/-- A store elsewhere. -/
theorem other (h : MatAt w B R n k g M) {b o : Nat} (h1 : b ≠ R) (h2 : ∀ j, j < k → b ≠ g j) (x : Value) : MatAt (w.setCell ⟨b, o, none⟩ x) B R n k g M := by
  obtain ⟨cur, h3, hs, h4, h5⟩ := h.blk
  refine ⟨⟨cur, (Below.heap_setCell _ _ _ _ (fun e => h1 e.symm)).trans h3, hs, h4, h5⟩, fun i hi => ?_, h.inj, h.ne, h.base, h.le⟩
  obtain ⟨c, h6, r⟩ := h.rows i hi
  exact ⟨c, (Below.heap_setCell _ _ _ _ (fun e => h2 i hi e.symm)).trans h6, r⟩
/-- One row more: a new block, and its slice in the matrix. -/
theorem next (h : MatAt w B R n k g M) (hk : k < n) (hB : B ≤ w.heap.size) :
    MatAt ((w.alloc (.cells (madeCells #[.int .i64 0] (n + 1)) 2)).setCell ⟨R, k, none⟩ (.slice (some ⟨w.heap.size, 0, none⟩) (n + 1) (n + 1))) B R n (k + 1) (fun j => if j = k then w.heap.size else g j) (fun j m => if j = k then 0 else M j m) := by
  obtain ⟨cur, h1, hs, h2, h3⟩ := h.blk
  have hR := lt_of_heap h1
  have hl : ∀ j, j < k → g j < w.heap.size := fun j hj => by obtain ⟨c, h4, _⟩ := h.rows j hj; exact lt_of_heap h4
  have hb := below1 w (.cells (madeCells #[.int .i64 0] (n + 1)) 2)
  have h1' := (hb.block R hR).trans h1
  refine ⟨⟨cur.setIfInBounds k (.slice (some ⟨w.heap.size, 0, none⟩) (n + 1) (n + 1)), heap_setCell_self _ _ _ _ _ _ _ h1', by simpa using hs, fun j hj => ?_, fun j hj hn => ?_⟩, fun j hj => ?_, fun i j hi hj e => ?_, fun j hj => ?_, ⟨h.base.1, fun j hj => ?_⟩, by have := h.le; omega⟩
  · rw [Array.getElem?_setIfInBounds]
    by_cases e : k = j
    · subst e; rw [if_pos rfl, if_pos (show k < cur.size by omega), if_pos rfl]
    · rw [if_neg e, if_neg (fun x => e x.symm)]; exact h2 j (by omega)
  · rw [Array.getElem?_setIfInBounds, if_neg (by omega)]; exact h3 j (by omega) hn
  · by_cases e : j = k
    · rw [if_pos e]
      refine ⟨madeCells #[.int .i64 0] (n + 1), (Below.heap_setCell _ _ _ _ (show w.heap.size ≠ R by omega)).trans (heap_alloc_new w _), size_madeCells _ _, fun m hm => ?_⟩
      rw [if_pos e]
      simp [madeCells, show m < n + 1 by omega, Nat.mod_one]
    · rw [if_neg e]
      obtain ⟨c, h4, r1, r2⟩ := h.rows j (by omega)
      refine ⟨c, (Below.heap_setCell _ _ _ _ (h.ne j (by omega))).trans ((hb.block _ (lt_of_heap h4)).trans h4), r1, fun m hm => ?_⟩
      rw [if_neg e]; exact r2 m hm
  · by_cases e1 : i = k
    · by_cases e2 : j = k
      · omega
      · rw [if_pos e1, if_neg e2] at e; have := hl j (by omega); omega
    · by_cases e2 : j = k
      · rw [if_neg e1, if_pos e2] at e; have := hl i (by omega); omega
      · rw [if_neg e1, if_neg e2] at e; exact h.inj i j (by omega) (by omega) e
  · by_cases e : j = k
    · rw [if_pos e]; omega
    · rw [if_neg e]; exact h.ne j (by omega)
  · by_cases e : j = k
    · rw [if_pos e]; exact hB
    · rw [if_neg e]; exact h.base.2 j (by omega)
/-- Rows p and q change places. -/
theorem swap (h : MatAt w B R n n g M) {p q : Nat} (hp : p < n) (hq : q < n) :
    MatAt ((w.setCell ⟨R, p, none⟩ (.slice (some ⟨g q, 0, none⟩) (n + 1) (n + 1))).setCell ⟨R, q, none⟩ (.slice (some ⟨g p, 0, none⟩) (n + 1) (n + 1))) B R n n (fun j => g (if j = p then q else if j = q then p else j)) (fun j => M (if j = p then q else if j = q then p else j)) := by
  obtain ⟨cur, h1, hs, h2, h3⟩ := h.blk
  have hr : ∀ j, j < n → (if j = p then q else if j = q then p else j) < n := fun j hj => by split <;> (try split) <;> omega
  have h4 := heap_setCell_self w R p (.slice (some ⟨g q, 0, none⟩) (n + 1) (n + 1)) _ _ _ h1
  have h5 := heap_setCell_self (w.setCell ⟨R, p, none⟩ (.slice (some ⟨g q, 0, none⟩) (n + 1) (n + 1))) R q (.slice (some ⟨g p, 0, none⟩) (n + 1) (n + 1)) _ _ _ h4
  refine ⟨⟨_, h5, by simpa using hs, fun j hj => ?_, fun j h6 h7 => by omega⟩, fun j hj => ?_, fun i j hi hj e => ?_, fun j hj => h.ne _ (hr j hj), ⟨h.base.1, fun j hj => h.base.2 _ (hr j hj)⟩, Nat.le_refl _⟩
  · rw [Array.getElem?_setIfInBounds]
    by_cases e : q = j
    · subst e
      rw [if_pos rfl, if_pos (by simpa using (show q < cur.size by omega))]
      by_cases e2 : q = p
      · subst e2; rw [if_pos rfl]
      · rw [if_neg e2, if_pos rfl]
    · rw [if_neg e, Array.getElem?_setIfInBounds]
      by_cases e2 : p = j
      · subst e2; rw [if_pos rfl, if_pos (show p < cur.size by omega), if_pos rfl]
      · rw [if_neg e2, if_neg (fun x => e2 x.symm), if_neg (fun x => e x.symm)]; exact h2 j hj
  · obtain ⟨c, h6, r⟩ := h.rows _ (hr j hj)
    exact ⟨c, (Below.heap_setCell _ _ _ _ (h.ne _ (hr j hj))).trans ((Below.heap_setCell _ _ _ _ (h.ne _ (hr j hj))).trans h6), r⟩
  · have := h.inj _ _ (hr i hi) (hr j hj) e
    split at this <;> split at this <;> (try split at this) <;> (try split at this) <;> omega
end MatAt
theorem info_row : (Try.prog.info? 26).map (fun i => (i.zero, i.size, i.bytes)) = some (some (.slice none 0 0), 1, 24) := by kernel_rfl
theorem run_make_rows (w : World) (n : Nat) (hn : n ≤ 1000) :
    (Instr.makeSlice 55 (.int .i64 n) (.int .i64 n)).run Try.prog w = .ok (.slice (some ⟨w.heap.size, 0, none⟩) n n) (w.alloc (.cells (madeCells #[.slice none 0 0] n) 26)) := by
  obtain ⟨i0, hi, hz0, hz1, hz2⟩ := info_parts info_row
  have := run_make (P := Try.prog) w 55 26 i0 _ Try.underlying55 hi hz0 .i64 .i64 (n : Int) (n : Int) (by omega) (Int.le_refl _) (by rw [hz2]; omega) (by omega)
  rw [hz1, Nat.mul_one, Int.toNat_natCast] at this
  exact this
theorem mat_start (w : World) (B n : Nat) (hB : B ≤ w.heap.size) : MatAt (w.alloc (.cells (madeCells #[.slice none 0 0] n) 26)) B w.heap.size n 0 (fun _ => 0) (fun _ _ => 0) :=
  ⟨⟨_, heap_alloc_new w _, size_madeCells _ _, fun j hj => by omega, fun j _ hj => by simp [madeCells, hj, Nat.mod_one]⟩, fun j hj => by omega, fun i j hi => by omega, fun j hj => by omega, ⟨hB, fun j hj => by omega⟩, by omega⟩
end Go.Proofs.Ytfhkkpfiflgofaa
