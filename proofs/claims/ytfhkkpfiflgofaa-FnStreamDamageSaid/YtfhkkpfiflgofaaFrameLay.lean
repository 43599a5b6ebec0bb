/-
  Opening a layout that comes in, and its copy.
-/
import Derived.Test.YtfhkkpfiflgofaaLay
import Derived.Test.YtfhkkpfiflgofaaFrames
import Derived.Lib.SmallJoins
namespace Go.Proofs.Ytfhkkpfiflgofaa
open Go.ChangeShapes Go.WideShapes Go.ChangeAt Go.RowKit Go.Joins
set_option linter.unusedVariables false

/-- The box that a layout lies in, while it is a parameter. -/
structure BoxL (w : World) (B : Nat) (p pw g D C N : Int) : Prop where
  lt : B < w.heap.size
  c0 : w.cell? ⟨B, 0, none⟩ = some (.int .i64 p)
  c1 : w.cell? ⟨B, 1, none⟩ = some (.int .i64 pw)
  c2 : w.cell? ⟨B, 2, none⟩ = some (.int .i64 g)
  c3 : w.cell? ⟨B, 3, none⟩ = some (.int .i64 D)
  c4 : w.cell? ⟨B, 4, none⟩ = some (.int .i64 C)
  c5 : w.cell? ⟨B, 5, none⟩ = some (.int .i64 N)
theorem BoxL.below {w w' : World} {B M : Nat} {p pw g D C N : Int} (h : BoxL w B p pw g D C N) (hb : Below M w w') (hC : B < M) : BoxL w' B p pw g D C N :=
  ⟨by have := hb.size; have := h.lt; omega, (hb.cell (p := ⟨B, 0, none⟩) hC).trans h.c0, (hb.cell (p := ⟨B, 1, none⟩) hC).trans h.c1, (hb.cell (p := ⟨B, 2, none⟩) hC).trans h.c2,
    (hb.cell (p := ⟨B, 3, none⟩) hC).trans h.c3, (hb.cell (p := ⟨B, 4, none⟩) hC).trans h.c4, (hb.cell (p := ⟨B, 5, none⟩) hC).trans h.c5⟩
section
variable {w : World} {B : Nat} {p pw g D C N : Int}
theorem LB.set0 (h : LB w B p pw g D C N) (x : Int) : LB (w.setCell ⟨B, 0, none⟩ (.int .i64 x)) B x pw g D C N := ⟨by rw [heap_setCell_self _ _ _ _ _ _ _ h.blk]; rfl⟩
theorem LB.set1 (h : LB w B p pw g D C N) (x : Int) : LB (w.setCell ⟨B, 1, none⟩ (.int .i64 x)) B p x g D C N := ⟨by rw [heap_setCell_self _ _ _ _ _ _ _ h.blk]; rfl⟩
theorem LB.set2 (h : LB w B p pw g D C N) (x : Int) : LB (w.setCell ⟨B, 2, none⟩ (.int .i64 x)) B p pw x D C N := ⟨by rw [heap_setCell_self _ _ _ _ _ _ _ h.blk]; rfl⟩
theorem LB.set3 (h : LB w B p pw g D C N) (x : Int) : LB (w.setCell ⟨B, 3, none⟩ (.int .i64 x)) B p pw g x C N := ⟨by rw [heap_setCell_self _ _ _ _ _ _ _ h.blk]; rfl⟩
theorem LB.set4 (h : LB w B p pw g D C N) (x : Int) : LB (w.setCell ⟨B, 4, none⟩ (.int .i64 x)) B p pw g D x N := ⟨by rw [heap_setCell_self _ _ _ _ _ _ _ h.blk]; rfl⟩
theorem LB.set5 (h : LB w B p pw g D C N) (x : Int) : LB (w.setCell ⟨B, 5, none⟩ (.int .i64 x)) B p pw g D C x := ⟨by rw [heap_setCell_self _ _ _ _ _ _ _ h.blk]; rfl⟩
abbrev setL (w : World) (B : Nat) (p pw g D C N : Int) : World := (((((w.setCell ⟨B, 0, none⟩ (.int .i64 p)).setCell ⟨B, 1, none⟩ (.int .i64 pw)).setCell ⟨B, 2, none⟩ (.int .i64 g)).setCell ⟨B, 3, none⟩ (.int .i64 D)).setCell ⟨B, 4, none⟩ (.int .i64 C)).setCell ⟨B, 5, none⟩ (.int .i64 N)
theorem LB.set (h : LB w B p pw g D C N) (p' pw' g' D' C' N' : Int) : LB (setL w B p' pw' g' D' C' N') B p' pw' g' D' C' N' := (((((h.set0 p').set1 pw').set2 g').set3 D').set4 C').set5 N'
theorem setL_self (B : Nat) (w : World) : Dr B w (setL w B p pw g D C N) := (((((Dr.set B 0 w _).trans (.set B 1 _ _)).trans (.set B 2 _ _)).trans (.set B 3 _ _)).trans (.set B 4 _ _)).trans (.set B 5 _ _)
theorem setL_below {A : Nat} {w0 : World} (h : Below A w0 w) (hB : A ≤ B) : Below A w0 (setL w B p pw g D C N) :=
  (((((h.setCell (p := ⟨B, 0, none⟩) hB _).setCell (p := ⟨B, 1, none⟩) hB _).setCell (p := ⟨B, 2, none⟩) hB _).setCell (p := ⟨B, 3, none⟩) hB _).setCell (p := ⟨B, 4, none⟩) hB _).setCell (p := ⟨B, 5, none⟩) hB _
end
end Go.Proofs.Ytfhkkpfiflgofaa
