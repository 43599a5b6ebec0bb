/-
  Opening a layout that comes in, and its copy.
-/
import Derived.Test.YtfhkkpfiflgofaaLay
import Derived.Test.YtfhkkpfiflgofaaFrames
import Derived.Lib.SmallJoins
namespace Go.Proofs.Ytfhkkpfiflgofaa
open Go.ChangeShapes Go.WideShapes Go.ChangeAt Go.RowKit Go.Joins
set_option linter.unusedVariables false

/-- The box that a layout lies in, while it is a parameter. -/
structure BoxL (w : World) (B : Nat) (p pw g D C N : Int) : Prop where
  lt : B < w.heap.size
  c0 : w.cell? ⟨B, 0, none⟩ = some (.int .i64 p)
  c1 : w.cell? ⟨B, 1, none⟩ = some (.int .i64 pw)
  c2 : w.cell? ⟨B, 2, none⟩ = some (.int .i64 g)
  c3 : w.cell? ⟨B, 3, none⟩ = some (.int .i64 D)
  c4 : w.cell? ⟨B, 4, none⟩ = some (.int .i64 C)
  c5 : w.cell? ⟨B, 5, none⟩ = some (.int .i64 N)
theorem boxL_new (w : World) (p pw g D C N : Int) (t : TypeId) : BoxL (w.alloc (.cells #[.int .i64 p, .int .i64 pw, .int .i64 g, .int .i64 D, .int .i64 C, .int .i64 N] t)) w.heap.size p pw g D C N :=
  ⟨by simp, by simp [go_sem], by simp [go_sem], by simp [go_sem], by simp [go_sem], by simp [go_sem], by simp [go_sem]⟩
theorem BoxL.below {w w' : World} {B M : Nat} {p pw g D C N : Int} (h : BoxL w B p pw g D C N) (hb : Below M w w') (hC : B < M) : BoxL w' B p pw g D C N :=
  ⟨by have := hb.size; have := h.lt; omega, (hb.cell (p := ⟨B, 0, none⟩) hC).trans h.c0, (hb.cell (p := ⟨B, 1, none⟩) hC).trans h.c1, (hb.cell (p := ⟨B, 2, none⟩) hC).trans h.c2,
    (hb.cell (p := ⟨B, 3, none⟩) hC).trans h.c3, (hb.cell (p := ⟨B, 4, none⟩) hC).trans h.c4, (hb.cell (p := ⟨B, 5, none⟩) hC).trans h.c5⟩
theorem BoxL.chg {w w' : World} {lo hi B : Nat} {p pw g D C N : Int} (h : BoxL w B p pw g D C N) (hc : Chg lo hi w w') (hB : B < lo) : BoxL w' B p pw g D C N :=
  h.below (hc.below (Nat.le_refl lo)) hB
section
variable {w : World} {B : Nat} {p pw g D C N : Int}
theorem LB.set0 (h : LB w B p pw g D C N) (x : Int) : LB (w.setCell ⟨B, 0, none⟩ (.int .i64 x)) B x pw g D C N := ⟨by rw [heap_setCell_self _ _ _ _ _ _ _ h.blk]; rfl⟩
theorem LB.set1 (h : LB w B p pw g D C N) (x : Int) : LB (w.setCell ⟨B, 1, none⟩ (.int .i64 x)) B p x g D C N := ⟨by rw [heap_setCell_self _ _ _ _ _ _ _ h.blk]; rfl⟩
theorem LB.set2 (h : LB w B p pw g D C N) (x : Int) : LB (w.setCell ⟨B, 2, none⟩ (.int .i64 x)) B p pw x D C N := ⟨by rw [heap_setCell_self _ _ _ _ _ _ _ h.blk]; rfl⟩
theorem LB.set3 (h : LB w B p pw g D C N) (x : Int) : LB (w.setCell ⟨B, 3, none⟩ (.int .i64 x)) B p pw g x C N := ⟨by rw [heap_setCell_self _ _ _ _ _ _ _ h.blk]; rfl⟩
theorem LB.set4 (h : LB w B p pw g D C N) (x : Int) : LB (w.setCell ⟨B, 4, none⟩ (.int .i64 x)) B p pw g D x N := ⟨by rw [heap_setCell_self _ _ _ _ _ _ _ h.blk]; rfl⟩
theorem LB.set5 (h : LB w B p pw g D C N) (x : Int) : LB (w.setCell ⟨B, 5, none⟩ (.int .i64 x)) B p pw g D C x := ⟨by rw [heap_setCell_self _ _ _ _ _ _ _ h.blk]; rfl⟩
abbrev setL (w : World) (B : Nat) (p pw g D C N : Int) : World := (((((w.setCell ⟨B, 0, none⟩ (.int .i64 p)).setCell ⟨B, 1, none⟩ (.int .i64 pw)).setCell ⟨B, 2, none⟩ (.int .i64 g)).setCell ⟨B, 3, none⟩ (.int .i64 D)).setCell ⟨B, 4, none⟩ (.int .i64 C)).setCell ⟨B, 5, none⟩ (.int .i64 N)
theorem LB.set (h : LB w B p pw g D C N) (p' pw' g' D' C' N' : Int) : LB (setL w B p' pw' g' D' C' N') B p' pw' g' D' C' N' := (((((h.set0 p').set1 pw').set2 g').set3 D').set4 C').set5 N'
theorem setL_self (B : Nat) (w : World) : Dr B w (setL w B p pw g D C N) := (((((Dr.set B 0 w _).trans (.set B 1 _ _)).trans (.set B 2 _ _)).trans (.set B 3 _ _)).trans (.set B 4 _ _)).trans (.set B 5 _ _)
theorem setL_below {A : Nat} {w0 : World} (h : Below A w0 w) (hB : A ≤ B) : Below A w0 (setL w B p pw g D C N) :=
  (((((h.setCell (p := ⟨B, 0, none⟩) hB _).setCell (p := ⟨B, 1, none⟩) hB _).setCell (p := ⟨B, 2, none⟩) hB _).setCell (p := ⟨B, 3, none⟩) hB _).setCell (p := ⟨B, 4, none⟩) hB _).setCell (p := ⟨B, 5, none⟩) hB _
end
set_option maxRecDepth 100000 in
set_option maxHeartbeats 4000000 in
theorem toLayout_any (p pw g D C N : Int) (w : World) :
    Calls Try.prog 11 #[lV p pw g D C N] w fun e w' => e = .returned (lV p pw g D C N) ∧ Below w.heap.size w w' := by
  have X0 := (boxL_new w p pw g D C N 25)
  have s1 : (w.alloc (.cells #[.int .i64 p, .int .i64 pw, .int .i64 g, .int .i64 D, .int .i64 C, .int .i64 N] 25)).heap.size = w.heap.size + 1 := by simp
  have A1 := LB.new (w.alloc (.cells #[.int .i64 p, .int .i64 pw, .int .i64 g, .int .i64 D, .int .i64 C, .int .i64 N] 25)) 0 0 0 0 0 0
  rw [s1] at A1
  have s2 : ((w.alloc (.cells #[.int .i64 p, .int .i64 pw, .int .i64 g, .int .i64 D, .int .i64 C, .int .i64 N] 25)).alloc (.cells #[.int .i64 0, .int .i64 0, .int .i64 0, .int .i64 0, .int .i64 0, .int .i64 0] LT)).heap.size = w.heap.size + 1 + 1 := by simp
  have A2 := LB.new ((w.alloc (.cells #[.int .i64 p, .int .i64 pw, .int .i64 g, .int .i64 D, .int .i64 C, .int .i64 N] 25)).alloc (.cells #[.int .i64 0, .int .i64 0, .int .i64 0, .int .i64 0, .int .i64 0, .int .i64 0] LT)) 0 0 0 0 0 0
  rw [s2] at A2
  have b1 := below1 (w.alloc (.cells #[.int .i64 p, .int .i64 pw, .int .i64 g, .int .i64 D, .int .i64 C, .int .i64 N] 25)) (.cells #[.int .i64 0, .int .i64 0, .int .i64 0, .int .i64 0, .int .i64 0, .int .i64 0] LT)
  have b2 := below1 ((w.alloc (.cells #[.int .i64 p, .int .i64 pw, .int .i64 g, .int .i64 D, .int .i64 C, .int .i64 N] 25)).alloc (.cells #[.int .i64 0, .int .i64 0, .int .i64 0, .int .i64 0, .int .i64 0, .int .i64 0] LT)) (.cells #[.int .i64 0, .int .i64 0, .int .i64 0, .int .i64 0, .int .i64 0, .int .i64 0] LT)
  have X2 := Lib.hid ((X0.below b1 X0.lt).below b2 (X0.below b1 X0.lt).lt)
  have A1' := Lib.hid (A1.below b2 A1.lt)
  have A2' := Lib.hid A2
  have HB := Lib.hid (((below1 w (.cells #[.int .i64 p, .int .i64 pw, .int .i64 g, .int .i64 D, .int .i64 C, .int .i64 N] 25)).alloc (by simp) (.cells #[.int .i64 0, .int .i64 0, .int .i64 0, .int .i64 0, .int .i64 0, .int .i64 0] LT)).alloc (by simp; omega) (.cells #[.int .i64 0, .int .i64 0, .int .i64 0, .int .i64 0, .int .i64 0, .int .i64 0] LT))
  have HRES := Lib.hid (show Try.f11.results = #[.cell 2 LT] by kernel_rfl)
  clear X0 A1 A2 b1 b2 s1 s2
  go_enter Try.func11, Try.ntmps11
  go_wp2_with fail
  refine (toField_any p pw g _).mono ?_
  rintro e w1 ⟨rfl, hb1⟩
  have X3 := Lib.hid (X2.out.below hb1 X2.out.lt)
  have A3 := Lib.hid (A1'.out.below hb1 A1'.out.lt)
  have A4 := Lib.hid (A2'.out.below hb1 A2'.out.lt)
  have HB1 := Lib.hid (HB.out.trans (hb1.mono HB.out.size))
  clear hb1 X2 A1' A2' HB
  have k3 := X3.out.c3
  have k4 := X3.out.c4
  have k5 := X3.out.c5
  have a0 := A3.out.c0
  have a1 := A3.out.c1
  have a2 := A3.out.c2
  have a3 := A3.out.c3
  have a4 := A3.out.c4
  have a5 := A3.out.c5
  have b0 := A4.out.c0
  have b1 := A4.out.c1
  have b2 := A4.out.c2
  have b3 := A4.out.c3
  have b4 := A4.out.c4
  have b5 := A4.out.c5
  have fa0 := A3.out.fz 0
  have fa1 := A3.out.fz 1
  have fa2 := A3.out.fz 2
  have fa3 := A3.out.fz 3
  have fa4 := A3.out.fz 4
  have fa5 := A3.out.fz 5
  have fb0 := A4.out.fz 0
  have fb1 := A4.out.fz 1
  have fb2 := A4.out.fz 2
  have fb3 := A4.out.fz 3
  have fb4 := A4.out.fz 4
  have fb5 := A4.out.fz 5
  go_wp2_with fail
  (try simp only [Exit.inBlock, Exit.then])
  have FF := Lib.hid (((A3.out.dr (setL_self (p := p) (pw := pw) (g := g) (D := D) (C := C) (N := N) (w.heap.size + 1 + 1) w1) (by omega)).set p pw g D C N))
  have BF := Lib.hid (setL_below (B := w.heap.size + 1) (p := p) (pw := pw) (g := g) (D := D) (C := C) (N := N) (setL_below (B := w.heap.size + 1 + 1) (p := p) (pw := pw) (g := g) (D := D) (C := C) (N := N) HB1.out (by omega)) (by omega))
  exact ret_cell1 HRES.out Try.underlying31 rfl (by kernel_rfl) rfl rfl FF.out.blk ⟨rfl, BF.out⟩
theorem array6 {α : Type} {cs : Array α} (h : cs.size = 6) : ∃ c0 c1 c2 c3 c4 c5, cs = #[c0, c1, c2, c3, c4, c5] := by
  obtain ⟨l⟩ := cs
  match l, h with
  | [c0, c1, c2, c3, c4, c5], _ => exact ⟨c0, c1, c2, c3, c4, c5, rfl⟩
theorem cells_layout : Try.prog.cellsOf 25 = 6 := by kernel_rfl
theorem cells_field6 : Try.prog.cellsOf 23 = 3 := by kernel_rfl
theorem cells_int6 : Try.prog.cellsOf 2 = 1 := by kernel_rfl
set_option maxRecDepth 100000 in
theorem open_layout {H : Type} {enc : TypeId × Value → H} {W : World} {r : Reach} {b0 : Nat} {v : Value} {d : DataW H} {p : List MemPlace}
    (hv : Value.okWide Try.prog W r b0 25 v) (h : DataW.Trod enc Try.prog W 0 (fun _ => true) true 25 v d p) :
    ∃ a0 a1 a2 a3 a4 a5 : Int, v = lV a0 a1 a2 a3 a4 a5 ∧ (Lit.int .i64 a0).wf = true ∧ (Lit.int .i64 a1).wf = true ∧ (Lit.int .i64 a2).wf = true ∧ (Lit.int .i64 a3).wf = true ∧ (Lit.int .i64 a4).wf = true ∧ (Lit.int .i64 a5).wf = true := by
  obtain ⟨cs, rfl, hsz⟩ := okWide_struct Try.underlying25 hv
  obtain ⟨c0, c1, c2, c3, c4, c5, rfl⟩ := array6 (hsz.trans cells_layout)
  obtain ⟨fuel, hf⟩ := h
  obtain ⟨y0, y1, y2, y3, n, hx, _, h0, h1, h2, h3⟩ := trod_struct4 Try.underlying25 hf
  simp only [cells_field6, cells_int6, Value.cells, List.drop_zero, List.take_succ_cons, List.take_zero, List.drop_succ_cons] at h0 h1 h2 h3
  obtain ⟨z0, z1, z2, m, _, _, g0, g1, g2⟩ := Go.Deep.trod_struct3 Try.underlying23 h0
  simp only [cells_int6, List.drop_zero, List.take_succ_cons, List.take_zero, List.drop_succ_cons] at g0 g1 g2
  obtain ⟨a0, e0, _, w0⟩ := DataW.trod_int Try.underlying2 g0
  obtain ⟨a1, e1, _, w1⟩ := DataW.trod_int Try.underlying2 g1
  obtain ⟨a2, e2, _, w2⟩ := DataW.trod_int Try.underlying2 g2
  obtain ⟨a3, e3, _, w3⟩ := DataW.trod_int Try.underlying2 h1
  obtain ⟨a4, e4, _, w4⟩ := DataW.trod_int Try.underlying2 h2
  obtain ⟨a5, e5, _, w5⟩ := DataW.trod_int Try.underlying2 h3
  simp only [List.cons.injEq, and_true] at e0 e1 e2 e3 e4 e5
  subst e0 e1 e2 e3 e4 e5
  exact ⟨a0, a1, a2, a3, a4, a5, rfl, w0, w1, w2, w3, w4, w5⟩
end Go.Proofs.Ytfhkkpfiflgofaa
