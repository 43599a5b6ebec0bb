/-
  What the laws of polynomials draw.
-/
import Derived.Test.YthbiieflmmnfcaaDraw
namespace Go.Proofs.Ythbiieflmmnfcaa
open Go.RowKit
set_option linter.unusedVariables false

/-- A state of a draw: R the result's field, X the field, s the source. -/
structure DSt (w0 W : World) (R X s : Nat) (p pw g : Int) : Prop where
  res : FB W R 0 0 0
  fld : FB W X p pw g
  src : Src W s
  bel : Below w0.heap.size w0 W
  r0 : R = w0.heap.size
  rs : R < s
  sx : s < X
section
variable {w0 W W' : World} {R X s : Nat} {p pw g : Int}
theorem DSt.below (h : DSt w0 W R X s p pw g) (hb : Below W.heap.size W W') : DSt w0 W' R X s p pw g :=
  ⟨h.res.below hb h.res.lt, h.fld.below hb h.fld.lt, h.src.below hb, h.bel.trans (hb.mono h.bel.size), h.r0, h.rs, h.sx⟩
theorem DSt.drS (h : DSt w0 W R X s p pw g) (hd : Dr s W W') (hs : Src W' s) : DSt w0 W' R X s p pw g := by
  have h1 := h.rs; have h2 := h.sx; have h3 := h.r0
  exact ⟨h.res.dr hd (by omega), h.fld.dr hd (by omega), hs, h.bel.trans (hd.below (by omega) h.bel.size), h.r0, h.rs, h.sx⟩
theorem DSt.lo (h : DSt w0 W R X s p pw g) {K : Nat} (hK : X < K) (hb : Below K W W') : DSt w0 W' R X s p pw g := by
  have h1 := h.rs; have h2 := h.sx; have h3 := h.r0
  exact ⟨h.res.below hb (by omega), h.fld.below hb (by omega), h.src.lo (by omega) hb, h.bel.trans (hb.mono (by omega)), h.r0, h.rs, h.sx⟩
theorem DSt.fin (h : DSt w0 W R X s p pw g) : Below w0.heap.size w0 (((W.setCell ⟨R, 0, none⟩ (.int .i64 p)).setCell ⟨R, 1, none⟩ (.int .i64 pw)).setCell ⟨R, 2, none⟩ (.int .i64 g)) := by
  have h3 := h.r0
  exact ((h.bel.setCell (p := ⟨R, 0, none⟩) (by show w0.heap.size ≤ R; omega) _).setCell (p := ⟨R, 1, none⟩) (by show w0.heap.size ≤ R; omega) _).setCell (p := ⟨R, 2, none⟩) (by show w0.heap.size ≤ R; omega) _
theorem OwnL.rowOf {B n cp : Nat} {a : Option Addr} {zs : List Int} (h : OwnL W B (.slice a n cp) zs) : RowAt W a n zs := by
  obtain ⟨a', c', e, _, ho⟩ := h.shape
  simp only [Value.slice.injEq] at e
  obtain ⟨rfl, rfl, rfl⟩ := e
  exact ho.row
theorem OwnL.set3 {B : Nat} {v : Value} {zs : List Int} (h : OwnL W B v zs) (hR : R < B) (v0 v1 v2 : Value) : OwnL (((W.setCell ⟨R, 0, none⟩ v0).setCell ⟨R, 1, none⟩ v1).setCell ⟨R, 2, none⟩ v2) B v zs :=
  ((h.dr (.set R 0 W v0) hR).dr (.set R 1 _ v1) hR).dr (.set R 2 _ v2) hR
end
end Go.Proofs.Ythbiieflmmnfcaa
