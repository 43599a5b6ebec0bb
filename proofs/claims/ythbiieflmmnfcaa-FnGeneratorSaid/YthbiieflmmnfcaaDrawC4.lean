/-
  What the laws of codes draw.
-/
import Derived.Test.YthbiieflmmnfcaaDrawC3
namespace Go.Proofs.Ythbiieflmmnfcaa
open Go.RowKit
set_option linter.unusedVariables false

/-- A state of a draw: R the result's code, X the code, s the source. -/
structure CSt (w0 W : World) (R X s : Nat) (p pw g l c : Int) : Prop where
  res : CB W R 0 0 0 0 0
  fld : CB W X p pw g l c
  src : Src W s
  bel : Below w0.heap.size w0 W
  r0 : R = w0.heap.size
  rs : R < s
  sx : s < X
section
variable {w0 W W' : World} {R X s : Nat} {p pw g l c : Int}
theorem CSt.below (h : CSt w0 W R X s p pw g l c) (hb : Below W.heap.size W W') : CSt w0 W' R X s p pw g l c :=
  ⟨h.res.below hb h.res.lt, h.fld.below hb h.fld.lt, h.src.below hb, h.bel.trans (hb.mono h.bel.size), h.r0, h.rs, h.sx⟩
theorem CSt.drS (h : CSt w0 W R X s p pw g l c) (hd : Dr s W W') (hs : Src W' s) : CSt w0 W' R X s p pw g l c := by
  have h1 := h.rs; have h2 := h.sx; have h3 := h.r0
  exact ⟨h.res.dr hd (by omega), h.fld.dr hd (by omega), hs, h.bel.trans (hd.below (by omega) h.bel.size), h.r0, h.rs, h.sx⟩
end
end Go.Proofs.Ythbiieflmmnfcaa
