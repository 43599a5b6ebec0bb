/-
  The walks of the two PolyEval.
-/
import Derived.Test.YtenlaoadclfmaaaSpecPolys
namespace Go.Proofs.Ytenlaoadclfmaaa
open Go.RowKit
set_option linter.unusedVariables false

/-- The code that PolyEval answers. -/
noncomputable def pevC (p pw g : Int) (zs : List Int) (x : Int) : Int := if codeP p pw g [zs] = 0 then (if hasB (ffOf p pw g) x = true then 0 else 2) else codeP p pw g [zs]
noncomputable def pevR (p pw g : Int) (zs : List Int) (x : Int) : Int := if codeP p pw g [zs] = 0 ∧ hasB (ffOf p pw g) x = true then evI (ffOf p pw g) zs x else 0
abbrev FT : TypeId := 27
theorem box_alloc {w : World} {B : Nat} {p pw g : Int} (h : Box w B p pw g) (o : Obj) : Box (w.alloc o) B p pw g := h.below ((Below.refl _ _).alloc (Nat.le_refl _) o) h.lt
end Go.Proofs.Ytenlaoadclfmaaa
