/-
  The walks of SyndromesOf and IsCodeWord, in the program and in the reference.
-/
import Derived.Test.YtdcmebegnekkcaaGreatGens
namespace Go.Proofs.YtdcmebegnekkcaaGreat
open Go.RowKit
set_option linter.unusedVariables false

noncomputable def soR (p pw g l c : Int) (zs : List Int) : List Int := if codeC p pw g l c [zs] = 0 then syn (ffOf p pw g) zs c.toNat else []
noncomputable def icwB (p pw g l c : Int) (zs : List Int) : Bool := decide (codeC p pw g l c [zs] = 0) && zeroB (syn (ffOf p pw g) zs c.toNat)
abbrev T1' : TypeId := 25
end Go.Proofs.YtdcmebegnekkcaaGreat
