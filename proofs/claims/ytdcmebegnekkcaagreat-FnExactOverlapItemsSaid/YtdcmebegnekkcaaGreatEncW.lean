/-
  The parts EncW, EncO.
-/
import Derived.Test.YtdcmebegnekkcaaGreatEnc
/-
  The walks of the two EncodeWord.
-/
namespace Go.Proofs.YtdcmebegnekkcaaGreat
open Go.RowKit
set_option linter.unusedVariables false

open Classical in
noncomputable def encC (p pw g l c : Int) (zs : List Int) : Int := if validC p pw g l c = true then (if (zs.length : Int) = l - c ∧ allB (ffOf p pw g) zs = true then 0 else 2) else 1
noncomputable def encWR (p pw g l c : Int) (zs : List Int) : List Int := if encC p pw g l c zs = 0 then onC p pw g l c (fun V => encL V l.toNat c.toNat zs) else []
end Go.Proofs.YtdcmebegnekkcaaGreat
/-
  The reference's encoded word: a row of the call's own.
-/
namespace Go.Proofs.YtdcmebegnekkcaaGreat
open Go.RowKit
set_option linter.unusedVariables false

end Go.Proofs.YtdcmebegnekkcaaGreat
