/-
  Encoding: the walks of encode and l04Encode.
-/
import Derived.Test.YtdcmebegnekkcaaGreatOwn
import Derived.Test.YtdcmebegnekkcaaGreatFits
namespace Go.Proofs.YtdcmebegnekkcaaGreat
open Go.RowKit
set_option linter.unusedVariables false

/-- The message as the high coefficients of a polynomial, after k numbers. -/
noncomputable def hiF (V : VF) (L : Nat) (msg : List Int) : Nat → PS (El V)
  | 0 => 0
  | k + 1 => hiF V L msg k + VF.xp V (L - 1 - k) * PS.C (VF.of V (gi msg k))
/-- The remainder of the message's polynomial by the generator. -/
noncomputable def encR (V : VF) (L c : Nat) (msg : List Int) : List Int := (VF.dqr V (VF.lst V (hiF V L msg msg.length)) (VF.lst V (genF V c))).2
/-- The first k check elements. -/
def chkTo (F : FF) (r : List Int) (c k : Nat) : List Int := (List.range k).map fun j => F.neg (gi r (c - 1 - j))
/-- The encoded word. -/
noncomputable def encL (V : VF) (L c : Nat) (msg : List Int) : List Int := msg ++ chkTo V.F (encR V L c msg) c c
end Go.Proofs.YtdcmebegnekkcaaGreat
