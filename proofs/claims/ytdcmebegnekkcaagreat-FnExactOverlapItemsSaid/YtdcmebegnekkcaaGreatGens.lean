/-
  The parts OnP, Synd, Generator, GenOf.
-/
import Derived.Test.YtdcmebegnekkcaaGreatCodes
import Derived.Test.YtdcmebegnekkcaaGreatOwn
import Derived.Test.YtdcmebegnekkcaaGreatQuo
import Derived.Test.YtdcmebegnekkcaaGreatLanes
import Derived.Test.YtdcmebegnekkcaaGreatMathG
/-
  What the functions on polynomials answer.
-/
namespace Go.Proofs.YtdcmebegnekkcaaGreat
open Go.RowKit
set_option linter.unusedVariables false

/-- The field of three valid numbers. -/
def vfOf (p pw g : Int) (h : validB p pw g = true) : VF := ⟨ffOf p pw g, ffOf_ok h⟩
open Classical in
noncomputable def onP (p pw g : Int) (L : List (List Int)) (f : VF → List Int) : List Int := if h : codeP p pw g L = 0 then f (vfOf p pw g (codeP_zero h).1) else []
theorem SF.vf {p pw g : Int} (h : validB p pw g = true) : SF (vfOf p pw g h) p pw g := ⟨h, rfl⟩
noncomputable def addR (p pw g : Int) (x y : List Int) : List Int := onP p pw g [x, y] fun V => VF.lst V (VF.ps V x + VF.ps V y)
end Go.Proofs.YtdcmebegnekkcaaGreat
/-
  The walks of the syndromes of a word.
-/
namespace Go.Proofs.YtdcmebegnekkcaaGreat
open Go.RowKit
set_option linter.unusedVariables false

/-- The value of the polynomial of a word: the first k elements. -/
def svTo (F : FF) (zs : List Int) (x : Int) : Nat → Int
  | 0 => 0
  | k + 1 => F.add (F.mul (svTo F zs x k) x) (gi zs k)
/-- The syndromes of a word, as many as c. -/
def syn (F : FF) (zs : List Int) (c : Nat) : List Int := (List.range c).map fun j => svTo F zs (F.exp (j + 1)) zs.length
/-- Whether all numbers are 0. -/
def zeroB (zs : List Int) : Bool := zs.all (· == 0)
end Go.Proofs.YtdcmebegnekkcaaGreat
/-
  The walks of generators and locators, in the program and in the reference.
-/
namespace Go.Proofs.YtdcmebegnekkcaaGreat
open Go.RowKit
set_option linter.unusedVariables false

/-- A code of the field V. -/
structure SC (V : VF) (p pw g l c : Int) : Prop where
  sf : SF V p pw g
  valid : validC p pw g l c = true
theorem SC.of {p pw g l c : Int} (h : validC p pw g l c = true) : SC (vfOf p pw g (validC_iff h).1) p pw g l c := ⟨SF.vf _, h⟩
/-- The product of x - root for the first n powers of the generator. -/
noncomputable def genF (V : VF) : Nat → PS (El V)
  | 0 => 1
  | n + 1 => genF V n * (PS.X - PS.C (VF.of V (V.F.exp (n + 1))))
end Go.Proofs.YtdcmebegnekkcaaGreat
/-
  The walks of the two GeneratorOf.
-/
namespace Go.Proofs.YtdcmebegnekkcaaGreat
open Go.RowKit
set_option linter.unusedVariables false

open Classical in
noncomputable def onC (p pw g l c : Int) (f : VF → List Int) : List Int := if h : validC p pw g l c = true then f (vfOf p pw g (validC_iff h).1) else []
noncomputable def validI (p pw g l c : Int) : Int := if validC p pw g l c = true then 0 else 1
noncomputable def genR (p pw g l c : Int) : List Int := onC p pw g l c fun V => VF.lst V (genF V c.toNat)
end Go.Proofs.YtdcmebegnekkcaaGreat
