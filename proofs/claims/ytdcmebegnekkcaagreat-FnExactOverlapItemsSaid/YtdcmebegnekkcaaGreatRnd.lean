/-
  A region that draws its order, in a round of a loop over an iterator: it is walked as anywhere.
-/
import Derived.Test.YtdcmebegnekkcaaGreatPeel
import Derived.RangeFuncNested
import Derived.RangeFuncBound
import Derived.RangeFuncCalls
import Derived.RangeFuncLeaves
import Derived.OrdersIn
namespace Go.Proofs.YtdcmebegnekkcaaGreat
open Go.RowKit
set_option linter.unusedVariables false

section
variable {P : Program} {Q : Exit → Act → World → Prop} {S : World → Prop} {l n : Nat}
def calmB (ops : Array Oper) : Bool := ops.all fun o => match o.op with
  | .defer _ => false
  | _ => true
/-- A region under S, by the moves of wpAnyH. -/
theorem wp_region_S {id : Nat} {ops : Array Oper} {a : Act} {w : World} (k : Nat) (hk : ops.size = k) (hm : P.follows .mixedOrders = true) (hS : S w.drew)
    (h : S w.drew → wpAnyH P .any ops Q S k (Array.replicate k false) a w.drew) : (Code.region id ops true).wp P Q a w := by
  subst hk
  exact wp_region_any hm (wpAny_of_held _ _ _ _ (h hS))
end
end Go.Proofs.YtdcmebegnekkcaaGreat
