/-
  Layouts: shares, the order of a stream, streams and their words. Plain mathematics.
-/
import Derived.Test.YtdcmebegnekkcaaGreatGens
namespace Go.Proofs.YtdcmebegnekkcaaGreat
set_option linter.unusedVariables false

/-- The number of data elements of block b: q, and one more from block n - r on. -/
def shN (q r n b : Nat) : Nat := q + if n - r ≤ b then 1 else 0
/-- The elements e of the first k blocks. -/
def rowP (sh : Nat → Nat) (e k : Nat) : List (Nat × Nat) := ((List.range k).filter fun b => decide (e < sh b)).map fun b => (b, e)
def datP (sh : Nat → Nat) (n E : Nat) : List (Nat × Nat) := (List.range E).flatMap fun e => rowP sh e n
def chkR (sh : Nat → Nat) (e k : Nat) : List (Nat × Nat) := (List.range k).map fun b => (b, sh b + e)
def chkP (sh : Nat → Nat) (n E : Nat) : List (Nat × Nat) := (List.range E).flatMap fun e => chkR sh e n
def ordP (sh : Nat → Nat) (n Q C : Nat) : List (Nat × Nat) := datP sh n Q ++ chkP sh n C
section
variable {sh : Nat → Nat} {n e k E C Q b : Nat}
end
theorem shN_le (q r n b : Nat) : q ≤ shN q r n b ∧ shN q r n b ≤ q + 1 := by unfold shN; split <;> omega
/-- The order of the stream. -/
def ordS (q r n C : Nat) : List (Nat × Nat) := ordP (shN q r n) n (q + 1) C
/-- A stream of some words. -/
def strL (o : List (Nat × Nat)) (W : Nat → Nat → Int) : List Int := o.map fun x => W x.1 x.2
/-- What word b holds at e when the first j elements of a stream have come. -/
def splG (o : List (Nat × Nat)) (s : List Int) (j b e : Nat) : Int := if o.idxOf (b, e) < j then gi s (o.idxOf (b, e)) else 0
def splR (o : List (Nat × Nat)) (s : List Int) (j b len : Nat) : List Int := (List.range len).map (splG o s j b)
/-- Where block b begins in the data. -/
def offN (sh : Nat → Nat) : Nat → Nat
  | 0 => 0
  | b + 1 => offN sh b + sh b
end Go.Proofs.YtdcmebegnekkcaaGreat
