/-
  No cell of these rows narrows 'for every input' (looked for: loops, veiled, ifaces, maps, wideKeys, modest, calm, conditions, laid).
  DERIVED. THE GIVEN ROWS OF THIS SEAT. 12 by the template 'for every input the law returns true; each argument reads behind the call as it read before'; 0 by the template 'total and deterministic' (their statements: YtenlaoadclfmaaaTotals.lean).
  GIVEN WITH THE SEED: the statements are not yours to turn. If you find one false, say at which input.
  Laid BY PROGRAM, IN A SANDBOX (cutbox-rows.mjs): the forced cells as the released guide's own fill.sh prints them over the translation 1d85cc32ede4b9f4… (all of the seat's roots in one cut). By AI agents, Wed Nov 11 2026. No macro, syntax, notation, axiom, sorry.
-/
import Derived.Test.YtenlaoadclfmaaaChecked
import GoSem.Claim
import GoSem.ClaimJoined
import GoSem.ClaimMapViews
import Derived.JoinedTies
import Derived.KernelRfl
namespace Go.Proofs.Ytenlaoadclfmaaa
/- THE CELL 'sum', in the pinned program and in every row, IS THE sha256 OF THE DUMP (.gsa) THAT YtenlaoadclfmaaaProg.lean LOADS. Nothing in Lean hashes anything: it is a label: what it is worth is what the hold of that sum in a sandbox is worth. -/
noncomputable def Try.pinned : Pinned := { name := "ytenlaoadclfmaaa", sum := "1d85cc32ede4b9f4509d5ef707b906106e3f14da1099ab5684ece92ae60dc6cf", checked := Try.checked }
namespace Rows
def none {H : Type} : Left H := { results := [], args := [] }

/-- 'laws.FnExactPolyAdd': WHATEVER THE INPUT: true; the input reads as it did. -/
def fnExactPolyAddSpec : ChangeSpec := { name := "fnExactPolyAdd", fn := fun _ => fun
  | [d1, d2, d3] => { results := [.lit (.bool true)], args := [d1, d2, d3] }
  | _ => none }
def fnExactPolyAddRow : OpenClaim := { program := "ytenlaoadclfmaaa", sum := "1d85cc32ede4b9f4509d5ef707b906106e3f14da1099ab5684ece92ae60dc6cf", func := "loop.example/g00879/laws.FnExactPolyAdd", spec := "fnExactPolyAdd", unfollowed := true, recurses := true, apart := false }
def FnExactPolyAddSaid : Prop := fnExactPolyAddRow.holds Try.pinned (OpenSpec.ofChange fnExactPolyAddSpec)

/-- ITS FALSE NEIGHBOUR: 'it returns false'. Refute it at one input. -/
def fnExactPolyAddWrong : ChangeSpec := { name := "fnExactPolyAdd", fn := fun _ => fun
  | [d1, d2, d3] => { results := [.lit (.bool false)], args := [d1, d2, d3] }
  | _ => none }
def FnExactPolyAddWrongFalsely : Prop := fnExactPolyAddRow.holds Try.pinned (OpenSpec.ofChange fnExactPolyAddWrong)

/-- 'laws.FnExactIsCodeWord': WHATEVER THE INPUT: true; the input reads as it did. -/
def fnExactIsCodeWordSpec : ChangeSpec := { name := "fnExactIsCodeWord", fn := fun _ => fun
  | [d1, d2] => { results := [.lit (.bool true)], args := [d1, d2] }
  | _ => none }
def fnExactIsCodeWordRow : OpenClaim := { program := "ytenlaoadclfmaaa", sum := "1d85cc32ede4b9f4509d5ef707b906106e3f14da1099ab5684ece92ae60dc6cf", func := "loop.example/g00879/laws.FnExactIsCodeWord", spec := "fnExactIsCodeWord", unfollowed := true, recurses := true, apart := false }
def FnExactIsCodeWordSaid : Prop := fnExactIsCodeWordRow.holds Try.pinned (OpenSpec.ofChange fnExactIsCodeWordSpec)

/-- ITS FALSE NEIGHBOUR: 'it returns false'. Refute it at one input. -/
def fnExactIsCodeWordWrong : ChangeSpec := { name := "fnExactIsCodeWord", fn := fun _ => fun
  | [d1, d2] => { results := [.lit (.bool false)], args := [d1, d2] }
  | _ => none }
def FnExactIsCodeWordWrongFalsely : Prop := fnExactIsCodeWordRow.holds Try.pinned (OpenSpec.ofChange fnExactIsCodeWordWrong)

/-- 'laws.FnExactPolyMul': WHATEVER THE INPUT: true; the input reads as it did. -/
def fnExactPolyMulSpec : ChangeSpec := { name := "fnExactPolyMul", fn := fun _ => fun
  | [d1, d2, d3] => { results := [.lit (.bool true)], args := [d1, d2, d3] }
  | _ => none }
def fnExactPolyMulRow : OpenClaim := { program := "ytenlaoadclfmaaa", sum := "1d85cc32ede4b9f4509d5ef707b906106e3f14da1099ab5684ece92ae60dc6cf", func := "loop.example/g00879/laws.FnExactPolyMul", spec := "fnExactPolyMul", unfollowed := true, recurses := true, apart := false }
def FnExactPolyMulSaid : Prop := fnExactPolyMulRow.holds Try.pinned (OpenSpec.ofChange fnExactPolyMulSpec)

/-- ITS FALSE NEIGHBOUR: 'it returns false'. Refute it at one input. -/
def fnExactPolyMulWrong : ChangeSpec := { name := "fnExactPolyMul", fn := fun _ => fun
  | [d1, d2, d3] => { results := [.lit (.bool false)], args := [d1, d2, d3] }
  | _ => none }
def FnExactPolyMulWrongFalsely : Prop := fnExactPolyMulRow.holds Try.pinned (OpenSpec.ofChange fnExactPolyMulWrong)

/-- 'laws.FnFieldRing': WHATEVER THE INPUT: true; the input reads as it did. -/
def fnFieldRingSpec : ChangeSpec := { name := "fnFieldRing", fn := fun _ => fun
  | [d] => { results := [.lit (.bool true)], args := [d] }
  | _ => none }
def fnFieldRingRow : OpenClaim := { program := "ytenlaoadclfmaaa", sum := "1d85cc32ede4b9f4509d5ef707b906106e3f14da1099ab5684ece92ae60dc6cf", func := "loop.example/g00879/laws.FnFieldRing", spec := "fnFieldRing", unfollowed := true, recurses := true, apart := false }
def FnFieldRingSaid : Prop := fnFieldRingRow.holds Try.pinned (OpenSpec.ofChange fnFieldRingSpec)

/-- ITS FALSE NEIGHBOUR: 'it returns false'. Refute it at one input. -/
def fnFieldRingWrong : ChangeSpec := { name := "fnFieldRing", fn := fun _ => fun
  | [d] => { results := [.lit (.bool false)], args := [d] }
  | _ => none }
def FnFieldRingWrongFalsely : Prop := fnFieldRingRow.holds Try.pinned (OpenSpec.ofChange fnFieldRingWrong)

/-- 'laws.FnExactSyndromesOf': WHATEVER THE INPUT: true; the input reads as it did. -/
def fnExactSyndromesOfSpec : ChangeSpec := { name := "fnExactSyndromesOf", fn := fun _ => fun
  | [d1, d2] => { results := [.lit (.bool true)], args := [d1, d2] }
  | _ => none }
def fnExactSyndromesOfRow : OpenClaim := { program := "ytenlaoadclfmaaa", sum := "1d85cc32ede4b9f4509d5ef707b906106e3f14da1099ab5684ece92ae60dc6cf", func := "loop.example/g00879/laws.FnExactSyndromesOf", spec := "fnExactSyndromesOf", unfollowed := true, recurses := true, apart := false }
def FnExactSyndromesOfSaid : Prop := fnExactSyndromesOfRow.holds Try.pinned (OpenSpec.ofChange fnExactSyndromesOfSpec)

/-- ITS FALSE NEIGHBOUR: 'it returns false'. Refute it at one input. -/
def fnExactSyndromesOfWrong : ChangeSpec := { name := "fnExactSyndromesOf", fn := fun _ => fun
  | [d1, d2] => { results := [.lit (.bool false)], args := [d1, d2] }
  | _ => none }
def FnExactSyndromesOfWrongFalsely : Prop := fnExactSyndromesOfRow.holds Try.pinned (OpenSpec.ofChange fnExactSyndromesOfWrong)

/-- 'laws.FnExactGeneratorOf': WHATEVER THE INPUT: true; the input reads as it did. -/
def fnExactGeneratorOfSpec : ChangeSpec := { name := "fnExactGeneratorOf", fn := fun _ => fun
  | [d] => { results := [.lit (.bool true)], args := [d] }
  | _ => none }
def fnExactGeneratorOfRow : OpenClaim := { program := "ytenlaoadclfmaaa", sum := "1d85cc32ede4b9f4509d5ef707b906106e3f14da1099ab5684ece92ae60dc6cf", func := "loop.example/g00879/laws.FnExactGeneratorOf", spec := "fnExactGeneratorOf", unfollowed := true, recurses := true, apart := false }
def FnExactGeneratorOfSaid : Prop := fnExactGeneratorOfRow.holds Try.pinned (OpenSpec.ofChange fnExactGeneratorOfSpec)

/-- ITS FALSE NEIGHBOUR: 'it returns false'. Refute it at one input. -/
def fnExactGeneratorOfWrong : ChangeSpec := { name := "fnExactGeneratorOf", fn := fun _ => fun
  | [d] => { results := [.lit (.bool false)], args := [d] }
  | _ => none }
def FnExactGeneratorOfWrongFalsely : Prop := fnExactGeneratorOfRow.holds Try.pinned (OpenSpec.ofChange fnExactGeneratorOfWrong)

/-- 'laws.FnFieldInverse': WHATEVER THE INPUT: true; the input reads as it did. -/
def fnFieldInverseSpec : ChangeSpec := { name := "fnFieldInverse", fn := fun _ => fun
  | [d] => { results := [.lit (.bool true)], args := [d] }
  | _ => none }
def fnFieldInverseRow : OpenClaim := { program := "ytenlaoadclfmaaa", sum := "1d85cc32ede4b9f4509d5ef707b906106e3f14da1099ab5684ece92ae60dc6cf", func := "loop.example/g00879/laws.FnFieldInverse", spec := "fnFieldInverse", unfollowed := true, recurses := true, apart := false }
def FnFieldInverseSaid : Prop := fnFieldInverseRow.holds Try.pinned (OpenSpec.ofChange fnFieldInverseSpec)

/-- ITS FALSE NEIGHBOUR: 'it returns false'. Refute it at one input. -/
def fnFieldInverseWrong : ChangeSpec := { name := "fnFieldInverse", fn := fun _ => fun
  | [d] => { results := [.lit (.bool false)], args := [d] }
  | _ => none }
def FnFieldInverseWrongFalsely : Prop := fnFieldInverseRow.holds Try.pinned (OpenSpec.ofChange fnFieldInverseWrong)

/-- 'laws.FnExactPolyDiv': WHATEVER THE INPUT: true; the input reads as it did. -/
def fnExactPolyDivSpec : ChangeSpec := { name := "fnExactPolyDiv", fn := fun _ => fun
  | [d1, d2, d3] => { results := [.lit (.bool true)], args := [d1, d2, d3] }
  | _ => none }
def fnExactPolyDivRow : OpenClaim := { program := "ytenlaoadclfmaaa", sum := "1d85cc32ede4b9f4509d5ef707b906106e3f14da1099ab5684ece92ae60dc6cf", func := "loop.example/g00879/laws.FnExactPolyDiv", spec := "fnExactPolyDiv", unfollowed := true, recurses := true, apart := false }
def FnExactPolyDivSaid : Prop := fnExactPolyDivRow.holds Try.pinned (OpenSpec.ofChange fnExactPolyDivSpec)

/-- ITS FALSE NEIGHBOUR: 'it returns false'. Refute it at one input. -/
def fnExactPolyDivWrong : ChangeSpec := { name := "fnExactPolyDiv", fn := fun _ => fun
  | [d1, d2, d3] => { results := [.lit (.bool false)], args := [d1, d2, d3] }
  | _ => none }
def FnExactPolyDivWrongFalsely : Prop := fnExactPolyDivRow.holds Try.pinned (OpenSpec.ofChange fnExactPolyDivWrong)

/-- 'laws.FnExactLocatorOf': WHATEVER THE INPUT: true; the input reads as it did. -/
def fnExactLocatorOfSpec : ChangeSpec := { name := "fnExactLocatorOf", fn := fun _ => fun
  | [d1, d2] => { results := [.lit (.bool true)], args := [d1, d2] }
  | _ => none }
def fnExactLocatorOfRow : OpenClaim := { program := "ytenlaoadclfmaaa", sum := "1d85cc32ede4b9f4509d5ef707b906106e3f14da1099ab5684ece92ae60dc6cf", func := "loop.example/g00879/laws.FnExactLocatorOf", spec := "fnExactLocatorOf", unfollowed := true, recurses := true, apart := false }
def FnExactLocatorOfSaid : Prop := fnExactLocatorOfRow.holds Try.pinned (OpenSpec.ofChange fnExactLocatorOfSpec)

/-- ITS FALSE NEIGHBOUR: 'it returns false'. Refute it at one input. -/
def fnExactLocatorOfWrong : ChangeSpec := { name := "fnExactLocatorOf", fn := fun _ => fun
  | [d1, d2] => { results := [.lit (.bool false)], args := [d1, d2] }
  | _ => none }
def FnExactLocatorOfWrongFalsely : Prop := fnExactLocatorOfRow.holds Try.pinned (OpenSpec.ofChange fnExactLocatorOfWrong)

/-- 'laws.FnExactPolyGcd': WHATEVER THE INPUT: true; the input reads as it did. -/
def fnExactPolyGcdSpec : ChangeSpec := { name := "fnExactPolyGcd", fn := fun _ => fun
  | [d1, d2, d3] => { results := [.lit (.bool true)], args := [d1, d2, d3] }
  | _ => none }
def fnExactPolyGcdRow : OpenClaim := { program := "ytenlaoadclfmaaa", sum := "1d85cc32ede4b9f4509d5ef707b906106e3f14da1099ab5684ece92ae60dc6cf", func := "loop.example/g00879/laws.FnExactPolyGcd", spec := "fnExactPolyGcd", unfollowed := true, recurses := true, apart := false }
def FnExactPolyGcdSaid : Prop := fnExactPolyGcdRow.holds Try.pinned (OpenSpec.ofChange fnExactPolyGcdSpec)

/-- ITS FALSE NEIGHBOUR: 'it returns false'. Refute it at one input. -/
def fnExactPolyGcdWrong : ChangeSpec := { name := "fnExactPolyGcd", fn := fun _ => fun
  | [d1, d2, d3] => { results := [.lit (.bool false)], args := [d1, d2, d3] }
  | _ => none }
def FnExactPolyGcdWrongFalsely : Prop := fnExactPolyGcdRow.holds Try.pinned (OpenSpec.ofChange fnExactPolyGcdWrong)

/-- 'laws.FnExactSequenceLength': WHATEVER THE INPUT: true; the input reads as it did. -/
def fnExactSequenceLengthSpec : ChangeSpec := { name := "fnExactSequenceLength", fn := fun _ => fun
  | [d1, d2] => { results := [.lit (.bool true)], args := [d1, d2] }
  | _ => none }
def fnExactSequenceLengthRow : OpenClaim := { program := "ytenlaoadclfmaaa", sum := "1d85cc32ede4b9f4509d5ef707b906106e3f14da1099ab5684ece92ae60dc6cf", func := "loop.example/g00879/laws.FnExactSequenceLength", spec := "fnExactSequenceLength", unfollowed := true, recurses := true, apart := false }
def FnExactSequenceLengthSaid : Prop := fnExactSequenceLengthRow.holds Try.pinned (OpenSpec.ofChange fnExactSequenceLengthSpec)

/-- ITS FALSE NEIGHBOUR: 'it returns false'. Refute it at one input. -/
def fnExactSequenceLengthWrong : ChangeSpec := { name := "fnExactSequenceLength", fn := fun _ => fun
  | [d1, d2] => { results := [.lit (.bool false)], args := [d1, d2] }
  | _ => none }
def FnExactSequenceLengthWrongFalsely : Prop := fnExactSequenceLengthRow.holds Try.pinned (OpenSpec.ofChange fnExactSequenceLengthWrong)

/-- 'laws.FnExactPolyFit': WHATEVER THE INPUT: true; the input reads as it did. -/
def fnExactPolyFitSpec : ChangeSpec := { name := "fnExactPolyFit", fn := fun _ => fun
  | [d1, d2, d3] => { results := [.lit (.bool true)], args := [d1, d2, d3] }
  | _ => none }
def fnExactPolyFitRow : OpenClaim := { program := "ytenlaoadclfmaaa", sum := "1d85cc32ede4b9f4509d5ef707b906106e3f14da1099ab5684ece92ae60dc6cf", func := "loop.example/g00879/laws.FnExactPolyFit", spec := "fnExactPolyFit", unfollowed := true, recurses := true, apart := false }
def FnExactPolyFitSaid : Prop := fnExactPolyFitRow.holds Try.pinned (OpenSpec.ofChange fnExactPolyFitSpec)

/-- ITS FALSE NEIGHBOUR: 'it returns false'. Refute it at one input. -/
def fnExactPolyFitWrong : ChangeSpec := { name := "fnExactPolyFit", fn := fun _ => fun
  | [d1, d2, d3] => { results := [.lit (.bool false)], args := [d1, d2, d3] }
  | _ => none }
def FnExactPolyFitWrongFalsely : Prop := fnExactPolyFitRow.holds Try.pinned (OpenSpec.ofChange fnExactPolyFitWrong)

/- THE SECOND FORM. 'bulk': how many values and letters a reading holds, each counted each time it is reached (what is shared counts as often as it is met; a slice's spare places count too). A statement '..UptoSaid' is the law's where the arguments, and the package variables that the reading takes, are together of bulk at most 1048576: NARROWER than '..Said'. Prove '..Said' where nothing that the law and all that it calls make is longer than what came in: it says more and counts as full. Else prove '..UptoSaid'. A law counts once. -/
mutual
def uptoBulk {H : Type} : DataW H → Nat
  | .lit (.string bytes) => bytes.length + 1
  | .lit _ => 1
  | .nil => 1
  | .ptr d => uptoBulk d + 1
  | .slice elems spare => uptoBulkAll elems + uptoBulkAll spare + 1
  | .agg parts => uptoBulkAll parts + 1
  | .iface _ d => uptoBulk d + 1
  | .map entries => uptoBulkEntries entries + 1
  | .held _ => 1
def uptoBulkAll {H : Type} : List (DataW H) → Nat
  | [] => 0
  | d :: r => uptoBulk d + uptoBulkAll r
def uptoBulkEntries {H : Type} : List (Lit × DataW H) → Nat
  | [] => 0
  | x :: r => uptoBulkEntry x + uptoBulkEntries r
def uptoBulkEntry {H : Type} : Lit × DataW H → Nat
  | (.string bytes, d) => bytes.length + uptoBulk d + 1
  | (_, d) => uptoBulk d + 1
 end
def uptoSmall : (H : Type) → List (DataW H) → Bool := fun _ ds => decide (uptoBulkAll ds ≤ 1048576)
def OpenSpec.upto (s : _root_.Go.ChangeSpec) : _root_.Go.OpenSpec := { _root_.Go.OpenSpec.ofChange s with cond := some uptoSmall }

/-- 'laws.FnExactPolyAdd', WHERE WHAT IT READS IS OF BULK AT MOST 1048576: true; the input reads as it did. -/
def fnExactPolyAddUptoRow : OpenClaim := { program := "ytenlaoadclfmaaa", sum := "1d85cc32ede4b9f4509d5ef707b906106e3f14da1099ab5684ece92ae60dc6cf", func := "loop.example/g00879/laws.FnExactPolyAdd", spec := "fnExactPolyAdd", unfollowed := true, recurses := true, apart := false, narrowed := true }
def FnExactPolyAddUptoSaid : Prop := fnExactPolyAddUptoRow.holds Try.pinned (OpenSpec.upto fnExactPolyAddSpec)

/-- 'laws.FnExactIsCodeWord', WHERE WHAT IT READS IS OF BULK AT MOST 1048576: true; the input reads as it did. -/
def fnExactIsCodeWordUptoRow : OpenClaim := { program := "ytenlaoadclfmaaa", sum := "1d85cc32ede4b9f4509d5ef707b906106e3f14da1099ab5684ece92ae60dc6cf", func := "loop.example/g00879/laws.FnExactIsCodeWord", spec := "fnExactIsCodeWord", unfollowed := true, recurses := true, apart := false, narrowed := true }
def FnExactIsCodeWordUptoSaid : Prop := fnExactIsCodeWordUptoRow.holds Try.pinned (OpenSpec.upto fnExactIsCodeWordSpec)

/-- 'laws.FnExactPolyMul', WHERE WHAT IT READS IS OF BULK AT MOST 1048576: true; the input reads as it did. -/
def fnExactPolyMulUptoRow : OpenClaim := { program := "ytenlaoadclfmaaa", sum := "1d85cc32ede4b9f4509d5ef707b906106e3f14da1099ab5684ece92ae60dc6cf", func := "loop.example/g00879/laws.FnExactPolyMul", spec := "fnExactPolyMul", unfollowed := true, recurses := true, apart := false, narrowed := true }
def FnExactPolyMulUptoSaid : Prop := fnExactPolyMulUptoRow.holds Try.pinned (OpenSpec.upto fnExactPolyMulSpec)

/-- 'laws.FnFieldRing', WHERE WHAT IT READS IS OF BULK AT MOST 1048576: true; the input reads as it did. -/
def fnFieldRingUptoRow : OpenClaim := { program := "ytenlaoadclfmaaa", sum := "1d85cc32ede4b9f4509d5ef707b906106e3f14da1099ab5684ece92ae60dc6cf", func := "loop.example/g00879/laws.FnFieldRing", spec := "fnFieldRing", unfollowed := true, recurses := true, apart := false, narrowed := true }
def FnFieldRingUptoSaid : Prop := fnFieldRingUptoRow.holds Try.pinned (OpenSpec.upto fnFieldRingSpec)

/-- 'laws.FnExactSyndromesOf', WHERE WHAT IT READS IS OF BULK AT MOST 1048576: true; the input reads as it did. -/
def fnExactSyndromesOfUptoRow : OpenClaim := { program := "ytenlaoadclfmaaa", sum := "1d85cc32ede4b9f4509d5ef707b906106e3f14da1099ab5684ece92ae60dc6cf", func := "loop.example/g00879/laws.FnExactSyndromesOf", spec := "fnExactSyndromesOf", unfollowed := true, recurses := true, apart := false, narrowed := true }
def FnExactSyndromesOfUptoSaid : Prop := fnExactSyndromesOfUptoRow.holds Try.pinned (OpenSpec.upto fnExactSyndromesOfSpec)

/-- 'laws.FnExactGeneratorOf', WHERE WHAT IT READS IS OF BULK AT MOST 1048576: true; the input reads as it did. -/
def fnExactGeneratorOfUptoRow : OpenClaim := { program := "ytenlaoadclfmaaa", sum := "1d85cc32ede4b9f4509d5ef707b906106e3f14da1099ab5684ece92ae60dc6cf", func := "loop.example/g00879/laws.FnExactGeneratorOf", spec := "fnExactGeneratorOf", unfollowed := true, recurses := true, apart := false, narrowed := true }
def FnExactGeneratorOfUptoSaid : Prop := fnExactGeneratorOfUptoRow.holds Try.pinned (OpenSpec.upto fnExactGeneratorOfSpec)

/-- 'laws.FnFieldInverse', WHERE WHAT IT READS IS OF BULK AT MOST 1048576: true; the input reads as it did. -/
def fnFieldInverseUptoRow : OpenClaim := { program := "ytenlaoadclfmaaa", sum := "1d85cc32ede4b9f4509d5ef707b906106e3f14da1099ab5684ece92ae60dc6cf", func := "loop.example/g00879/laws.FnFieldInverse", spec := "fnFieldInverse", unfollowed := true, recurses := true, apart := false, narrowed := true }
def FnFieldInverseUptoSaid : Prop := fnFieldInverseUptoRow.holds Try.pinned (OpenSpec.upto fnFieldInverseSpec)

/-- 'laws.FnExactPolyDiv', WHERE WHAT IT READS IS OF BULK AT MOST 1048576: true; the input reads as it did. -/
def fnExactPolyDivUptoRow : OpenClaim := { program := "ytenlaoadclfmaaa", sum := "1d85cc32ede4b9f4509d5ef707b906106e3f14da1099ab5684ece92ae60dc6cf", func := "loop.example/g00879/laws.FnExactPolyDiv", spec := "fnExactPolyDiv", unfollowed := true, recurses := true, apart := false, narrowed := true }
def FnExactPolyDivUptoSaid : Prop := fnExactPolyDivUptoRow.holds Try.pinned (OpenSpec.upto fnExactPolyDivSpec)

/-- 'laws.FnExactLocatorOf', WHERE WHAT IT READS IS OF BULK AT MOST 1048576: true; the input reads as it did. -/
def fnExactLocatorOfUptoRow : OpenClaim := { program := "ytenlaoadclfmaaa", sum := "1d85cc32ede4b9f4509d5ef707b906106e3f14da1099ab5684ece92ae60dc6cf", func := "loop.example/g00879/laws.FnExactLocatorOf", spec := "fnExactLocatorOf", unfollowed := true, recurses := true, apart := false, narrowed := true }
def FnExactLocatorOfUptoSaid : Prop := fnExactLocatorOfUptoRow.holds Try.pinned (OpenSpec.upto fnExactLocatorOfSpec)

/-- 'laws.FnExactPolyGcd', WHERE WHAT IT READS IS OF BULK AT MOST 1048576: true; the input reads as it did. -/
def fnExactPolyGcdUptoRow : OpenClaim := { program := "ytenlaoadclfmaaa", sum := "1d85cc32ede4b9f4509d5ef707b906106e3f14da1099ab5684ece92ae60dc6cf", func := "loop.example/g00879/laws.FnExactPolyGcd", spec := "fnExactPolyGcd", unfollowed := true, recurses := true, apart := false, narrowed := true }
def FnExactPolyGcdUptoSaid : Prop := fnExactPolyGcdUptoRow.holds Try.pinned (OpenSpec.upto fnExactPolyGcdSpec)

/-- 'laws.FnExactSequenceLength', WHERE WHAT IT READS IS OF BULK AT MOST 1048576: true; the input reads as it did. -/
def fnExactSequenceLengthUptoRow : OpenClaim := { program := "ytenlaoadclfmaaa", sum := "1d85cc32ede4b9f4509d5ef707b906106e3f14da1099ab5684ece92ae60dc6cf", func := "loop.example/g00879/laws.FnExactSequenceLength", spec := "fnExactSequenceLength", unfollowed := true, recurses := true, apart := false, narrowed := true }
def FnExactSequenceLengthUptoSaid : Prop := fnExactSequenceLengthUptoRow.holds Try.pinned (OpenSpec.upto fnExactSequenceLengthSpec)

/-- 'laws.FnExactPolyFit', WHERE WHAT IT READS IS OF BULK AT MOST 1048576: true; the input reads as it did. -/
def fnExactPolyFitUptoRow : OpenClaim := { program := "ytenlaoadclfmaaa", sum := "1d85cc32ede4b9f4509d5ef707b906106e3f14da1099ab5684ece92ae60dc6cf", func := "loop.example/g00879/laws.FnExactPolyFit", spec := "fnExactPolyFit", unfollowed := true, recurses := true, apart := false, narrowed := true }
def FnExactPolyFitUptoSaid : Prop := fnExactPolyFitUptoRow.holds Try.pinned (OpenSpec.upto fnExactPolyFitSpec)

end Rows
end Go.Proofs.Ytenlaoadclfmaaa
