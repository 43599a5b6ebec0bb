/-
  No cell of these rows narrows 'for every input' (looked for: loops, veiled, ifaces, maps, wideKeys, modest, calm, conditions, laid).
  DERIVED. THE GIVEN ROWS OF THIS SEAT. 12 by the template 'for every input the law returns true; each argument reads behind the call as it read before'; 0 by the template 'total and deterministic' (their statements: YtnhpdenneplapaaTotals.lean).
  GIVEN WITH THE SEED: the statements are not yours to turn. If you find one false, say at which input.
  Laid BY PROGRAM, IN A SANDBOX (cutbox-rows.mjs): the forced cells as the released guide's own fill.sh prints them over the translation f9d1293fbdd6a6bc… (all of the seat's roots in one cut). By AI agents, Wed Nov 11 2026. No macro, syntax, notation, axiom, sorry.
-/
import Derived.Test.YtnhpdenneplapaaChecked
import GoSem.Claim
import GoSem.ClaimJoined
import GoSem.ClaimMapViews
import Derived.JoinedTies
import Derived.KernelRfl
namespace Go.Proofs.Ytnhpdenneplapaa
/- THE CELL 'sum', in the pinned program and in every row, IS THE sha256 OF THE DUMP (.gsa) THAT YtnhpdenneplapaaProg.lean LOADS. Nothing in Lean hashes anything: it is a label: what it is worth is what the hold of that sum in a sandbox is worth. -/
noncomputable def Try.pinned : Pinned := { name := "ytnhpdenneplapaa", sum := "f9d1293fbdd6a6bcd9dc71b05b08153b02a27bab5188d0350d8c57d8c8853f8d", checked := Try.checked }
namespace Rows
def none {H : Type} : Left H := { results := [], args := [] }

/-- 'laws.FnPolyRoots': WHATEVER THE INPUT: true; the input reads as it did. -/
def fnPolyRootsSpec : ChangeSpec := { name := "fnPolyRoots", fn := fun _ => fun
  | [d] => { results := [.lit (.bool true)], args := [d] }
  | _ => none }
def fnPolyRootsRow : OpenClaim := { program := "ytnhpdenneplapaa", sum := "f9d1293fbdd6a6bcd9dc71b05b08153b02a27bab5188d0350d8c57d8c8853f8d", func := "loop.example/g00879/laws.FnPolyRoots", spec := "fnPolyRoots", unfollowed := true, recurses := true, apart := false }
def FnPolyRootsSaid : Prop := fnPolyRootsRow.holds Try.pinned (OpenSpec.ofChange fnPolyRootsSpec)

/-- ITS FALSE NEIGHBOUR: 'it returns false'. Refute it at one input. -/
def fnPolyRootsWrong : ChangeSpec := { name := "fnPolyRoots", fn := fun _ => fun
  | [d] => { results := [.lit (.bool false)], args := [d] }
  | _ => none }
def FnPolyRootsWrongFalsely : Prop := fnPolyRootsRow.holds Try.pinned (OpenSpec.ofChange fnPolyRootsWrong)

/-- 'laws.FnExactIndicesOf': WHATEVER THE INPUT: true; the input reads as it did. -/
def fnExactIndicesOfSpec : ChangeSpec := { name := "fnExactIndicesOf", fn := fun _ => fun
  | [d1, d2] => { results := [.lit (.bool true)], args := [d1, d2] }
  | _ => none }
def fnExactIndicesOfRow : OpenClaim := { program := "ytnhpdenneplapaa", sum := "f9d1293fbdd6a6bcd9dc71b05b08153b02a27bab5188d0350d8c57d8c8853f8d", func := "loop.example/g00879/laws.FnExactIndicesOf", spec := "fnExactIndicesOf", unfollowed := true, recurses := true, apart := false }
def FnExactIndicesOfSaid : Prop := fnExactIndicesOfRow.holds Try.pinned (OpenSpec.ofChange fnExactIndicesOfSpec)

/-- ITS FALSE NEIGHBOUR: 'it returns false'. Refute it at one input. -/
def fnExactIndicesOfWrong : ChangeSpec := { name := "fnExactIndicesOf", fn := fun _ => fun
  | [d1, d2] => { results := [.lit (.bool false)], args := [d1, d2] }
  | _ => none }
def FnExactIndicesOfWrongFalsely : Prop := fnExactIndicesOfRow.holds Try.pinned (OpenSpec.ofChange fnExactIndicesOfWrong)

/-- 'laws.FnExactRecurrenceOf': WHATEVER THE INPUT: true; the input reads as it did. -/
def fnExactRecurrenceOfSpec : ChangeSpec := { name := "fnExactRecurrenceOf", fn := fun _ => fun
  | [d1, d2] => { results := [.lit (.bool true)], args := [d1, d2] }
  | _ => none }
def fnExactRecurrenceOfRow : OpenClaim := { program := "ytnhpdenneplapaa", sum := "f9d1293fbdd6a6bcd9dc71b05b08153b02a27bab5188d0350d8c57d8c8853f8d", func := "loop.example/g00879/laws.FnExactRecurrenceOf", spec := "fnExactRecurrenceOf", unfollowed := true, recurses := true, apart := false }
def FnExactRecurrenceOfSaid : Prop := fnExactRecurrenceOfRow.holds Try.pinned (OpenSpec.ofChange fnExactRecurrenceOfSpec)

/-- ITS FALSE NEIGHBOUR: 'it returns false'. Refute it at one input. -/
def fnExactRecurrenceOfWrong : ChangeSpec := { name := "fnExactRecurrenceOf", fn := fun _ => fun
  | [d1, d2] => { results := [.lit (.bool false)], args := [d1, d2] }
  | _ => none }
def FnExactRecurrenceOfWrongFalsely : Prop := fnExactRecurrenceOfRow.holds Try.pinned (OpenSpec.ofChange fnExactRecurrenceOfWrong)

/-- 'laws.FnExactEncodeWord': WHATEVER THE INPUT: true; the input reads as it did. -/
def fnExactEncodeWordSpec : ChangeSpec := { name := "fnExactEncodeWord", fn := fun _ => fun
  | [d1, d2] => { results := [.lit (.bool true)], args := [d1, d2] }
  | _ => none }
def fnExactEncodeWordRow : OpenClaim := { program := "ytnhpdenneplapaa", sum := "f9d1293fbdd6a6bcd9dc71b05b08153b02a27bab5188d0350d8c57d8c8853f8d", func := "loop.example/g00879/laws.FnExactEncodeWord", spec := "fnExactEncodeWord", unfollowed := true, recurses := true, apart := false }
def FnExactEncodeWordSaid : Prop := fnExactEncodeWordRow.holds Try.pinned (OpenSpec.ofChange fnExactEncodeWordSpec)

/-- ITS FALSE NEIGHBOUR: 'it returns false'. Refute it at one input. -/
def fnExactEncodeWordWrong : ChangeSpec := { name := "fnExactEncodeWord", fn := fun _ => fun
  | [d1, d2] => { results := [.lit (.bool false)], args := [d1, d2] }
  | _ => none }
def FnExactEncodeWordWrongFalsely : Prop := fnExactEncodeWordRow.holds Try.pinned (OpenSpec.ofChange fnExactEncodeWordWrong)

/-- 'laws.FnExactContinueSequence': WHATEVER THE INPUT: true; the input reads as it did. -/
def fnExactContinueSequenceSpec : ChangeSpec := { name := "fnExactContinueSequence", fn := fun _ => fun
  | [d1, d2, d3] => { results := [.lit (.bool true)], args := [d1, d2, d3] }
  | _ => none }
def fnExactContinueSequenceRow : OpenClaim := { program := "ytnhpdenneplapaa", sum := "f9d1293fbdd6a6bcd9dc71b05b08153b02a27bab5188d0350d8c57d8c8853f8d", func := "loop.example/g00879/laws.FnExactContinueSequence", spec := "fnExactContinueSequence", unfollowed := true, recurses := true, apart := false }
def FnExactContinueSequenceSaid : Prop := fnExactContinueSequenceRow.holds Try.pinned (OpenSpec.ofChange fnExactContinueSequenceSpec)

/-- ITS FALSE NEIGHBOUR: 'it returns false'. Refute it at one input. -/
def fnExactContinueSequenceWrong : ChangeSpec := { name := "fnExactContinueSequence", fn := fun _ => fun
  | [d1, d2, d3] => { results := [.lit (.bool false)], args := [d1, d2, d3] }
  | _ => none }
def FnExactContinueSequenceWrongFalsely : Prop := fnExactContinueSequenceRow.holds Try.pinned (OpenSpec.ofChange fnExactContinueSequenceWrong)

/-- 'laws.FnPolyDivision': WHATEVER THE INPUT: true; the input reads as it did. -/
def fnPolyDivisionSpec : ChangeSpec := { name := "fnPolyDivision", fn := fun _ => fun
  | [d] => { results := [.lit (.bool true)], args := [d] }
  | _ => none }
def fnPolyDivisionRow : OpenClaim := { program := "ytnhpdenneplapaa", sum := "f9d1293fbdd6a6bcd9dc71b05b08153b02a27bab5188d0350d8c57d8c8853f8d", func := "loop.example/g00879/laws.FnPolyDivision", spec := "fnPolyDivision", unfollowed := true, recurses := true, apart := false }
def FnPolyDivisionSaid : Prop := fnPolyDivisionRow.holds Try.pinned (OpenSpec.ofChange fnPolyDivisionSpec)

/-- ITS FALSE NEIGHBOUR: 'it returns false'. Refute it at one input. -/
def fnPolyDivisionWrong : ChangeSpec := { name := "fnPolyDivision", fn := fun _ => fun
  | [d] => { results := [.lit (.bool false)], args := [d] }
  | _ => none }
def FnPolyDivisionWrongFalsely : Prop := fnPolyDivisionRow.holds Try.pinned (OpenSpec.ofChange fnPolyDivisionWrong)

/-- 'laws.FnPolyGcd': WHATEVER THE INPUT: true; the input reads as it did. -/
def fnPolyGcdSpec : ChangeSpec := { name := "fnPolyGcd", fn := fun _ => fun
  | [d] => { results := [.lit (.bool true)], args := [d] }
  | _ => none }
def fnPolyGcdRow : OpenClaim := { program := "ytnhpdenneplapaa", sum := "f9d1293fbdd6a6bcd9dc71b05b08153b02a27bab5188d0350d8c57d8c8853f8d", func := "loop.example/g00879/laws.FnPolyGcd", spec := "fnPolyGcd", unfollowed := true, recurses := true, apart := false }
def FnPolyGcdSaid : Prop := fnPolyGcdRow.holds Try.pinned (OpenSpec.ofChange fnPolyGcdSpec)

/-- ITS FALSE NEIGHBOUR: 'it returns false'. Refute it at one input. -/
def fnPolyGcdWrong : ChangeSpec := { name := "fnPolyGcd", fn := fun _ => fun
  | [d] => { results := [.lit (.bool false)], args := [d] }
  | _ => none }
def FnPolyGcdWrongFalsely : Prop := fnPolyGcdRow.holds Try.pinned (OpenSpec.ofChange fnPolyGcdWrong)

/-- 'laws.FnPolyProducts': WHATEVER THE INPUT: true; the input reads as it did. -/
def fnPolyProductsSpec : ChangeSpec := { name := "fnPolyProducts", fn := fun _ => fun
  | [d] => { results := [.lit (.bool true)], args := [d] }
  | _ => none }
def fnPolyProductsRow : OpenClaim := { program := "ytnhpdenneplapaa", sum := "f9d1293fbdd6a6bcd9dc71b05b08153b02a27bab5188d0350d8c57d8c8853f8d", func := "loop.example/g00879/laws.FnPolyProducts", spec := "fnPolyProducts", unfollowed := true, recurses := true, apart := false }
def FnPolyProductsSaid : Prop := fnPolyProductsRow.holds Try.pinned (OpenSpec.ofChange fnPolyProductsSpec)

/-- ITS FALSE NEIGHBOUR: 'it returns false'. Refute it at one input. -/
def fnPolyProductsWrong : ChangeSpec := { name := "fnPolyProducts", fn := fun _ => fun
  | [d] => { results := [.lit (.bool false)], args := [d] }
  | _ => none }
def FnPolyProductsWrongFalsely : Prop := fnPolyProductsRow.holds Try.pinned (OpenSpec.ofChange fnPolyProductsWrong)

/-- 'laws.FnLocators': WHATEVER THE INPUT: true; the input reads as it did. -/
def fnLocatorsSpec : ChangeSpec := { name := "fnLocators", fn := fun _ => fun
  | [d] => { results := [.lit (.bool true)], args := [d] }
  | _ => none }
def fnLocatorsRow : OpenClaim := { program := "ytnhpdenneplapaa", sum := "f9d1293fbdd6a6bcd9dc71b05b08153b02a27bab5188d0350d8c57d8c8853f8d", func := "loop.example/g00879/laws.FnLocators", spec := "fnLocators", unfollowed := true, recurses := true, apart := false }
def FnLocatorsSaid : Prop := fnLocatorsRow.holds Try.pinned (OpenSpec.ofChange fnLocatorsSpec)

/-- ITS FALSE NEIGHBOUR: 'it returns false'. Refute it at one input. -/
def fnLocatorsWrong : ChangeSpec := { name := "fnLocators", fn := fun _ => fun
  | [d] => { results := [.lit (.bool false)], args := [d] }
  | _ => none }
def FnLocatorsWrongFalsely : Prop := fnLocatorsRow.holds Try.pinned (OpenSpec.ofChange fnLocatorsWrong)

/-- 'laws.FnPolyFit': WHATEVER THE INPUT: true; the input reads as it did. -/
def fnPolyFitSpec : ChangeSpec := { name := "fnPolyFit", fn := fun _ => fun
  | [d] => { results := [.lit (.bool true)], args := [d] }
  | _ => none }
def fnPolyFitRow : OpenClaim := { program := "ytnhpdenneplapaa", sum := "f9d1293fbdd6a6bcd9dc71b05b08153b02a27bab5188d0350d8c57d8c8853f8d", func := "loop.example/g00879/laws.FnPolyFit", spec := "fnPolyFit", unfollowed := true, recurses := true, apart := false }
def FnPolyFitSaid : Prop := fnPolyFitRow.holds Try.pinned (OpenSpec.ofChange fnPolyFitSpec)

/-- ITS FALSE NEIGHBOUR: 'it returns false'. Refute it at one input. -/
def fnPolyFitWrong : ChangeSpec := { name := "fnPolyFit", fn := fun _ => fun
  | [d] => { results := [.lit (.bool false)], args := [d] }
  | _ => none }
def FnPolyFitWrongFalsely : Prop := fnPolyFitRow.holds Try.pinned (OpenSpec.ofChange fnPolyFitWrong)

/-- 'laws.FnExactErrorValues': WHATEVER THE INPUT: true; the input reads as it did. -/
def fnExactErrorValuesSpec : ChangeSpec := { name := "fnExactErrorValues", fn := fun _ => fun
  | [d1, d2, d3] => { results := [.lit (.bool true)], args := [d1, d2, d3] }
  | _ => none }
def fnExactErrorValuesRow : OpenClaim := { program := "ytnhpdenneplapaa", sum := "f9d1293fbdd6a6bcd9dc71b05b08153b02a27bab5188d0350d8c57d8c8853f8d", func := "loop.example/g00879/laws.FnExactErrorValues", spec := "fnExactErrorValues", unfollowed := true, recurses := true, apart := false }
def FnExactErrorValuesSaid : Prop := fnExactErrorValuesRow.holds Try.pinned (OpenSpec.ofChange fnExactErrorValuesSpec)

/-- ITS FALSE NEIGHBOUR: 'it returns false'. Refute it at one input. -/
def fnExactErrorValuesWrong : ChangeSpec := { name := "fnExactErrorValues", fn := fun _ => fun
  | [d1, d2, d3] => { results := [.lit (.bool false)], args := [d1, d2, d3] }
  | _ => none }
def FnExactErrorValuesWrongFalsely : Prop := fnExactErrorValuesRow.holds Try.pinned (OpenSpec.ofChange fnExactErrorValuesWrong)

/-- 'laws.FnCodeSums': WHATEVER THE INPUT: true; the input reads as it did. -/
def fnCodeSumsSpec : ChangeSpec := { name := "fnCodeSums", fn := fun _ => fun
  | [d] => { results := [.lit (.bool true)], args := [d] }
  | _ => none }
def fnCodeSumsRow : OpenClaim := { program := "ytnhpdenneplapaa", sum := "f9d1293fbdd6a6bcd9dc71b05b08153b02a27bab5188d0350d8c57d8c8853f8d", func := "loop.example/g00879/laws.FnCodeSums", spec := "fnCodeSums", unfollowed := true, recurses := true, apart := false }
def FnCodeSumsSaid : Prop := fnCodeSumsRow.holds Try.pinned (OpenSpec.ofChange fnCodeSumsSpec)

/-- ITS FALSE NEIGHBOUR: 'it returns false'. Refute it at one input. -/
def fnCodeSumsWrong : ChangeSpec := { name := "fnCodeSums", fn := fun _ => fun
  | [d] => { results := [.lit (.bool false)], args := [d] }
  | _ => none }
def FnCodeSumsWrongFalsely : Prop := fnCodeSumsRow.holds Try.pinned (OpenSpec.ofChange fnCodeSumsWrong)

/- THE SECOND FORM. 'bulk': how many values and letters a reading holds, each counted each time it is reached (what is shared counts as often as it is met; a slice's spare places count too). A statement '..UptoSaid' is the law's where the arguments, and the package variables that the reading takes, are together of bulk at most 1048576: NARROWER than '..Said'. Prove '..Said' where nothing that the law and all that it calls make is longer than what came in: it says more and counts as full. Else prove '..UptoSaid'. A law counts once. -/
mutual
def uptoBulk {H : Type} : DataW H → Nat
  | .lit (.string bytes) => bytes.length + 1
  | .lit _ => 1
  | .nil => 1
  | .ptr d => uptoBulk d + 1
  | .slice elems spare => uptoBulkAll elems + uptoBulkAll spare + 1
  | .agg parts => uptoBulkAll parts + 1
  | .iface _ d => uptoBulk d + 1
  | .map entries => uptoBulkEntries entries + 1
  | .held _ => 1
def uptoBulkAll {H : Type} : List (DataW H) → Nat
  | [] => 0
  | d :: r => uptoBulk d + uptoBulkAll r
def uptoBulkEntries {H : Type} : List (Lit × DataW H) → Nat
  | [] => 0
  | x :: r => uptoBulkEntry x + uptoBulkEntries r
def uptoBulkEntry {H : Type} : Lit × DataW H → Nat
  | (.string bytes, d) => bytes.length + uptoBulk d + 1
  | (_, d) => uptoBulk d + 1
 end
def uptoSmall : (H : Type) → List (DataW H) → Bool := fun _ ds => decide (uptoBulkAll ds ≤ 1048576)
def OpenSpec.upto (s : _root_.Go.ChangeSpec) : _root_.Go.OpenSpec := { _root_.Go.OpenSpec.ofChange s with cond := some uptoSmall }

/-- 'laws.FnPolyRoots', WHERE WHAT IT READS IS OF BULK AT MOST 1048576: true; the input reads as it did. -/
def fnPolyRootsUptoRow : OpenClaim := { program := "ytnhpdenneplapaa", sum := "f9d1293fbdd6a6bcd9dc71b05b08153b02a27bab5188d0350d8c57d8c8853f8d", func := "loop.example/g00879/laws.FnPolyRoots", spec := "fnPolyRoots", unfollowed := true, recurses := true, apart := false, narrowed := true }
def FnPolyRootsUptoSaid : Prop := fnPolyRootsUptoRow.holds Try.pinned (OpenSpec.upto fnPolyRootsSpec)

/-- 'laws.FnExactIndicesOf', WHERE WHAT IT READS IS OF BULK AT MOST 1048576: true; the input reads as it did. -/
def fnExactIndicesOfUptoRow : OpenClaim := { program := "ytnhpdenneplapaa", sum := "f9d1293fbdd6a6bcd9dc71b05b08153b02a27bab5188d0350d8c57d8c8853f8d", func := "loop.example/g00879/laws.FnExactIndicesOf", spec := "fnExactIndicesOf", unfollowed := true, recurses := true, apart := false, narrowed := true }
def FnExactIndicesOfUptoSaid : Prop := fnExactIndicesOfUptoRow.holds Try.pinned (OpenSpec.upto fnExactIndicesOfSpec)

/-- 'laws.FnExactRecurrenceOf', WHERE WHAT IT READS IS OF BULK AT MOST 1048576: true; the input reads as it did. -/
def fnExactRecurrenceOfUptoRow : OpenClaim := { program := "ytnhpdenneplapaa", sum := "f9d1293fbdd6a6bcd9dc71b05b08153b02a27bab5188d0350d8c57d8c8853f8d", func := "loop.example/g00879/laws.FnExactRecurrenceOf", spec := "fnExactRecurrenceOf", unfollowed := true, recurses := true, apart := false, narrowed := true }
def FnExactRecurrenceOfUptoSaid : Prop := fnExactRecurrenceOfUptoRow.holds Try.pinned (OpenSpec.upto fnExactRecurrenceOfSpec)

/-- 'laws.FnExactEncodeWord', WHERE WHAT IT READS IS OF BULK AT MOST 1048576: true; the input reads as it did. -/
def fnExactEncodeWordUptoRow : OpenClaim := { program := "ytnhpdenneplapaa", sum := "f9d1293fbdd6a6bcd9dc71b05b08153b02a27bab5188d0350d8c57d8c8853f8d", func := "loop.example/g00879/laws.FnExactEncodeWord", spec := "fnExactEncodeWord", unfollowed := true, recurses := true, apart := false, narrowed := true }
def FnExactEncodeWordUptoSaid : Prop := fnExactEncodeWordUptoRow.holds Try.pinned (OpenSpec.upto fnExactEncodeWordSpec)

/-- 'laws.FnExactContinueSequence', WHERE WHAT IT READS IS OF BULK AT MOST 1048576: true; the input reads as it did. -/
def fnExactContinueSequenceUptoRow : OpenClaim := { program := "ytnhpdenneplapaa", sum := "f9d1293fbdd6a6bcd9dc71b05b08153b02a27bab5188d0350d8c57d8c8853f8d", func := "loop.example/g00879/laws.FnExactContinueSequence", spec := "fnExactContinueSequence", unfollowed := true, recurses := true, apart := false, narrowed := true }
def FnExactContinueSequenceUptoSaid : Prop := fnExactContinueSequenceUptoRow.holds Try.pinned (OpenSpec.upto fnExactContinueSequenceSpec)

/-- 'laws.FnPolyDivision', WHERE WHAT IT READS IS OF BULK AT MOST 1048576: true; the input reads as it did. -/
def fnPolyDivisionUptoRow : OpenClaim := { program := "ytnhpdenneplapaa", sum := "f9d1293fbdd6a6bcd9dc71b05b08153b02a27bab5188d0350d8c57d8c8853f8d", func := "loop.example/g00879/laws.FnPolyDivision", spec := "fnPolyDivision", unfollowed := true, recurses := true, apart := false, narrowed := true }
def FnPolyDivisionUptoSaid : Prop := fnPolyDivisionUptoRow.holds Try.pinned (OpenSpec.upto fnPolyDivisionSpec)

/-- 'laws.FnPolyGcd', WHERE WHAT IT READS IS OF BULK AT MOST 1048576: true; the input reads as it did. -/
def fnPolyGcdUptoRow : OpenClaim := { program := "ytnhpdenneplapaa", sum := "f9d1293fbdd6a6bcd9dc71b05b08153b02a27bab5188d0350d8c57d8c8853f8d", func := "loop.example/g00879/laws.FnPolyGcd", spec := "fnPolyGcd", unfollowed := true, recurses := true, apart := false, narrowed := true }
def FnPolyGcdUptoSaid : Prop := fnPolyGcdUptoRow.holds Try.pinned (OpenSpec.upto fnPolyGcdSpec)

/-- 'laws.FnPolyProducts', WHERE WHAT IT READS IS OF BULK AT MOST 1048576: true; the input reads as it did. -/
def fnPolyProductsUptoRow : OpenClaim := { program := "ytnhpdenneplapaa", sum := "f9d1293fbdd6a6bcd9dc71b05b08153b02a27bab5188d0350d8c57d8c8853f8d", func := "loop.example/g00879/laws.FnPolyProducts", spec := "fnPolyProducts", unfollowed := true, recurses := true, apart := false, narrowed := true }
def FnPolyProductsUptoSaid : Prop := fnPolyProductsUptoRow.holds Try.pinned (OpenSpec.upto fnPolyProductsSpec)

/-- 'laws.FnLocators', WHERE WHAT IT READS IS OF BULK AT MOST 1048576: true; the input reads as it did. -/
def fnLocatorsUptoRow : OpenClaim := { program := "ytnhpdenneplapaa", sum := "f9d1293fbdd6a6bcd9dc71b05b08153b02a27bab5188d0350d8c57d8c8853f8d", func := "loop.example/g00879/laws.FnLocators", spec := "fnLocators", unfollowed := true, recurses := true, apart := false, narrowed := true }
def FnLocatorsUptoSaid : Prop := fnLocatorsUptoRow.holds Try.pinned (OpenSpec.upto fnLocatorsSpec)

/-- 'laws.FnPolyFit', WHERE WHAT IT READS IS OF BULK AT MOST 1048576: true; the input reads as it did. -/
def fnPolyFitUptoRow : OpenClaim := { program := "ytnhpdenneplapaa", sum := "f9d1293fbdd6a6bcd9dc71b05b08153b02a27bab5188d0350d8c57d8c8853f8d", func := "loop.example/g00879/laws.FnPolyFit", spec := "fnPolyFit", unfollowed := true, recurses := true, apart := false, narrowed := true }
def FnPolyFitUptoSaid : Prop := fnPolyFitUptoRow.holds Try.pinned (OpenSpec.upto fnPolyFitSpec)

/-- 'laws.FnExactErrorValues', WHERE WHAT IT READS IS OF BULK AT MOST 1048576: true; the input reads as it did. -/
def fnExactErrorValuesUptoRow : OpenClaim := { program := "ytnhpdenneplapaa", sum := "f9d1293fbdd6a6bcd9dc71b05b08153b02a27bab5188d0350d8c57d8c8853f8d", func := "loop.example/g00879/laws.FnExactErrorValues", spec := "fnExactErrorValues", unfollowed := true, recurses := true, apart := false, narrowed := true }
def FnExactErrorValuesUptoSaid : Prop := fnExactErrorValuesUptoRow.holds Try.pinned (OpenSpec.upto fnExactErrorValuesSpec)

/-- 'laws.FnCodeSums', WHERE WHAT IT READS IS OF BULK AT MOST 1048576: true; the input reads as it did. -/
def fnCodeSumsUptoRow : OpenClaim := { program := "ytnhpdenneplapaa", sum := "f9d1293fbdd6a6bcd9dc71b05b08153b02a27bab5188d0350d8c57d8c8853f8d", func := "loop.example/g00879/laws.FnCodeSums", spec := "fnCodeSums", unfollowed := true, recurses := true, apart := false, narrowed := true }
def FnCodeSumsUptoSaid : Prop := fnCodeSumsUptoRow.holds Try.pinned (OpenSpec.upto fnCodeSumsSpec)

end Rows
end Go.Proofs.Ytnhpdenneplapaa
