/-
  No cell of these rows narrows 'for every input' (looked for: loops, veiled, ifaces, maps, wideKeys, modest, calm, conditions, laid).
  DERIVED. THE GIVEN ROWS OF THIS SEAT. 12 by the template 'for every input the law returns true; each argument reads behind the call as it read before'; 0 by the template 'total and deterministic' (their statements: YthbiieflmmnfcaaTotals.lean).
  GIVEN WITH THE SEED: the statements are not yours to turn. If you find one false, say at which input.
  Laid BY PROGRAM, IN A SANDBOX (cutbox-rows.mjs): the forced cells as the released guide's own fill.sh prints them over the translation 1744cb9d4a0d45eb… (all of the seat's roots in one cut). By AI agents, Wed Nov 11 2026. No macro, syntax, notation, axiom, sorry.
-/
import Derived.Test.YthbiieflmmnfcaaChecked
import GoSem.Claim
import GoSem.ClaimJoined
import GoSem.ClaimMapViews
import Derived.JoinedTies
import Derived.KernelRfl
namespace Go.Proofs.Ythbiieflmmnfcaa
/- THE CELL 'sum', in the pinned program and in every row, IS THE sha256 OF THE DUMP (.gsa) THAT YthbiieflmmnfcaaProg.lean LOADS. Nothing in Lean hashes anything: it is a label: what it is worth is what the hold of that sum in a sandbox is worth. -/
noncomputable def Try.pinned : Pinned := { name := "ythbiieflmmnfcaa", sum := "1744cb9d4a0d45eb8a18272c3ae805ddfe1022bb284339821233c4487ff12d49", checked := Try.checked }
namespace Rows
def none {H : Type} : Left H := { results := [], args := [] }

/-- 'laws.FnExactEncodeStream': WHATEVER THE INPUT: true; the input reads as it did. -/
def fnExactEncodeStreamSpec : ChangeSpec := { name := "fnExactEncodeStream", fn := fun _ => fun
  | [d1, d2] => { results := [.lit (.bool true)], args := [d1, d2] }
  | _ => none }
def fnExactEncodeStreamRow : OpenClaim := { program := "ythbiieflmmnfcaa", sum := "1744cb9d4a0d45eb8a18272c3ae805ddfe1022bb284339821233c4487ff12d49", func := "loop.example/g00879/laws.FnExactEncodeStream", spec := "fnExactEncodeStream", unfollowed := true, recurses := true, apart := false }
def FnExactEncodeStreamSaid : Prop := fnExactEncodeStreamRow.holds Try.pinned (OpenSpec.ofChange fnExactEncodeStreamSpec)

/-- ITS FALSE NEIGHBOUR: 'it returns false'. Refute it at one input. -/
def fnExactEncodeStreamWrong : ChangeSpec := { name := "fnExactEncodeStream", fn := fun _ => fun
  | [d1, d2] => { results := [.lit (.bool false)], args := [d1, d2] }
  | _ => none }
def FnExactEncodeStreamWrongFalsely : Prop := fnExactEncodeStreamRow.holds Try.pinned (OpenSpec.ofChange fnExactEncodeStreamWrong)

/-- 'laws.FnCodeDistance': WHATEVER THE INPUT: true; the input reads as it did. -/
def fnCodeDistanceSpec : ChangeSpec := { name := "fnCodeDistance", fn := fun _ => fun
  | [d] => { results := [.lit (.bool true)], args := [d] }
  | _ => none }
def fnCodeDistanceRow : OpenClaim := { program := "ythbiieflmmnfcaa", sum := "1744cb9d4a0d45eb8a18272c3ae805ddfe1022bb284339821233c4487ff12d49", func := "loop.example/g00879/laws.FnCodeDistance", spec := "fnCodeDistance", unfollowed := true, recurses := true, apart := false }
def FnCodeDistanceSaid : Prop := fnCodeDistanceRow.holds Try.pinned (OpenSpec.ofChange fnCodeDistanceSpec)

/-- ITS FALSE NEIGHBOUR: 'it returns false'. Refute it at one input. -/
def fnCodeDistanceWrong : ChangeSpec := { name := "fnCodeDistance", fn := fun _ => fun
  | [d] => { results := [.lit (.bool false)], args := [d] }
  | _ => none }
def FnCodeDistanceWrongFalsely : Prop := fnCodeDistanceRow.holds Try.pinned (OpenSpec.ofChange fnCodeDistanceWrong)

/-- 'laws.FnEncoded': WHATEVER THE INPUT: true; the input reads as it did. -/
def fnEncodedSpec : ChangeSpec := { name := "fnEncoded", fn := fun _ => fun
  | [d] => { results := [.lit (.bool true)], args := [d] }
  | _ => none }
def fnEncodedRow : OpenClaim := { program := "ythbiieflmmnfcaa", sum := "1744cb9d4a0d45eb8a18272c3ae805ddfe1022bb284339821233c4487ff12d49", func := "loop.example/g00879/laws.FnEncoded", spec := "fnEncoded", unfollowed := true, recurses := true, apart := false }
def FnEncodedSaid : Prop := fnEncodedRow.holds Try.pinned (OpenSpec.ofChange fnEncodedSpec)

/-- ITS FALSE NEIGHBOUR: 'it returns false'. Refute it at one input. -/
def fnEncodedWrong : ChangeSpec := { name := "fnEncoded", fn := fun _ => fun
  | [d] => { results := [.lit (.bool false)], args := [d] }
  | _ => none }
def FnEncodedWrongFalsely : Prop := fnEncodedRow.holds Try.pinned (OpenSpec.ofChange fnEncodedWrong)

/-- 'laws.FnRecurrences': WHATEVER THE INPUT: true; the input reads as it did. -/
def fnRecurrencesSpec : ChangeSpec := { name := "fnRecurrences", fn := fun _ => fun
  | [d] => { results := [.lit (.bool true)], args := [d] }
  | _ => none }
def fnRecurrencesRow : OpenClaim := { program := "ythbiieflmmnfcaa", sum := "1744cb9d4a0d45eb8a18272c3ae805ddfe1022bb284339821233c4487ff12d49", func := "loop.example/g00879/laws.FnRecurrences", spec := "fnRecurrences", unfollowed := true, recurses := true, apart := false }
def FnRecurrencesSaid : Prop := fnRecurrencesRow.holds Try.pinned (OpenSpec.ofChange fnRecurrencesSpec)

/-- ITS FALSE NEIGHBOUR: 'it returns false'. Refute it at one input. -/
def fnRecurrencesWrong : ChangeSpec := { name := "fnRecurrences", fn := fun _ => fun
  | [d] => { results := [.lit (.bool false)], args := [d] }
  | _ => none }
def FnRecurrencesWrongFalsely : Prop := fnRecurrencesRow.holds Try.pinned (OpenSpec.ofChange fnRecurrencesWrong)

/-- 'laws.FnGenerator': WHATEVER THE INPUT: true; the input reads as it did. -/
def fnGeneratorSpec : ChangeSpec := { name := "fnGenerator", fn := fun _ => fun
  | [d] => { results := [.lit (.bool true)], args := [d] }
  | _ => none }
def fnGeneratorRow : OpenClaim := { program := "ythbiieflmmnfcaa", sum := "1744cb9d4a0d45eb8a18272c3ae805ddfe1022bb284339821233c4487ff12d49", func := "loop.example/g00879/laws.FnGenerator", spec := "fnGenerator", unfollowed := true, recurses := true, apart := false }
def FnGeneratorSaid : Prop := fnGeneratorRow.holds Try.pinned (OpenSpec.ofChange fnGeneratorSpec)

/-- ITS FALSE NEIGHBOUR: 'it returns false'. Refute it at one input. -/
def fnGeneratorWrong : ChangeSpec := { name := "fnGenerator", fn := fun _ => fun
  | [d] => { results := [.lit (.bool false)], args := [d] }
  | _ => none }
def FnGeneratorWrongFalsely : Prop := fnGeneratorRow.holds Try.pinned (OpenSpec.ofChange fnGeneratorWrong)

/-- 'laws.FnErrorValues': WHATEVER THE INPUT: true; the input reads as it did. -/
def fnErrorValuesSpec : ChangeSpec := { name := "fnErrorValues", fn := fun _ => fun
  | [d] => { results := [.lit (.bool true)], args := [d] }
  | _ => none }
def fnErrorValuesRow : OpenClaim := { program := "ythbiieflmmnfcaa", sum := "1744cb9d4a0d45eb8a18272c3ae805ddfe1022bb284339821233c4487ff12d49", func := "loop.example/g00879/laws.FnErrorValues", spec := "fnErrorValues", unfollowed := true, recurses := true, apart := false }
def FnErrorValuesSaid : Prop := fnErrorValuesRow.holds Try.pinned (OpenSpec.ofChange fnErrorValuesSpec)

/-- ITS FALSE NEIGHBOUR: 'it returns false'. Refute it at one input. -/
def fnErrorValuesWrong : ChangeSpec := { name := "fnErrorValues", fn := fun _ => fun
  | [d] => { results := [.lit (.bool false)], args := [d] }
  | _ => none }
def FnErrorValuesWrongFalsely : Prop := fnErrorValuesRow.holds Try.pinned (OpenSpec.ofChange fnErrorValuesWrong)

/-- 'laws.FnStreams': WHATEVER THE INPUT: true; the input reads as it did. -/
def fnStreamsSpec : ChangeSpec := { name := "fnStreams", fn := fun _ => fun
  | [d] => { results := [.lit (.bool true)], args := [d] }
  | _ => none }
def fnStreamsRow : OpenClaim := { program := "ythbiieflmmnfcaa", sum := "1744cb9d4a0d45eb8a18272c3ae805ddfe1022bb284339821233c4487ff12d49", func := "loop.example/g00879/laws.FnStreams", spec := "fnStreams", unfollowed := true, recurses := true, apart := false }
def FnStreamsSaid : Prop := fnStreamsRow.holds Try.pinned (OpenSpec.ofChange fnStreamsSpec)

/-- ITS FALSE NEIGHBOUR: 'it returns false'. Refute it at one input. -/
def fnStreamsWrong : ChangeSpec := { name := "fnStreams", fn := fun _ => fun
  | [d] => { results := [.lit (.bool false)], args := [d] }
  | _ => none }
def FnStreamsWrongFalsely : Prop := fnStreamsRow.holds Try.pinned (OpenSpec.ofChange fnStreamsWrong)

/-- 'laws.FnExactErrorLocator': WHATEVER THE INPUT: true; the input reads as it did. -/
def fnExactErrorLocatorSpec : ChangeSpec := { name := "fnExactErrorLocator", fn := fun _ => fun
  | [d1, d2] => { results := [.lit (.bool true)], args := [d1, d2] }
  | _ => none }
def fnExactErrorLocatorRow : OpenClaim := { program := "ythbiieflmmnfcaa", sum := "1744cb9d4a0d45eb8a18272c3ae805ddfe1022bb284339821233c4487ff12d49", func := "loop.example/g00879/laws.FnExactErrorLocator", spec := "fnExactErrorLocator", unfollowed := true, recurses := true, apart := false }
def FnExactErrorLocatorSaid : Prop := fnExactErrorLocatorRow.holds Try.pinned (OpenSpec.ofChange fnExactErrorLocatorSpec)

/-- ITS FALSE NEIGHBOUR: 'it returns false'. Refute it at one input. -/
def fnExactErrorLocatorWrong : ChangeSpec := { name := "fnExactErrorLocator", fn := fun _ => fun
  | [d1, d2] => { results := [.lit (.bool false)], args := [d1, d2] }
  | _ => none }
def FnExactErrorLocatorWrongFalsely : Prop := fnExactErrorLocatorRow.holds Try.pinned (OpenSpec.ofChange fnExactErrorLocatorWrong)

/-- 'laws.FnExactIsCorrectable': WHATEVER THE INPUT: true; the input reads as it did. -/
def fnExactIsCorrectableSpec : ChangeSpec := { name := "fnExactIsCorrectable", fn := fun _ => fun
  | [d1, d2, d3] => { results := [.lit (.bool true)], args := [d1, d2, d3] }
  | _ => none }
def fnExactIsCorrectableRow : OpenClaim := { program := "ythbiieflmmnfcaa", sum := "1744cb9d4a0d45eb8a18272c3ae805ddfe1022bb284339821233c4487ff12d49", func := "loop.example/g00879/laws.FnExactIsCorrectable", spec := "fnExactIsCorrectable", unfollowed := true, recurses := true, apart := false }
def FnExactIsCorrectableSaid : Prop := fnExactIsCorrectableRow.holds Try.pinned (OpenSpec.ofChange fnExactIsCorrectableSpec)

/-- ITS FALSE NEIGHBOUR: 'it returns false'. Refute it at one input. -/
def fnExactIsCorrectableWrong : ChangeSpec := { name := "fnExactIsCorrectable", fn := fun _ => fun
  | [d1, d2, d3] => { results := [.lit (.bool false)], args := [d1, d2, d3] }
  | _ => none }
def FnExactIsCorrectableWrongFalsely : Prop := fnExactIsCorrectableRow.holds Try.pinned (OpenSpec.ofChange fnExactIsCorrectableWrong)

/-- 'laws.FnExactCorrectByRegister': WHATEVER THE INPUT: true; the input reads as it did. -/
def fnExactCorrectByRegisterSpec : ChangeSpec := { name := "fnExactCorrectByRegister", fn := fun _ => fun
  | [d1, d2, d3] => { results := [.lit (.bool true)], args := [d1, d2, d3] }
  | _ => none }
def fnExactCorrectByRegisterRow : OpenClaim := { program := "ythbiieflmmnfcaa", sum := "1744cb9d4a0d45eb8a18272c3ae805ddfe1022bb284339821233c4487ff12d49", func := "loop.example/g00879/laws.FnExactCorrectByRegister", spec := "fnExactCorrectByRegister", unfollowed := true, recurses := true, apart := false }
def FnExactCorrectByRegisterSaid : Prop := fnExactCorrectByRegisterRow.holds Try.pinned (OpenSpec.ofChange fnExactCorrectByRegisterSpec)

/-- ITS FALSE NEIGHBOUR: 'it returns false'. Refute it at one input. -/
def fnExactCorrectByRegisterWrong : ChangeSpec := { name := "fnExactCorrectByRegister", fn := fun _ => fun
  | [d1, d2, d3] => { results := [.lit (.bool false)], args := [d1, d2, d3] }
  | _ => none }
def FnExactCorrectByRegisterWrongFalsely : Prop := fnExactCorrectByRegisterRow.holds Try.pinned (OpenSpec.ofChange fnExactCorrectByRegisterWrong)

/-- 'laws.FnExactCorrectWord': WHATEVER THE INPUT: true; the input reads as it did. -/
def fnExactCorrectWordSpec : ChangeSpec := { name := "fnExactCorrectWord", fn := fun _ => fun
  | [d1, d2, d3] => { results := [.lit (.bool true)], args := [d1, d2, d3] }
  | _ => none }
def fnExactCorrectWordRow : OpenClaim := { program := "ythbiieflmmnfcaa", sum := "1744cb9d4a0d45eb8a18272c3ae805ddfe1022bb284339821233c4487ff12d49", func := "loop.example/g00879/laws.FnExactCorrectWord", spec := "fnExactCorrectWord", unfollowed := true, recurses := true, apart := false }
def FnExactCorrectWordSaid : Prop := fnExactCorrectWordRow.holds Try.pinned (OpenSpec.ofChange fnExactCorrectWordSpec)

/-- ITS FALSE NEIGHBOUR: 'it returns false'. Refute it at one input. -/
def fnExactCorrectWordWrong : ChangeSpec := { name := "fnExactCorrectWord", fn := fun _ => fun
  | [d1, d2, d3] => { results := [.lit (.bool false)], args := [d1, d2, d3] }
  | _ => none }
def FnExactCorrectWordWrongFalsely : Prop := fnExactCorrectWordRow.holds Try.pinned (OpenSpec.ofChange fnExactCorrectWordWrong)

/-- 'laws.FnWithinBound': WHATEVER THE INPUT: true; the input reads as it did. -/
def fnWithinBoundSpec : ChangeSpec := { name := "fnWithinBound", fn := fun _ => fun
  | [d] => { results := [.lit (.bool true)], args := [d] }
  | _ => none }
def fnWithinBoundRow : OpenClaim := { program := "ythbiieflmmnfcaa", sum := "1744cb9d4a0d45eb8a18272c3ae805ddfe1022bb284339821233c4487ff12d49", func := "loop.example/g00879/laws.FnWithinBound", spec := "fnWithinBound", unfollowed := true, recurses := true, apart := false }
def FnWithinBoundSaid : Prop := fnWithinBoundRow.holds Try.pinned (OpenSpec.ofChange fnWithinBoundSpec)

/-- ITS FALSE NEIGHBOUR: 'it returns false'. Refute it at one input. -/
def fnWithinBoundWrong : ChangeSpec := { name := "fnWithinBound", fn := fun _ => fun
  | [d] => { results := [.lit (.bool false)], args := [d] }
  | _ => none }
def FnWithinBoundWrongFalsely : Prop := fnWithinBoundRow.holds Try.pinned (OpenSpec.ofChange fnWithinBoundWrong)

/- THE SECOND FORM. 'bulk': how many values and letters a reading holds, each counted each time it is reached (what is shared counts as often as it is met; a slice's spare places count too). A statement '..UptoSaid' is the law's where the arguments, and the package variables that the reading takes, are together of bulk at most 1048576: NARROWER than '..Said'. Prove '..Said' where nothing that the law and all that it calls make is longer than what came in: it says more and counts as full. Else prove '..UptoSaid'. A law counts once. -/
mutual
def uptoBulk {H : Type} : DataW H → Nat
  | .lit (.string bytes) => bytes.length + 1
  | .lit _ => 1
  | .nil => 1
  | .ptr d => uptoBulk d + 1
  | .slice elems spare => uptoBulkAll elems + uptoBulkAll spare + 1
  | .agg parts => uptoBulkAll parts + 1
  | .iface _ d => uptoBulk d + 1
  | .map entries => uptoBulkEntries entries + 1
  | .held _ => 1
def uptoBulkAll {H : Type} : List (DataW H) → Nat
  | [] => 0
  | d :: r => uptoBulk d + uptoBulkAll r
def uptoBulkEntries {H : Type} : List (Lit × DataW H) → Nat
  | [] => 0
  | x :: r => uptoBulkEntry x + uptoBulkEntries r
def uptoBulkEntry {H : Type} : Lit × DataW H → Nat
  | (.string bytes, d) => bytes.length + uptoBulk d + 1
  | (_, d) => uptoBulk d + 1
 end
def uptoSmall : (H : Type) → List (DataW H) → Bool := fun _ ds => decide (uptoBulkAll ds ≤ 1048576)
def OpenSpec.upto (s : _root_.Go.ChangeSpec) : _root_.Go.OpenSpec := { _root_.Go.OpenSpec.ofChange s with cond := some uptoSmall }

/-- 'laws.FnExactEncodeStream', WHERE WHAT IT READS IS OF BULK AT MOST 1048576: true; the input reads as it did. -/
def fnExactEncodeStreamUptoRow : OpenClaim := { program := "ythbiieflmmnfcaa", sum := "1744cb9d4a0d45eb8a18272c3ae805ddfe1022bb284339821233c4487ff12d49", func := "loop.example/g00879/laws.FnExactEncodeStream", spec := "fnExactEncodeStream", unfollowed := true, recurses := true, apart := false, narrowed := true }
def FnExactEncodeStreamUptoSaid : Prop := fnExactEncodeStreamUptoRow.holds Try.pinned (OpenSpec.upto fnExactEncodeStreamSpec)

/-- 'laws.FnCodeDistance', WHERE WHAT IT READS IS OF BULK AT MOST 1048576: true; the input reads as it did. -/
def fnCodeDistanceUptoRow : OpenClaim := { program := "ythbiieflmmnfcaa", sum := "1744cb9d4a0d45eb8a18272c3ae805ddfe1022bb284339821233c4487ff12d49", func := "loop.example/g00879/laws.FnCodeDistance", spec := "fnCodeDistance", unfollowed := true, recurses := true, apart := false, narrowed := true }
def FnCodeDistanceUptoSaid : Prop := fnCodeDistanceUptoRow.holds Try.pinned (OpenSpec.upto fnCodeDistanceSpec)

/-- 'laws.FnEncoded', WHERE WHAT IT READS IS OF BULK AT MOST 1048576: true; the input reads as it did. -/
def fnEncodedUptoRow : OpenClaim := { program := "ythbiieflmmnfcaa", sum := "1744cb9d4a0d45eb8a18272c3ae805ddfe1022bb284339821233c4487ff12d49", func := "loop.example/g00879/laws.FnEncoded", spec := "fnEncoded", unfollowed := true, recurses := true, apart := false, narrowed := true }
def FnEncodedUptoSaid : Prop := fnEncodedUptoRow.holds Try.pinned (OpenSpec.upto fnEncodedSpec)

/-- 'laws.FnRecurrences', WHERE WHAT IT READS IS OF BULK AT MOST 1048576: true; the input reads as it did. -/
def fnRecurrencesUptoRow : OpenClaim := { program := "ythbiieflmmnfcaa", sum := "1744cb9d4a0d45eb8a18272c3ae805ddfe1022bb284339821233c4487ff12d49", func := "loop.example/g00879/laws.FnRecurrences", spec := "fnRecurrences", unfollowed := true, recurses := true, apart := false, narrowed := true }
def FnRecurrencesUptoSaid : Prop := fnRecurrencesUptoRow.holds Try.pinned (OpenSpec.upto fnRecurrencesSpec)

/-- 'laws.FnGenerator', WHERE WHAT IT READS IS OF BULK AT MOST 1048576: true; the input reads as it did. -/
def fnGeneratorUptoRow : OpenClaim := { program := "ythbiieflmmnfcaa", sum := "1744cb9d4a0d45eb8a18272c3ae805ddfe1022bb284339821233c4487ff12d49", func := "loop.example/g00879/laws.FnGenerator", spec := "fnGenerator", unfollowed := true, recurses := true, apart := false, narrowed := true }
def FnGeneratorUptoSaid : Prop := fnGeneratorUptoRow.holds Try.pinned (OpenSpec.upto fnGeneratorSpec)

/-- 'laws.FnErrorValues', WHERE WHAT IT READS IS OF BULK AT MOST 1048576: true; the input reads as it did. -/
def fnErrorValuesUptoRow : OpenClaim := { program := "ythbiieflmmnfcaa", sum := "1744cb9d4a0d45eb8a18272c3ae805ddfe1022bb284339821233c4487ff12d49", func := "loop.example/g00879/laws.FnErrorValues", spec := "fnErrorValues", unfollowed := true, recurses := true, apart := false, narrowed := true }
def FnErrorValuesUptoSaid : Prop := fnErrorValuesUptoRow.holds Try.pinned (OpenSpec.upto fnErrorValuesSpec)

/-- 'laws.FnStreams', WHERE WHAT IT READS IS OF BULK AT MOST 1048576: true; the input reads as it did. -/
def fnStreamsUptoRow : OpenClaim := { program := "ythbiieflmmnfcaa", sum := "1744cb9d4a0d45eb8a18272c3ae805ddfe1022bb284339821233c4487ff12d49", func := "loop.example/g00879/laws.FnStreams", spec := "fnStreams", unfollowed := true, recurses := true, apart := false, narrowed := true }
def FnStreamsUptoSaid : Prop := fnStreamsUptoRow.holds Try.pinned (OpenSpec.upto fnStreamsSpec)

/-- 'laws.FnExactErrorLocator', WHERE WHAT IT READS IS OF BULK AT MOST 1048576: true; the input reads as it did. -/
def fnExactErrorLocatorUptoRow : OpenClaim := { program := "ythbiieflmmnfcaa", sum := "1744cb9d4a0d45eb8a18272c3ae805ddfe1022bb284339821233c4487ff12d49", func := "loop.example/g00879/laws.FnExactErrorLocator", spec := "fnExactErrorLocator", unfollowed := true, recurses := true, apart := false, narrowed := true }
def FnExactErrorLocatorUptoSaid : Prop := fnExactErrorLocatorUptoRow.holds Try.pinned (OpenSpec.upto fnExactErrorLocatorSpec)

/-- 'laws.FnExactIsCorrectable', WHERE WHAT IT READS IS OF BULK AT MOST 1048576: true; the input reads as it did. -/
def fnExactIsCorrectableUptoRow : OpenClaim := { program := "ythbiieflmmnfcaa", sum := "1744cb9d4a0d45eb8a18272c3ae805ddfe1022bb284339821233c4487ff12d49", func := "loop.example/g00879/laws.FnExactIsCorrectable", spec := "fnExactIsCorrectable", unfollowed := true, recurses := true, apart := false, narrowed := true }
def FnExactIsCorrectableUptoSaid : Prop := fnExactIsCorrectableUptoRow.holds Try.pinned (OpenSpec.upto fnExactIsCorrectableSpec)

/-- 'laws.FnExactCorrectByRegister', WHERE WHAT IT READS IS OF BULK AT MOST 1048576: true; the input reads as it did. -/
def fnExactCorrectByRegisterUptoRow : OpenClaim := { program := "ythbiieflmmnfcaa", sum := "1744cb9d4a0d45eb8a18272c3ae805ddfe1022bb284339821233c4487ff12d49", func := "loop.example/g00879/laws.FnExactCorrectByRegister", spec := "fnExactCorrectByRegister", unfollowed := true, recurses := true, apart := false, narrowed := true }
def FnExactCorrectByRegisterUptoSaid : Prop := fnExactCorrectByRegisterUptoRow.holds Try.pinned (OpenSpec.upto fnExactCorrectByRegisterSpec)

/-- 'laws.FnExactCorrectWord', WHERE WHAT IT READS IS OF BULK AT MOST 1048576: true; the input reads as it did. -/
def fnExactCorrectWordUptoRow : OpenClaim := { program := "ythbiieflmmnfcaa", sum := "1744cb9d4a0d45eb8a18272c3ae805ddfe1022bb284339821233c4487ff12d49", func := "loop.example/g00879/laws.FnExactCorrectWord", spec := "fnExactCorrectWord", unfollowed := true, recurses := true, apart := false, narrowed := true }
def FnExactCorrectWordUptoSaid : Prop := fnExactCorrectWordUptoRow.holds Try.pinned (OpenSpec.upto fnExactCorrectWordSpec)

/-- 'laws.FnWithinBound', WHERE WHAT IT READS IS OF BULK AT MOST 1048576: true; the input reads as it did. -/
def fnWithinBoundUptoRow : OpenClaim := { program := "ythbiieflmmnfcaa", sum := "1744cb9d4a0d45eb8a18272c3ae805ddfe1022bb284339821233c4487ff12d49", func := "loop.example/g00879/laws.FnWithinBound", spec := "fnWithinBound", unfollowed := true, recurses := true, apart := false, narrowed := true }
def FnWithinBoundUptoSaid : Prop := fnWithinBoundUptoRow.holds Try.pinned (OpenSpec.upto fnWithinBoundSpec)

end Rows
end Go.Proofs.Ythbiieflmmnfcaa
