/-
  No cell of these rows narrows 'for every input' (looked for: loops, veiled, ifaces, maps, wideKeys, modest, calm, conditions, laid).
  DERIVED. THE GIVEN ROWS OF THIS SEAT. 7 by the template 'for every input the law returns true; each argument reads behind the call as it read before'; 0 by the template 'total and deterministic' (their statements: YtfhkkpfiflgofaaTotals.lean).
  GIVEN WITH THE SEED: the statements are not yours to turn. If you find one false, say at which input.
  Laid BY PROGRAM, IN A SANDBOX (cutbox-rows.mjs): the forced cells as the released guide's own fill.sh prints them over the translation 334351c849d72018… (all of the seat's roots in one cut). By AI agents, Wed Nov 11 2026. No macro, syntax, notation, axiom, sorry.
-/
import Derived.Test.YtfhkkpfiflgofaaChecked
import GoSem.Claim
import GoSem.ClaimJoined
import GoSem.ClaimMapViews
import Derived.JoinedTies
import Derived.KernelRfl
namespace Go.Proofs.Ytfhkkpfiflgofaa
/- THE CELL 'sum', in the pinned program and in every row, IS THE sha256 OF THE DUMP (.gsa) THAT YtfhkkpfiflgofaaProg.lean LOADS. Nothing in Lean hashes anything: it is a label: what it is worth is what the hold of that sum in a sandbox is worth. -/
noncomputable def Try.pinned : Pinned := { name := "ytfhkkpfiflgofaa", sum := "334351c849d7201801b15860ae505c8f25937b4737fe0dacc70f1ff4c4721411", checked := Try.checked }
namespace Rows
def none {H : Type} : Left H := { results := [], args := [] }

/-- 'laws.FnExactEncodeStream': WHATEVER THE INPUT: true; the input reads as it did. -/
def fnExactEncodeStreamSpec : ChangeSpec := { name := "fnExactEncodeStream", fn := fun _ => fun
  | [d1, d2] => { results := [.lit (.bool true)], args := [d1, d2] }
  | _ => none }
def fnExactEncodeStreamRow : OpenClaim := { program := "ytfhkkpfiflgofaa", sum := "334351c849d7201801b15860ae505c8f25937b4737fe0dacc70f1ff4c4721411", func := "loop.example/g00879/laws.FnExactEncodeStream", spec := "fnExactEncodeStream", unfollowed := true, recurses := true, apart := false }
def FnExactEncodeStreamSaid : Prop := fnExactEncodeStreamRow.holds Try.pinned (OpenSpec.ofChange fnExactEncodeStreamSpec)

/-- ITS FALSE NEIGHBOUR: 'it returns false'. Refute it at one input. -/
def fnExactEncodeStreamWrong : ChangeSpec := { name := "fnExactEncodeStream", fn := fun _ => fun
  | [d1, d2] => { results := [.lit (.bool false)], args := [d1, d2] }
  | _ => none }
def FnExactEncodeStreamWrongFalsely : Prop := fnExactEncodeStreamRow.holds Try.pinned (OpenSpec.ofChange fnExactEncodeStreamWrong)

/-- 'laws.FnRecurrences': WHATEVER THE INPUT: true; the input reads as it did. -/
def fnRecurrencesSpec : ChangeSpec := { name := "fnRecurrences", fn := fun _ => fun
  | [d] => { results := [.lit (.bool true)], args := [d] }
  | _ => none }
def fnRecurrencesRow : OpenClaim := { program := "ytfhkkpfiflgofaa", sum := "334351c849d7201801b15860ae505c8f25937b4737fe0dacc70f1ff4c4721411", func := "loop.example/g00879/laws.FnRecurrences", spec := "fnRecurrences", unfollowed := true, recurses := true, apart := false }
def FnRecurrencesSaid : Prop := fnRecurrencesRow.holds Try.pinned (OpenSpec.ofChange fnRecurrencesSpec)

/-- ITS FALSE NEIGHBOUR: 'it returns false'. Refute it at one input. -/
def fnRecurrencesWrong : ChangeSpec := { name := "fnRecurrences", fn := fun _ => fun
  | [d] => { results := [.lit (.bool false)], args := [d] }
  | _ => none }
def FnRecurrencesWrongFalsely : Prop := fnRecurrencesRow.holds Try.pinned (OpenSpec.ofChange fnRecurrencesWrong)

/-- 'laws.FnErrorValues': WHATEVER THE INPUT: true; the input reads as it did. -/
def fnErrorValuesSpec : ChangeSpec := { name := "fnErrorValues", fn := fun _ => fun
  | [d] => { results := [.lit (.bool true)], args := [d] }
  | _ => none }
def fnErrorValuesRow : OpenClaim := { program := "ytfhkkpfiflgofaa", sum := "334351c849d7201801b15860ae505c8f25937b4737fe0dacc70f1ff4c4721411", func := "loop.example/g00879/laws.FnErrorValues", spec := "fnErrorValues", unfollowed := true, recurses := true, apart := false }
def FnErrorValuesSaid : Prop := fnErrorValuesRow.holds Try.pinned (OpenSpec.ofChange fnErrorValuesSpec)

/-- ITS FALSE NEIGHBOUR: 'it returns false'. Refute it at one input. -/
def fnErrorValuesWrong : ChangeSpec := { name := "fnErrorValues", fn := fun _ => fun
  | [d] => { results := [.lit (.bool false)], args := [d] }
  | _ => none }
def FnErrorValuesWrongFalsely : Prop := fnErrorValuesRow.holds Try.pinned (OpenSpec.ofChange fnErrorValuesWrong)

/-- 'laws.FnStreams': WHATEVER THE INPUT: true; the input reads as it did. -/
def fnStreamsSpec : ChangeSpec := { name := "fnStreams", fn := fun _ => fun
  | [d] => { results := [.lit (.bool true)], args := [d] }
  | _ => none }
def fnStreamsRow : OpenClaim := { program := "ytfhkkpfiflgofaa", sum := "334351c849d7201801b15860ae505c8f25937b4737fe0dacc70f1ff4c4721411", func := "loop.example/g00879/laws.FnStreams", spec := "fnStreams", unfollowed := true, recurses := true, apart := false }
def FnStreamsSaid : Prop := fnStreamsRow.holds Try.pinned (OpenSpec.ofChange fnStreamsSpec)

/-- ITS FALSE NEIGHBOUR: 'it returns false'. Refute it at one input. -/
def fnStreamsWrong : ChangeSpec := { name := "fnStreams", fn := fun _ => fun
  | [d] => { results := [.lit (.bool false)], args := [d] }
  | _ => none }
def FnStreamsWrongFalsely : Prop := fnStreamsRow.holds Try.pinned (OpenSpec.ofChange fnStreamsWrong)

/-- 'laws.FnExactDecodeStream': WHATEVER THE INPUT: true; the input reads as it did. -/
def fnExactDecodeStreamSpec : ChangeSpec := { name := "fnExactDecodeStream", fn := fun _ => fun
  | [d1, d2, d3] => { results := [.lit (.bool true)], args := [d1, d2, d3] }
  | _ => none }
def fnExactDecodeStreamRow : OpenClaim := { program := "ytfhkkpfiflgofaa", sum := "334351c849d7201801b15860ae505c8f25937b4737fe0dacc70f1ff4c4721411", func := "loop.example/g00879/laws.FnExactDecodeStream", spec := "fnExactDecodeStream", unfollowed := true, recurses := true, apart := false }
def FnExactDecodeStreamSaid : Prop := fnExactDecodeStreamRow.holds Try.pinned (OpenSpec.ofChange fnExactDecodeStreamSpec)

/-- ITS FALSE NEIGHBOUR: 'it returns false'. Refute it at one input. -/
def fnExactDecodeStreamWrong : ChangeSpec := { name := "fnExactDecodeStream", fn := fun _ => fun
  | [d1, d2, d3] => { results := [.lit (.bool false)], args := [d1, d2, d3] }
  | _ => none }
def FnExactDecodeStreamWrongFalsely : Prop := fnExactDecodeStreamRow.holds Try.pinned (OpenSpec.ofChange fnExactDecodeStreamWrong)

/-- 'laws.FnBursts': WHATEVER THE INPUT: true; the input reads as it did. -/
def fnBurstsSpec : ChangeSpec := { name := "fnBursts", fn := fun _ => fun
  | [d] => { results := [.lit (.bool true)], args := [d] }
  | _ => none }
def fnBurstsRow : OpenClaim := { program := "ytfhkkpfiflgofaa", sum := "334351c849d7201801b15860ae505c8f25937b4737fe0dacc70f1ff4c4721411", func := "loop.example/g00879/laws.FnBursts", spec := "fnBursts", unfollowed := true, recurses := true, apart := false }
def FnBurstsSaid : Prop := fnBurstsRow.holds Try.pinned (OpenSpec.ofChange fnBurstsSpec)

/-- ITS FALSE NEIGHBOUR: 'it returns false'. Refute it at one input. -/
def fnBurstsWrong : ChangeSpec := { name := "fnBursts", fn := fun _ => fun
  | [d] => { results := [.lit (.bool false)], args := [d] }
  | _ => none }
def FnBurstsWrongFalsely : Prop := fnBurstsRow.holds Try.pinned (OpenSpec.ofChange fnBurstsWrong)

/-- 'laws.FnStreamDamage': WHATEVER THE INPUT: true; the input reads as it did. -/
def fnStreamDamageSpec : ChangeSpec := { name := "fnStreamDamage", fn := fun _ => fun
  | [d] => { results := [.lit (.bool true)], args := [d] }
  | _ => none }
def fnStreamDamageRow : OpenClaim := { program := "ytfhkkpfiflgofaa", sum := "334351c849d7201801b15860ae505c8f25937b4737fe0dacc70f1ff4c4721411", func := "loop.example/g00879/laws.FnStreamDamage", spec := "fnStreamDamage", unfollowed := true, recurses := true, apart := false }
def FnStreamDamageSaid : Prop := fnStreamDamageRow.holds Try.pinned (OpenSpec.ofChange fnStreamDamageSpec)

/-- ITS FALSE NEIGHBOUR: 'it returns false'. Refute it at one input. -/
def fnStreamDamageWrong : ChangeSpec := { name := "fnStreamDamage", fn := fun _ => fun
  | [d] => { results := [.lit (.bool false)], args := [d] }
  | _ => none }
def FnStreamDamageWrongFalsely : Prop := fnStreamDamageRow.holds Try.pinned (OpenSpec.ofChange fnStreamDamageWrong)

/- THE SECOND FORM. 'bulk': how many values and letters a reading holds, each counted each time it is reached (what is shared counts as often as it is met; a slice's spare places count too). A statement '..UptoSaid' is the law's where the arguments, and the package variables that the reading takes, are together of bulk at most 1048576: NARROWER than '..Said'. Prove '..Said' where nothing that the law and all that it calls make is longer than what came in: it says more and counts as full. Else prove '..UptoSaid'. A law counts once. -/
mutual
def uptoBulk {H : Type} : DataW H → Nat
  | .lit (.string bytes) => bytes.length + 1
  | .lit _ => 1
  | .nil => 1
  | .ptr d => uptoBulk d + 1
  | .slice elems spare => uptoBulkAll elems + uptoBulkAll spare + 1
  | .agg parts => uptoBulkAll parts + 1
  | .iface _ d => uptoBulk d + 1
  | .map entries => uptoBulkEntries entries + 1
  | .held _ => 1
def uptoBulkAll {H : Type} : List (DataW H) → Nat
  | [] => 0
  | d :: r => uptoBulk d + uptoBulkAll r
def uptoBulkEntries {H : Type} : List (Lit × DataW H) → Nat
  | [] => 0
  | x :: r => uptoBulkEntry x + uptoBulkEntries r
def uptoBulkEntry {H : Type} : Lit × DataW H → Nat
  | (.string bytes, d) => bytes.length + uptoBulk d + 1
  | (_, d) => uptoBulk d + 1
 end
def uptoSmall : (H : Type) → List (DataW H) → Bool := fun _ ds => decide (uptoBulkAll ds ≤ 1048576)
def OpenSpec.upto (s : _root_.Go.ChangeSpec) : _root_.Go.OpenSpec := { _root_.Go.OpenSpec.ofChange s with cond := some uptoSmall }

/-- 'laws.FnExactEncodeStream', WHERE WHAT IT READS IS OF BULK AT MOST 1048576: true; the input reads as it did. -/
def fnExactEncodeStreamUptoRow : OpenClaim := { program := "ytfhkkpfiflgofaa", sum := "334351c849d7201801b15860ae505c8f25937b4737fe0dacc70f1ff4c4721411", func := "loop.example/g00879/laws.FnExactEncodeStream", spec := "fnExactEncodeStream", unfollowed := true, recurses := true, apart := false, narrowed := true }
def FnExactEncodeStreamUptoSaid : Prop := fnExactEncodeStreamUptoRow.holds Try.pinned (OpenSpec.upto fnExactEncodeStreamSpec)

/-- 'laws.FnRecurrences', WHERE WHAT IT READS IS OF BULK AT MOST 1048576: true; the input reads as it did. -/
def fnRecurrencesUptoRow : OpenClaim := { program := "ytfhkkpfiflgofaa", sum := "334351c849d7201801b15860ae505c8f25937b4737fe0dacc70f1ff4c4721411", func := "loop.example/g00879/laws.FnRecurrences", spec := "fnRecurrences", unfollowed := true, recurses := true, apart := false, narrowed := true }
def FnRecurrencesUptoSaid : Prop := fnRecurrencesUptoRow.holds Try.pinned (OpenSpec.upto fnRecurrencesSpec)

/-- 'laws.FnErrorValues', WHERE WHAT IT READS IS OF BULK AT MOST 1048576: true; the input reads as it did. -/
def fnErrorValuesUptoRow : OpenClaim := { program := "ytfhkkpfiflgofaa", sum := "334351c849d7201801b15860ae505c8f25937b4737fe0dacc70f1ff4c4721411", func := "loop.example/g00879/laws.FnErrorValues", spec := "fnErrorValues", unfollowed := true, recurses := true, apart := false, narrowed := true }
def FnErrorValuesUptoSaid : Prop := fnErrorValuesUptoRow.holds Try.pinned (OpenSpec.upto fnErrorValuesSpec)

/-- 'laws.FnStreams', WHERE WHAT IT READS IS OF BULK AT MOST 1048576: true; the input reads as it did. -/
def fnStreamsUptoRow : OpenClaim := { program := "ytfhkkpfiflgofaa", sum := "334351c849d7201801b15860ae505c8f25937b4737fe0dacc70f1ff4c4721411", func := "loop.example/g00879/laws.FnStreams", spec := "fnStreams", unfollowed := true, recurses := true, apart := false, narrowed := true }
def FnStreamsUptoSaid : Prop := fnStreamsUptoRow.holds Try.pinned (OpenSpec.upto fnStreamsSpec)

/-- 'laws.FnExactDecodeStream', WHERE WHAT IT READS IS OF BULK AT MOST 1048576: true; the input reads as it did. -/
def fnExactDecodeStreamUptoRow : OpenClaim := { program := "ytfhkkpfiflgofaa", sum := "334351c849d7201801b15860ae505c8f25937b4737fe0dacc70f1ff4c4721411", func := "loop.example/g00879/laws.FnExactDecodeStream", spec := "fnExactDecodeStream", unfollowed := true, recurses := true, apart := false, narrowed := true }
def FnExactDecodeStreamUptoSaid : Prop := fnExactDecodeStreamUptoRow.holds Try.pinned (OpenSpec.upto fnExactDecodeStreamSpec)

/-- 'laws.FnBursts', WHERE WHAT IT READS IS OF BULK AT MOST 1048576: true; the input reads as it did. -/
def fnBurstsUptoRow : OpenClaim := { program := "ytfhkkpfiflgofaa", sum := "334351c849d7201801b15860ae505c8f25937b4737fe0dacc70f1ff4c4721411", func := "loop.example/g00879/laws.FnBursts", spec := "fnBursts", unfollowed := true, recurses := true, apart := false, narrowed := true }
def FnBurstsUptoSaid : Prop := fnBurstsUptoRow.holds Try.pinned (OpenSpec.upto fnBurstsSpec)

/-- 'laws.FnStreamDamage', WHERE WHAT IT READS IS OF BULK AT MOST 1048576: true; the input reads as it did. -/
def fnStreamDamageUptoRow : OpenClaim := { program := "ytfhkkpfiflgofaa", sum := "334351c849d7201801b15860ae505c8f25937b4737fe0dacc70f1ff4c4721411", func := "loop.example/g00879/laws.FnStreamDamage", spec := "fnStreamDamage", unfollowed := true, recurses := true, apart := false, narrowed := true }
def FnStreamDamageUptoSaid : Prop := fnStreamDamageUptoRow.holds Try.pinned (OpenSpec.upto fnStreamDamageSpec)

end Rows
end Go.Proofs.Ytfhkkpfiflgofaa
