/-
  No cell of these rows narrows 'for every input' (looked for: loops, veiled, ifaces, maps, wideKeys, modest, calm, conditions, laid).
  DERIVED. THE GIVEN ROWS OF THIS SEAT. 4 by the template 'for every input the law returns true; each argument reads behind the call as it read before'; 0 by the template 'total and deterministic' (their statements: YtcjkmfhnlggohaaTotals.lean).
  GIVEN WITH THE SEED: the statements are not yours to turn. If you find one false, say at which input.
  Laid BY PROGRAM, IN A SANDBOX (cutbox-rows.mjs): the forced cells as the released guide's own fill.sh prints them over the translation 591543b74d486b50… (all of the seat's roots in one cut). By AI agents, Wed Nov 11 2026. No macro, syntax, notation, axiom, sorry.
-/
import Derived.Test.YtcjkmfhnlggohaaChecked
import GoSem.Claim
import GoSem.ClaimJoined
import GoSem.ClaimMapViews
import Derived.JoinedTies
import Derived.KernelRfl
namespace Go.Proofs.Ytcjkmfhnlggohaa
/- THE CELL 'sum', in the pinned program and in every row, IS THE sha256 OF THE DUMP (.gsa) THAT YtcjkmfhnlggohaaProg.lean LOADS. Nothing in Lean hashes anything: it is a label: what it is worth is what the hold of that sum in a sandbox is worth. -/
noncomputable def Try.pinned : Pinned := { name := "ytcjkmfhnlggohaa", sum := "591543b74d486b508ed5edd466d41cbb87226048b8ebcf222e05228c6edebb6f", checked := Try.checked }
namespace Rows
def none {H : Type} : Left H := { results := [], args := [] }

/-- 'laws.FnExactDecodeStream': WHATEVER THE INPUT: true; the input reads as it did. -/
def fnExactDecodeStreamSpec : ChangeSpec := { name := "fnExactDecodeStream", fn := fun _ => fun
  | [d1, d2, d3] => { results := [.lit (.bool true)], args := [d1, d2, d3] }
  | _ => none }
def fnExactDecodeStreamRow : OpenClaim := { program := "ytcjkmfhnlggohaa", sum := "591543b74d486b508ed5edd466d41cbb87226048b8ebcf222e05228c6edebb6f", func := "loop.example/g00879/laws.FnExactDecodeStream", spec := "fnExactDecodeStream", unfollowed := true, recurses := true, apart := false }
def FnExactDecodeStreamSaid : Prop := fnExactDecodeStreamRow.holds Try.pinned (OpenSpec.ofChange fnExactDecodeStreamSpec)

/-- ITS FALSE NEIGHBOUR: 'it returns false'. Refute it at one input. -/
def fnExactDecodeStreamWrong : ChangeSpec := { name := "fnExactDecodeStream", fn := fun _ => fun
  | [d1, d2, d3] => { results := [.lit (.bool false)], args := [d1, d2, d3] }
  | _ => none }
def FnExactDecodeStreamWrongFalsely : Prop := fnExactDecodeStreamRow.holds Try.pinned (OpenSpec.ofChange fnExactDecodeStreamWrong)

/-- 'laws.FnBursts': WHATEVER THE INPUT: true; the input reads as it did. -/
def fnBurstsSpec : ChangeSpec := { name := "fnBursts", fn := fun _ => fun
  | [d] => { results := [.lit (.bool true)], args := [d] }
  | _ => none }
def fnBurstsRow : OpenClaim := { program := "ytcjkmfhnlggohaa", sum := "591543b74d486b508ed5edd466d41cbb87226048b8ebcf222e05228c6edebb6f", func := "loop.example/g00879/laws.FnBursts", spec := "fnBursts", unfollowed := true, recurses := true, apart := false }
def FnBurstsSaid : Prop := fnBurstsRow.holds Try.pinned (OpenSpec.ofChange fnBurstsSpec)

/-- ITS FALSE NEIGHBOUR: 'it returns false'. Refute it at one input. -/
def fnBurstsWrong : ChangeSpec := { name := "fnBursts", fn := fun _ => fun
  | [d] => { results := [.lit (.bool false)], args := [d] }
  | _ => none }
def FnBurstsWrongFalsely : Prop := fnBurstsRow.holds Try.pinned (OpenSpec.ofChange fnBurstsWrong)

/-- 'laws.FnErrorRecurrence': WHATEVER THE INPUT: true; the input reads as it did. -/
def fnErrorRecurrenceSpec : ChangeSpec := { name := "fnErrorRecurrence", fn := fun _ => fun
  | [d] => { results := [.lit (.bool true)], args := [d] }
  | _ => none }
def fnErrorRecurrenceRow : OpenClaim := { program := "ytcjkmfhnlggohaa", sum := "591543b74d486b508ed5edd466d41cbb87226048b8ebcf222e05228c6edebb6f", func := "loop.example/g00879/laws.FnErrorRecurrence", spec := "fnErrorRecurrence", unfollowed := true, recurses := true, apart := false }
def FnErrorRecurrenceSaid : Prop := fnErrorRecurrenceRow.holds Try.pinned (OpenSpec.ofChange fnErrorRecurrenceSpec)

/-- ITS FALSE NEIGHBOUR: 'it returns false'. Refute it at one input. -/
def fnErrorRecurrenceWrong : ChangeSpec := { name := "fnErrorRecurrence", fn := fun _ => fun
  | [d] => { results := [.lit (.bool false)], args := [d] }
  | _ => none }
def FnErrorRecurrenceWrongFalsely : Prop := fnErrorRecurrenceRow.holds Try.pinned (OpenSpec.ofChange fnErrorRecurrenceWrong)

/-- 'laws.FnStreamDamage': WHATEVER THE INPUT: true; the input reads as it did. -/
def fnStreamDamageSpec : ChangeSpec := { name := "fnStreamDamage", fn := fun _ => fun
  | [d] => { results := [.lit (.bool true)], args := [d] }
  | _ => none }
def fnStreamDamageRow : OpenClaim := { program := "ytcjkmfhnlggohaa", sum := "591543b74d486b508ed5edd466d41cbb87226048b8ebcf222e05228c6edebb6f", func := "loop.example/g00879/laws.FnStreamDamage", spec := "fnStreamDamage", unfollowed := true, recurses := true, apart := false }
def FnStreamDamageSaid : Prop := fnStreamDamageRow.holds Try.pinned (OpenSpec.ofChange fnStreamDamageSpec)

/-- ITS FALSE NEIGHBOUR: 'it returns false'. Refute it at one input. -/
def fnStreamDamageWrong : ChangeSpec := { name := "fnStreamDamage", fn := fun _ => fun
  | [d] => { results := [.lit (.bool false)], args := [d] }
  | _ => none }
def FnStreamDamageWrongFalsely : Prop := fnStreamDamageRow.holds Try.pinned (OpenSpec.ofChange fnStreamDamageWrong)

/- THE SECOND FORM. 'bulk': how many values and letters a reading holds, each counted each time it is reached (what is shared counts as often as it is met; a slice's spare places count too). A statement '..UptoSaid' is the law's where the arguments, and the package variables that the reading takes, are together of bulk at most 1048576: NARROWER than '..Said'. Prove '..Said' where nothing that the law and all that it calls make is longer than what came in: it says more and counts as full. Else prove '..UptoSaid'. A law counts once. -/
mutual
def uptoBulk {H : Type} : DataW H → Nat
  | .lit (.string bytes) => bytes.length + 1
  | .lit _ => 1
  | .nil => 1
  | .ptr d => uptoBulk d + 1
  | .slice elems spare => uptoBulkAll elems + uptoBulkAll spare + 1
  | .agg parts => uptoBulkAll parts + 1
  | .iface _ d => uptoBulk d + 1
  | .map entries => uptoBulkEntries entries + 1
  | .held _ => 1
def uptoBulkAll {H : Type} : List (DataW H) → Nat
  | [] => 0
  | d :: r => uptoBulk d + uptoBulkAll r
def uptoBulkEntries {H : Type} : List (Lit × DataW H) → Nat
  | [] => 0
  | x :: r => uptoBulkEntry x + uptoBulkEntries r
def uptoBulkEntry {H : Type} : Lit × DataW H → Nat
  | (.string bytes, d) => bytes.length + uptoBulk d + 1
  | (_, d) => uptoBulk d + 1
 end
def uptoSmall : (H : Type) → List (DataW H) → Bool := fun _ ds => decide (uptoBulkAll ds ≤ 1048576)
def OpenSpec.upto (s : _root_.Go.ChangeSpec) : _root_.Go.OpenSpec := { _root_.Go.OpenSpec.ofChange s with cond := some uptoSmall }

/-- 'laws.FnExactDecodeStream', WHERE WHAT IT READS IS OF BULK AT MOST 1048576: true; the input reads as it did. -/
def fnExactDecodeStreamUptoRow : OpenClaim := { program := "ytcjkmfhnlggohaa", sum := "591543b74d486b508ed5edd466d41cbb87226048b8ebcf222e05228c6edebb6f", func := "loop.example/g00879/laws.FnExactDecodeStream", spec := "fnExactDecodeStream", unfollowed := true, recurses := true, apart := false, narrowed := true }
def FnExactDecodeStreamUptoSaid : Prop := fnExactDecodeStreamUptoRow.holds Try.pinned (OpenSpec.upto fnExactDecodeStreamSpec)

/-- 'laws.FnBursts', WHERE WHAT IT READS IS OF BULK AT MOST 1048576: true; the input reads as it did. -/
def fnBurstsUptoRow : OpenClaim := { program := "ytcjkmfhnlggohaa", sum := "591543b74d486b508ed5edd466d41cbb87226048b8ebcf222e05228c6edebb6f", func := "loop.example/g00879/laws.FnBursts", spec := "fnBursts", unfollowed := true, recurses := true, apart := false, narrowed := true }
def FnBurstsUptoSaid : Prop := fnBurstsUptoRow.holds Try.pinned (OpenSpec.upto fnBurstsSpec)

/-- 'laws.FnErrorRecurrence', WHERE WHAT IT READS IS OF BULK AT MOST 1048576: true; the input reads as it did. -/
def fnErrorRecurrenceUptoRow : OpenClaim := { program := "ytcjkmfhnlggohaa", sum := "591543b74d486b508ed5edd466d41cbb87226048b8ebcf222e05228c6edebb6f", func := "loop.example/g00879/laws.FnErrorRecurrence", spec := "fnErrorRecurrence", unfollowed := true, recurses := true, apart := false, narrowed := true }
def FnErrorRecurrenceUptoSaid : Prop := fnErrorRecurrenceUptoRow.holds Try.pinned (OpenSpec.upto fnErrorRecurrenceSpec)

/-- 'laws.FnStreamDamage', WHERE WHAT IT READS IS OF BULK AT MOST 1048576: true; the input reads as it did. -/
def fnStreamDamageUptoRow : OpenClaim := { program := "ytcjkmfhnlggohaa", sum := "591543b74d486b508ed5edd466d41cbb87226048b8ebcf222e05228c6edebb6f", func := "loop.example/g00879/laws.FnStreamDamage", spec := "fnStreamDamage", unfollowed := true, recurses := true, apart := false, narrowed := true }
def FnStreamDamageUptoSaid : Prop := fnStreamDamageUptoRow.holds Try.pinned (OpenSpec.upto fnStreamDamageSpec)

end Rows
end Go.Proofs.Ytcjkmfhnlggohaa
