/-
  No cell of these rows narrows 'for every input' (looked for: loops, veiled, ifaces, maps, wideKeys, modest, calm, conditions, laid).
  DERIVED. THE GIVEN ROWS OF THIS SEAT. 7 by the template 'for every input the law returns true; each argument reads behind the call as it read before'; 0 by the template 'total and deterministic' (their statements: YtbfnicpamknlaaaTotals.lean).
  GIVEN WITH THE SEED: the statements are not yours to turn. If you find one false, say at which input.
  Laid BY PROGRAM, IN A SANDBOX (cutbox-rows.mjs): the forced cells as the released guide's own fill.sh prints them over the translation 82b5363a688aebc0… (all of the seat's roots in one cut). By AI agents, Wed Nov 11 2026. No macro, syntax, notation, axiom, sorry.
-/
import Derived.Test.YtbfnicpamknlaaaChecked
import GoSem.Claim
import GoSem.ClaimJoined
import GoSem.ClaimMapViews
import Derived.JoinedTies
import Derived.KernelRfl
namespace Go.Proofs.Ytbfnicpamknlaaa
/- THE CELL 'sum', in the pinned program and in every row, IS THE sha256 OF THE DUMP (.gsa) THAT YtbfnicpamknlaaaProg.lean LOADS. Nothing in Lean hashes anything: it is a label: what it is worth is what the hold of that sum in a sandbox is worth. -/
noncomputable def Try.pinned : Pinned := { name := "ytbfnicpamknlaaa", sum := "82b5363a688aebc0e52cebce199d93ad4a76583e702c4d504862b64fc9ff7211", checked := Try.checked }
namespace Rows
def none {H : Type} : Left H := { results := [], args := [] }

/-- 'laws.FnExactIsRecord': WHATEVER THE INPUT: true; the input reads as it did. -/
def fnExactIsRecordSpec : ChangeSpec := { name := "fnExactIsRecord", fn := fun _ => fun
  | [d] => { results := [.lit (.bool true)], args := [d] }
  | _ => none }
def fnExactIsRecordRow : OpenClaim := { program := "ytbfnicpamknlaaa", sum := "82b5363a688aebc0e52cebce199d93ad4a76583e702c4d504862b64fc9ff7211", func := "loop.example/g00879/laws.FnExactIsRecord", spec := "fnExactIsRecord", apart := false }
def FnExactIsRecordSaid : Prop := fnExactIsRecordRow.holds Try.pinned (OpenSpec.ofChange fnExactIsRecordSpec)

/-- ITS FALSE NEIGHBOUR: 'it returns false'. Refute it at one input. -/
def fnExactIsRecordWrong : ChangeSpec := { name := "fnExactIsRecord", fn := fun _ => fun
  | [d] => { results := [.lit (.bool false)], args := [d] }
  | _ => none }
def FnExactIsRecordWrongFalsely : Prop := fnExactIsRecordRow.holds Try.pinned (OpenSpec.ofChange fnExactIsRecordWrong)

/-- 'laws.FnExactCountRecords': WHATEVER THE INPUT: true; the input reads as it did. -/
def fnExactCountRecordsSpec : ChangeSpec := { name := "fnExactCountRecords", fn := fun _ => fun
  | [d1, d2] => { results := [.lit (.bool true)], args := [d1, d2] }
  | _ => none }
def fnExactCountRecordsRow : OpenClaim := { program := "ytbfnicpamknlaaa", sum := "82b5363a688aebc0e52cebce199d93ad4a76583e702c4d504862b64fc9ff7211", func := "loop.example/g00879/laws.FnExactCountRecords", spec := "fnExactCountRecords", apart := false }
def FnExactCountRecordsSaid : Prop := fnExactCountRecordsRow.holds Try.pinned (OpenSpec.ofChange fnExactCountRecordsSpec)

/-- ITS FALSE NEIGHBOUR: 'it returns false'. Refute it at one input. -/
def fnExactCountRecordsWrong : ChangeSpec := { name := "fnExactCountRecords", fn := fun _ => fun
  | [d1, d2] => { results := [.lit (.bool false)], args := [d1, d2] }
  | _ => none }
def FnExactCountRecordsWrongFalsely : Prop := fnExactCountRecordsRow.holds Try.pinned (OpenSpec.ofChange fnExactCountRecordsWrong)

/-- 'laws.FnExactFieldAdd': WHATEVER THE INPUT: true; the input reads as it did. -/
def fnExactFieldAddSpec : ChangeSpec := { name := "fnExactFieldAdd", fn := fun _ => fun
  | [d1, d2, d3] => { results := [.lit (.bool true)], args := [d1, d2, d3] }
  | _ => none }
def fnExactFieldAddRow : OpenClaim := { program := "ytbfnicpamknlaaa", sum := "82b5363a688aebc0e52cebce199d93ad4a76583e702c4d504862b64fc9ff7211", func := "loop.example/g00879/laws.FnExactFieldAdd", spec := "fnExactFieldAdd", unfollowed := true, recurses := true, apart := false }
def FnExactFieldAddSaid : Prop := fnExactFieldAddRow.holds Try.pinned (OpenSpec.ofChange fnExactFieldAddSpec)

/-- ITS FALSE NEIGHBOUR: 'it returns false'. Refute it at one input. -/
def fnExactFieldAddWrong : ChangeSpec := { name := "fnExactFieldAdd", fn := fun _ => fun
  | [d1, d2, d3] => { results := [.lit (.bool false)], args := [d1, d2, d3] }
  | _ => none }
def FnExactFieldAddWrongFalsely : Prop := fnExactFieldAddRow.holds Try.pinned (OpenSpec.ofChange fnExactFieldAddWrong)

/-- 'laws.FnExactIsSatisfied': WHATEVER THE INPUT: true; the input reads as it did. -/
def fnExactIsSatisfiedSpec : ChangeSpec := { name := "fnExactIsSatisfied", fn := fun _ => fun
  | [d1, d2, d3, d4] => { results := [.lit (.bool true)], args := [d1, d2, d3, d4] }
  | _ => none }
def fnExactIsSatisfiedRow : OpenClaim := { program := "ytbfnicpamknlaaa", sum := "82b5363a688aebc0e52cebce199d93ad4a76583e702c4d504862b64fc9ff7211", func := "loop.example/g00879/laws.FnExactIsSatisfied", spec := "fnExactIsSatisfied", unfollowed := true, recurses := true, apart := false }
def FnExactIsSatisfiedSaid : Prop := fnExactIsSatisfiedRow.holds Try.pinned (OpenSpec.ofChange fnExactIsSatisfiedSpec)

/-- ITS FALSE NEIGHBOUR: 'it returns false'. Refute it at one input. -/
def fnExactIsSatisfiedWrong : ChangeSpec := { name := "fnExactIsSatisfied", fn := fun _ => fun
  | [d1, d2, d3, d4] => { results := [.lit (.bool false)], args := [d1, d2, d3, d4] }
  | _ => none }
def FnExactIsSatisfiedWrongFalsely : Prop := fnExactIsSatisfiedRow.holds Try.pinned (OpenSpec.ofChange fnExactIsSatisfiedWrong)

/-- 'laws.FnExactPolyEval': WHATEVER THE INPUT: true; the input reads as it did. -/
def fnExactPolyEvalSpec : ChangeSpec := { name := "fnExactPolyEval", fn := fun _ => fun
  | [d1, d2, d3] => { results := [.lit (.bool true)], args := [d1, d2, d3] }
  | _ => none }
def fnExactPolyEvalRow : OpenClaim := { program := "ytbfnicpamknlaaa", sum := "82b5363a688aebc0e52cebce199d93ad4a76583e702c4d504862b64fc9ff7211", func := "loop.example/g00879/laws.FnExactPolyEval", spec := "fnExactPolyEval", unfollowed := true, recurses := true, apart := false }
def FnExactPolyEvalSaid : Prop := fnExactPolyEvalRow.holds Try.pinned (OpenSpec.ofChange fnExactPolyEvalSpec)

/-- ITS FALSE NEIGHBOUR: 'it returns false'. Refute it at one input. -/
def fnExactPolyEvalWrong : ChangeSpec := { name := "fnExactPolyEval", fn := fun _ => fun
  | [d1, d2, d3] => { results := [.lit (.bool false)], args := [d1, d2, d3] }
  | _ => none }
def FnExactPolyEvalWrongFalsely : Prop := fnExactPolyEvalRow.holds Try.pinned (OpenSpec.ofChange fnExactPolyEvalWrong)

/-- 'laws.FnExactAddWords': WHATEVER THE INPUT: true; the input reads as it did. -/
def fnExactAddWordsSpec : ChangeSpec := { name := "fnExactAddWords", fn := fun _ => fun
  | [d1, d2, d3] => { results := [.lit (.bool true)], args := [d1, d2, d3] }
  | _ => none }
def fnExactAddWordsRow : OpenClaim := { program := "ytbfnicpamknlaaa", sum := "82b5363a688aebc0e52cebce199d93ad4a76583e702c4d504862b64fc9ff7211", func := "loop.example/g00879/laws.FnExactAddWords", spec := "fnExactAddWords", unfollowed := true, recurses := true, apart := false }
def FnExactAddWordsSaid : Prop := fnExactAddWordsRow.holds Try.pinned (OpenSpec.ofChange fnExactAddWordsSpec)

/-- ITS FALSE NEIGHBOUR: 'it returns false'. Refute it at one input. -/
def fnExactAddWordsWrong : ChangeSpec := { name := "fnExactAddWords", fn := fun _ => fun
  | [d1, d2, d3] => { results := [.lit (.bool false)], args := [d1, d2, d3] }
  | _ => none }
def FnExactAddWordsWrongFalsely : Prop := fnExactAddWordsRow.holds Try.pinned (OpenSpec.ofChange fnExactAddWordsWrong)

/-- 'laws.FnExactPolyRoots': WHATEVER THE INPUT: true; the input reads as it did. -/
def fnExactPolyRootsSpec : ChangeSpec := { name := "fnExactPolyRoots", fn := fun _ => fun
  | [d1, d2] => { results := [.lit (.bool true)], args := [d1, d2] }
  | _ => none }
def fnExactPolyRootsRow : OpenClaim := { program := "ytbfnicpamknlaaa", sum := "82b5363a688aebc0e52cebce199d93ad4a76583e702c4d504862b64fc9ff7211", func := "loop.example/g00879/laws.FnExactPolyRoots", spec := "fnExactPolyRoots", unfollowed := true, recurses := true, apart := false }
def FnExactPolyRootsSaid : Prop := fnExactPolyRootsRow.holds Try.pinned (OpenSpec.ofChange fnExactPolyRootsSpec)

/-- ITS FALSE NEIGHBOUR: 'it returns false'. Refute it at one input. -/
def fnExactPolyRootsWrong : ChangeSpec := { name := "fnExactPolyRoots", fn := fun _ => fun
  | [d1, d2] => { results := [.lit (.bool false)], args := [d1, d2] }
  | _ => none }
def FnExactPolyRootsWrongFalsely : Prop := fnExactPolyRootsRow.holds Try.pinned (OpenSpec.ofChange fnExactPolyRootsWrong)

/- THE SECOND FORM. 'bulk': how many values and letters a reading holds, each counted each time it is reached (what is shared counts as often as it is met; a slice's spare places count too). A statement '..UptoSaid' is the law's where the arguments, and the package variables that the reading takes, are together of bulk at most 1048576: NARROWER than '..Said'. Prove '..Said' where nothing that the law and all that it calls make is longer than what came in: it says more and counts as full. Else prove '..UptoSaid'. A law counts once. -/
mutual
def uptoBulk {H : Type} : DataW H → Nat
  | .lit (.string bytes) => bytes.length + 1
  | .lit _ => 1
  | .nil => 1
  | .ptr d => uptoBulk d + 1
  | .slice elems spare => uptoBulkAll elems + uptoBulkAll spare + 1
  | .agg parts => uptoBulkAll parts + 1
  | .iface _ d => uptoBulk d + 1
  | .map entries => uptoBulkEntries entries + 1
  | .held _ => 1
def uptoBulkAll {H : Type} : List (DataW H) → Nat
  | [] => 0
  | d :: r => uptoBulk d + uptoBulkAll r
def uptoBulkEntries {H : Type} : List (Lit × DataW H) → Nat
  | [] => 0
  | x :: r => uptoBulkEntry x + uptoBulkEntries r
def uptoBulkEntry {H : Type} : Lit × DataW H → Nat
  | (.string bytes, d) => bytes.length + uptoBulk d + 1
  | (_, d) => uptoBulk d + 1
 end
def uptoSmall : (H : Type) → List (DataW H) → Bool := fun _ ds => decide (uptoBulkAll ds ≤ 1048576)
def OpenSpec.upto (s : _root_.Go.ChangeSpec) : _root_.Go.OpenSpec := { _root_.Go.OpenSpec.ofChange s with cond := some uptoSmall }

/-- 'laws.FnExactIsRecord', WHERE WHAT IT READS IS OF BULK AT MOST 1048576: true; the input reads as it did. -/
def fnExactIsRecordUptoRow : OpenClaim := { program := "ytbfnicpamknlaaa", sum := "82b5363a688aebc0e52cebce199d93ad4a76583e702c4d504862b64fc9ff7211", func := "loop.example/g00879/laws.FnExactIsRecord", spec := "fnExactIsRecord", apart := false, narrowed := true }
def FnExactIsRecordUptoSaid : Prop := fnExactIsRecordUptoRow.holds Try.pinned (OpenSpec.upto fnExactIsRecordSpec)

/-- 'laws.FnExactCountRecords', WHERE WHAT IT READS IS OF BULK AT MOST 1048576: true; the input reads as it did. -/
def fnExactCountRecordsUptoRow : OpenClaim := { program := "ytbfnicpamknlaaa", sum := "82b5363a688aebc0e52cebce199d93ad4a76583e702c4d504862b64fc9ff7211", func := "loop.example/g00879/laws.FnExactCountRecords", spec := "fnExactCountRecords", apart := false, narrowed := true }
def FnExactCountRecordsUptoSaid : Prop := fnExactCountRecordsUptoRow.holds Try.pinned (OpenSpec.upto fnExactCountRecordsSpec)

/-- 'laws.FnExactFieldAdd', WHERE WHAT IT READS IS OF BULK AT MOST 1048576: true; the input reads as it did. -/
def fnExactFieldAddUptoRow : OpenClaim := { program := "ytbfnicpamknlaaa", sum := "82b5363a688aebc0e52cebce199d93ad4a76583e702c4d504862b64fc9ff7211", func := "loop.example/g00879/laws.FnExactFieldAdd", spec := "fnExactFieldAdd", unfollowed := true, recurses := true, apart := false, narrowed := true }
def FnExactFieldAddUptoSaid : Prop := fnExactFieldAddUptoRow.holds Try.pinned (OpenSpec.upto fnExactFieldAddSpec)

/-- 'laws.FnExactIsSatisfied', WHERE WHAT IT READS IS OF BULK AT MOST 1048576: true; the input reads as it did. -/
def fnExactIsSatisfiedUptoRow : OpenClaim := { program := "ytbfnicpamknlaaa", sum := "82b5363a688aebc0e52cebce199d93ad4a76583e702c4d504862b64fc9ff7211", func := "loop.example/g00879/laws.FnExactIsSatisfied", spec := "fnExactIsSatisfied", unfollowed := true, recurses := true, apart := false, narrowed := true }
def FnExactIsSatisfiedUptoSaid : Prop := fnExactIsSatisfiedUptoRow.holds Try.pinned (OpenSpec.upto fnExactIsSatisfiedSpec)

/-- 'laws.FnExactPolyEval', WHERE WHAT IT READS IS OF BULK AT MOST 1048576: true; the input reads as it did. -/
def fnExactPolyEvalUptoRow : OpenClaim := { program := "ytbfnicpamknlaaa", sum := "82b5363a688aebc0e52cebce199d93ad4a76583e702c4d504862b64fc9ff7211", func := "loop.example/g00879/laws.FnExactPolyEval", spec := "fnExactPolyEval", unfollowed := true, recurses := true, apart := false, narrowed := true }
def FnExactPolyEvalUptoSaid : Prop := fnExactPolyEvalUptoRow.holds Try.pinned (OpenSpec.upto fnExactPolyEvalSpec)

/-- 'laws.FnExactAddWords', WHERE WHAT IT READS IS OF BULK AT MOST 1048576: true; the input reads as it did. -/
def fnExactAddWordsUptoRow : OpenClaim := { program := "ytbfnicpamknlaaa", sum := "82b5363a688aebc0e52cebce199d93ad4a76583e702c4d504862b64fc9ff7211", func := "loop.example/g00879/laws.FnExactAddWords", spec := "fnExactAddWords", unfollowed := true, recurses := true, apart := false, narrowed := true }
def FnExactAddWordsUptoSaid : Prop := fnExactAddWordsUptoRow.holds Try.pinned (OpenSpec.upto fnExactAddWordsSpec)

/-- 'laws.FnExactPolyRoots', WHERE WHAT IT READS IS OF BULK AT MOST 1048576: true; the input reads as it did. -/
def fnExactPolyRootsUptoRow : OpenClaim := { program := "ytbfnicpamknlaaa", sum := "82b5363a688aebc0e52cebce199d93ad4a76583e702c4d504862b64fc9ff7211", func := "loop.example/g00879/laws.FnExactPolyRoots", spec := "fnExactPolyRoots", unfollowed := true, recurses := true, apart := false, narrowed := true }
def FnExactPolyRootsUptoSaid : Prop := fnExactPolyRootsUptoRow.holds Try.pinned (OpenSpec.upto fnExactPolyRootsSpec)

end Rows
end Go.Proofs.Ytbfnicpamknlaaa
