/-
  No cell of these rows narrows 'for every input' (looked for: loops, veiled, ifaces, maps, wideKeys, modest, calm, conditions, laid).
  DERIVED. THE GIVEN ROWS OF THIS SEAT. 2 by the template 'for every input the law returns true; each argument reads behind the call as it read before'; 0 by the template 'total and deterministic' (their statements: YtcjkmfhnlggohaaGreatTotals.lean).
  GIVEN WITH THE SEED: the statements are not yours to turn. If you find one false, say at which input.
  Laid BY PROGRAM, IN A SANDBOX (cutbox-rows.mjs): the forced cells as the released guide's own fill.sh prints them over the translation 8a28d18455f074cd… (all of the seat's roots in one cut). By AI agents, Wed Nov 11 2026. No macro, syntax, notation, axiom, sorry.
-/
import Derived.Test.YtcjkmfhnlggohaaGreatChecked
import GoSem.Claim
import GoSem.ClaimJoined
import GoSem.ClaimMapViews
import Derived.JoinedTies
import Derived.KernelRfl
namespace Go.Proofs.YtcjkmfhnlggohaaGreat
/- THE CELL 'sum', in the pinned program and in every row, IS THE sha256 OF THE DUMP (.gsa) THAT YtcjkmfhnlggohaaGreatProg.lean LOADS. Nothing in Lean hashes anything: it is a label: what it is worth is what the hold of that sum in a sandbox is worth. -/
noncomputable def Tryz.pinned : Pinned := { name := "ytcjkmfhnlggohaagreat", sum := "8a28d18455f074cd8c77519ad00309eda0621738c60903b397361e8bef874b90", checked := Tryz.checked }
namespace Rows
def none {H : Type} : Left H := { results := [], args := [] }

/-- 'laws.FnCorrected': WHATEVER THE INPUT: true; the input reads as it did. -/
def fnCorrectedSpec : ChangeSpec := { name := "fnCorrected", fn := fun _ => fun
  | [d] => { results := [.lit (.bool true)], args := [d] }
  | _ => none }
def fnCorrectedRow : OpenClaim := { program := "ytcjkmfhnlggohaagreat", sum := "8a28d18455f074cd8c77519ad00309eda0621738c60903b397361e8bef874b90", func := "loop.example/g00879/laws.FnCorrected", spec := "fnCorrected", unfollowed := true, recurses := true, apart := false }
def FnCorrectedSaid : Prop := fnCorrectedRow.holds Tryz.pinned (OpenSpec.ofChange fnCorrectedSpec)

/-- ITS FALSE NEIGHBOUR: 'it returns false'. Refute it at one input. -/
def fnCorrectedWrong : ChangeSpec := { name := "fnCorrected", fn := fun _ => fun
  | [d] => { results := [.lit (.bool false)], args := [d] }
  | _ => none }
def FnCorrectedWrongFalsely : Prop := fnCorrectedRow.holds Tryz.pinned (OpenSpec.ofChange fnCorrectedWrong)

/-- 'laws.FnDecodersAgree': WHATEVER THE INPUT: true; the input reads as it did. -/
def fnDecodersAgreeSpec : ChangeSpec := { name := "fnDecodersAgree", fn := fun _ => fun
  | [d] => { results := [.lit (.bool true)], args := [d] }
  | _ => none }
def fnDecodersAgreeRow : OpenClaim := { program := "ytcjkmfhnlggohaagreat", sum := "8a28d18455f074cd8c77519ad00309eda0621738c60903b397361e8bef874b90", func := "loop.example/g00879/laws.FnDecodersAgree", spec := "fnDecodersAgree", unfollowed := true, recurses := true, apart := false }
def FnDecodersAgreeSaid : Prop := fnDecodersAgreeRow.holds Tryz.pinned (OpenSpec.ofChange fnDecodersAgreeSpec)

/-- ITS FALSE NEIGHBOUR: 'it returns false'. Refute it at one input. -/
def fnDecodersAgreeWrong : ChangeSpec := { name := "fnDecodersAgree", fn := fun _ => fun
  | [d] => { results := [.lit (.bool false)], args := [d] }
  | _ => none }
def FnDecodersAgreeWrongFalsely : Prop := fnDecodersAgreeRow.holds Tryz.pinned (OpenSpec.ofChange fnDecodersAgreeWrong)

/- THE SECOND FORM. 'bulk': how many values and letters a reading holds, each counted each time it is reached (what is shared counts as often as it is met; a slice's spare places count too). A statement '..UptoSaid' is the law's where the arguments, and the package variables that the reading takes, are together of bulk at most 1048576: NARROWER than '..Said'. Prove '..Said' where nothing that the law and all that it calls make is longer than what came in: it says more and counts as full. Else prove '..UptoSaid'. A law counts once. -/
mutual
def uptoBulk {H : Type} : DataW H → Nat
  | .lit (.string bytes) => bytes.length + 1
  | .lit _ => 1
  | .nil => 1
  | .ptr d => uptoBulk d + 1
  | .slice elems spare => uptoBulkAll elems + uptoBulkAll spare + 1
  | .agg parts => uptoBulkAll parts + 1
  | .iface _ d => uptoBulk d + 1
  | .map entries => uptoBulkEntries entries + 1
  | .held _ => 1
def uptoBulkAll {H : Type} : List (DataW H) → Nat
  | [] => 0
  | d :: r => uptoBulk d + uptoBulkAll r
def uptoBulkEntries {H : Type} : List (Lit × DataW H) → Nat
  | [] => 0
  | x :: r => uptoBulkEntry x + uptoBulkEntries r
def uptoBulkEntry {H : Type} : Lit × DataW H → Nat
  | (.string bytes, d) => bytes.length + uptoBulk d + 1
  | (_, d) => uptoBulk d + 1
 end
def uptoSmall : (H : Type) → List (DataW H) → Bool := fun _ ds => decide (uptoBulkAll ds ≤ 1048576)
def OpenSpec.upto (s : _root_.Go.ChangeSpec) : _root_.Go.OpenSpec := { _root_.Go.OpenSpec.ofChange s with cond := some uptoSmall }

/-- 'laws.FnCorrected', WHERE WHAT IT READS IS OF BULK AT MOST 1048576: true; the input reads as it did. -/
def fnCorrectedUptoRow : OpenClaim := { program := "ytcjkmfhnlggohaagreat", sum := "8a28d18455f074cd8c77519ad00309eda0621738c60903b397361e8bef874b90", func := "loop.example/g00879/laws.FnCorrected", spec := "fnCorrected", unfollowed := true, recurses := true, apart := false, narrowed := true }
def FnCorrectedUptoSaid : Prop := fnCorrectedUptoRow.holds Tryz.pinned (OpenSpec.upto fnCorrectedSpec)

/-- 'laws.FnDecodersAgree', WHERE WHAT IT READS IS OF BULK AT MOST 1048576: true; the input reads as it did. -/
def fnDecodersAgreeUptoRow : OpenClaim := { program := "ytcjkmfhnlggohaagreat", sum := "8a28d18455f074cd8c77519ad00309eda0621738c60903b397361e8bef874b90", func := "loop.example/g00879/laws.FnDecodersAgree", spec := "fnDecodersAgree", unfollowed := true, recurses := true, apart := false, narrowed := true }
def FnDecodersAgreeUptoSaid : Prop := fnDecodersAgreeUptoRow.holds Tryz.pinned (OpenSpec.upto fnDecodersAgreeSpec)

end Rows
end Go.Proofs.YtcjkmfhnlggohaaGreat
