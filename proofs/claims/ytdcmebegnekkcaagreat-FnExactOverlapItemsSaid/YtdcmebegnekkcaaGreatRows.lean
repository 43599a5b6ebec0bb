/-
  No cell of these rows narrows 'for every input' (looked for: loops, veiled, ifaces, maps, wideKeys, modest, calm, conditions, laid).
  DERIVED. THE GIVEN ROWS OF THIS SEAT. 4 by the template 'for every input the law returns true; each argument reads behind the call as it read before'; 0 by the template 'total and deterministic' (their statements: YtdcmebegnekkcaaGreatTotals.lean).
  GIVEN WITH THE SEED: the statements are not yours to turn. If you find one false, say at which input.
  Laid BY PROGRAM, IN A SANDBOX (cutbox-rows.mjs): the forced cells as the released guide's own fill.sh prints them over the translation dd30365f1b80e424… (all of the seat's roots in one cut). By AI agents, Wed Nov 11 2026. No macro, syntax, notation, axiom, sorry.
-/
import Derived.Test.YtdcmebegnekkcaaGreatChecked
import GoSem.Claim
import GoSem.ClaimJoined
import GoSem.ClaimMapViews
import Derived.JoinedTies
import Derived.KernelRfl
namespace Go.Proofs.YtdcmebegnekkcaaGreat
/- THE CELL 'sum', in the pinned program and in every row, IS THE sha256 OF THE DUMP (.gsa) THAT YtdcmebegnekkcaaGreatProg.lean LOADS. Nothing in Lean hashes anything: it is a label: what it is worth is what the hold of that sum in a sandbox is worth. -/
noncomputable def Tryz.pinned : Pinned := { name := "ytdcmebegnekkcaagreat", sum := "dd30365f1b80e4249df363e36f1bc6f9bfbb8759d27782575c763271a882553c", checked := Tryz.checked }
namespace Rows
def none {H : Type} : Left H := { results := [], args := [] }

/-- 'laws.FnGlyphs': WHATEVER THE INPUT: true; the input reads as it did. -/
def fnGlyphsSpec : ChangeSpec := { name := "fnGlyphs", fn := fun _ => fun
  | [d] => { results := [.lit (.bool true)], args := [d] }
  | _ => none }
def fnGlyphsRow : OpenClaim := { program := "ytdcmebegnekkcaagreat", sum := "dd30365f1b80e4249df363e36f1bc6f9bfbb8759d27782575c763271a882553c", func := "loop.example/g00879/laws.FnGlyphs", spec := "fnGlyphs", unfollowed := true, recurses := true, plainKeys := false, apart := false }
def FnGlyphsSaid : Prop := fnGlyphsRow.holds Tryz.pinned (OpenSpec.ofChange fnGlyphsSpec)

/-- ITS FALSE NEIGHBOUR: 'it returns false'. Refute it at one input. -/
def fnGlyphsWrong : ChangeSpec := { name := "fnGlyphs", fn := fun _ => fun
  | [d] => { results := [.lit (.bool false)], args := [d] }
  | _ => none }
def FnGlyphsWrongFalsely : Prop := fnGlyphsRow.holds Tryz.pinned (OpenSpec.ofChange fnGlyphsWrong)

/-- 'laws.FnExactIsLabel': WHATEVER THE INPUT: true; the input reads as it did. -/
def fnExactIsLabelSpec : ChangeSpec := { name := "fnExactIsLabel", fn := fun _ => fun
  | [d] => { results := [.lit (.bool true)], args := [d] }
  | _ => none }
def fnExactIsLabelRow : OpenClaim := { program := "ytdcmebegnekkcaagreat", sum := "dd30365f1b80e4249df363e36f1bc6f9bfbb8759d27782575c763271a882553c", func := "loop.example/g00879/laws.FnExactIsLabel", spec := "fnExactIsLabel", unfollowed := true, recurses := true, plainKeys := false, apart := false }
def FnExactIsLabelSaid : Prop := fnExactIsLabelRow.holds Tryz.pinned (OpenSpec.ofChange fnExactIsLabelSpec)

/-- ITS FALSE NEIGHBOUR: 'it returns false'. Refute it at one input. -/
def fnExactIsLabelWrong : ChangeSpec := { name := "fnExactIsLabel", fn := fun _ => fun
  | [d] => { results := [.lit (.bool false)], args := [d] }
  | _ => none }
def FnExactIsLabelWrongFalsely : Prop := fnExactIsLabelRow.holds Tryz.pinned (OpenSpec.ofChange fnExactIsLabelWrong)

/-- 'laws.FnExactOverlapItems': WHATEVER THE INPUT: true; the input reads as it did. -/
def fnExactOverlapItemsSpec : ChangeSpec := { name := "fnExactOverlapItems", fn := fun _ => fun
  | [d] => { results := [.lit (.bool true)], args := [d] }
  | _ => none }
def fnExactOverlapItemsRow : OpenClaim := { program := "ytdcmebegnekkcaagreat", sum := "dd30365f1b80e4249df363e36f1bc6f9bfbb8759d27782575c763271a882553c", func := "loop.example/g00879/laws.FnExactOverlapItems", spec := "fnExactOverlapItems", unfollowed := true, recurses := true, plainKeys := false, apart := false }
def FnExactOverlapItemsSaid : Prop := fnExactOverlapItemsRow.holds Tryz.pinned (OpenSpec.ofChange fnExactOverlapItemsSpec)

/-- ITS FALSE NEIGHBOUR: 'it returns false'. Refute it at one input. -/
def fnExactOverlapItemsWrong : ChangeSpec := { name := "fnExactOverlapItems", fn := fun _ => fun
  | [d] => { results := [.lit (.bool false)], args := [d] }
  | _ => none }
def FnExactOverlapItemsWrongFalsely : Prop := fnExactOverlapItemsRow.holds Tryz.pinned (OpenSpec.ofChange fnExactOverlapItemsWrong)

/-- 'laws.FnExactItemBox': WHATEVER THE INPUT: true; the input reads as it did. -/
def fnExactItemBoxSpec : ChangeSpec := { name := "fnExactItemBox", fn := fun _ => fun
  | [d] => { results := [.lit (.bool true)], args := [d] }
  | _ => none }
def fnExactItemBoxRow : OpenClaim := { program := "ytdcmebegnekkcaagreat", sum := "dd30365f1b80e4249df363e36f1bc6f9bfbb8759d27782575c763271a882553c", func := "loop.example/g00879/laws.FnExactItemBox", spec := "fnExactItemBox", unfollowed := true, recurses := true, plainKeys := false, apart := false }
def FnExactItemBoxSaid : Prop := fnExactItemBoxRow.holds Tryz.pinned (OpenSpec.ofChange fnExactItemBoxSpec)

/-- ITS FALSE NEIGHBOUR: 'it returns false'. Refute it at one input. -/
def fnExactItemBoxWrong : ChangeSpec := { name := "fnExactItemBox", fn := fun _ => fun
  | [d] => { results := [.lit (.bool false)], args := [d] }
  | _ => none }
def FnExactItemBoxWrongFalsely : Prop := fnExactItemBoxRow.holds Tryz.pinned (OpenSpec.ofChange fnExactItemBoxWrong)

/- THE SECOND FORM. 'bulk': how many values and letters a reading holds, each counted each time it is reached (what is shared counts as often as it is met; a slice's spare places count too). A statement '..UptoSaid' is the law's where the arguments, and the package variables that the reading takes, are together of bulk at most 1048576: NARROWER than '..Said'. Prove '..Said' where nothing that the law and all that it calls make is longer than what came in: it says more and counts as full. Else prove '..UptoSaid'. A law counts once. -/
mutual
def uptoBulk {H : Type} : DataW H → Nat
  | .lit (.string bytes) => bytes.length + 1
  | .lit _ => 1
  | .nil => 1
  | .ptr d => uptoBulk d + 1
  | .slice elems spare => uptoBulkAll elems + uptoBulkAll spare + 1
  | .agg parts => uptoBulkAll parts + 1
  | .iface _ d => uptoBulk d + 1
  | .map entries => uptoBulkEntries entries + 1
  | .held _ => 1
def uptoBulkAll {H : Type} : List (DataW H) → Nat
  | [] => 0
  | d :: r => uptoBulk d + uptoBulkAll r
def uptoBulkEntries {H : Type} : List (Lit × DataW H) → Nat
  | [] => 0
  | x :: r => uptoBulkEntry x + uptoBulkEntries r
def uptoBulkEntry {H : Type} : Lit × DataW H → Nat
  | (.string bytes, d) => bytes.length + uptoBulk d + 1
  | (_, d) => uptoBulk d + 1
 end
def uptoSmall : (H : Type) → List (DataW H) → Bool := fun _ ds => decide (uptoBulkAll ds ≤ 1048576)
def OpenSpec.upto (s : _root_.Go.ChangeSpec) : _root_.Go.OpenSpec := { _root_.Go.OpenSpec.ofChange s with cond := some uptoSmall }

/-- 'laws.FnGlyphs', WHERE WHAT IT READS IS OF BULK AT MOST 1048576: true; the input reads as it did. -/
def fnGlyphsUptoRow : OpenClaim := { program := "ytdcmebegnekkcaagreat", sum := "dd30365f1b80e4249df363e36f1bc6f9bfbb8759d27782575c763271a882553c", func := "loop.example/g00879/laws.FnGlyphs", spec := "fnGlyphs", unfollowed := true, recurses := true, plainKeys := false, apart := false, narrowed := true }
def FnGlyphsUptoSaid : Prop := fnGlyphsUptoRow.holds Tryz.pinned (OpenSpec.upto fnGlyphsSpec)

/-- 'laws.FnExactIsLabel', WHERE WHAT IT READS IS OF BULK AT MOST 1048576: true; the input reads as it did. -/
def fnExactIsLabelUptoRow : OpenClaim := { program := "ytdcmebegnekkcaagreat", sum := "dd30365f1b80e4249df363e36f1bc6f9bfbb8759d27782575c763271a882553c", func := "loop.example/g00879/laws.FnExactIsLabel", spec := "fnExactIsLabel", unfollowed := true, recurses := true, plainKeys := false, apart := false, narrowed := true }
def FnExactIsLabelUptoSaid : Prop := fnExactIsLabelUptoRow.holds Tryz.pinned (OpenSpec.upto fnExactIsLabelSpec)

/-- 'laws.FnExactOverlapItems', WHERE WHAT IT READS IS OF BULK AT MOST 1048576: true; the input reads as it did. -/
def fnExactOverlapItemsUptoRow : OpenClaim := { program := "ytdcmebegnekkcaagreat", sum := "dd30365f1b80e4249df363e36f1bc6f9bfbb8759d27782575c763271a882553c", func := "loop.example/g00879/laws.FnExactOverlapItems", spec := "fnExactOverlapItems", unfollowed := true, recurses := true, plainKeys := false, apart := false, narrowed := true }
def FnExactOverlapItemsUptoSaid : Prop := fnExactOverlapItemsUptoRow.holds Tryz.pinned (OpenSpec.upto fnExactOverlapItemsSpec)

/-- 'laws.FnExactItemBox', WHERE WHAT IT READS IS OF BULK AT MOST 1048576: true; the input reads as it did. -/
def fnExactItemBoxUptoRow : OpenClaim := { program := "ytdcmebegnekkcaagreat", sum := "dd30365f1b80e4249df363e36f1bc6f9bfbb8759d27782575c763271a882553c", func := "loop.example/g00879/laws.FnExactItemBox", spec := "fnExactItemBox", unfollowed := true, recurses := true, plainKeys := false, apart := false, narrowed := true }
def FnExactItemBoxUptoSaid : Prop := fnExactItemBoxUptoRow.holds Tryz.pinned (OpenSpec.upto fnExactItemBoxSpec)

end Rows
end Go.Proofs.YtdcmebegnekkcaaGreat
