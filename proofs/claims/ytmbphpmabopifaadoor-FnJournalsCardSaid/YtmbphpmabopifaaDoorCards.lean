/-
  DERIVED. GIVEN WITH THE SEED: THE CARDS: each row of YtmbphpmabopifaaDoorRows.lean that lists a variable, with what it lists TIED to the program's text (the seventh form; the later family's looks); each row that meets fmt, with fmt's text TOLD by the authors' own Lean function (tested against real Go, not proved from fmt's source: count such statements apart). THE CARD IS WHAT COUNTS. Prove the row's statement (the work); the ties are given (YtmbphpmabopifaaDoorTie.lean); close each card by the builder's one call (the guide's Derived/Test/ToyasCard.lean, 'card_holds'). Laid BY PROGRAM, IN A SANDBOX (cutbox-door.mjs). By AI agents, Wed Nov 11 2026. No macro, syntax, notation, axiom, sorry.
-/
import Derived.Test.YtmbphpmabopifaaDoorRows
import GoSem.ClaimSeven
namespace Go.Proofs.YtmbphpmabopifaaDoor
namespace Rows

/-- THE TIED CARD OF 'laws.FnExactJournalOf'. -/
def fnExactJournalOfCard : Claim7 := { stood := { row := fnExactJournalOfRow, standIns := [], harness := (true, "3989ec42a70c00a24d658312f52938ab6023d43d21790d7467126fe964e886b8"), looks := true }, kinds := [], alts := [], laidByText := true, laidKinds := [.data, .data, .data], laidTests := true, laidLooks := .later }
def FnExactJournalOfCardSaid : Prop := Claim7.holds Tryd.pinned (.plain (OpenSpec.ofChange fnExactJournalOfSpec)) fnExactJournalOfCard

/-- THE TIED CARD OF 'laws.FnExactIsJournal'. -/
def fnExactIsJournalCard : Claim7 := { stood := { row := fnExactIsJournalRow, standIns := [], harness := (true, "3989ec42a70c00a24d658312f52938ab6023d43d21790d7467126fe964e886b8"), looks := true }, kinds := [], alts := [], laidByText := true, laidKinds := [.data, .data, .data, .data, .sentinel, .sentinel, .pinned], laidTests := true, laidLooks := .later }
def FnExactIsJournalCardSaid : Prop := Claim7.holds Tryd.pinned (.plain (OpenSpec.ofChange fnExactIsJournalSpec)) fnExactIsJournalCard

/-- THE TIED CARD OF 'laws.FnExactJournalSum'. -/
def fnExactJournalSumCard : Claim7 := { stood := { row := fnExactJournalSumRow, standIns := [], harness := (true, "3989ec42a70c00a24d658312f52938ab6023d43d21790d7467126fe964e886b8"), looks := true }, kinds := [], alts := [], laidByText := true, laidKinds := [.data, .data, .data, .data, .sentinel, .sentinel, .pinned], laidTests := true, laidLooks := .later }
def FnExactJournalSumCardSaid : Prop := Claim7.holds Tryd.pinned (.plain (OpenSpec.ofChange fnExactJournalSumSpec)) fnExactJournalSumCard

/-- THE TIED CARD OF 'laws.FnExactExtendJournal'. -/
def fnExactExtendJournalCard : Claim7 := { stood := { row := fnExactExtendJournalRow, standIns := [], harness := (true, "3989ec42a70c00a24d658312f52938ab6023d43d21790d7467126fe964e886b8"), looks := true }, kinds := [], alts := [], laidByText := true, laidKinds := [.data, .data, .data, .data, .sentinel, .sentinel, .pinned], laidTests := true, laidLooks := .later }
def FnExactExtendJournalCardSaid : Prop := Claim7.holds Tryd.pinned (.plain (OpenSpec.ofChange fnExactExtendJournalSpec)) fnExactExtendJournalCard

/-- THE TIED CARD OF 'laws.FnExactRecoverJournal'. -/
def fnExactRecoverJournalCard : Claim7 := { stood := { row := fnExactRecoverJournalRow, standIns := [], harness := (true, "3989ec42a70c00a24d658312f52938ab6023d43d21790d7467126fe964e886b8"), looks := true }, kinds := [], alts := [], laidByText := true, laidKinds := [.data, .data, .data, .data, .sentinel, .sentinel, .pinned], laidTests := true, laidLooks := .later }
def FnExactRecoverJournalCardSaid : Prop := Claim7.holds Tryd.pinned (.plain (OpenSpec.ofChange fnExactRecoverJournalSpec)) fnExactRecoverJournalCard

/-- THE TIED CARD OF 'laws.FnJournals'. -/
def fnJournalsCard : Claim7 := { stood := { row := fnJournalsRow, standIns := [], harness := (true, "3989ec42a70c00a24d658312f52938ab6023d43d21790d7467126fe964e886b8"), looks := true }, kinds := [], alts := [], laidByText := true, laidKinds := [.data, .data, .data, .data, .sentinel, .sentinel, .pinned], laidTests := true, laidLooks := .later }
def FnJournalsCardSaid : Prop := Claim7.holds Tryd.pinned (.plain (OpenSpec.ofChange fnJournalsSpec)) fnJournalsCard

/-- THE SECOND FORM's CARD OF 'laws.FnExactJournalOf'. -/
def fnExactJournalOfUptoCard : Claim7 := { stood := { row := fnExactJournalOfUptoRow, standIns := [], harness := (true, "3989ec42a70c00a24d658312f52938ab6023d43d21790d7467126fe964e886b8"), looks := true }, kinds := [], alts := [], laidByText := true, laidKinds := [.data, .data, .data], laidTests := true, laidLooks := .later }
def FnExactJournalOfUptoCardSaid : Prop := Claim7.holds Tryd.pinned (.plain (OpenSpec.upto fnExactJournalOfSpec)) fnExactJournalOfUptoCard

/-- THE SECOND FORM's CARD OF 'laws.FnExactIsJournal'. -/
def fnExactIsJournalUptoCard : Claim7 := { stood := { row := fnExactIsJournalUptoRow, standIns := [], harness := (true, "3989ec42a70c00a24d658312f52938ab6023d43d21790d7467126fe964e886b8"), looks := true }, kinds := [], alts := [], laidByText := true, laidKinds := [.data, .data, .data, .data, .sentinel, .sentinel, .pinned], laidTests := true, laidLooks := .later }
def FnExactIsJournalUptoCardSaid : Prop := Claim7.holds Tryd.pinned (.plain (OpenSpec.upto fnExactIsJournalSpec)) fnExactIsJournalUptoCard

/-- THE SECOND FORM's CARD OF 'laws.FnExactJournalSum'. -/
def fnExactJournalSumUptoCard : Claim7 := { stood := { row := fnExactJournalSumUptoRow, standIns := [], harness := (true, "3989ec42a70c00a24d658312f52938ab6023d43d21790d7467126fe964e886b8"), looks := true }, kinds := [], alts := [], laidByText := true, laidKinds := [.data, .data, .data, .data, .sentinel, .sentinel, .pinned], laidTests := true, laidLooks := .later }
def FnExactJournalSumUptoCardSaid : Prop := Claim7.holds Tryd.pinned (.plain (OpenSpec.upto fnExactJournalSumSpec)) fnExactJournalSumUptoCard

/-- THE SECOND FORM's CARD OF 'laws.FnExactExtendJournal'. -/
def fnExactExtendJournalUptoCard : Claim7 := { stood := { row := fnExactExtendJournalUptoRow, standIns := [], harness := (true, "3989ec42a70c00a24d658312f52938ab6023d43d21790d7467126fe964e886b8"), looks := true }, kinds := [], alts := [], laidByText := true, laidKinds := [.data, .data, .data, .data, .sentinel, .sentinel, .pinned], laidTests := true, laidLooks := .later }
def FnExactExtendJournalUptoCardSaid : Prop := Claim7.holds Tryd.pinned (.plain (OpenSpec.upto fnExactExtendJournalSpec)) fnExactExtendJournalUptoCard

/-- THE SECOND FORM's CARD OF 'laws.FnExactRecoverJournal'. -/
def fnExactRecoverJournalUptoCard : Claim7 := { stood := { row := fnExactRecoverJournalUptoRow, standIns := [], harness := (true, "3989ec42a70c00a24d658312f52938ab6023d43d21790d7467126fe964e886b8"), looks := true }, kinds := [], alts := [], laidByText := true, laidKinds := [.data, .data, .data, .data, .sentinel, .sentinel, .pinned], laidTests := true, laidLooks := .later }
def FnExactRecoverJournalUptoCardSaid : Prop := Claim7.holds Tryd.pinned (.plain (OpenSpec.upto fnExactRecoverJournalSpec)) fnExactRecoverJournalUptoCard

/-- THE SECOND FORM's CARD OF 'laws.FnJournals'. -/
def fnJournalsUptoCard : Claim7 := { stood := { row := fnJournalsUptoRow, standIns := [], harness := (true, "3989ec42a70c00a24d658312f52938ab6023d43d21790d7467126fe964e886b8"), looks := true }, kinds := [], alts := [], laidByText := true, laidKinds := [.data, .data, .data, .data, .sentinel, .sentinel, .pinned], laidTests := true, laidLooks := .later }
def FnJournalsUptoCardSaid : Prop := Claim7.holds Tryd.pinned (.plain (OpenSpec.upto fnJournalsSpec)) fnJournalsUptoCard
end Rows
end Go.Proofs.YtmbphpmabopifaaDoor
