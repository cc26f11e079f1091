/-
  DERIVED. GIVEN WITH THE SEED: THE CARDS: each row of YthihdpbgmhnloaaGreatDoorRows.lean that lists a variable, with what it lists TIED to the program's text (the seventh form; the later family's looks); each row that meets fmt, with fmt's text TOLD by the authors' own Lean function (tested against real Go, not proved from fmt's source: count such statements apart). THE CARD IS WHAT COUNTS. Prove the row's statement (the work); the ties are given (YthihdpbgmhnloaaGreatDoorTie.lean); close each card by the builder's one call (the guide's Derived/Test/ToyasCard.lean, 'card_holds'). Laid BY PROGRAM, IN A SANDBOX (cutbox-door.mjs). By AI agents, Wed Nov 11 2026. No macro, syntax, notation, axiom, sorry.
-/
import Derived.Test.YthihdpbgmhnloaaGreatDoorRows
import GoSem.ClaimSeven
namespace Go.Proofs.YthihdpbgmhnloaaGreatDoor
namespace Rows

/-- THE TIED CARD OF 'telecinelaw08.RestoreDoes'. -/
def restoreDoesCard : Claim7 := { stood := { row := restoreDoesRow, standIns := [], harness := (true, "973e6eee187ceac379c5e49a52a5c87831c4cd0a7ed806dbb18199690f455163"), looks := true }, kinds := [], alts := [], laidByText := true, laidKinds := [.data, .data, .data, .data, .pinned], laidTests := true, laidLooks := .later }
def RestoreDoesCardSaid : Prop := Claim7.holds Tryz.pinned (.plain (OpenSpec.ofChange restoreDoesSpec)) restoreDoesCard

/-- THE TIED CARD OF 'telecinelaw08.RestoreTraces'. -/
def restoreTracesCard : Claim7 := { stood := { row := restoreTracesRow, standIns := [], harness := (true, "973e6eee187ceac379c5e49a52a5c87831c4cd0a7ed806dbb18199690f455163"), looks := true }, kinds := [], alts := [], laidByText := true, laidKinds := [.data, .data, .data, .data, .pinned], laidTests := true, laidLooks := .later }
def RestoreTracesCardSaid : Prop := Claim7.holds Tryz.pinned (.plain (OpenSpec.ofChange restoreTracesSpec)) restoreTracesCard

/-- THE TIED CARD OF 'telecinelaw08.RestoreVotes'. -/
def restoreVotesCard : Claim7 := { stood := { row := restoreVotesRow, standIns := [], harness := (true, "973e6eee187ceac379c5e49a52a5c87831c4cd0a7ed806dbb18199690f455163"), looks := true }, kinds := [], alts := [], laidByText := true, laidKinds := [.data, .data, .data, .data, .pinned], laidTests := true, laidLooks := .later }
def RestoreVotesCardSaid : Prop := Claim7.holds Tryz.pinned (.plain (OpenSpec.ofChange restoreVotesSpec)) restoreVotesCard

/-- THE TIED CARD OF 'telecinelaw08.RestoreUndone'. -/
def restoreUndoneCard : Claim7 := { stood := { row := restoreUndoneRow, standIns := [], harness := (true, "973e6eee187ceac379c5e49a52a5c87831c4cd0a7ed806dbb18199690f455163"), looks := true }, kinds := [], alts := [], laidByText := true, laidKinds := [.data, .data, .data, .data, .pinned], laidTests := true, laidLooks := .later }
def RestoreUndoneCardSaid : Prop := Claim7.holds Tryz.pinned (.plain (OpenSpec.ofChange restoreUndoneSpec)) restoreUndoneCard

/-- THE TIED CARD OF 'telecinelaw08.RestoreKept'. -/
def restoreKeptCard : Claim7 := { stood := { row := restoreKeptRow, standIns := [], harness := (true, "973e6eee187ceac379c5e49a52a5c87831c4cd0a7ed806dbb18199690f455163"), looks := true }, kinds := [], alts := [], laidByText := true, laidKinds := [.data, .data, .data, .data, .pinned], laidTests := true, laidLooks := .later }
def RestoreKeptCardSaid : Prop := Claim7.holds Tryz.pinned (.plain (OpenSpec.ofChange restoreKeptSpec)) restoreKeptCard

/-- THE TIED CARD OF 'telecinelaw08.RestoreTraced'. -/
def restoreTracedCard : Claim7 := { stood := { row := restoreTracedRow, standIns := [], harness := (true, "973e6eee187ceac379c5e49a52a5c87831c4cd0a7ed806dbb18199690f455163"), looks := true }, kinds := [], alts := [], laidByText := true, laidKinds := [.data, .data, .data, .data, .pinned], laidTests := true, laidLooks := .later }
def RestoreTracedCardSaid : Prop := Claim7.holds Tryz.pinned (.plain (OpenSpec.ofChange restoreTracedSpec)) restoreTracedCard

/-- THE TIED CARD OF 'telecinelaw08.RestoreGrain'. -/
def restoreGrainCard : Claim7 := { stood := { row := restoreGrainRow, standIns := [], harness := (true, "973e6eee187ceac379c5e49a52a5c87831c4cd0a7ed806dbb18199690f455163"), looks := true }, kinds := [], alts := [], laidByText := true, laidKinds := [.data, .data, .data, .data, .pinned], laidTests := true, laidLooks := .later }
def RestoreGrainCardSaid : Prop := Claim7.holds Tryz.pinned (.plain (OpenSpec.ofChange restoreGrainSpec)) restoreGrainCard

/-- THE TIED CARD OF 'telecinelaw08.RestoreBallot'. -/
def restoreBallotCard : Claim7 := { stood := { row := restoreBallotRow, standIns := [], harness := (true, "973e6eee187ceac379c5e49a52a5c87831c4cd0a7ed806dbb18199690f455163"), looks := true }, kinds := [], alts := [], laidByText := true, laidKinds := [.data, .data, .data, .data, .pinned], laidTests := true, laidLooks := .later }
def RestoreBallotCardSaid : Prop := Claim7.holds Tryz.pinned (.plain (OpenSpec.ofChange restoreBallotSpec)) restoreBallotCard

/-- THE TIED CARD OF 'telecinelaw08.RestoreAgain'. -/
def restoreAgainCard : Claim7 := { stood := { row := restoreAgainRow, standIns := [], harness := (true, "973e6eee187ceac379c5e49a52a5c87831c4cd0a7ed806dbb18199690f455163"), looks := true }, kinds := [], alts := [], laidByText := true, laidKinds := [.data, .data, .data, .data, .pinned], laidTests := true, laidLooks := .later }
def RestoreAgainCardSaid : Prop := Claim7.holds Tryz.pinned (.plain (OpenSpec.ofChange restoreAgainSpec)) restoreAgainCard

/-- THE TIED CARD OF 'telecinelaw08.RestoreNamed'. -/
def restoreNamedCard : Claim7 := { stood := { row := restoreNamedRow, standIns := [], harness := (true, "973e6eee187ceac379c5e49a52a5c87831c4cd0a7ed806dbb18199690f455163"), looks := true }, kinds := [], alts := [], laidByText := true, laidKinds := [.data, .data, .data, .data, .pinned], laidTests := true, laidLooks := .later }
def RestoreNamedCardSaid : Prop := Claim7.holds Tryz.pinned (.plain (OpenSpec.ofChange restoreNamedSpec)) restoreNamedCard

/-- THE TIED CARD OF 'telecinelaw08.RestoreTexts'. -/
def restoreTextsCard : Claim7 := { stood := { row := restoreTextsRow, standIns := [], harness := (true, "973e6eee187ceac379c5e49a52a5c87831c4cd0a7ed806dbb18199690f455163"), looks := true }, kinds := [], alts := [], laidByText := true, laidKinds := [.data, .data, .data, .data, .sentinel, .sentinel, .pinned], laidTests := true, laidLooks := .later }
def RestoreTextsCardSaid : Prop := Claim7.holds Tryz.pinned (.plain (OpenSpec.ofChange restoreTextsSpec)) restoreTextsCard

/-- THE TIED CARD OF 'telecinelaw08.RestoreKnown'. -/
def restoreKnownCard : Claim7 := { stood := { row := restoreKnownRow, standIns := [], harness := (true, "973e6eee187ceac379c5e49a52a5c87831c4cd0a7ed806dbb18199690f455163"), looks := true }, kinds := [], alts := [], laidByText := true, laidKinds := [.data, .data, .data, .data, .sentinel, .sentinel, .pinned], laidTests := true, laidLooks := .later }
def RestoreKnownCardSaid : Prop := Claim7.holds Tryz.pinned (.plain (OpenSpec.ofChange restoreKnownSpec)) restoreKnownCard

/-- THE TIED CARD OF 'telecinelaw08.RestoreBytes'. -/
def restoreBytesCard : Claim7 := { stood := { row := restoreBytesRow, standIns := [], harness := (true, "973e6eee187ceac379c5e49a52a5c87831c4cd0a7ed806dbb18199690f455163"), looks := true }, kinds := [], alts := [], laidByText := true, laidKinds := [.data, .data, .data, .data, .sentinel, .sentinel, .pinned], laidTests := true, laidLooks := .later }
def RestoreBytesCardSaid : Prop := Claim7.holds Tryz.pinned (.plain (OpenSpec.ofChange restoreBytesSpec)) restoreBytesCard

/-- THE SECOND FORM's CARD OF 'telecinelaw08.RestoreDoes'. -/
def restoreDoesUptoCard : Claim7 := { stood := { row := restoreDoesUptoRow, standIns := [], harness := (true, "973e6eee187ceac379c5e49a52a5c87831c4cd0a7ed806dbb18199690f455163"), looks := true }, kinds := [], alts := [], laidByText := true, laidKinds := [.data, .data, .data, .data, .pinned], laidTests := true, laidLooks := .later }
def RestoreDoesUptoCardSaid : Prop := Claim7.holds Tryz.pinned (.plain (OpenSpec.upto restoreDoesSpec)) restoreDoesUptoCard

/-- THE SECOND FORM's CARD OF 'telecinelaw08.RestoreTraces'. -/
def restoreTracesUptoCard : Claim7 := { stood := { row := restoreTracesUptoRow, standIns := [], harness := (true, "973e6eee187ceac379c5e49a52a5c87831c4cd0a7ed806dbb18199690f455163"), looks := true }, kinds := [], alts := [], laidByText := true, laidKinds := [.data, .data, .data, .data, .pinned], laidTests := true, laidLooks := .later }
def RestoreTracesUptoCardSaid : Prop := Claim7.holds Tryz.pinned (.plain (OpenSpec.upto restoreTracesSpec)) restoreTracesUptoCard

/-- THE SECOND FORM's CARD OF 'telecinelaw08.RestoreVotes'. -/
def restoreVotesUptoCard : Claim7 := { stood := { row := restoreVotesUptoRow, standIns := [], harness := (true, "973e6eee187ceac379c5e49a52a5c87831c4cd0a7ed806dbb18199690f455163"), looks := true }, kinds := [], alts := [], laidByText := true, laidKinds := [.data, .data, .data, .data, .pinned], laidTests := true, laidLooks := .later }
def RestoreVotesUptoCardSaid : Prop := Claim7.holds Tryz.pinned (.plain (OpenSpec.upto restoreVotesSpec)) restoreVotesUptoCard

/-- THE SECOND FORM's CARD OF 'telecinelaw08.RestoreUndone'. -/
def restoreUndoneUptoCard : Claim7 := { stood := { row := restoreUndoneUptoRow, standIns := [], harness := (true, "973e6eee187ceac379c5e49a52a5c87831c4cd0a7ed806dbb18199690f455163"), looks := true }, kinds := [], alts := [], laidByText := true, laidKinds := [.data, .data, .data, .data, .pinned], laidTests := true, laidLooks := .later }
def RestoreUndoneUptoCardSaid : Prop := Claim7.holds Tryz.pinned (.plain (OpenSpec.upto restoreUndoneSpec)) restoreUndoneUptoCard

/-- THE SECOND FORM's CARD OF 'telecinelaw08.RestoreKept'. -/
def restoreKeptUptoCard : Claim7 := { stood := { row := restoreKeptUptoRow, standIns := [], harness := (true, "973e6eee187ceac379c5e49a52a5c87831c4cd0a7ed806dbb18199690f455163"), looks := true }, kinds := [], alts := [], laidByText := true, laidKinds := [.data, .data, .data, .data, .pinned], laidTests := true, laidLooks := .later }
def RestoreKeptUptoCardSaid : Prop := Claim7.holds Tryz.pinned (.plain (OpenSpec.upto restoreKeptSpec)) restoreKeptUptoCard

/-- THE SECOND FORM's CARD OF 'telecinelaw08.RestoreTraced'. -/
def restoreTracedUptoCard : Claim7 := { stood := { row := restoreTracedUptoRow, standIns := [], harness := (true, "973e6eee187ceac379c5e49a52a5c87831c4cd0a7ed806dbb18199690f455163"), looks := true }, kinds := [], alts := [], laidByText := true, laidKinds := [.data, .data, .data, .data, .pinned], laidTests := true, laidLooks := .later }
def RestoreTracedUptoCardSaid : Prop := Claim7.holds Tryz.pinned (.plain (OpenSpec.upto restoreTracedSpec)) restoreTracedUptoCard

/-- THE SECOND FORM's CARD OF 'telecinelaw08.RestoreGrain'. -/
def restoreGrainUptoCard : Claim7 := { stood := { row := restoreGrainUptoRow, standIns := [], harness := (true, "973e6eee187ceac379c5e49a52a5c87831c4cd0a7ed806dbb18199690f455163"), looks := true }, kinds := [], alts := [], laidByText := true, laidKinds := [.data, .data, .data, .data, .pinned], laidTests := true, laidLooks := .later }
def RestoreGrainUptoCardSaid : Prop := Claim7.holds Tryz.pinned (.plain (OpenSpec.upto restoreGrainSpec)) restoreGrainUptoCard

/-- THE SECOND FORM's CARD OF 'telecinelaw08.RestoreBallot'. -/
def restoreBallotUptoCard : Claim7 := { stood := { row := restoreBallotUptoRow, standIns := [], harness := (true, "973e6eee187ceac379c5e49a52a5c87831c4cd0a7ed806dbb18199690f455163"), looks := true }, kinds := [], alts := [], laidByText := true, laidKinds := [.data, .data, .data, .data, .pinned], laidTests := true, laidLooks := .later }
def RestoreBallotUptoCardSaid : Prop := Claim7.holds Tryz.pinned (.plain (OpenSpec.upto restoreBallotSpec)) restoreBallotUptoCard

/-- THE SECOND FORM's CARD OF 'telecinelaw08.RestoreAgain'. -/
def restoreAgainUptoCard : Claim7 := { stood := { row := restoreAgainUptoRow, standIns := [], harness := (true, "973e6eee187ceac379c5e49a52a5c87831c4cd0a7ed806dbb18199690f455163"), looks := true }, kinds := [], alts := [], laidByText := true, laidKinds := [.data, .data, .data, .data, .pinned], laidTests := true, laidLooks := .later }
def RestoreAgainUptoCardSaid : Prop := Claim7.holds Tryz.pinned (.plain (OpenSpec.upto restoreAgainSpec)) restoreAgainUptoCard

/-- THE SECOND FORM's CARD OF 'telecinelaw08.RestoreNamed'. -/
def restoreNamedUptoCard : Claim7 := { stood := { row := restoreNamedUptoRow, standIns := [], harness := (true, "973e6eee187ceac379c5e49a52a5c87831c4cd0a7ed806dbb18199690f455163"), looks := true }, kinds := [], alts := [], laidByText := true, laidKinds := [.data, .data, .data, .data, .pinned], laidTests := true, laidLooks := .later }
def RestoreNamedUptoCardSaid : Prop := Claim7.holds Tryz.pinned (.plain (OpenSpec.upto restoreNamedSpec)) restoreNamedUptoCard

/-- THE SECOND FORM's CARD OF 'telecinelaw08.RestoreTexts'. -/
def restoreTextsUptoCard : Claim7 := { stood := { row := restoreTextsUptoRow, standIns := [], harness := (true, "973e6eee187ceac379c5e49a52a5c87831c4cd0a7ed806dbb18199690f455163"), looks := true }, kinds := [], alts := [], laidByText := true, laidKinds := [.data, .data, .data, .data, .sentinel, .sentinel, .pinned], laidTests := true, laidLooks := .later }
def RestoreTextsUptoCardSaid : Prop := Claim7.holds Tryz.pinned (.plain (OpenSpec.upto restoreTextsSpec)) restoreTextsUptoCard

/-- THE SECOND FORM's CARD OF 'telecinelaw08.RestoreKnown'. -/
def restoreKnownUptoCard : Claim7 := { stood := { row := restoreKnownUptoRow, standIns := [], harness := (true, "973e6eee187ceac379c5e49a52a5c87831c4cd0a7ed806dbb18199690f455163"), looks := true }, kinds := [], alts := [], laidByText := true, laidKinds := [.data, .data, .data, .data, .sentinel, .sentinel, .pinned], laidTests := true, laidLooks := .later }
def RestoreKnownUptoCardSaid : Prop := Claim7.holds Tryz.pinned (.plain (OpenSpec.upto restoreKnownSpec)) restoreKnownUptoCard

/-- THE SECOND FORM's CARD OF 'telecinelaw08.RestoreBytes'. -/
def restoreBytesUptoCard : Claim7 := { stood := { row := restoreBytesUptoRow, standIns := [], harness := (true, "973e6eee187ceac379c5e49a52a5c87831c4cd0a7ed806dbb18199690f455163"), looks := true }, kinds := [], alts := [], laidByText := true, laidKinds := [.data, .data, .data, .data, .sentinel, .sentinel, .pinned], laidTests := true, laidLooks := .later }
def RestoreBytesUptoCardSaid : Prop := Claim7.holds Tryz.pinned (.plain (OpenSpec.upto restoreBytesSpec)) restoreBytesUptoCard
end Rows
end Go.Proofs.YthihdpbgmhnloaaGreatDoor
