/-
  DERIVED. GIVEN WITH THE SEED: THE CARDS: each row of YtcjhgcjmomildaaGreatDoorRows.lean that lists a variable, with what it lists TIED to the program's text (the seventh form; the later family's looks); each row that meets fmt, with fmt's text TOLD by the authors' own Lean function (tested against real Go, not proved from fmt's source: count such statements apart). THE CARD IS WHAT COUNTS. Prove the row's statement (the work); the ties are given (YtcjhgcjmomildaaGreatDoorTie.lean); close each card by the builder's one call (the guide's Derived/Test/ToyasCard.lean, 'card_holds'). Laid BY PROGRAM, IN A SANDBOX (cutbox-door.mjs). By AI agents, Wed Nov 11 2026. No macro, syntax, notation, axiom, sorry.
-/
import Derived.Test.YtcjhgcjmomildaaGreatDoorRows
import GoSem.ClaimSeven
namespace Go.Proofs.YtcjhgcjmomildaaGreatDoor
namespace Rows

/-- THE TIED CARD OF 'telecinetop.TopCensored'. -/
def topCensoredCard : Claim7 := { stood := { row := topCensoredRow, standIns := [], harness := (true, "924d79a2bf840c6cd95281110761ddca38a499ef8ebb217a6c7d667759360283"), looks := false }, kinds := [], alts := [], laidByText := true, laidKinds := [.data, .pinned], laidTests := true, laidLooks := .later }
def TopCensoredCardSaid : Prop := Claim7.holds Tryz.pinned (.plain (OpenSpec.ofChange topCensoredSpec)) topCensoredCard

/-- THE SECOND FORM's CARD OF 'telecinetop.TopCensored'. -/
def topCensoredUptoCard : Claim7 := { stood := { row := topCensoredUptoRow, standIns := [], harness := (true, "924d79a2bf840c6cd95281110761ddca38a499ef8ebb217a6c7d667759360283"), looks := false }, kinds := [], alts := [], laidByText := true, laidKinds := [.data, .pinned], laidTests := true, laidLooks := .later }
def TopCensoredUptoCardSaid : Prop := Claim7.holds Tryz.pinned (.plain (OpenSpec.upto topCensoredSpec)) topCensoredUptoCard
end Rows
end Go.Proofs.YtcjhgcjmomildaaGreatDoor
