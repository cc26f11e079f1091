/-
  DERIVED. GIVEN WITH THE SEED: THE CARDS: each row of YthoefcibbdfakaaGreatDoorRows.lean that lists a variable, with what it lists TIED to the program's text (the seventh form; the later family's looks); each row that meets fmt, with fmt's text TOLD by the authors' own Lean function (tested against real Go, not proved from fmt's source: count such statements apart). THE CARD IS WHAT COUNTS. Prove the row's statement (the work); the ties are given (YthoefcibbdfakaaGreatDoorTie.lean); close each card by the builder's one call (the guide's Derived/Test/ToyasCard.lean, 'card_holds'). Laid BY PROGRAM, IN A SANDBOX (cutbox-door.mjs). By AI agents, Wed Nov 11 2026. No macro, syntax, notation, axiom, sorry.
-/
import Derived.Test.YthoefcibbdfakaaGreatDoorRows
import GoSem.ClaimSeven
namespace Go.Proofs.YthoefcibbdfakaaGreatDoor
namespace Rows

/-- THE TIED CARD OF 'telecinetop.TopSteadied'. -/
def topSteadiedCard : Claim7 := { stood := { row := topSteadiedRow, standIns := [], harness := (true, "46e68026dd46b5023f75467d97222c8e28e6e25b0e8102035c498861efe2688d"), looks := true }, kinds := [], alts := [], laidByText := true, laidKinds := [.data, .data, .data, .data, .pinned], laidTests := true, laidLooks := .later }
def TopSteadiedCardSaid : Prop := Claim7.holds Tryz.pinned (.plain (OpenSpec.ofChange topSteadiedSpec)) topSteadiedCard

/-- THE SECOND FORM's CARD OF 'telecinetop.TopSteadied'. -/
def topSteadiedUptoCard : Claim7 := { stood := { row := topSteadiedUptoRow, standIns := [], harness := (true, "46e68026dd46b5023f75467d97222c8e28e6e25b0e8102035c498861efe2688d"), looks := true }, kinds := [], alts := [], laidByText := true, laidKinds := [.data, .data, .data, .data, .pinned], laidTests := true, laidLooks := .later }
def TopSteadiedUptoCardSaid : Prop := Claim7.holds Tryz.pinned (.plain (OpenSpec.upto topSteadiedSpec)) topSteadiedUptoCard
end Rows
end Go.Proofs.YthoefcibbdfakaaGreatDoor
