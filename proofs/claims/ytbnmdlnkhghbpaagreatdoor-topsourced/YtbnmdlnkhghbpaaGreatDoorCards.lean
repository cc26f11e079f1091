/-
  DERIVED. GIVEN WITH THE SEED: THE CARDS: each row of YtbnmdlnkhghbpaaGreatDoorRows.lean that lists a variable, with what it lists TIED to the program's text (the seventh form; the later family's looks); each row that meets fmt, with fmt's text TOLD by the authors' own Lean function (tested against real Go, not proved from fmt's source: count such statements apart). THE CARD IS WHAT COUNTS. Prove the row's statement (the work); the ties are given (YtbnmdlnkhghbpaaGreatDoorTie.lean); close each card by the builder's one call (the guide's Derived/Test/ToyasCard.lean, 'card_holds'). Laid BY PROGRAM, IN A SANDBOX (cutbox-door.mjs). By AI agents, Wed Nov 11 2026. No macro, syntax, notation, axiom, sorry.
-/
import Derived.Test.YtbnmdlnkhghbpaaGreatDoorRows
import GoSem.ClaimSeven
namespace Go.Proofs.YtbnmdlnkhghbpaaGreatDoor
namespace Rows

/-- THE TIED CARD OF 'telecinetop.TopSourced'. -/
def topSourcedCard : Claim7 := { stood := { row := topSourcedRow, standIns := [], harness := (true, "2802056ee6e602d9b8e096cb9babaae3d81e22c6bbbcb2a6a95dc0357bb2692d"), looks := true }, kinds := [], alts := [], laidByText := true, laidKinds := [.data, .data, .data, .data, .pinned], laidTests := true, laidLooks := .later }
def TopSourcedCardSaid : Prop := Claim7.holds Tryz.pinned (.plain (OpenSpec.ofChange topSourcedSpec)) topSourcedCard

/-- THE SECOND FORM's CARD OF 'telecinetop.TopSourced'. -/
def topSourcedUptoCard : Claim7 := { stood := { row := topSourcedUptoRow, standIns := [], harness := (true, "2802056ee6e602d9b8e096cb9babaae3d81e22c6bbbcb2a6a95dc0357bb2692d"), looks := true }, kinds := [], alts := [], laidByText := true, laidKinds := [.data, .data, .data, .data, .pinned], laidTests := true, laidLooks := .later }
def TopSourcedUptoCardSaid : Prop := Claim7.holds Tryz.pinned (.plain (OpenSpec.upto topSourcedSpec)) topSourcedUptoCard
end Rows
end Go.Proofs.YtbnmdlnkhghbpaaGreatDoor
