/-
  DERIVED. GIVEN WITH THE SEED: THE CARDS: each row of YtfhphjloaelgoaaGreatDoorRows.lean that lists a variable, with what it lists TIED to the program's text (the seventh form; the later family's looks); each row that meets fmt, with fmt's text TOLD by the authors' own Lean function (tested against real Go, not proved from fmt's source: count such statements apart). THE CARD IS WHAT COUNTS. Prove the row's statement (the work); the ties are given (YtfhphjloaelgoaaGreatDoorTie.lean); close each card by the builder's one call (the guide's Derived/Test/ToyasCard.lean, 'card_holds'). Laid BY PROGRAM, IN A SANDBOX (cutbox-door.mjs). By AI agents, Wed Nov 11 2026. No macro, syntax, notation, axiom, sorry.
-/
import Derived.Test.YtfhphjloaelgoaaGreatDoorRows
import GoSem.ClaimSeven
namespace Go.Proofs.YtfhphjloaelgoaaGreatDoor
namespace Rows

/-- THE TIED CARD OF 'telecinelaw06.AlignChecks'. -/
def alignChecksCard : Claim7 := { stood := { row := alignChecksRow, standIns := [], harness := (true, "d58f0d17b222539305d4ead2a6c364087ff54315ac79d4eade1f6a6003fbc9fb"), looks := false }, kinds := [], alts := [], laidByText := true, laidKinds := [.data, .pinned], laidTests := true, laidLooks := .later }
def AlignChecksCardSaid : Prop := Claim7.holds Tryz.pinned (.plain (OpenSpec.ofChange alignChecksSpec)) alignChecksCard

/-- THE TIED CARD OF 'telecinelaw06.AlignBests'. -/
def alignBestsCard : Claim7 := { stood := { row := alignBestsRow, standIns := [], harness := (true, "d58f0d17b222539305d4ead2a6c364087ff54315ac79d4eade1f6a6003fbc9fb"), looks := false }, kinds := [], alts := [], laidByText := true, laidKinds := [.data, .pinned], laidTests := true, laidLooks := .later }
def AlignBestsCardSaid : Prop := Claim7.holds Tryz.pinned (.plain (OpenSpec.ofChange alignBestsSpec)) alignBestsCard

/-- THE TIED CARD OF 'telecinelaw06.AlignJudges'. -/
def alignJudgesCard : Claim7 := { stood := { row := alignJudgesRow, standIns := [], harness := (true, "d58f0d17b222539305d4ead2a6c364087ff54315ac79d4eade1f6a6003fbc9fb"), looks := false }, kinds := [], alts := [], laidByText := true, laidKinds := [.data, .pinned], laidTests := true, laidLooks := .later }
def AlignJudgesCardSaid : Prop := Claim7.holds Tryz.pinned (.plain (OpenSpec.ofChange alignJudgesSpec)) alignJudgesCard

/-- THE TIED CARD OF 'telecinelaw06.AlignAll'. -/
def alignAllCard : Claim7 := { stood := { row := alignAllRow, standIns := [], harness := (true, "d58f0d17b222539305d4ead2a6c364087ff54315ac79d4eade1f6a6003fbc9fb"), looks := false }, kinds := [], alts := [], laidByText := true, laidKinds := [.data, .pinned], laidTests := true, laidLooks := .later }
def AlignAllCardSaid : Prop := Claim7.holds Tryz.pinned (.plain (OpenSpec.ofChange alignAllSpec)) alignAllCard

/-- THE TIED CARD OF 'telecinelaw06.AlignMore'. -/
def alignMoreCard : Claim7 := { stood := { row := alignMoreRow, standIns := [], harness := (true, "d58f0d17b222539305d4ead2a6c364087ff54315ac79d4eade1f6a6003fbc9fb"), looks := false }, kinds := [], alts := [], laidByText := true, laidKinds := [.data, .pinned], laidTests := true, laidLooks := .later }
def AlignMoreCardSaid : Prop := Claim7.holds Tryz.pinned (.plain (OpenSpec.ofChange alignMoreSpec)) alignMoreCard

/-- THE TIED CARD OF 'telecinelaw06.AlignCut'. -/
def alignCutCard : Claim7 := { stood := { row := alignCutRow, standIns := [], harness := (true, "d58f0d17b222539305d4ead2a6c364087ff54315ac79d4eade1f6a6003fbc9fb"), looks := false }, kinds := [], alts := [], laidByText := true, laidKinds := [.data, .pinned], laidTests := true, laidLooks := .later }
def AlignCutCardSaid : Prop := Claim7.holds Tryz.pinned (.plain (OpenSpec.ofChange alignCutSpec)) alignCutCard

/-- THE TIED CARD OF 'telecinelaw06.AlignWholes'. -/
def alignWholesCard : Claim7 := { stood := { row := alignWholesRow, standIns := [], harness := (true, "d58f0d17b222539305d4ead2a6c364087ff54315ac79d4eade1f6a6003fbc9fb"), looks := false }, kinds := [], alts := [], laidByText := true, laidKinds := [.data, .pinned], laidTests := true, laidLooks := .later }
def AlignWholesCardSaid : Prop := Claim7.holds Tryz.pinned (.plain (OpenSpec.ofChange alignWholesSpec)) alignWholesCard

/-- THE TIED CARD OF 'telecinelaw06.AlignOrder'. -/
def alignOrderCard : Claim7 := { stood := { row := alignOrderRow, standIns := [], harness := (true, "d58f0d17b222539305d4ead2a6c364087ff54315ac79d4eade1f6a6003fbc9fb"), looks := false }, kinds := [], alts := [], laidByText := true, laidKinds := [.data, .pinned], laidTests := true, laidLooks := .later }
def AlignOrderCardSaid : Prop := Claim7.holds Tryz.pinned (.plain (OpenSpec.ofChange alignOrderSpec)) alignOrderCard

/-- THE TIED CARD OF 'telecinelaw06.AlignParts'. -/
def alignPartsCard : Claim7 := { stood := { row := alignPartsRow, standIns := [], harness := (true, "d58f0d17b222539305d4ead2a6c364087ff54315ac79d4eade1f6a6003fbc9fb"), looks := false }, kinds := [], alts := [], laidByText := true, laidKinds := [.data, .pinned], laidTests := true, laidLooks := .later }
def AlignPartsCardSaid : Prop := Claim7.holds Tryz.pinned (.plain (OpenSpec.ofChange alignPartsSpec)) alignPartsCard

/-- THE TIED CARD OF 'telecinelaw06.AlignVersions'. -/
def alignVersionsCard : Claim7 := { stood := { row := alignVersionsRow, standIns := [], harness := (true, "d58f0d17b222539305d4ead2a6c364087ff54315ac79d4eade1f6a6003fbc9fb"), looks := false }, kinds := [], alts := [], laidByText := true, laidKinds := [.data, .pinned], laidTests := true, laidLooks := .later }
def AlignVersionsCardSaid : Prop := Claim7.holds Tryz.pinned (.plain (OpenSpec.ofChange alignVersionsSpec)) alignVersionsCard

/-- THE TIED CARD OF 'telecinelaw06.AlignGaps'. -/
def alignGapsCard : Claim7 := { stood := { row := alignGapsRow, standIns := [], harness := (true, "d58f0d17b222539305d4ead2a6c364087ff54315ac79d4eade1f6a6003fbc9fb"), looks := false }, kinds := [], alts := [], laidByText := true, laidKinds := [.data, .pinned], laidTests := true, laidLooks := .later }
def AlignGapsCardSaid : Prop := Claim7.holds Tryz.pinned (.plain (OpenSpec.ofChange alignGapsSpec)) alignGapsCard

/-- THE TIED CARD OF 'telecinelaw06.AlignSurely'. -/
def alignSurelyCard : Claim7 := { stood := { row := alignSurelyRow, standIns := [], harness := (true, "d58f0d17b222539305d4ead2a6c364087ff54315ac79d4eade1f6a6003fbc9fb"), looks := false }, kinds := [], alts := [], laidByText := true, laidKinds := [.data, .pinned], laidTests := true, laidLooks := .later }
def AlignSurelyCardSaid : Prop := Claim7.holds Tryz.pinned (.plain (OpenSpec.ofChange alignSurelySpec)) alignSurelyCard

/-- THE TIED CARD OF 'telecinelaw06.AlignOnly'. -/
def alignOnlyCard : Claim7 := { stood := { row := alignOnlyRow, standIns := [], harness := (true, "d58f0d17b222539305d4ead2a6c364087ff54315ac79d4eade1f6a6003fbc9fb"), looks := false }, kinds := [], alts := [], laidByText := true, laidKinds := [.data, .pinned], laidTests := true, laidLooks := .later }
def AlignOnlyCardSaid : Prop := Claim7.holds Tryz.pinned (.plain (OpenSpec.ofChange alignOnlySpec)) alignOnlyCard

/-- THE TIED CARD OF 'telecinelaw06.AlignTurned'. -/
def alignTurnedCard : Claim7 := { stood := { row := alignTurnedRow, standIns := [], harness := (true, "d58f0d17b222539305d4ead2a6c364087ff54315ac79d4eade1f6a6003fbc9fb"), looks := false }, kinds := [], alts := [], laidByText := true, laidKinds := [.data, .pinned], laidTests := true, laidLooks := .later }
def AlignTurnedCardSaid : Prop := Claim7.holds Tryz.pinned (.plain (OpenSpec.ofChange alignTurnedSpec)) alignTurnedCard

/-- THE TIED CARD OF 'telecinelaw06.AlignKnown'. -/
def alignKnownCard : Claim7 := { stood := { row := alignKnownRow, standIns := [], harness := (true, "d58f0d17b222539305d4ead2a6c364087ff54315ac79d4eade1f6a6003fbc9fb"), looks := false }, kinds := [], alts := [], laidByText := true, laidKinds := [.data, .pinned], laidTests := true, laidLooks := .later }
def AlignKnownCardSaid : Prop := Claim7.holds Tryz.pinned (.plain (OpenSpec.ofChange alignKnownSpec)) alignKnownCard

/-- THE SECOND FORM's CARD OF 'telecinelaw06.AlignChecks'. -/
def alignChecksUptoCard : Claim7 := { stood := { row := alignChecksUptoRow, standIns := [], harness := (true, "d58f0d17b222539305d4ead2a6c364087ff54315ac79d4eade1f6a6003fbc9fb"), looks := false }, kinds := [], alts := [], laidByText := true, laidKinds := [.data, .pinned], laidTests := true, laidLooks := .later }
def AlignChecksUptoCardSaid : Prop := Claim7.holds Tryz.pinned (.plain (OpenSpec.upto alignChecksSpec)) alignChecksUptoCard

/-- THE SECOND FORM's CARD OF 'telecinelaw06.AlignBests'. -/
def alignBestsUptoCard : Claim7 := { stood := { row := alignBestsUptoRow, standIns := [], harness := (true, "d58f0d17b222539305d4ead2a6c364087ff54315ac79d4eade1f6a6003fbc9fb"), looks := false }, kinds := [], alts := [], laidByText := true, laidKinds := [.data, .pinned], laidTests := true, laidLooks := .later }
def AlignBestsUptoCardSaid : Prop := Claim7.holds Tryz.pinned (.plain (OpenSpec.upto alignBestsSpec)) alignBestsUptoCard

/-- THE SECOND FORM's CARD OF 'telecinelaw06.AlignJudges'. -/
def alignJudgesUptoCard : Claim7 := { stood := { row := alignJudgesUptoRow, standIns := [], harness := (true, "d58f0d17b222539305d4ead2a6c364087ff54315ac79d4eade1f6a6003fbc9fb"), looks := false }, kinds := [], alts := [], laidByText := true, laidKinds := [.data, .pinned], laidTests := true, laidLooks := .later }
def AlignJudgesUptoCardSaid : Prop := Claim7.holds Tryz.pinned (.plain (OpenSpec.upto alignJudgesSpec)) alignJudgesUptoCard

/-- THE SECOND FORM's CARD OF 'telecinelaw06.AlignAll'. -/
def alignAllUptoCard : Claim7 := { stood := { row := alignAllUptoRow, standIns := [], harness := (true, "d58f0d17b222539305d4ead2a6c364087ff54315ac79d4eade1f6a6003fbc9fb"), looks := false }, kinds := [], alts := [], laidByText := true, laidKinds := [.data, .pinned], laidTests := true, laidLooks := .later }
def AlignAllUptoCardSaid : Prop := Claim7.holds Tryz.pinned (.plain (OpenSpec.upto alignAllSpec)) alignAllUptoCard

/-- THE SECOND FORM's CARD OF 'telecinelaw06.AlignMore'. -/
def alignMoreUptoCard : Claim7 := { stood := { row := alignMoreUptoRow, standIns := [], harness := (true, "d58f0d17b222539305d4ead2a6c364087ff54315ac79d4eade1f6a6003fbc9fb"), looks := false }, kinds := [], alts := [], laidByText := true, laidKinds := [.data, .pinned], laidTests := true, laidLooks := .later }
def AlignMoreUptoCardSaid : Prop := Claim7.holds Tryz.pinned (.plain (OpenSpec.upto alignMoreSpec)) alignMoreUptoCard

/-- THE SECOND FORM's CARD OF 'telecinelaw06.AlignCut'. -/
def alignCutUptoCard : Claim7 := { stood := { row := alignCutUptoRow, standIns := [], harness := (true, "d58f0d17b222539305d4ead2a6c364087ff54315ac79d4eade1f6a6003fbc9fb"), looks := false }, kinds := [], alts := [], laidByText := true, laidKinds := [.data, .pinned], laidTests := true, laidLooks := .later }
def AlignCutUptoCardSaid : Prop := Claim7.holds Tryz.pinned (.plain (OpenSpec.upto alignCutSpec)) alignCutUptoCard

/-- THE SECOND FORM's CARD OF 'telecinelaw06.AlignWholes'. -/
def alignWholesUptoCard : Claim7 := { stood := { row := alignWholesUptoRow, standIns := [], harness := (true, "d58f0d17b222539305d4ead2a6c364087ff54315ac79d4eade1f6a6003fbc9fb"), looks := false }, kinds := [], alts := [], laidByText := true, laidKinds := [.data, .pinned], laidTests := true, laidLooks := .later }
def AlignWholesUptoCardSaid : Prop := Claim7.holds Tryz.pinned (.plain (OpenSpec.upto alignWholesSpec)) alignWholesUptoCard

/-- THE SECOND FORM's CARD OF 'telecinelaw06.AlignOrder'. -/
def alignOrderUptoCard : Claim7 := { stood := { row := alignOrderUptoRow, standIns := [], harness := (true, "d58f0d17b222539305d4ead2a6c364087ff54315ac79d4eade1f6a6003fbc9fb"), looks := false }, kinds := [], alts := [], laidByText := true, laidKinds := [.data, .pinned], laidTests := true, laidLooks := .later }
def AlignOrderUptoCardSaid : Prop := Claim7.holds Tryz.pinned (.plain (OpenSpec.upto alignOrderSpec)) alignOrderUptoCard

/-- THE SECOND FORM's CARD OF 'telecinelaw06.AlignParts'. -/
def alignPartsUptoCard : Claim7 := { stood := { row := alignPartsUptoRow, standIns := [], harness := (true, "d58f0d17b222539305d4ead2a6c364087ff54315ac79d4eade1f6a6003fbc9fb"), looks := false }, kinds := [], alts := [], laidByText := true, laidKinds := [.data, .pinned], laidTests := true, laidLooks := .later }
def AlignPartsUptoCardSaid : Prop := Claim7.holds Tryz.pinned (.plain (OpenSpec.upto alignPartsSpec)) alignPartsUptoCard

/-- THE SECOND FORM's CARD OF 'telecinelaw06.AlignVersions'. -/
def alignVersionsUptoCard : Claim7 := { stood := { row := alignVersionsUptoRow, standIns := [], harness := (true, "d58f0d17b222539305d4ead2a6c364087ff54315ac79d4eade1f6a6003fbc9fb"), looks := false }, kinds := [], alts := [], laidByText := true, laidKinds := [.data, .pinned], laidTests := true, laidLooks := .later }
def AlignVersionsUptoCardSaid : Prop := Claim7.holds Tryz.pinned (.plain (OpenSpec.upto alignVersionsSpec)) alignVersionsUptoCard

/-- THE SECOND FORM's CARD OF 'telecinelaw06.AlignGaps'. -/
def alignGapsUptoCard : Claim7 := { stood := { row := alignGapsUptoRow, standIns := [], harness := (true, "d58f0d17b222539305d4ead2a6c364087ff54315ac79d4eade1f6a6003fbc9fb"), looks := false }, kinds := [], alts := [], laidByText := true, laidKinds := [.data, .pinned], laidTests := true, laidLooks := .later }
def AlignGapsUptoCardSaid : Prop := Claim7.holds Tryz.pinned (.plain (OpenSpec.upto alignGapsSpec)) alignGapsUptoCard

/-- THE SECOND FORM's CARD OF 'telecinelaw06.AlignSurely'. -/
def alignSurelyUptoCard : Claim7 := { stood := { row := alignSurelyUptoRow, standIns := [], harness := (true, "d58f0d17b222539305d4ead2a6c364087ff54315ac79d4eade1f6a6003fbc9fb"), looks := false }, kinds := [], alts := [], laidByText := true, laidKinds := [.data, .pinned], laidTests := true, laidLooks := .later }
def AlignSurelyUptoCardSaid : Prop := Claim7.holds Tryz.pinned (.plain (OpenSpec.upto alignSurelySpec)) alignSurelyUptoCard

/-- THE SECOND FORM's CARD OF 'telecinelaw06.AlignOnly'. -/
def alignOnlyUptoCard : Claim7 := { stood := { row := alignOnlyUptoRow, standIns := [], harness := (true, "d58f0d17b222539305d4ead2a6c364087ff54315ac79d4eade1f6a6003fbc9fb"), looks := false }, kinds := [], alts := [], laidByText := true, laidKinds := [.data, .pinned], laidTests := true, laidLooks := .later }
def AlignOnlyUptoCardSaid : Prop := Claim7.holds Tryz.pinned (.plain (OpenSpec.upto alignOnlySpec)) alignOnlyUptoCard

/-- THE SECOND FORM's CARD OF 'telecinelaw06.AlignTurned'. -/
def alignTurnedUptoCard : Claim7 := { stood := { row := alignTurnedUptoRow, standIns := [], harness := (true, "d58f0d17b222539305d4ead2a6c364087ff54315ac79d4eade1f6a6003fbc9fb"), looks := false }, kinds := [], alts := [], laidByText := true, laidKinds := [.data, .pinned], laidTests := true, laidLooks := .later }
def AlignTurnedUptoCardSaid : Prop := Claim7.holds Tryz.pinned (.plain (OpenSpec.upto alignTurnedSpec)) alignTurnedUptoCard

/-- THE SECOND FORM's CARD OF 'telecinelaw06.AlignKnown'. -/
def alignKnownUptoCard : Claim7 := { stood := { row := alignKnownUptoRow, standIns := [], harness := (true, "d58f0d17b222539305d4ead2a6c364087ff54315ac79d4eade1f6a6003fbc9fb"), looks := false }, kinds := [], alts := [], laidByText := true, laidKinds := [.data, .pinned], laidTests := true, laidLooks := .later }
def AlignKnownUptoCardSaid : Prop := Claim7.holds Tryz.pinned (.plain (OpenSpec.upto alignKnownSpec)) alignKnownUptoCard
end Rows
end Go.Proofs.YtfhphjloaelgoaaGreatDoor
