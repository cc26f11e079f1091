/-
  NARROWER THAN 'FOR EVERY INPUT', by the rows' own cells (each row's printed sentence says how): AlignChecks: laid · AlignBests: laid · AlignJudges: laid · AlignAll: laid · AlignMore: laid · AlignCut: laid · AlignWholes: laid · AlignOrder: laid · AlignParts: laid · AlignVersions: laid · AlignGaps: laid · AlignSurely: laid · AlignOnly: laid · AlignTurned: laid · AlignKnown: laid.
  DERIVED. THE GIVEN ROWS OF THIS SEAT. 15 by the template 'for every input the law returns true; each argument reads behind the call as it read before'; 0 by the template 'total and deterministic' (their statements: YtfhphjloaelgoaaGreatDoorTotals.lean).
  GIVEN WITH THE SEED: the statements are not yours to turn. If you find one false, say at which input.
  Laid BY PROGRAM, IN A SANDBOX (cutbox-rows.mjs): the forced cells as the released guide's own fill.sh prints them over the translation 438cba774e2e002c… (all of the seat's roots in one cut). By AI agents, Wed Nov 11 2026. No macro, syntax, notation, axiom, sorry.
-/
import Derived.Test.YtfhphjloaelgoaaGreatDoorChecked
import GoSem.PinnedTables
import GoSem.Claim
import GoSem.ClaimJoined
import GoSem.ClaimMapViews
import Derived.JoinedTies
import Derived.KernelRfl
namespace Go.Proofs.YtfhphjloaelgoaaGreatDoor
/- THE CELL 'sum', in the pinned program and in every row, IS THE sha256 OF THE DUMP (.gsa) THAT YtfhphjloaelgoaaGreatDoorProg.lean LOADS. Nothing in Lean hashes anything: it is a label: what it is worth is what the hold of that sum in a sandbox is worth. -/
noncomputable def Tryz.pinned : Pinned := { name := "ytfhphjloaelgoaagreatdoor", sum := "438cba774e2e002cc51823208e2081edf6df0e128ce27651b362f8ae09316d7a", checked := Tryz.checked }
namespace Rows
def none {H : Type} : Left H := { results := [], args := [] }

/- WHAT THE LISTED PACKAGE-LEVEL VARIABLES READ AS WHEN THE CALL BEGINS. Each datum BY PROGRAM (the guide's laid-datum.mjs) off the statement by which the dump's own 'gosem.cut.vars' lays the variable. In a bare row this is a premise. The card (YtfhphjloaelgoaaGreatDoorCards.lean) ties it to the program's text. -/
def laid_unicode_utf8_acceptRanges {H : Type} : DataW H := .agg [.agg [.lit (.int .u8 128), .lit (.int .u8 191)], .agg [.lit (.int .u8 160), .lit (.int .u8 191)], .agg [.lit (.int .u8 128), .lit (.int .u8 159)], .agg [.lit (.int .u8 144), .lit (.int .u8 191)], .agg [.lit (.int .u8 128), .lit (.int .u8 143)], .agg [.lit (.int .u8 0), .lit (.int .u8 0)], .agg [.lit (.int .u8 0), .lit (.int .u8 0)], .agg [.lit (.int .u8 0), .lit (.int .u8 0)], .agg [.lit (.int .u8 0), .lit (.int .u8 0)], .agg [.lit (.int .u8 0), .lit (.int .u8 0)], .agg [.lit (.int .u8 0), .lit (.int .u8 0)], .agg [.lit (.int .u8 0), .lit (.int .u8 0)], .agg [.lit (.int .u8 0), .lit (.int .u8 0)], .agg [.lit (.int .u8 0), .lit (.int .u8 0)], .agg [.lit (.int .u8 0), .lit (.int .u8 0)], .agg [.lit (.int .u8 0), .lit (.int .u8 0)]]
/-- One of Go's own tables, pinned by name: the form's constant. -/
def laid_unicode_utf8_first : DataW Unit := Go.Pinned.utf8First

/-- 'telecinelaw06.AlignChecks': WHATEVER THE INPUT: true; the input reads as it did. -/
def alignChecksSpec : ChangeSpec := { name := "alignChecks", fn := fun _ => fun
  | [d] => { results := [.lit (.bool true)], args := [d] }
  | _ => none }
def alignChecksRow : OpenClaim := { program := "ytfhphjloaelgoaagreatdoor", sum := "438cba774e2e002cc51823208e2081edf6df0e128ce27651b362f8ae09316d7a", func := "telecine/telecinelaw06.AlignChecks", spec := "alignChecks", inPlace := ["internal/bytealg.CountString", "internal/bytealg.IndexByteString", "internal/bytealg.IndexString"], unfollowed := true, recurses := true, named := ["unicode/utf8.first", "unicode/utf8.acceptRanges", "internal/bytealg.MaxLen"], apart := false, laid := [("unicode/utf8.acceptRanges", laid_unicode_utf8_acceptRanges), ("unicode/utf8.first", laid_unicode_utf8_first)] }
def AlignChecksSaid : Prop := alignChecksRow.holds Tryz.pinned (OpenSpec.ofChange alignChecksSpec)

/-- ITS FALSE NEIGHBOUR: 'it returns false'. Refute it at one input. -/
def alignChecksWrong : ChangeSpec := { name := "alignChecks", fn := fun _ => fun
  | [d] => { results := [.lit (.bool false)], args := [d] }
  | _ => none }
def AlignChecksWrongFalsely : Prop := alignChecksRow.holds Tryz.pinned (OpenSpec.ofChange alignChecksWrong)

/-- 'telecinelaw06.AlignBests': WHATEVER THE INPUT: true; the input reads as it did. -/
def alignBestsSpec : ChangeSpec := { name := "alignBests", fn := fun _ => fun
  | [d1, d2, d3] => { results := [.lit (.bool true)], args := [d1, d2, d3] }
  | _ => none }
def alignBestsRow : OpenClaim := { program := "ytfhphjloaelgoaagreatdoor", sum := "438cba774e2e002cc51823208e2081edf6df0e128ce27651b362f8ae09316d7a", func := "telecine/telecinelaw06.AlignBests", spec := "alignBests", inPlace := ["internal/bytealg.CountString", "internal/bytealg.IndexByteString", "internal/bytealg.IndexString"], unfollowed := true, recurses := true, named := ["unicode/utf8.first", "unicode/utf8.acceptRanges", "internal/bytealg.MaxLen"], apart := false, laid := [("unicode/utf8.acceptRanges", laid_unicode_utf8_acceptRanges), ("unicode/utf8.first", laid_unicode_utf8_first)] }
def AlignBestsSaid : Prop := alignBestsRow.holds Tryz.pinned (OpenSpec.ofChange alignBestsSpec)

/-- ITS FALSE NEIGHBOUR: 'it returns false'. Refute it at one input. -/
def alignBestsWrong : ChangeSpec := { name := "alignBests", fn := fun _ => fun
  | [d1, d2, d3] => { results := [.lit (.bool false)], args := [d1, d2, d3] }
  | _ => none }
def AlignBestsWrongFalsely : Prop := alignBestsRow.holds Tryz.pinned (OpenSpec.ofChange alignBestsWrong)

/-- 'telecinelaw06.AlignJudges': WHATEVER THE INPUT: true; the input reads as it did. -/
def alignJudgesSpec : ChangeSpec := { name := "alignJudges", fn := fun _ => fun
  | [d1, d2, d3] => { results := [.lit (.bool true)], args := [d1, d2, d3] }
  | _ => none }
def alignJudgesRow : OpenClaim := { program := "ytfhphjloaelgoaagreatdoor", sum := "438cba774e2e002cc51823208e2081edf6df0e128ce27651b362f8ae09316d7a", func := "telecine/telecinelaw06.AlignJudges", spec := "alignJudges", inPlace := ["internal/bytealg.CountString", "internal/bytealg.IndexByteString", "internal/bytealg.IndexString"], unfollowed := true, recurses := true, named := ["unicode/utf8.first", "unicode/utf8.acceptRanges", "internal/bytealg.MaxLen"], apart := false, laid := [("unicode/utf8.acceptRanges", laid_unicode_utf8_acceptRanges), ("unicode/utf8.first", laid_unicode_utf8_first)] }
def AlignJudgesSaid : Prop := alignJudgesRow.holds Tryz.pinned (OpenSpec.ofChange alignJudgesSpec)

/-- ITS FALSE NEIGHBOUR: 'it returns false'. Refute it at one input. -/
def alignJudgesWrong : ChangeSpec := { name := "alignJudges", fn := fun _ => fun
  | [d1, d2, d3] => { results := [.lit (.bool false)], args := [d1, d2, d3] }
  | _ => none }
def AlignJudgesWrongFalsely : Prop := alignJudgesRow.holds Tryz.pinned (OpenSpec.ofChange alignJudgesWrong)

/-- 'telecinelaw06.AlignAll': WHATEVER THE INPUT: true; the input reads as it did. -/
def alignAllSpec : ChangeSpec := { name := "alignAll", fn := fun _ => fun
  | [d1, d2, d3] => { results := [.lit (.bool true)], args := [d1, d2, d3] }
  | _ => none }
def alignAllRow : OpenClaim := { program := "ytfhphjloaelgoaagreatdoor", sum := "438cba774e2e002cc51823208e2081edf6df0e128ce27651b362f8ae09316d7a", func := "telecine/telecinelaw06.AlignAll", spec := "alignAll", inPlace := ["internal/bytealg.CountString", "internal/bytealg.IndexByteString", "internal/bytealg.IndexString"], unfollowed := true, recurses := true, named := ["unicode/utf8.first", "unicode/utf8.acceptRanges", "internal/bytealg.MaxLen"], apart := false, laid := [("unicode/utf8.acceptRanges", laid_unicode_utf8_acceptRanges), ("unicode/utf8.first", laid_unicode_utf8_first)] }
def AlignAllSaid : Prop := alignAllRow.holds Tryz.pinned (OpenSpec.ofChange alignAllSpec)

/-- ITS FALSE NEIGHBOUR: 'it returns false'. Refute it at one input. -/
def alignAllWrong : ChangeSpec := { name := "alignAll", fn := fun _ => fun
  | [d1, d2, d3] => { results := [.lit (.bool false)], args := [d1, d2, d3] }
  | _ => none }
def AlignAllWrongFalsely : Prop := alignAllRow.holds Tryz.pinned (OpenSpec.ofChange alignAllWrong)

/-- 'telecinelaw06.AlignMore': WHATEVER THE INPUT: true; the input reads as it did. -/
def alignMoreSpec : ChangeSpec := { name := "alignMore", fn := fun _ => fun
  | [d1, d2, d3] => { results := [.lit (.bool true)], args := [d1, d2, d3] }
  | _ => none }
def alignMoreRow : OpenClaim := { program := "ytfhphjloaelgoaagreatdoor", sum := "438cba774e2e002cc51823208e2081edf6df0e128ce27651b362f8ae09316d7a", func := "telecine/telecinelaw06.AlignMore", spec := "alignMore", inPlace := ["internal/bytealg.CountString", "internal/bytealg.IndexByteString", "internal/bytealg.IndexString"], unfollowed := true, recurses := true, named := ["unicode/utf8.first", "unicode/utf8.acceptRanges", "internal/bytealg.MaxLen"], apart := false, laid := [("unicode/utf8.acceptRanges", laid_unicode_utf8_acceptRanges), ("unicode/utf8.first", laid_unicode_utf8_first)] }
def AlignMoreSaid : Prop := alignMoreRow.holds Tryz.pinned (OpenSpec.ofChange alignMoreSpec)

/-- ITS FALSE NEIGHBOUR: 'it returns false'. Refute it at one input. -/
def alignMoreWrong : ChangeSpec := { name := "alignMore", fn := fun _ => fun
  | [d1, d2, d3] => { results := [.lit (.bool false)], args := [d1, d2, d3] }
  | _ => none }
def AlignMoreWrongFalsely : Prop := alignMoreRow.holds Tryz.pinned (OpenSpec.ofChange alignMoreWrong)

/-- 'telecinelaw06.AlignCut': WHATEVER THE INPUT: true; the input reads as it did. -/
def alignCutSpec : ChangeSpec := { name := "alignCut", fn := fun _ => fun
  | [d1, d2, d3] => { results := [.lit (.bool true)], args := [d1, d2, d3] }
  | _ => none }
def alignCutRow : OpenClaim := { program := "ytfhphjloaelgoaagreatdoor", sum := "438cba774e2e002cc51823208e2081edf6df0e128ce27651b362f8ae09316d7a", func := "telecine/telecinelaw06.AlignCut", spec := "alignCut", inPlace := ["internal/bytealg.CountString", "internal/bytealg.IndexByteString", "internal/bytealg.IndexString"], unfollowed := true, recurses := true, named := ["unicode/utf8.first", "unicode/utf8.acceptRanges", "internal/bytealg.MaxLen"], apart := false, laid := [("unicode/utf8.acceptRanges", laid_unicode_utf8_acceptRanges), ("unicode/utf8.first", laid_unicode_utf8_first)] }
def AlignCutSaid : Prop := alignCutRow.holds Tryz.pinned (OpenSpec.ofChange alignCutSpec)

/-- ITS FALSE NEIGHBOUR: 'it returns false'. Refute it at one input. -/
def alignCutWrong : ChangeSpec := { name := "alignCut", fn := fun _ => fun
  | [d1, d2, d3] => { results := [.lit (.bool false)], args := [d1, d2, d3] }
  | _ => none }
def AlignCutWrongFalsely : Prop := alignCutRow.holds Tryz.pinned (OpenSpec.ofChange alignCutWrong)

/-- 'telecinelaw06.AlignWholes': WHATEVER THE INPUT: true; the input reads as it did. -/
def alignWholesSpec : ChangeSpec := { name := "alignWholes", fn := fun _ => fun
  | [d] => { results := [.lit (.bool true)], args := [d] }
  | _ => none }
def alignWholesRow : OpenClaim := { program := "ytfhphjloaelgoaagreatdoor", sum := "438cba774e2e002cc51823208e2081edf6df0e128ce27651b362f8ae09316d7a", func := "telecine/telecinelaw06.AlignWholes", spec := "alignWholes", inPlace := ["internal/bytealg.CountString", "internal/bytealg.IndexByteString", "internal/bytealg.IndexString"], unfollowed := true, recurses := true, named := ["unicode/utf8.first", "unicode/utf8.acceptRanges", "internal/bytealg.MaxLen"], apart := false, laid := [("unicode/utf8.acceptRanges", laid_unicode_utf8_acceptRanges), ("unicode/utf8.first", laid_unicode_utf8_first)] }
def AlignWholesSaid : Prop := alignWholesRow.holds Tryz.pinned (OpenSpec.ofChange alignWholesSpec)

/-- ITS FALSE NEIGHBOUR: 'it returns false'. Refute it at one input. -/
def alignWholesWrong : ChangeSpec := { name := "alignWholes", fn := fun _ => fun
  | [d] => { results := [.lit (.bool false)], args := [d] }
  | _ => none }
def AlignWholesWrongFalsely : Prop := alignWholesRow.holds Tryz.pinned (OpenSpec.ofChange alignWholesWrong)

/-- 'telecinelaw06.AlignOrder': WHATEVER THE INPUT: true; the input reads as it did. -/
def alignOrderSpec : ChangeSpec := { name := "alignOrder", fn := fun _ => fun
  | [d] => { results := [.lit (.bool true)], args := [d] }
  | _ => none }
def alignOrderRow : OpenClaim := { program := "ytfhphjloaelgoaagreatdoor", sum := "438cba774e2e002cc51823208e2081edf6df0e128ce27651b362f8ae09316d7a", func := "telecine/telecinelaw06.AlignOrder", spec := "alignOrder", inPlace := ["internal/bytealg.CountString", "internal/bytealg.IndexByteString", "internal/bytealg.IndexString"], unfollowed := true, recurses := true, named := ["unicode/utf8.first", "unicode/utf8.acceptRanges", "internal/bytealg.MaxLen"], apart := false, laid := [("unicode/utf8.acceptRanges", laid_unicode_utf8_acceptRanges), ("unicode/utf8.first", laid_unicode_utf8_first)] }
def AlignOrderSaid : Prop := alignOrderRow.holds Tryz.pinned (OpenSpec.ofChange alignOrderSpec)

/-- ITS FALSE NEIGHBOUR: 'it returns false'. Refute it at one input. -/
def alignOrderWrong : ChangeSpec := { name := "alignOrder", fn := fun _ => fun
  | [d] => { results := [.lit (.bool false)], args := [d] }
  | _ => none }
def AlignOrderWrongFalsely : Prop := alignOrderRow.holds Tryz.pinned (OpenSpec.ofChange alignOrderWrong)

/-- 'telecinelaw06.AlignParts': WHATEVER THE INPUT: true; the input reads as it did. -/
def alignPartsSpec : ChangeSpec := { name := "alignParts", fn := fun _ => fun
  | [d1, d2, d3] => { results := [.lit (.bool true)], args := [d1, d2, d3] }
  | _ => none }
def alignPartsRow : OpenClaim := { program := "ytfhphjloaelgoaagreatdoor", sum := "438cba774e2e002cc51823208e2081edf6df0e128ce27651b362f8ae09316d7a", func := "telecine/telecinelaw06.AlignParts", spec := "alignParts", inPlace := ["internal/bytealg.CountString", "internal/bytealg.IndexByteString", "internal/bytealg.IndexString"], unfollowed := true, recurses := true, named := ["unicode/utf8.first", "unicode/utf8.acceptRanges", "internal/bytealg.MaxLen"], apart := false, laid := [("unicode/utf8.acceptRanges", laid_unicode_utf8_acceptRanges), ("unicode/utf8.first", laid_unicode_utf8_first)] }
def AlignPartsSaid : Prop := alignPartsRow.holds Tryz.pinned (OpenSpec.ofChange alignPartsSpec)

/-- ITS FALSE NEIGHBOUR: 'it returns false'. Refute it at one input. -/
def alignPartsWrong : ChangeSpec := { name := "alignParts", fn := fun _ => fun
  | [d1, d2, d3] => { results := [.lit (.bool false)], args := [d1, d2, d3] }
  | _ => none }
def AlignPartsWrongFalsely : Prop := alignPartsRow.holds Tryz.pinned (OpenSpec.ofChange alignPartsWrong)

/-- 'telecinelaw06.AlignVersions': WHATEVER THE INPUT: true; the input reads as it did. -/
def alignVersionsSpec : ChangeSpec := { name := "alignVersions", fn := fun _ => fun
  | [d1, d2] => { results := [.lit (.bool true)], args := [d1, d2] }
  | _ => none }
def alignVersionsRow : OpenClaim := { program := "ytfhphjloaelgoaagreatdoor", sum := "438cba774e2e002cc51823208e2081edf6df0e128ce27651b362f8ae09316d7a", func := "telecine/telecinelaw06.AlignVersions", spec := "alignVersions", inPlace := ["internal/bytealg.CountString", "internal/bytealg.IndexByteString", "internal/bytealg.IndexString"], unfollowed := true, recurses := true, named := ["unicode/utf8.first", "unicode/utf8.acceptRanges", "internal/bytealg.MaxLen"], apart := false, laid := [("unicode/utf8.acceptRanges", laid_unicode_utf8_acceptRanges), ("unicode/utf8.first", laid_unicode_utf8_first)] }
def AlignVersionsSaid : Prop := alignVersionsRow.holds Tryz.pinned (OpenSpec.ofChange alignVersionsSpec)

/-- ITS FALSE NEIGHBOUR: 'it returns false'. Refute it at one input. -/
def alignVersionsWrong : ChangeSpec := { name := "alignVersions", fn := fun _ => fun
  | [d1, d2] => { results := [.lit (.bool false)], args := [d1, d2] }
  | _ => none }
def AlignVersionsWrongFalsely : Prop := alignVersionsRow.holds Tryz.pinned (OpenSpec.ofChange alignVersionsWrong)

/-- 'telecinelaw06.AlignGaps': WHATEVER THE INPUT: true; the input reads as it did. -/
def alignGapsSpec : ChangeSpec := { name := "alignGaps", fn := fun _ => fun
  | [d1, d2, d3] => { results := [.lit (.bool true)], args := [d1, d2, d3] }
  | _ => none }
def alignGapsRow : OpenClaim := { program := "ytfhphjloaelgoaagreatdoor", sum := "438cba774e2e002cc51823208e2081edf6df0e128ce27651b362f8ae09316d7a", func := "telecine/telecinelaw06.AlignGaps", spec := "alignGaps", inPlace := ["internal/bytealg.CountString", "internal/bytealg.IndexByteString", "internal/bytealg.IndexString"], unfollowed := true, recurses := true, named := ["unicode/utf8.first", "unicode/utf8.acceptRanges", "internal/bytealg.MaxLen"], apart := false, laid := [("unicode/utf8.acceptRanges", laid_unicode_utf8_acceptRanges), ("unicode/utf8.first", laid_unicode_utf8_first)] }
def AlignGapsSaid : Prop := alignGapsRow.holds Tryz.pinned (OpenSpec.ofChange alignGapsSpec)

/-- ITS FALSE NEIGHBOUR: 'it returns false'. Refute it at one input. -/
def alignGapsWrong : ChangeSpec := { name := "alignGaps", fn := fun _ => fun
  | [d1, d2, d3] => { results := [.lit (.bool false)], args := [d1, d2, d3] }
  | _ => none }
def AlignGapsWrongFalsely : Prop := alignGapsRow.holds Tryz.pinned (OpenSpec.ofChange alignGapsWrong)

/-- 'telecinelaw06.AlignSurely': WHATEVER THE INPUT: true; the input reads as it did. -/
def alignSurelySpec : ChangeSpec := { name := "alignSurely", fn := fun _ => fun
  | [d1, d2, d3] => { results := [.lit (.bool true)], args := [d1, d2, d3] }
  | _ => none }
def alignSurelyRow : OpenClaim := { program := "ytfhphjloaelgoaagreatdoor", sum := "438cba774e2e002cc51823208e2081edf6df0e128ce27651b362f8ae09316d7a", func := "telecine/telecinelaw06.AlignSurely", spec := "alignSurely", inPlace := ["internal/bytealg.CountString", "internal/bytealg.IndexByteString", "internal/bytealg.IndexString"], unfollowed := true, recurses := true, named := ["unicode/utf8.first", "unicode/utf8.acceptRanges", "internal/bytealg.MaxLen"], apart := false, laid := [("unicode/utf8.acceptRanges", laid_unicode_utf8_acceptRanges), ("unicode/utf8.first", laid_unicode_utf8_first)] }
def AlignSurelySaid : Prop := alignSurelyRow.holds Tryz.pinned (OpenSpec.ofChange alignSurelySpec)

/-- ITS FALSE NEIGHBOUR: 'it returns false'. Refute it at one input. -/
def alignSurelyWrong : ChangeSpec := { name := "alignSurely", fn := fun _ => fun
  | [d1, d2, d3] => { results := [.lit (.bool false)], args := [d1, d2, d3] }
  | _ => none }
def AlignSurelyWrongFalsely : Prop := alignSurelyRow.holds Tryz.pinned (OpenSpec.ofChange alignSurelyWrong)

/-- 'telecinelaw06.AlignOnly': WHATEVER THE INPUT: true; the input reads as it did. -/
def alignOnlySpec : ChangeSpec := { name := "alignOnly", fn := fun _ => fun
  | [d1, d2] => { results := [.lit (.bool true)], args := [d1, d2] }
  | _ => none }
def alignOnlyRow : OpenClaim := { program := "ytfhphjloaelgoaagreatdoor", sum := "438cba774e2e002cc51823208e2081edf6df0e128ce27651b362f8ae09316d7a", func := "telecine/telecinelaw06.AlignOnly", spec := "alignOnly", inPlace := ["internal/bytealg.CountString", "internal/bytealg.IndexByteString", "internal/bytealg.IndexString"], unfollowed := true, recurses := true, named := ["unicode/utf8.first", "unicode/utf8.acceptRanges", "internal/bytealg.MaxLen"], apart := false, laid := [("unicode/utf8.acceptRanges", laid_unicode_utf8_acceptRanges), ("unicode/utf8.first", laid_unicode_utf8_first)] }
def AlignOnlySaid : Prop := alignOnlyRow.holds Tryz.pinned (OpenSpec.ofChange alignOnlySpec)

/-- ITS FALSE NEIGHBOUR: 'it returns false'. Refute it at one input. -/
def alignOnlyWrong : ChangeSpec := { name := "alignOnly", fn := fun _ => fun
  | [d1, d2] => { results := [.lit (.bool false)], args := [d1, d2] }
  | _ => none }
def AlignOnlyWrongFalsely : Prop := alignOnlyRow.holds Tryz.pinned (OpenSpec.ofChange alignOnlyWrong)

/-- 'telecinelaw06.AlignTurned': WHATEVER THE INPUT: true; the input reads as it did. -/
def alignTurnedSpec : ChangeSpec := { name := "alignTurned", fn := fun _ => fun
  | [d1, d2] => { results := [.lit (.bool true)], args := [d1, d2] }
  | _ => none }
def alignTurnedRow : OpenClaim := { program := "ytfhphjloaelgoaagreatdoor", sum := "438cba774e2e002cc51823208e2081edf6df0e128ce27651b362f8ae09316d7a", func := "telecine/telecinelaw06.AlignTurned", spec := "alignTurned", inPlace := ["internal/bytealg.CountString", "internal/bytealg.IndexByteString", "internal/bytealg.IndexString"], unfollowed := true, recurses := true, named := ["unicode/utf8.first", "unicode/utf8.acceptRanges", "internal/bytealg.MaxLen"], apart := false, laid := [("unicode/utf8.acceptRanges", laid_unicode_utf8_acceptRanges), ("unicode/utf8.first", laid_unicode_utf8_first)] }
def AlignTurnedSaid : Prop := alignTurnedRow.holds Tryz.pinned (OpenSpec.ofChange alignTurnedSpec)

/-- ITS FALSE NEIGHBOUR: 'it returns false'. Refute it at one input. -/
def alignTurnedWrong : ChangeSpec := { name := "alignTurned", fn := fun _ => fun
  | [d1, d2] => { results := [.lit (.bool false)], args := [d1, d2] }
  | _ => none }
def AlignTurnedWrongFalsely : Prop := alignTurnedRow.holds Tryz.pinned (OpenSpec.ofChange alignTurnedWrong)

/-- 'telecinelaw06.AlignKnown': WHATEVER THE INPUT: true; the input reads as it did. -/
def alignKnownSpec : ChangeSpec := { name := "alignKnown", fn := fun _ => fun
  | [] => { results := [.lit (.bool true)], args := [] }
  | _ => none }
def alignKnownRow : OpenClaim := { program := "ytfhphjloaelgoaagreatdoor", sum := "438cba774e2e002cc51823208e2081edf6df0e128ce27651b362f8ae09316d7a", func := "telecine/telecinelaw06.AlignKnown", spec := "alignKnown", inPlace := ["internal/bytealg.CountString", "internal/bytealg.IndexByteString", "internal/bytealg.IndexString"], unfollowed := true, recurses := true, named := ["unicode/utf8.first", "unicode/utf8.acceptRanges", "internal/bytealg.MaxLen"], apart := false, laid := [("unicode/utf8.acceptRanges", laid_unicode_utf8_acceptRanges), ("unicode/utf8.first", laid_unicode_utf8_first)] }
def AlignKnownSaid : Prop := alignKnownRow.holds Tryz.pinned (OpenSpec.ofChange alignKnownSpec)

/-- ITS FALSE NEIGHBOUR: 'it returns false'. Refute it at one input. -/
def alignKnownWrong : ChangeSpec := { name := "alignKnown", fn := fun _ => fun
  | [] => { results := [.lit (.bool false)], args := [] }
  | _ => none }
def AlignKnownWrongFalsely : Prop := alignKnownRow.holds Tryz.pinned (OpenSpec.ofChange alignKnownWrong)

/- THE SECOND FORM. 'bulk': how many values and letters a reading holds, each counted each time it is reached (what is shared counts as often as it is met; a slice's spare places count too). A statement '..UptoSaid' is the law's where the arguments, and the package variables that the reading takes, are together of bulk at most 1048576: NARROWER than '..Said'. Prove '..Said' where nothing that the law and all that it calls make is longer than what came in: it says more and counts as full. Else prove '..UptoSaid'. A law counts once. -/
mutual
def uptoBulk {H : Type} : DataW H → Nat
  | .lit (.string bytes) => bytes.length + 1
  | .lit _ => 1
  | .nil => 1
  | .ptr d => uptoBulk d + 1
  | .slice elems spare => uptoBulkAll elems + uptoBulkAll spare + 1
  | .agg parts => uptoBulkAll parts + 1
  | .iface _ d => uptoBulk d + 1
  | .map entries => uptoBulkEntries entries + 1
  | .held _ => 1
def uptoBulkAll {H : Type} : List (DataW H) → Nat
  | [] => 0
  | d :: r => uptoBulk d + uptoBulkAll r
def uptoBulkEntries {H : Type} : List (Lit × DataW H) → Nat
  | [] => 0
  | x :: r => uptoBulkEntry x + uptoBulkEntries r
def uptoBulkEntry {H : Type} : Lit × DataW H → Nat
  | (.string bytes, d) => bytes.length + uptoBulk d + 1
  | (_, d) => uptoBulk d + 1
 end
def uptoSmall : (H : Type) → List (DataW H) → Bool := fun _ ds => decide (uptoBulkAll ds ≤ 1048576)
def OpenSpec.upto (s : _root_.Go.ChangeSpec) : _root_.Go.OpenSpec := { _root_.Go.OpenSpec.ofChange s with cond := some uptoSmall }

/-- 'telecinelaw06.AlignChecks', WHERE WHAT IT READS IS OF BULK AT MOST 1048576: true; the input reads as it did. -/
def alignChecksUptoRow : OpenClaim := { program := "ytfhphjloaelgoaagreatdoor", sum := "438cba774e2e002cc51823208e2081edf6df0e128ce27651b362f8ae09316d7a", func := "telecine/telecinelaw06.AlignChecks", spec := "alignChecks", inPlace := ["internal/bytealg.CountString", "internal/bytealg.IndexByteString", "internal/bytealg.IndexString"], unfollowed := true, recurses := true, named := ["unicode/utf8.first", "unicode/utf8.acceptRanges", "internal/bytealg.MaxLen"], apart := false, laid := [("unicode/utf8.acceptRanges", laid_unicode_utf8_acceptRanges), ("unicode/utf8.first", laid_unicode_utf8_first)], narrowed := true }
def AlignChecksUptoSaid : Prop := alignChecksUptoRow.holds Tryz.pinned (OpenSpec.upto alignChecksSpec)

/-- 'telecinelaw06.AlignBests', WHERE WHAT IT READS IS OF BULK AT MOST 1048576: true; the input reads as it did. -/
def alignBestsUptoRow : OpenClaim := { program := "ytfhphjloaelgoaagreatdoor", sum := "438cba774e2e002cc51823208e2081edf6df0e128ce27651b362f8ae09316d7a", func := "telecine/telecinelaw06.AlignBests", spec := "alignBests", inPlace := ["internal/bytealg.CountString", "internal/bytealg.IndexByteString", "internal/bytealg.IndexString"], unfollowed := true, recurses := true, named := ["unicode/utf8.first", "unicode/utf8.acceptRanges", "internal/bytealg.MaxLen"], apart := false, laid := [("unicode/utf8.acceptRanges", laid_unicode_utf8_acceptRanges), ("unicode/utf8.first", laid_unicode_utf8_first)], narrowed := true }
def AlignBestsUptoSaid : Prop := alignBestsUptoRow.holds Tryz.pinned (OpenSpec.upto alignBestsSpec)

/-- 'telecinelaw06.AlignJudges', WHERE WHAT IT READS IS OF BULK AT MOST 1048576: true; the input reads as it did. -/
def alignJudgesUptoRow : OpenClaim := { program := "ytfhphjloaelgoaagreatdoor", sum := "438cba774e2e002cc51823208e2081edf6df0e128ce27651b362f8ae09316d7a", func := "telecine/telecinelaw06.AlignJudges", spec := "alignJudges", inPlace := ["internal/bytealg.CountString", "internal/bytealg.IndexByteString", "internal/bytealg.IndexString"], unfollowed := true, recurses := true, named := ["unicode/utf8.first", "unicode/utf8.acceptRanges", "internal/bytealg.MaxLen"], apart := false, laid := [("unicode/utf8.acceptRanges", laid_unicode_utf8_acceptRanges), ("unicode/utf8.first", laid_unicode_utf8_first)], narrowed := true }
def AlignJudgesUptoSaid : Prop := alignJudgesUptoRow.holds Tryz.pinned (OpenSpec.upto alignJudgesSpec)

/-- 'telecinelaw06.AlignAll', WHERE WHAT IT READS IS OF BULK AT MOST 1048576: true; the input reads as it did. -/
def alignAllUptoRow : OpenClaim := { program := "ytfhphjloaelgoaagreatdoor", sum := "438cba774e2e002cc51823208e2081edf6df0e128ce27651b362f8ae09316d7a", func := "telecine/telecinelaw06.AlignAll", spec := "alignAll", inPlace := ["internal/bytealg.CountString", "internal/bytealg.IndexByteString", "internal/bytealg.IndexString"], unfollowed := true, recurses := true, named := ["unicode/utf8.first", "unicode/utf8.acceptRanges", "internal/bytealg.MaxLen"], apart := false, laid := [("unicode/utf8.acceptRanges", laid_unicode_utf8_acceptRanges), ("unicode/utf8.first", laid_unicode_utf8_first)], narrowed := true }
def AlignAllUptoSaid : Prop := alignAllUptoRow.holds Tryz.pinned (OpenSpec.upto alignAllSpec)

/-- 'telecinelaw06.AlignMore', WHERE WHAT IT READS IS OF BULK AT MOST 1048576: true; the input reads as it did. -/
def alignMoreUptoRow : OpenClaim := { program := "ytfhphjloaelgoaagreatdoor", sum := "438cba774e2e002cc51823208e2081edf6df0e128ce27651b362f8ae09316d7a", func := "telecine/telecinelaw06.AlignMore", spec := "alignMore", inPlace := ["internal/bytealg.CountString", "internal/bytealg.IndexByteString", "internal/bytealg.IndexString"], unfollowed := true, recurses := true, named := ["unicode/utf8.first", "unicode/utf8.acceptRanges", "internal/bytealg.MaxLen"], apart := false, laid := [("unicode/utf8.acceptRanges", laid_unicode_utf8_acceptRanges), ("unicode/utf8.first", laid_unicode_utf8_first)], narrowed := true }
def AlignMoreUptoSaid : Prop := alignMoreUptoRow.holds Tryz.pinned (OpenSpec.upto alignMoreSpec)

/-- 'telecinelaw06.AlignCut', WHERE WHAT IT READS IS OF BULK AT MOST 1048576: true; the input reads as it did. -/
def alignCutUptoRow : OpenClaim := { program := "ytfhphjloaelgoaagreatdoor", sum := "438cba774e2e002cc51823208e2081edf6df0e128ce27651b362f8ae09316d7a", func := "telecine/telecinelaw06.AlignCut", spec := "alignCut", inPlace := ["internal/bytealg.CountString", "internal/bytealg.IndexByteString", "internal/bytealg.IndexString"], unfollowed := true, recurses := true, named := ["unicode/utf8.first", "unicode/utf8.acceptRanges", "internal/bytealg.MaxLen"], apart := false, laid := [("unicode/utf8.acceptRanges", laid_unicode_utf8_acceptRanges), ("unicode/utf8.first", laid_unicode_utf8_first)], narrowed := true }
def AlignCutUptoSaid : Prop := alignCutUptoRow.holds Tryz.pinned (OpenSpec.upto alignCutSpec)

/-- 'telecinelaw06.AlignWholes', WHERE WHAT IT READS IS OF BULK AT MOST 1048576: true; the input reads as it did. -/
def alignWholesUptoRow : OpenClaim := { program := "ytfhphjloaelgoaagreatdoor", sum := "438cba774e2e002cc51823208e2081edf6df0e128ce27651b362f8ae09316d7a", func := "telecine/telecinelaw06.AlignWholes", spec := "alignWholes", inPlace := ["internal/bytealg.CountString", "internal/bytealg.IndexByteString", "internal/bytealg.IndexString"], unfollowed := true, recurses := true, named := ["unicode/utf8.first", "unicode/utf8.acceptRanges", "internal/bytealg.MaxLen"], apart := false, laid := [("unicode/utf8.acceptRanges", laid_unicode_utf8_acceptRanges), ("unicode/utf8.first", laid_unicode_utf8_first)], narrowed := true }
def AlignWholesUptoSaid : Prop := alignWholesUptoRow.holds Tryz.pinned (OpenSpec.upto alignWholesSpec)

/-- 'telecinelaw06.AlignOrder', WHERE WHAT IT READS IS OF BULK AT MOST 1048576: true; the input reads as it did. -/
def alignOrderUptoRow : OpenClaim := { program := "ytfhphjloaelgoaagreatdoor", sum := "438cba774e2e002cc51823208e2081edf6df0e128ce27651b362f8ae09316d7a", func := "telecine/telecinelaw06.AlignOrder", spec := "alignOrder", inPlace := ["internal/bytealg.CountString", "internal/bytealg.IndexByteString", "internal/bytealg.IndexString"], unfollowed := true, recurses := true, named := ["unicode/utf8.first", "unicode/utf8.acceptRanges", "internal/bytealg.MaxLen"], apart := false, laid := [("unicode/utf8.acceptRanges", laid_unicode_utf8_acceptRanges), ("unicode/utf8.first", laid_unicode_utf8_first)], narrowed := true }
def AlignOrderUptoSaid : Prop := alignOrderUptoRow.holds Tryz.pinned (OpenSpec.upto alignOrderSpec)

/-- 'telecinelaw06.AlignParts', WHERE WHAT IT READS IS OF BULK AT MOST 1048576: true; the input reads as it did. -/
def alignPartsUptoRow : OpenClaim := { program := "ytfhphjloaelgoaagreatdoor", sum := "438cba774e2e002cc51823208e2081edf6df0e128ce27651b362f8ae09316d7a", func := "telecine/telecinelaw06.AlignParts", spec := "alignParts", inPlace := ["internal/bytealg.CountString", "internal/bytealg.IndexByteString", "internal/bytealg.IndexString"], unfollowed := true, recurses := true, named := ["unicode/utf8.first", "unicode/utf8.acceptRanges", "internal/bytealg.MaxLen"], apart := false, laid := [("unicode/utf8.acceptRanges", laid_unicode_utf8_acceptRanges), ("unicode/utf8.first", laid_unicode_utf8_first)], narrowed := true }
def AlignPartsUptoSaid : Prop := alignPartsUptoRow.holds Tryz.pinned (OpenSpec.upto alignPartsSpec)

/-- 'telecinelaw06.AlignVersions', WHERE WHAT IT READS IS OF BULK AT MOST 1048576: true; the input reads as it did. -/
def alignVersionsUptoRow : OpenClaim := { program := "ytfhphjloaelgoaagreatdoor", sum := "438cba774e2e002cc51823208e2081edf6df0e128ce27651b362f8ae09316d7a", func := "telecine/telecinelaw06.AlignVersions", spec := "alignVersions", inPlace := ["internal/bytealg.CountString", "internal/bytealg.IndexByteString", "internal/bytealg.IndexString"], unfollowed := true, recurses := true, named := ["unicode/utf8.first", "unicode/utf8.acceptRanges", "internal/bytealg.MaxLen"], apart := false, laid := [("unicode/utf8.acceptRanges", laid_unicode_utf8_acceptRanges), ("unicode/utf8.first", laid_unicode_utf8_first)], narrowed := true }
def AlignVersionsUptoSaid : Prop := alignVersionsUptoRow.holds Tryz.pinned (OpenSpec.upto alignVersionsSpec)

/-- 'telecinelaw06.AlignGaps', WHERE WHAT IT READS IS OF BULK AT MOST 1048576: true; the input reads as it did. -/
def alignGapsUptoRow : OpenClaim := { program := "ytfhphjloaelgoaagreatdoor", sum := "438cba774e2e002cc51823208e2081edf6df0e128ce27651b362f8ae09316d7a", func := "telecine/telecinelaw06.AlignGaps", spec := "alignGaps", inPlace := ["internal/bytealg.CountString", "internal/bytealg.IndexByteString", "internal/bytealg.IndexString"], unfollowed := true, recurses := true, named := ["unicode/utf8.first", "unicode/utf8.acceptRanges", "internal/bytealg.MaxLen"], apart := false, laid := [("unicode/utf8.acceptRanges", laid_unicode_utf8_acceptRanges), ("unicode/utf8.first", laid_unicode_utf8_first)], narrowed := true }
def AlignGapsUptoSaid : Prop := alignGapsUptoRow.holds Tryz.pinned (OpenSpec.upto alignGapsSpec)

/-- 'telecinelaw06.AlignSurely', WHERE WHAT IT READS IS OF BULK AT MOST 1048576: true; the input reads as it did. -/
def alignSurelyUptoRow : OpenClaim := { program := "ytfhphjloaelgoaagreatdoor", sum := "438cba774e2e002cc51823208e2081edf6df0e128ce27651b362f8ae09316d7a", func := "telecine/telecinelaw06.AlignSurely", spec := "alignSurely", inPlace := ["internal/bytealg.CountString", "internal/bytealg.IndexByteString", "internal/bytealg.IndexString"], unfollowed := true, recurses := true, named := ["unicode/utf8.first", "unicode/utf8.acceptRanges", "internal/bytealg.MaxLen"], apart := false, laid := [("unicode/utf8.acceptRanges", laid_unicode_utf8_acceptRanges), ("unicode/utf8.first", laid_unicode_utf8_first)], narrowed := true }
def AlignSurelyUptoSaid : Prop := alignSurelyUptoRow.holds Tryz.pinned (OpenSpec.upto alignSurelySpec)

/-- 'telecinelaw06.AlignOnly', WHERE WHAT IT READS IS OF BULK AT MOST 1048576: true; the input reads as it did. -/
def alignOnlyUptoRow : OpenClaim := { program := "ytfhphjloaelgoaagreatdoor", sum := "438cba774e2e002cc51823208e2081edf6df0e128ce27651b362f8ae09316d7a", func := "telecine/telecinelaw06.AlignOnly", spec := "alignOnly", inPlace := ["internal/bytealg.CountString", "internal/bytealg.IndexByteString", "internal/bytealg.IndexString"], unfollowed := true, recurses := true, named := ["unicode/utf8.first", "unicode/utf8.acceptRanges", "internal/bytealg.MaxLen"], apart := false, laid := [("unicode/utf8.acceptRanges", laid_unicode_utf8_acceptRanges), ("unicode/utf8.first", laid_unicode_utf8_first)], narrowed := true }
def AlignOnlyUptoSaid : Prop := alignOnlyUptoRow.holds Tryz.pinned (OpenSpec.upto alignOnlySpec)

/-- 'telecinelaw06.AlignTurned', WHERE WHAT IT READS IS OF BULK AT MOST 1048576: true; the input reads as it did. -/
def alignTurnedUptoRow : OpenClaim := { program := "ytfhphjloaelgoaagreatdoor", sum := "438cba774e2e002cc51823208e2081edf6df0e128ce27651b362f8ae09316d7a", func := "telecine/telecinelaw06.AlignTurned", spec := "alignTurned", inPlace := ["internal/bytealg.CountString", "internal/bytealg.IndexByteString", "internal/bytealg.IndexString"], unfollowed := true, recurses := true, named := ["unicode/utf8.first", "unicode/utf8.acceptRanges", "internal/bytealg.MaxLen"], apart := false, laid := [("unicode/utf8.acceptRanges", laid_unicode_utf8_acceptRanges), ("unicode/utf8.first", laid_unicode_utf8_first)], narrowed := true }
def AlignTurnedUptoSaid : Prop := alignTurnedUptoRow.holds Tryz.pinned (OpenSpec.upto alignTurnedSpec)

/-- 'telecinelaw06.AlignKnown', WHERE WHAT IT READS IS OF BULK AT MOST 1048576: true; the input reads as it did. -/
def alignKnownUptoRow : OpenClaim := { program := "ytfhphjloaelgoaagreatdoor", sum := "438cba774e2e002cc51823208e2081edf6df0e128ce27651b362f8ae09316d7a", func := "telecine/telecinelaw06.AlignKnown", spec := "alignKnown", inPlace := ["internal/bytealg.CountString", "internal/bytealg.IndexByteString", "internal/bytealg.IndexString"], unfollowed := true, recurses := true, named := ["unicode/utf8.first", "unicode/utf8.acceptRanges", "internal/bytealg.MaxLen"], apart := false, laid := [("unicode/utf8.acceptRanges", laid_unicode_utf8_acceptRanges), ("unicode/utf8.first", laid_unicode_utf8_first)], narrowed := true }
def AlignKnownUptoSaid : Prop := alignKnownUptoRow.holds Tryz.pinned (OpenSpec.upto alignKnownSpec)

end Rows
end Go.Proofs.YtfhphjloaelgoaaGreatDoor
