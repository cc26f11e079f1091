/-
  No cell of these rows narrows 'for every input' (looked for: loops, veiled, ifaces, maps, wideKeys, modest, calm, conditions, laid).
  DERIVED. THE GIVEN ROWS OF THIS SEAT. 14 by the template 'for every input the law returns true; each argument reads behind the call as it read before'; 0 by the template 'total and deterministic' (their statements: YtigcchafpenhiaaTotals.lean).
  GIVEN WITH THE SEED: the statements are not yours to turn. If you find one false, say at which input.
  Laid BY PROGRAM, IN A SANDBOX (cutbox-rows.mjs): the forced cells as the released guide's own fill.sh prints them over the translation 72efad3c14d93b90… (all of the seat's roots in one cut). By AI agents, Wed Nov 11 2026. No macro, syntax, notation, axiom, sorry.
-/
import Derived.Test.YtigcchafpenhiaaChecked
import GoSem.Claim
import GoSem.ClaimJoined
import GoSem.ClaimMapViews
import Derived.JoinedTies
import Derived.KernelRfl
namespace Go.Proofs.Ytigcchafpenhiaa
/- THE CELL 'sum', in the pinned program and in every row, IS THE sha256 OF THE DUMP (.gsa) THAT YtigcchafpenhiaaProg.lean LOADS. Nothing in Lean hashes anything: it is a label: what it is worth is what the hold of that sum in a sandbox is worth. -/
noncomputable def Try.pinned : Pinned := { name := "ytigcchafpenhiaa", sum := "72efad3c14d93b90fbac5bc39ad008d564d2c64174202c160cf293147bf0eaa2", checked := Try.checked }
namespace Rows
def none {H : Type} : Left H := { results := [], args := [] }

/-- 'telecinelaw07.ScanMoves': WHATEVER THE INPUT: true; the input reads as it did. -/
def scanMovesSpec : ChangeSpec := { name := "scanMoves", fn := fun _ => fun
  | [d1, d2, d3] => { results := [.lit (.bool true)], args := [d1, d2, d3] }
  | _ => none }
def scanMovesRow : OpenClaim := { program := "ytigcchafpenhiaa", sum := "72efad3c14d93b90fbac5bc39ad008d564d2c64174202c160cf293147bf0eaa2", func := "telecine/telecinelaw07.ScanMoves", spec := "scanMoves", unfollowed := true, recurses := true, apart := false }
def ScanMovesSaid : Prop := scanMovesRow.holds Try.pinned (OpenSpec.ofChange scanMovesSpec)

/-- ITS FALSE NEIGHBOUR: 'it returns false'. Refute it at one input. -/
def scanMovesWrong : ChangeSpec := { name := "scanMoves", fn := fun _ => fun
  | [d1, d2, d3] => { results := [.lit (.bool false)], args := [d1, d2, d3] }
  | _ => none }
def ScanMovesWrongFalsely : Prop := scanMovesRow.holds Try.pinned (OpenSpec.ofChange scanMovesWrong)

/-- 'telecinelaw07.ScanSteadies': WHATEVER THE INPUT: true; the input reads as it did. -/
def scanSteadiesSpec : ChangeSpec := { name := "scanSteadies", fn := fun _ => fun
  | [d1, d2, d3] => { results := [.lit (.bool true)], args := [d1, d2, d3] }
  | _ => none }
def scanSteadiesRow : OpenClaim := { program := "ytigcchafpenhiaa", sum := "72efad3c14d93b90fbac5bc39ad008d564d2c64174202c160cf293147bf0eaa2", func := "telecine/telecinelaw07.ScanSteadies", spec := "scanSteadies", unfollowed := true, recurses := true, apart := false }
def ScanSteadiesSaid : Prop := scanSteadiesRow.holds Try.pinned (OpenSpec.ofChange scanSteadiesSpec)

/-- ITS FALSE NEIGHBOUR: 'it returns false'. Refute it at one input. -/
def scanSteadiesWrong : ChangeSpec := { name := "scanSteadies", fn := fun _ => fun
  | [d1, d2, d3] => { results := [.lit (.bool false)], args := [d1, d2, d3] }
  | _ => none }
def ScanSteadiesWrongFalsely : Prop := scanSteadiesRow.holds Try.pinned (OpenSpec.ofChange scanSteadiesWrong)

/-- 'telecinelaw07.ScanBack': WHATEVER THE INPUT: true; the input reads as it did. -/
def scanBackSpec : ChangeSpec := { name := "scanBack", fn := fun _ => fun
  | [d1, d2, d3] => { results := [.lit (.bool true)], args := [d1, d2, d3] }
  | _ => none }
def scanBackRow : OpenClaim := { program := "ytigcchafpenhiaa", sum := "72efad3c14d93b90fbac5bc39ad008d564d2c64174202c160cf293147bf0eaa2", func := "telecine/telecinelaw07.ScanBack", spec := "scanBack", unfollowed := true, recurses := true, apart := false }
def ScanBackSaid : Prop := scanBackRow.holds Try.pinned (OpenSpec.ofChange scanBackSpec)

/-- ITS FALSE NEIGHBOUR: 'it returns false'. Refute it at one input. -/
def scanBackWrong : ChangeSpec := { name := "scanBack", fn := fun _ => fun
  | [d1, d2, d3] => { results := [.lit (.bool false)], args := [d1, d2, d3] }
  | _ => none }
def ScanBackWrongFalsely : Prop := scanBackRow.holds Try.pinned (OpenSpec.ofChange scanBackWrong)

/-- 'telecinelaw07.ScanSteady': WHATEVER THE INPUT: true; the input reads as it did. -/
def scanSteadySpec : ChangeSpec := { name := "scanSteady", fn := fun _ => fun
  | [d1, d2, d3] => { results := [.lit (.bool true)], args := [d1, d2, d3] }
  | _ => none }
def scanSteadyRow : OpenClaim := { program := "ytigcchafpenhiaa", sum := "72efad3c14d93b90fbac5bc39ad008d564d2c64174202c160cf293147bf0eaa2", func := "telecine/telecinelaw07.ScanSteady", spec := "scanSteady", unfollowed := true, recurses := true, apart := false }
def ScanSteadySaid : Prop := scanSteadyRow.holds Try.pinned (OpenSpec.ofChange scanSteadySpec)

/-- ITS FALSE NEIGHBOUR: 'it returns false'. Refute it at one input. -/
def scanSteadyWrong : ChangeSpec := { name := "scanSteady", fn := fun _ => fun
  | [d1, d2, d3] => { results := [.lit (.bool false)], args := [d1, d2, d3] }
  | _ => none }
def ScanSteadyWrongFalsely : Prop := scanSteadyRow.holds Try.pinned (OpenSpec.ofChange scanSteadyWrong)

/-- 'telecinelaw07.ScanLight': WHATEVER THE INPUT: true; the input reads as it did. -/
def scanLightSpec : ChangeSpec := { name := "scanLight", fn := fun _ => fun
  | [d1, d2, d3] => { results := [.lit (.bool true)], args := [d1, d2, d3] }
  | _ => none }
def scanLightRow : OpenClaim := { program := "ytigcchafpenhiaa", sum := "72efad3c14d93b90fbac5bc39ad008d564d2c64174202c160cf293147bf0eaa2", func := "telecine/telecinelaw07.ScanLight", spec := "scanLight", unfollowed := true, recurses := true, apart := false }
def ScanLightSaid : Prop := scanLightRow.holds Try.pinned (OpenSpec.ofChange scanLightSpec)

/-- ITS FALSE NEIGHBOUR: 'it returns false'. Refute it at one input. -/
def scanLightWrong : ChangeSpec := { name := "scanLight", fn := fun _ => fun
  | [d1, d2, d3] => { results := [.lit (.bool false)], args := [d1, d2, d3] }
  | _ => none }
def ScanLightWrongFalsely : Prop := scanLightRow.holds Try.pinned (OpenSpec.ofChange scanLightWrong)

/-- 'telecinelaw07.ScanLights': WHATEVER THE INPUT: true; the input reads as it did. -/
def scanLightsSpec : ChangeSpec := { name := "scanLights", fn := fun _ => fun
  | [d1, d2, d3] => { results := [.lit (.bool true)], args := [d1, d2, d3] }
  | _ => none }
def scanLightsRow : OpenClaim := { program := "ytigcchafpenhiaa", sum := "72efad3c14d93b90fbac5bc39ad008d564d2c64174202c160cf293147bf0eaa2", func := "telecine/telecinelaw07.ScanLights", spec := "scanLights", unfollowed := true, recurses := true, apart := false }
def ScanLightsSaid : Prop := scanLightsRow.holds Try.pinned (OpenSpec.ofChange scanLightsSpec)

/-- ITS FALSE NEIGHBOUR: 'it returns false'. Refute it at one input. -/
def scanLightsWrong : ChangeSpec := { name := "scanLights", fn := fun _ => fun
  | [d1, d2, d3] => { results := [.lit (.bool false)], args := [d1, d2, d3] }
  | _ => none }
def ScanLightsWrongFalsely : Prop := scanLightsRow.holds Try.pinned (OpenSpec.ofChange scanLightsWrong)

/-- 'telecinelaw07.ScanEven': WHATEVER THE INPUT: true; the input reads as it did. -/
def scanEvenSpec : ChangeSpec := { name := "scanEven", fn := fun _ => fun
  | [d1, d2] => { results := [.lit (.bool true)], args := [d1, d2] }
  | _ => none }
def scanEvenRow : OpenClaim := { program := "ytigcchafpenhiaa", sum := "72efad3c14d93b90fbac5bc39ad008d564d2c64174202c160cf293147bf0eaa2", func := "telecine/telecinelaw07.ScanEven", spec := "scanEven", unfollowed := true, recurses := true, apart := false }
def ScanEvenSaid : Prop := scanEvenRow.holds Try.pinned (OpenSpec.ofChange scanEvenSpec)

/-- ITS FALSE NEIGHBOUR: 'it returns false'. Refute it at one input. -/
def scanEvenWrong : ChangeSpec := { name := "scanEven", fn := fun _ => fun
  | [d1, d2] => { results := [.lit (.bool false)], args := [d1, d2] }
  | _ => none }
def ScanEvenWrongFalsely : Prop := scanEvenRow.holds Try.pinned (OpenSpec.ofChange scanEvenWrong)

/-- 'telecinelaw07.ScanDusts': WHATEVER THE INPUT: true; the input reads as it did. -/
def scanDustsSpec : ChangeSpec := { name := "scanDusts", fn := fun _ => fun
  | [d1, d2, d3] => { results := [.lit (.bool true)], args := [d1, d2, d3] }
  | _ => none }
def scanDustsRow : OpenClaim := { program := "ytigcchafpenhiaa", sum := "72efad3c14d93b90fbac5bc39ad008d564d2c64174202c160cf293147bf0eaa2", func := "telecine/telecinelaw07.ScanDusts", spec := "scanDusts", unfollowed := true, recurses := true, apart := false }
def ScanDustsSaid : Prop := scanDustsRow.holds Try.pinned (OpenSpec.ofChange scanDustsSpec)

/-- ITS FALSE NEIGHBOUR: 'it returns false'. Refute it at one input. -/
def scanDustsWrong : ChangeSpec := { name := "scanDusts", fn := fun _ => fun
  | [d1, d2, d3] => { results := [.lit (.bool false)], args := [d1, d2, d3] }
  | _ => none }
def ScanDustsWrongFalsely : Prop := scanDustsRow.holds Try.pinned (OpenSpec.ofChange scanDustsWrong)

/-- 'telecinelaw07.ScanMasks': WHATEVER THE INPUT: true; the input reads as it did. -/
def scanMasksSpec : ChangeSpec := { name := "scanMasks", fn := fun _ => fun
  | [d1, d2, d3] => { results := [.lit (.bool true)], args := [d1, d2, d3] }
  | _ => none }
def scanMasksRow : OpenClaim := { program := "ytigcchafpenhiaa", sum := "72efad3c14d93b90fbac5bc39ad008d564d2c64174202c160cf293147bf0eaa2", func := "telecine/telecinelaw07.ScanMasks", spec := "scanMasks", unfollowed := true, recurses := true, apart := false }
def ScanMasksSaid : Prop := scanMasksRow.holds Try.pinned (OpenSpec.ofChange scanMasksSpec)

/-- ITS FALSE NEIGHBOUR: 'it returns false'. Refute it at one input. -/
def scanMasksWrong : ChangeSpec := { name := "scanMasks", fn := fun _ => fun
  | [d1, d2, d3] => { results := [.lit (.bool false)], args := [d1, d2, d3] }
  | _ => none }
def ScanMasksWrongFalsely : Prop := scanMasksRow.holds Try.pinned (OpenSpec.ofChange scanMasksWrong)

/-- 'telecinelaw07.ScanFlickers': WHATEVER THE INPUT: true; the input reads as it did. -/
def scanFlickersSpec : ChangeSpec := { name := "scanFlickers", fn := fun _ => fun
  | [d1, d2] => { results := [.lit (.bool true)], args := [d1, d2] }
  | _ => none }
def scanFlickersRow : OpenClaim := { program := "ytigcchafpenhiaa", sum := "72efad3c14d93b90fbac5bc39ad008d564d2c64174202c160cf293147bf0eaa2", func := "telecine/telecinelaw07.ScanFlickers", spec := "scanFlickers", unfollowed := true, recurses := true, apart := false }
def ScanFlickersSaid : Prop := scanFlickersRow.holds Try.pinned (OpenSpec.ofChange scanFlickersSpec)

/-- ITS FALSE NEIGHBOUR: 'it returns false'. Refute it at one input. -/
def scanFlickersWrong : ChangeSpec := { name := "scanFlickers", fn := fun _ => fun
  | [d1, d2] => { results := [.lit (.bool false)], args := [d1, d2] }
  | _ => none }
def ScanFlickersWrongFalsely : Prop := scanFlickersRow.holds Try.pinned (OpenSpec.ofChange scanFlickersWrong)

/-- 'telecinelaw07.ScanFlicker': WHATEVER THE INPUT: true; the input reads as it did. -/
def scanFlickerSpec : ChangeSpec := { name := "scanFlicker", fn := fun _ => fun
  | [d1, d2, d3] => { results := [.lit (.bool true)], args := [d1, d2, d3] }
  | _ => none }
def scanFlickerRow : OpenClaim := { program := "ytigcchafpenhiaa", sum := "72efad3c14d93b90fbac5bc39ad008d564d2c64174202c160cf293147bf0eaa2", func := "telecine/telecinelaw07.ScanFlicker", spec := "scanFlicker", unfollowed := true, recurses := true, apart := false }
def ScanFlickerSaid : Prop := scanFlickerRow.holds Try.pinned (OpenSpec.ofChange scanFlickerSpec)

/-- ITS FALSE NEIGHBOUR: 'it returns false'. Refute it at one input. -/
def scanFlickerWrong : ChangeSpec := { name := "scanFlicker", fn := fun _ => fun
  | [d1, d2, d3] => { results := [.lit (.bool false)], args := [d1, d2, d3] }
  | _ => none }
def ScanFlickerWrongFalsely : Prop := scanFlickerRow.holds Try.pinned (OpenSpec.ofChange scanFlickerWrong)

/-- 'telecinelaw07.ScanKnown': WHATEVER THE INPUT: true; the input reads as it did. -/
def scanKnownSpec : ChangeSpec := { name := "scanKnown", fn := fun _ => fun
  | [] => { results := [.lit (.bool true)], args := [] }
  | _ => none }
def scanKnownRow : OpenClaim := { program := "ytigcchafpenhiaa", sum := "72efad3c14d93b90fbac5bc39ad008d564d2c64174202c160cf293147bf0eaa2", func := "telecine/telecinelaw07.ScanKnown", spec := "scanKnown", unfollowed := true, recurses := true, apart := false }
def ScanKnownSaid : Prop := scanKnownRow.holds Try.pinned (OpenSpec.ofChange scanKnownSpec)

/-- ITS FALSE NEIGHBOUR: 'it returns false'. Refute it at one input. -/
def scanKnownWrong : ChangeSpec := { name := "scanKnown", fn := fun _ => fun
  | [] => { results := [.lit (.bool false)], args := [] }
  | _ => none }
def ScanKnownWrongFalsely : Prop := scanKnownRow.holds Try.pinned (OpenSpec.ofChange scanKnownWrong)

/-- 'telecinelaw07.ScanFiles': WHATEVER THE INPUT: true; the input reads as it did. -/
def scanFilesSpec : ChangeSpec := { name := "scanFiles", fn := fun _ => fun
  | [d1, d2] => { results := [.lit (.bool true)], args := [d1, d2] }
  | _ => none }
def scanFilesRow : OpenClaim := { program := "ytigcchafpenhiaa", sum := "72efad3c14d93b90fbac5bc39ad008d564d2c64174202c160cf293147bf0eaa2", func := "telecine/telecinelaw07.ScanFiles", spec := "scanFiles", inPlace := ["internal/bytealg.MakeNoZero"], unfollowed := true, recurses := true, apart := false }
def ScanFilesSaid : Prop := scanFilesRow.holds Try.pinned (OpenSpec.ofChange scanFilesSpec)

/-- ITS FALSE NEIGHBOUR: 'it returns false'. Refute it at one input. -/
def scanFilesWrong : ChangeSpec := { name := "scanFiles", fn := fun _ => fun
  | [d1, d2] => { results := [.lit (.bool false)], args := [d1, d2] }
  | _ => none }
def ScanFilesWrongFalsely : Prop := scanFilesRow.holds Try.pinned (OpenSpec.ofChange scanFilesWrong)

/-- 'telecinelaw07.ScanBytes': WHATEVER THE INPUT: true; the input reads as it did. -/
def scanBytesSpec : ChangeSpec := { name := "scanBytes", fn := fun _ => fun
  | [d1, d2, d3] => { results := [.lit (.bool true)], args := [d1, d2, d3] }
  | _ => none }
def scanBytesRow : OpenClaim := { program := "ytigcchafpenhiaa", sum := "72efad3c14d93b90fbac5bc39ad008d564d2c64174202c160cf293147bf0eaa2", func := "telecine/telecinelaw07.ScanBytes", spec := "scanBytes", inPlace := ["internal/bytealg.MakeNoZero"], unfollowed := true, recurses := true, apart := false }
def ScanBytesSaid : Prop := scanBytesRow.holds Try.pinned (OpenSpec.ofChange scanBytesSpec)

/-- ITS FALSE NEIGHBOUR: 'it returns false'. Refute it at one input. -/
def scanBytesWrong : ChangeSpec := { name := "scanBytes", fn := fun _ => fun
  | [d1, d2, d3] => { results := [.lit (.bool false)], args := [d1, d2, d3] }
  | _ => none }
def ScanBytesWrongFalsely : Prop := scanBytesRow.holds Try.pinned (OpenSpec.ofChange scanBytesWrong)

/- THE SECOND FORM. 'bulk': how many values and letters a reading holds, each counted each time it is reached (what is shared counts as often as it is met; a slice's spare places count too). A statement '..UptoSaid' is the law's where the arguments, and the package variables that the reading takes, are together of bulk at most 1048576: NARROWER than '..Said'. Prove '..Said' where nothing that the law and all that it calls make is longer than what came in: it says more and counts as full. Else prove '..UptoSaid'. A law counts once. -/
mutual
def uptoBulk {H : Type} : DataW H → Nat
  | .lit (.string bytes) => bytes.length + 1
  | .lit _ => 1
  | .nil => 1
  | .ptr d => uptoBulk d + 1
  | .slice elems spare => uptoBulkAll elems + uptoBulkAll spare + 1
  | .agg parts => uptoBulkAll parts + 1
  | .iface _ d => uptoBulk d + 1
  | .map entries => uptoBulkEntries entries + 1
  | .held _ => 1
def uptoBulkAll {H : Type} : List (DataW H) → Nat
  | [] => 0
  | d :: r => uptoBulk d + uptoBulkAll r
def uptoBulkEntries {H : Type} : List (Lit × DataW H) → Nat
  | [] => 0
  | x :: r => uptoBulkEntry x + uptoBulkEntries r
def uptoBulkEntry {H : Type} : Lit × DataW H → Nat
  | (.string bytes, d) => bytes.length + uptoBulk d + 1
  | (_, d) => uptoBulk d + 1
 end
def uptoSmall : (H : Type) → List (DataW H) → Bool := fun _ ds => decide (uptoBulkAll ds ≤ 1048576)
def OpenSpec.upto (s : _root_.Go.ChangeSpec) : _root_.Go.OpenSpec := { _root_.Go.OpenSpec.ofChange s with cond := some uptoSmall }

/-- 'telecinelaw07.ScanMoves', WHERE WHAT IT READS IS OF BULK AT MOST 1048576: true; the input reads as it did. -/
def scanMovesUptoRow : OpenClaim := { program := "ytigcchafpenhiaa", sum := "72efad3c14d93b90fbac5bc39ad008d564d2c64174202c160cf293147bf0eaa2", func := "telecine/telecinelaw07.ScanMoves", spec := "scanMoves", unfollowed := true, recurses := true, apart := false, narrowed := true }
def ScanMovesUptoSaid : Prop := scanMovesUptoRow.holds Try.pinned (OpenSpec.upto scanMovesSpec)

/-- 'telecinelaw07.ScanSteadies', WHERE WHAT IT READS IS OF BULK AT MOST 1048576: true; the input reads as it did. -/
def scanSteadiesUptoRow : OpenClaim := { program := "ytigcchafpenhiaa", sum := "72efad3c14d93b90fbac5bc39ad008d564d2c64174202c160cf293147bf0eaa2", func := "telecine/telecinelaw07.ScanSteadies", spec := "scanSteadies", unfollowed := true, recurses := true, apart := false, narrowed := true }
def ScanSteadiesUptoSaid : Prop := scanSteadiesUptoRow.holds Try.pinned (OpenSpec.upto scanSteadiesSpec)

/-- 'telecinelaw07.ScanBack', WHERE WHAT IT READS IS OF BULK AT MOST 1048576: true; the input reads as it did. -/
def scanBackUptoRow : OpenClaim := { program := "ytigcchafpenhiaa", sum := "72efad3c14d93b90fbac5bc39ad008d564d2c64174202c160cf293147bf0eaa2", func := "telecine/telecinelaw07.ScanBack", spec := "scanBack", unfollowed := true, recurses := true, apart := false, narrowed := true }
def ScanBackUptoSaid : Prop := scanBackUptoRow.holds Try.pinned (OpenSpec.upto scanBackSpec)

/-- 'telecinelaw07.ScanSteady', WHERE WHAT IT READS IS OF BULK AT MOST 1048576: true; the input reads as it did. -/
def scanSteadyUptoRow : OpenClaim := { program := "ytigcchafpenhiaa", sum := "72efad3c14d93b90fbac5bc39ad008d564d2c64174202c160cf293147bf0eaa2", func := "telecine/telecinelaw07.ScanSteady", spec := "scanSteady", unfollowed := true, recurses := true, apart := false, narrowed := true }
def ScanSteadyUptoSaid : Prop := scanSteadyUptoRow.holds Try.pinned (OpenSpec.upto scanSteadySpec)

/-- 'telecinelaw07.ScanLight', WHERE WHAT IT READS IS OF BULK AT MOST 1048576: true; the input reads as it did. -/
def scanLightUptoRow : OpenClaim := { program := "ytigcchafpenhiaa", sum := "72efad3c14d93b90fbac5bc39ad008d564d2c64174202c160cf293147bf0eaa2", func := "telecine/telecinelaw07.ScanLight", spec := "scanLight", unfollowed := true, recurses := true, apart := false, narrowed := true }
def ScanLightUptoSaid : Prop := scanLightUptoRow.holds Try.pinned (OpenSpec.upto scanLightSpec)

/-- 'telecinelaw07.ScanLights', WHERE WHAT IT READS IS OF BULK AT MOST 1048576: true; the input reads as it did. -/
def scanLightsUptoRow : OpenClaim := { program := "ytigcchafpenhiaa", sum := "72efad3c14d93b90fbac5bc39ad008d564d2c64174202c160cf293147bf0eaa2", func := "telecine/telecinelaw07.ScanLights", spec := "scanLights", unfollowed := true, recurses := true, apart := false, narrowed := true }
def ScanLightsUptoSaid : Prop := scanLightsUptoRow.holds Try.pinned (OpenSpec.upto scanLightsSpec)

/-- 'telecinelaw07.ScanEven', WHERE WHAT IT READS IS OF BULK AT MOST 1048576: true; the input reads as it did. -/
def scanEvenUptoRow : OpenClaim := { program := "ytigcchafpenhiaa", sum := "72efad3c14d93b90fbac5bc39ad008d564d2c64174202c160cf293147bf0eaa2", func := "telecine/telecinelaw07.ScanEven", spec := "scanEven", unfollowed := true, recurses := true, apart := false, narrowed := true }
def ScanEvenUptoSaid : Prop := scanEvenUptoRow.holds Try.pinned (OpenSpec.upto scanEvenSpec)

/-- 'telecinelaw07.ScanDusts', WHERE WHAT IT READS IS OF BULK AT MOST 1048576: true; the input reads as it did. -/
def scanDustsUptoRow : OpenClaim := { program := "ytigcchafpenhiaa", sum := "72efad3c14d93b90fbac5bc39ad008d564d2c64174202c160cf293147bf0eaa2", func := "telecine/telecinelaw07.ScanDusts", spec := "scanDusts", unfollowed := true, recurses := true, apart := false, narrowed := true }
def ScanDustsUptoSaid : Prop := scanDustsUptoRow.holds Try.pinned (OpenSpec.upto scanDustsSpec)

/-- 'telecinelaw07.ScanMasks', WHERE WHAT IT READS IS OF BULK AT MOST 1048576: true; the input reads as it did. -/
def scanMasksUptoRow : OpenClaim := { program := "ytigcchafpenhiaa", sum := "72efad3c14d93b90fbac5bc39ad008d564d2c64174202c160cf293147bf0eaa2", func := "telecine/telecinelaw07.ScanMasks", spec := "scanMasks", unfollowed := true, recurses := true, apart := false, narrowed := true }
def ScanMasksUptoSaid : Prop := scanMasksUptoRow.holds Try.pinned (OpenSpec.upto scanMasksSpec)

/-- 'telecinelaw07.ScanFlickers', WHERE WHAT IT READS IS OF BULK AT MOST 1048576: true; the input reads as it did. -/
def scanFlickersUptoRow : OpenClaim := { program := "ytigcchafpenhiaa", sum := "72efad3c14d93b90fbac5bc39ad008d564d2c64174202c160cf293147bf0eaa2", func := "telecine/telecinelaw07.ScanFlickers", spec := "scanFlickers", unfollowed := true, recurses := true, apart := false, narrowed := true }
def ScanFlickersUptoSaid : Prop := scanFlickersUptoRow.holds Try.pinned (OpenSpec.upto scanFlickersSpec)

/-- 'telecinelaw07.ScanFlicker', WHERE WHAT IT READS IS OF BULK AT MOST 1048576: true; the input reads as it did. -/
def scanFlickerUptoRow : OpenClaim := { program := "ytigcchafpenhiaa", sum := "72efad3c14d93b90fbac5bc39ad008d564d2c64174202c160cf293147bf0eaa2", func := "telecine/telecinelaw07.ScanFlicker", spec := "scanFlicker", unfollowed := true, recurses := true, apart := false, narrowed := true }
def ScanFlickerUptoSaid : Prop := scanFlickerUptoRow.holds Try.pinned (OpenSpec.upto scanFlickerSpec)

/-- 'telecinelaw07.ScanKnown', WHERE WHAT IT READS IS OF BULK AT MOST 1048576: true; the input reads as it did. -/
def scanKnownUptoRow : OpenClaim := { program := "ytigcchafpenhiaa", sum := "72efad3c14d93b90fbac5bc39ad008d564d2c64174202c160cf293147bf0eaa2", func := "telecine/telecinelaw07.ScanKnown", spec := "scanKnown", unfollowed := true, recurses := true, apart := false, narrowed := true }
def ScanKnownUptoSaid : Prop := scanKnownUptoRow.holds Try.pinned (OpenSpec.upto scanKnownSpec)

/-- 'telecinelaw07.ScanFiles', WHERE WHAT IT READS IS OF BULK AT MOST 1048576: true; the input reads as it did. -/
def scanFilesUptoRow : OpenClaim := { program := "ytigcchafpenhiaa", sum := "72efad3c14d93b90fbac5bc39ad008d564d2c64174202c160cf293147bf0eaa2", func := "telecine/telecinelaw07.ScanFiles", spec := "scanFiles", inPlace := ["internal/bytealg.MakeNoZero"], unfollowed := true, recurses := true, apart := false, narrowed := true }
def ScanFilesUptoSaid : Prop := scanFilesUptoRow.holds Try.pinned (OpenSpec.upto scanFilesSpec)

/-- 'telecinelaw07.ScanBytes', WHERE WHAT IT READS IS OF BULK AT MOST 1048576: true; the input reads as it did. -/
def scanBytesUptoRow : OpenClaim := { program := "ytigcchafpenhiaa", sum := "72efad3c14d93b90fbac5bc39ad008d564d2c64174202c160cf293147bf0eaa2", func := "telecine/telecinelaw07.ScanBytes", spec := "scanBytes", inPlace := ["internal/bytealg.MakeNoZero"], unfollowed := true, recurses := true, apart := false, narrowed := true }
def ScanBytesUptoSaid : Prop := scanBytesUptoRow.holds Try.pinned (OpenSpec.upto scanBytesSpec)

end Rows
end Go.Proofs.Ytigcchafpenhiaa
