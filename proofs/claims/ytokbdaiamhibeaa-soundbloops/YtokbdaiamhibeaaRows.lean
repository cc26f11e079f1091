/-
  No cell of these rows narrows 'for every input' (looked for: loops, veiled, ifaces, maps, wideKeys, modest, calm, conditions, laid).
  DERIVED. THE GIVEN ROWS OF THIS SEAT. 14 by the template 'for every input the law returns true; each argument reads behind the call as it read before'; 0 by the template 'total and deterministic' (their statements: YtokbdaiamhibeaaTotals.lean).
  GIVEN WITH THE SEED: the statements are not yours to turn. If you find one false, say at which input.
  Laid BY PROGRAM, IN A SANDBOX (cutbox-rows.mjs): the forced cells as the released guide's own fill.sh prints them over the translation ce9fe97b4c4d7420… (all of the seat's roots in one cut). By AI agents, Wed Nov 11 2026. No macro, syntax, notation, axiom, sorry.
-/
import Derived.Test.YtokbdaiamhibeaaChecked
import GoSem.Claim
import GoSem.ClaimJoined
import GoSem.ClaimMapViews
import Derived.JoinedTies
import Derived.KernelRfl
namespace Go.Proofs.Ytokbdaiamhibeaa
/- THE CELL 'sum', in the pinned program and in every row, IS THE sha256 OF THE DUMP (.gsa) THAT YtokbdaiamhibeaaProg.lean LOADS. Nothing in Lean hashes anything: it is a label: what it is worth is what the hold of that sum in a sandbox is worth. -/
noncomputable def Try.pinned : Pinned := { name := "ytokbdaiamhibeaa", sum := "ce9fe97b4c4d742096195124e5c7f82c6d0bd64bb95b66a31405c117013adc13", checked := Try.checked }
namespace Rows
def none {H : Type} : Left H := { results := [], args := [] }

/-- 'telecinelaw09.SoundTracks': WHATEVER THE INPUT: true; the input reads as it did. -/
def soundTracksSpec : ChangeSpec := { name := "soundTracks", fn := fun _ => fun
  | [d1, d2, d3] => { results := [.lit (.bool true)], args := [d1, d2, d3] }
  | _ => none }
def soundTracksRow : OpenClaim := { program := "ytokbdaiamhibeaa", sum := "ce9fe97b4c4d742096195124e5c7f82c6d0bd64bb95b66a31405c117013adc13", func := "telecine/telecinelaw09.SoundTracks", spec := "soundTracks", unfollowed := true, recurses := true, apart := false }
def SoundTracksSaid : Prop := soundTracksRow.holds Try.pinned (OpenSpec.ofChange soundTracksSpec)

/-- ITS FALSE NEIGHBOUR: 'it returns false'. Refute it at one input. -/
def soundTracksWrong : ChangeSpec := { name := "soundTracks", fn := fun _ => fun
  | [d1, d2, d3] => { results := [.lit (.bool false)], args := [d1, d2, d3] }
  | _ => none }
def SoundTracksWrongFalsely : Prop := soundTracksRow.holds Try.pinned (OpenSpec.ofChange soundTracksWrong)

/-- 'telecinelaw09.SoundSlips': WHATEVER THE INPUT: true; the input reads as it did. -/
def soundSlipsSpec : ChangeSpec := { name := "soundSlips", fn := fun _ => fun
  | [d1, d2] => { results := [.lit (.bool true)], args := [d1, d2] }
  | _ => none }
def soundSlipsRow : OpenClaim := { program := "ytokbdaiamhibeaa", sum := "ce9fe97b4c4d742096195124e5c7f82c6d0bd64bb95b66a31405c117013adc13", func := "telecine/telecinelaw09.SoundSlips", spec := "soundSlips", unfollowed := true, recurses := true, apart := false }
def SoundSlipsSaid : Prop := soundSlipsRow.holds Try.pinned (OpenSpec.ofChange soundSlipsSpec)

/-- ITS FALSE NEIGHBOUR: 'it returns false'. Refute it at one input. -/
def soundSlipsWrong : ChangeSpec := { name := "soundSlips", fn := fun _ => fun
  | [d1, d2] => { results := [.lit (.bool false)], args := [d1, d2] }
  | _ => none }
def SoundSlipsWrongFalsely : Prop := soundSlipsRow.holds Try.pinned (OpenSpec.ofChange soundSlipsWrong)

/-- 'telecinelaw09.SoundLevel': WHATEVER THE INPUT: true; the input reads as it did. -/
def soundLevelSpec : ChangeSpec := { name := "soundLevel", fn := fun _ => fun
  | [d1, d2, d3] => { results := [.lit (.bool true)], args := [d1, d2, d3] }
  | _ => none }
def soundLevelRow : OpenClaim := { program := "ytokbdaiamhibeaa", sum := "ce9fe97b4c4d742096195124e5c7f82c6d0bd64bb95b66a31405c117013adc13", func := "telecine/telecinelaw09.SoundLevel", spec := "soundLevel", unfollowed := true, recurses := true, apart := false }
def SoundLevelSaid : Prop := soundLevelRow.holds Try.pinned (OpenSpec.ofChange soundLevelSpec)

/-- ITS FALSE NEIGHBOUR: 'it returns false'. Refute it at one input. -/
def soundLevelWrong : ChangeSpec := { name := "soundLevel", fn := fun _ => fun
  | [d1, d2, d3] => { results := [.lit (.bool false)], args := [d1, d2, d3] }
  | _ => none }
def SoundLevelWrongFalsely : Prop := soundLevelRow.holds Try.pinned (OpenSpec.ofChange soundLevelWrong)

/-- 'telecinelaw09.SoundSlip': WHATEVER THE INPUT: true; the input reads as it did. -/
def soundSlipSpec : ChangeSpec := { name := "soundSlip", fn := fun _ => fun
  | [d1, d2] => { results := [.lit (.bool true)], args := [d1, d2] }
  | _ => none }
def soundSlipRow : OpenClaim := { program := "ytokbdaiamhibeaa", sum := "ce9fe97b4c4d742096195124e5c7f82c6d0bd64bb95b66a31405c117013adc13", func := "telecine/telecinelaw09.SoundSlip", spec := "soundSlip", unfollowed := true, recurses := true, apart := false }
def SoundSlipSaid : Prop := soundSlipRow.holds Try.pinned (OpenSpec.ofChange soundSlipSpec)

/-- ITS FALSE NEIGHBOUR: 'it returns false'. Refute it at one input. -/
def soundSlipWrong : ChangeSpec := { name := "soundSlip", fn := fun _ => fun
  | [d1, d2] => { results := [.lit (.bool false)], args := [d1, d2] }
  | _ => none }
def SoundSlipWrongFalsely : Prop := soundSlipRow.holds Try.pinned (OpenSpec.ofChange soundSlipWrong)

/-- 'telecinelaw09.SoundSyncs': WHATEVER THE INPUT: true; the input reads as it did. -/
def soundSyncsSpec : ChangeSpec := { name := "soundSyncs", fn := fun _ => fun
  | [d1, d2] => { results := [.lit (.bool true)], args := [d1, d2] }
  | _ => none }
def soundSyncsRow : OpenClaim := { program := "ytokbdaiamhibeaa", sum := "ce9fe97b4c4d742096195124e5c7f82c6d0bd64bb95b66a31405c117013adc13", func := "telecine/telecinelaw09.SoundSyncs", spec := "soundSyncs", unfollowed := true, recurses := true, apart := false }
def SoundSyncsSaid : Prop := soundSyncsRow.holds Try.pinned (OpenSpec.ofChange soundSyncsSpec)

/-- ITS FALSE NEIGHBOUR: 'it returns false'. Refute it at one input. -/
def soundSyncsWrong : ChangeSpec := { name := "soundSyncs", fn := fun _ => fun
  | [d1, d2] => { results := [.lit (.bool false)], args := [d1, d2] }
  | _ => none }
def SoundSyncsWrongFalsely : Prop := soundSyncsRow.holds Try.pinned (OpenSpec.ofChange soundSyncsWrong)

/-- 'telecinelaw09.SoundTrue': WHATEVER THE INPUT: true; the input reads as it did. -/
def soundTrueSpec : ChangeSpec := { name := "soundTrue", fn := fun _ => fun
  | [d1, d2, d3] => { results := [.lit (.bool true)], args := [d1, d2, d3] }
  | _ => none }
def soundTrueRow : OpenClaim := { program := "ytokbdaiamhibeaa", sum := "ce9fe97b4c4d742096195124e5c7f82c6d0bd64bb95b66a31405c117013adc13", func := "telecine/telecinelaw09.SoundTrue", spec := "soundTrue", unfollowed := true, recurses := true, apart := false }
def SoundTrueSaid : Prop := soundTrueRow.holds Try.pinned (OpenSpec.ofChange soundTrueSpec)

/-- ITS FALSE NEIGHBOUR: 'it returns false'. Refute it at one input. -/
def soundTrueWrong : ChangeSpec := { name := "soundTrue", fn := fun _ => fun
  | [d1, d2, d3] => { results := [.lit (.bool false)], args := [d1, d2, d3] }
  | _ => none }
def SoundTrueWrongFalsely : Prop := soundTrueRow.holds Try.pinned (OpenSpec.ofChange soundTrueWrong)

/-- 'telecinelaw09.SoundStruck': WHATEVER THE INPUT: true; the input reads as it did. -/
def soundStruckSpec : ChangeSpec := { name := "soundStruck", fn := fun _ => fun
  | [d1, d2, d3] => { results := [.lit (.bool true)], args := [d1, d2, d3] }
  | _ => none }
def soundStruckRow : OpenClaim := { program := "ytokbdaiamhibeaa", sum := "ce9fe97b4c4d742096195124e5c7f82c6d0bd64bb95b66a31405c117013adc13", func := "telecine/telecinelaw09.SoundStruck", spec := "soundStruck", unfollowed := true, recurses := true, apart := false }
def SoundStruckSaid : Prop := soundStruckRow.holds Try.pinned (OpenSpec.ofChange soundStruckSpec)

/-- ITS FALSE NEIGHBOUR: 'it returns false'. Refute it at one input. -/
def soundStruckWrong : ChangeSpec := { name := "soundStruck", fn := fun _ => fun
  | [d1, d2, d3] => { results := [.lit (.bool false)], args := [d1, d2, d3] }
  | _ => none }
def SoundStruckWrongFalsely : Prop := soundStruckRow.holds Try.pinned (OpenSpec.ofChange soundStruckWrong)

/-- 'telecinelaw09.SoundFits': WHATEVER THE INPUT: true; the input reads as it did. -/
def soundFitsSpec : ChangeSpec := { name := "soundFits", fn := fun _ => fun
  | [d1, d2] => { results := [.lit (.bool true)], args := [d1, d2] }
  | _ => none }
def soundFitsRow : OpenClaim := { program := "ytokbdaiamhibeaa", sum := "ce9fe97b4c4d742096195124e5c7f82c6d0bd64bb95b66a31405c117013adc13", func := "telecine/telecinelaw09.SoundFits", spec := "soundFits", unfollowed := true, recurses := true, apart := false }
def SoundFitsSaid : Prop := soundFitsRow.holds Try.pinned (OpenSpec.ofChange soundFitsSpec)

/-- ITS FALSE NEIGHBOUR: 'it returns false'. Refute it at one input. -/
def soundFitsWrong : ChangeSpec := { name := "soundFits", fn := fun _ => fun
  | [d1, d2] => { results := [.lit (.bool false)], args := [d1, d2] }
  | _ => none }
def SoundFitsWrongFalsely : Prop := soundFitsRow.holds Try.pinned (OpenSpec.ofChange soundFitsWrong)

/-- 'telecinelaw09.SoundBest': WHATEVER THE INPUT: true; the input reads as it did. -/
def soundBestSpec : ChangeSpec := { name := "soundBest", fn := fun _ => fun
  | [d1, d2, d3] => { results := [.lit (.bool true)], args := [d1, d2, d3] }
  | _ => none }
def soundBestRow : OpenClaim := { program := "ytokbdaiamhibeaa", sum := "ce9fe97b4c4d742096195124e5c7f82c6d0bd64bb95b66a31405c117013adc13", func := "telecine/telecinelaw09.SoundBest", spec := "soundBest", unfollowed := true, recurses := true, apart := false }
def SoundBestSaid : Prop := soundBestRow.holds Try.pinned (OpenSpec.ofChange soundBestSpec)

/-- ITS FALSE NEIGHBOUR: 'it returns false'. Refute it at one input. -/
def soundBestWrong : ChangeSpec := { name := "soundBest", fn := fun _ => fun
  | [d1, d2, d3] => { results := [.lit (.bool false)], args := [d1, d2, d3] }
  | _ => none }
def SoundBestWrongFalsely : Prop := soundBestRow.holds Try.pinned (OpenSpec.ofChange soundBestWrong)

/-- 'telecinelaw09.SoundPulls': WHATEVER THE INPUT: true; the input reads as it did. -/
def soundPullsSpec : ChangeSpec := { name := "soundPulls", fn := fun _ => fun
  | [d1, d2] => { results := [.lit (.bool true)], args := [d1, d2] }
  | _ => none }
def soundPullsRow : OpenClaim := { program := "ytokbdaiamhibeaa", sum := "ce9fe97b4c4d742096195124e5c7f82c6d0bd64bb95b66a31405c117013adc13", func := "telecine/telecinelaw09.SoundPulls", spec := "soundPulls", unfollowed := true, recurses := true, apart := false }
def SoundPullsSaid : Prop := soundPullsRow.holds Try.pinned (OpenSpec.ofChange soundPullsSpec)

/-- ITS FALSE NEIGHBOUR: 'it returns false'. Refute it at one input. -/
def soundPullsWrong : ChangeSpec := { name := "soundPulls", fn := fun _ => fun
  | [d1, d2] => { results := [.lit (.bool false)], args := [d1, d2] }
  | _ => none }
def SoundPullsWrongFalsely : Prop := soundPullsRow.holds Try.pinned (OpenSpec.ofChange soundPullsWrong)

/-- 'telecinelaw09.SoundBloops': WHATEVER THE INPUT: true; the input reads as it did. -/
def soundBloopsSpec : ChangeSpec := { name := "soundBloops", fn := fun _ => fun
  | [d1, d2] => { results := [.lit (.bool true)], args := [d1, d2] }
  | _ => none }
def soundBloopsRow : OpenClaim := { program := "ytokbdaiamhibeaa", sum := "ce9fe97b4c4d742096195124e5c7f82c6d0bd64bb95b66a31405c117013adc13", func := "telecine/telecinelaw09.SoundBloops", spec := "soundBloops", unfollowed := true, recurses := true, apart := false }
def SoundBloopsSaid : Prop := soundBloopsRow.holds Try.pinned (OpenSpec.ofChange soundBloopsSpec)

/-- ITS FALSE NEIGHBOUR: 'it returns false'. Refute it at one input. -/
def soundBloopsWrong : ChangeSpec := { name := "soundBloops", fn := fun _ => fun
  | [d1, d2] => { results := [.lit (.bool false)], args := [d1, d2] }
  | _ => none }
def SoundBloopsWrongFalsely : Prop := soundBloopsRow.holds Try.pinned (OpenSpec.ofChange soundBloopsWrong)

/-- 'telecinelaw09.SoundHums': WHATEVER THE INPUT: true; the input reads as it did. -/
def soundHumsSpec : ChangeSpec := { name := "soundHums", fn := fun _ => fun
  | [d1, d2, d3] => { results := [.lit (.bool true)], args := [d1, d2, d3] }
  | _ => none }
def soundHumsRow : OpenClaim := { program := "ytokbdaiamhibeaa", sum := "ce9fe97b4c4d742096195124e5c7f82c6d0bd64bb95b66a31405c117013adc13", func := "telecine/telecinelaw09.SoundHums", spec := "soundHums", unfollowed := true, recurses := true, apart := false }
def SoundHumsSaid : Prop := soundHumsRow.holds Try.pinned (OpenSpec.ofChange soundHumsSpec)

/-- ITS FALSE NEIGHBOUR: 'it returns false'. Refute it at one input. -/
def soundHumsWrong : ChangeSpec := { name := "soundHums", fn := fun _ => fun
  | [d1, d2, d3] => { results := [.lit (.bool false)], args := [d1, d2, d3] }
  | _ => none }
def SoundHumsWrongFalsely : Prop := soundHumsRow.holds Try.pinned (OpenSpec.ofChange soundHumsWrong)

/-- 'telecinelaw09.SoundQuiet': WHATEVER THE INPUT: true; the input reads as it did. -/
def soundQuietSpec : ChangeSpec := { name := "soundQuiet", fn := fun _ => fun
  | [d1, d2, d3] => { results := [.lit (.bool true)], args := [d1, d2, d3] }
  | _ => none }
def soundQuietRow : OpenClaim := { program := "ytokbdaiamhibeaa", sum := "ce9fe97b4c4d742096195124e5c7f82c6d0bd64bb95b66a31405c117013adc13", func := "telecine/telecinelaw09.SoundQuiet", spec := "soundQuiet", unfollowed := true, recurses := true, apart := false }
def SoundQuietSaid : Prop := soundQuietRow.holds Try.pinned (OpenSpec.ofChange soundQuietSpec)

/-- ITS FALSE NEIGHBOUR: 'it returns false'. Refute it at one input. -/
def soundQuietWrong : ChangeSpec := { name := "soundQuiet", fn := fun _ => fun
  | [d1, d2, d3] => { results := [.lit (.bool false)], args := [d1, d2, d3] }
  | _ => none }
def SoundQuietWrongFalsely : Prop := soundQuietRow.holds Try.pinned (OpenSpec.ofChange soundQuietWrong)

/-- 'telecinelaw09.SoundKnown': WHATEVER THE INPUT: true; the input reads as it did. -/
def soundKnownSpec : ChangeSpec := { name := "soundKnown", fn := fun _ => fun
  | [] => { results := [.lit (.bool true)], args := [] }
  | _ => none }
def soundKnownRow : OpenClaim := { program := "ytokbdaiamhibeaa", sum := "ce9fe97b4c4d742096195124e5c7f82c6d0bd64bb95b66a31405c117013adc13", func := "telecine/telecinelaw09.SoundKnown", spec := "soundKnown", unfollowed := true, recurses := true, apart := false }
def SoundKnownSaid : Prop := soundKnownRow.holds Try.pinned (OpenSpec.ofChange soundKnownSpec)

/-- ITS FALSE NEIGHBOUR: 'it returns false'. Refute it at one input. -/
def soundKnownWrong : ChangeSpec := { name := "soundKnown", fn := fun _ => fun
  | [] => { results := [.lit (.bool false)], args := [] }
  | _ => none }
def SoundKnownWrongFalsely : Prop := soundKnownRow.holds Try.pinned (OpenSpec.ofChange soundKnownWrong)

/- THE SECOND FORM. 'bulk': how many values and letters a reading holds, each counted each time it is reached (what is shared counts as often as it is met; a slice's spare places count too). A statement '..UptoSaid' is the law's where the arguments, and the package variables that the reading takes, are together of bulk at most 1048576: NARROWER than '..Said'. Prove '..Said' where nothing that the law and all that it calls make is longer than what came in: it says more and counts as full. Else prove '..UptoSaid'. A law counts once. -/
mutual
def uptoBulk {H : Type} : DataW H → Nat
  | .lit (.string bytes) => bytes.length + 1
  | .lit _ => 1
  | .nil => 1
  | .ptr d => uptoBulk d + 1
  | .slice elems spare => uptoBulkAll elems + uptoBulkAll spare + 1
  | .agg parts => uptoBulkAll parts + 1
  | .iface _ d => uptoBulk d + 1
  | .map entries => uptoBulkEntries entries + 1
  | .held _ => 1
def uptoBulkAll {H : Type} : List (DataW H) → Nat
  | [] => 0
  | d :: r => uptoBulk d + uptoBulkAll r
def uptoBulkEntries {H : Type} : List (Lit × DataW H) → Nat
  | [] => 0
  | x :: r => uptoBulkEntry x + uptoBulkEntries r
def uptoBulkEntry {H : Type} : Lit × DataW H → Nat
  | (.string bytes, d) => bytes.length + uptoBulk d + 1
  | (_, d) => uptoBulk d + 1
 end
def uptoSmall : (H : Type) → List (DataW H) → Bool := fun _ ds => decide (uptoBulkAll ds ≤ 1048576)
def OpenSpec.upto (s : _root_.Go.ChangeSpec) : _root_.Go.OpenSpec := { _root_.Go.OpenSpec.ofChange s with cond := some uptoSmall }

/-- 'telecinelaw09.SoundTracks', WHERE WHAT IT READS IS OF BULK AT MOST 1048576: true; the input reads as it did. -/
def soundTracksUptoRow : OpenClaim := { program := "ytokbdaiamhibeaa", sum := "ce9fe97b4c4d742096195124e5c7f82c6d0bd64bb95b66a31405c117013adc13", func := "telecine/telecinelaw09.SoundTracks", spec := "soundTracks", unfollowed := true, recurses := true, apart := false, narrowed := true }
def SoundTracksUptoSaid : Prop := soundTracksUptoRow.holds Try.pinned (OpenSpec.upto soundTracksSpec)

/-- 'telecinelaw09.SoundSlips', WHERE WHAT IT READS IS OF BULK AT MOST 1048576: true; the input reads as it did. -/
def soundSlipsUptoRow : OpenClaim := { program := "ytokbdaiamhibeaa", sum := "ce9fe97b4c4d742096195124e5c7f82c6d0bd64bb95b66a31405c117013adc13", func := "telecine/telecinelaw09.SoundSlips", spec := "soundSlips", unfollowed := true, recurses := true, apart := false, narrowed := true }
def SoundSlipsUptoSaid : Prop := soundSlipsUptoRow.holds Try.pinned (OpenSpec.upto soundSlipsSpec)

/-- 'telecinelaw09.SoundLevel', WHERE WHAT IT READS IS OF BULK AT MOST 1048576: true; the input reads as it did. -/
def soundLevelUptoRow : OpenClaim := { program := "ytokbdaiamhibeaa", sum := "ce9fe97b4c4d742096195124e5c7f82c6d0bd64bb95b66a31405c117013adc13", func := "telecine/telecinelaw09.SoundLevel", spec := "soundLevel", unfollowed := true, recurses := true, apart := false, narrowed := true }
def SoundLevelUptoSaid : Prop := soundLevelUptoRow.holds Try.pinned (OpenSpec.upto soundLevelSpec)

/-- 'telecinelaw09.SoundSlip', WHERE WHAT IT READS IS OF BULK AT MOST 1048576: true; the input reads as it did. -/
def soundSlipUptoRow : OpenClaim := { program := "ytokbdaiamhibeaa", sum := "ce9fe97b4c4d742096195124e5c7f82c6d0bd64bb95b66a31405c117013adc13", func := "telecine/telecinelaw09.SoundSlip", spec := "soundSlip", unfollowed := true, recurses := true, apart := false, narrowed := true }
def SoundSlipUptoSaid : Prop := soundSlipUptoRow.holds Try.pinned (OpenSpec.upto soundSlipSpec)

/-- 'telecinelaw09.SoundSyncs', WHERE WHAT IT READS IS OF BULK AT MOST 1048576: true; the input reads as it did. -/
def soundSyncsUptoRow : OpenClaim := { program := "ytokbdaiamhibeaa", sum := "ce9fe97b4c4d742096195124e5c7f82c6d0bd64bb95b66a31405c117013adc13", func := "telecine/telecinelaw09.SoundSyncs", spec := "soundSyncs", unfollowed := true, recurses := true, apart := false, narrowed := true }
def SoundSyncsUptoSaid : Prop := soundSyncsUptoRow.holds Try.pinned (OpenSpec.upto soundSyncsSpec)

/-- 'telecinelaw09.SoundTrue', WHERE WHAT IT READS IS OF BULK AT MOST 1048576: true; the input reads as it did. -/
def soundTrueUptoRow : OpenClaim := { program := "ytokbdaiamhibeaa", sum := "ce9fe97b4c4d742096195124e5c7f82c6d0bd64bb95b66a31405c117013adc13", func := "telecine/telecinelaw09.SoundTrue", spec := "soundTrue", unfollowed := true, recurses := true, apart := false, narrowed := true }
def SoundTrueUptoSaid : Prop := soundTrueUptoRow.holds Try.pinned (OpenSpec.upto soundTrueSpec)

/-- 'telecinelaw09.SoundStruck', WHERE WHAT IT READS IS OF BULK AT MOST 1048576: true; the input reads as it did. -/
def soundStruckUptoRow : OpenClaim := { program := "ytokbdaiamhibeaa", sum := "ce9fe97b4c4d742096195124e5c7f82c6d0bd64bb95b66a31405c117013adc13", func := "telecine/telecinelaw09.SoundStruck", spec := "soundStruck", unfollowed := true, recurses := true, apart := false, narrowed := true }
def SoundStruckUptoSaid : Prop := soundStruckUptoRow.holds Try.pinned (OpenSpec.upto soundStruckSpec)

/-- 'telecinelaw09.SoundFits', WHERE WHAT IT READS IS OF BULK AT MOST 1048576: true; the input reads as it did. -/
def soundFitsUptoRow : OpenClaim := { program := "ytokbdaiamhibeaa", sum := "ce9fe97b4c4d742096195124e5c7f82c6d0bd64bb95b66a31405c117013adc13", func := "telecine/telecinelaw09.SoundFits", spec := "soundFits", unfollowed := true, recurses := true, apart := false, narrowed := true }
def SoundFitsUptoSaid : Prop := soundFitsUptoRow.holds Try.pinned (OpenSpec.upto soundFitsSpec)

/-- 'telecinelaw09.SoundBest', WHERE WHAT IT READS IS OF BULK AT MOST 1048576: true; the input reads as it did. -/
def soundBestUptoRow : OpenClaim := { program := "ytokbdaiamhibeaa", sum := "ce9fe97b4c4d742096195124e5c7f82c6d0bd64bb95b66a31405c117013adc13", func := "telecine/telecinelaw09.SoundBest", spec := "soundBest", unfollowed := true, recurses := true, apart := false, narrowed := true }
def SoundBestUptoSaid : Prop := soundBestUptoRow.holds Try.pinned (OpenSpec.upto soundBestSpec)

/-- 'telecinelaw09.SoundPulls', WHERE WHAT IT READS IS OF BULK AT MOST 1048576: true; the input reads as it did. -/
def soundPullsUptoRow : OpenClaim := { program := "ytokbdaiamhibeaa", sum := "ce9fe97b4c4d742096195124e5c7f82c6d0bd64bb95b66a31405c117013adc13", func := "telecine/telecinelaw09.SoundPulls", spec := "soundPulls", unfollowed := true, recurses := true, apart := false, narrowed := true }
def SoundPullsUptoSaid : Prop := soundPullsUptoRow.holds Try.pinned (OpenSpec.upto soundPullsSpec)

/-- 'telecinelaw09.SoundBloops', WHERE WHAT IT READS IS OF BULK AT MOST 1048576: true; the input reads as it did. -/
def soundBloopsUptoRow : OpenClaim := { program := "ytokbdaiamhibeaa", sum := "ce9fe97b4c4d742096195124e5c7f82c6d0bd64bb95b66a31405c117013adc13", func := "telecine/telecinelaw09.SoundBloops", spec := "soundBloops", unfollowed := true, recurses := true, apart := false, narrowed := true }
def SoundBloopsUptoSaid : Prop := soundBloopsUptoRow.holds Try.pinned (OpenSpec.upto soundBloopsSpec)

/-- 'telecinelaw09.SoundHums', WHERE WHAT IT READS IS OF BULK AT MOST 1048576: true; the input reads as it did. -/
def soundHumsUptoRow : OpenClaim := { program := "ytokbdaiamhibeaa", sum := "ce9fe97b4c4d742096195124e5c7f82c6d0bd64bb95b66a31405c117013adc13", func := "telecine/telecinelaw09.SoundHums", spec := "soundHums", unfollowed := true, recurses := true, apart := false, narrowed := true }
def SoundHumsUptoSaid : Prop := soundHumsUptoRow.holds Try.pinned (OpenSpec.upto soundHumsSpec)

/-- 'telecinelaw09.SoundQuiet', WHERE WHAT IT READS IS OF BULK AT MOST 1048576: true; the input reads as it did. -/
def soundQuietUptoRow : OpenClaim := { program := "ytokbdaiamhibeaa", sum := "ce9fe97b4c4d742096195124e5c7f82c6d0bd64bb95b66a31405c117013adc13", func := "telecine/telecinelaw09.SoundQuiet", spec := "soundQuiet", unfollowed := true, recurses := true, apart := false, narrowed := true }
def SoundQuietUptoSaid : Prop := soundQuietUptoRow.holds Try.pinned (OpenSpec.upto soundQuietSpec)

/-- 'telecinelaw09.SoundKnown', WHERE WHAT IT READS IS OF BULK AT MOST 1048576: true; the input reads as it did. -/
def soundKnownUptoRow : OpenClaim := { program := "ytokbdaiamhibeaa", sum := "ce9fe97b4c4d742096195124e5c7f82c6d0bd64bb95b66a31405c117013adc13", func := "telecine/telecinelaw09.SoundKnown", spec := "soundKnown", unfollowed := true, recurses := true, apart := false, narrowed := true }
def SoundKnownUptoSaid : Prop := soundKnownUptoRow.holds Try.pinned (OpenSpec.upto soundKnownSpec)

end Rows
end Go.Proofs.Ytokbdaiamhibeaa
