/- Closed facts of the row, one by one. -/
import Derived.Test.YtcjhgcjmomildaaGreatDoorRows
import Derived.Test.YtcjhgcjmomildaaGreatDoorTab
import Derived.Test.YtcjhgcjmomildaaGreatDoorR16Wv
import Derived.Test.YtcjhgcjmomildaaGreatDoorCards
import Derived.Test.YtcjhgcjmomildaaGreatDoorTie
import Derived.ProofKit
import Derived.Lay
import Derived.LaidOnce
import Derived.SevenTiedAt
namespace Go.Proofs.YtcjhgcjmomildaaGreatDoor
theorem clo0 : (Rows.topCensoredRow.inPlace == Tryz.pinned.checked.prog.inPlace 3) = true := by kernel_rfl
theorem clo1 : (Rows.topCensoredRow.unfollowed == Tryz.pinned.checked.prog.unfollowed 3) = true := by kernel_rfl
theorem clo2 : (Rows.topCensoredRow.recurses == Tryz.pinned.checked.prog.recurses 3) = true := by kernel_rfl
theorem clo3 : (Rows.topCensoredRow.named == Tryz.pinned.checked.prog.varsNamed 3) = true := by kernel_rfl
theorem closed_facts : joinedFacts Tryz.pinned.checked.prog 3 Tryz.f3 Rows.topCensoredSpec Rows.topCensoredRow = true := by
  unfold joinedFacts
  rw [clo0, clo1, clo2, clo3]
  kernel_rfl
end Go.Proofs.YtcjhgcjmomildaaGreatDoor
