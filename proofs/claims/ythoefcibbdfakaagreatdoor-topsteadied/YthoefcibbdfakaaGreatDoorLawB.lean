/- Closed facts of the row, one by one. -/
import Derived.Test.YthoefcibbdfakaaGreatDoorRows
import Derived.Test.YthoefcibbdfakaaGreatDoorTab
import Derived.Test.YthoefcibbdfakaaGreatDoorG31
import Derived.Test.YthoefcibbdfakaaGreatDoorG31
import Derived.Test.YthoefcibbdfakaaGreatDoorCards
import Derived.Test.YthoefcibbdfakaaGreatDoorTie
import Derived.ProofKit
import Derived.Lay
import Derived.LaidOnce
import Derived.SevenTiedAt
namespace Go.Proofs.YthoefcibbdfakaaGreatDoor
theorem clo0 : (Rows.topSteadiedRow.inPlace == Tryz.pinned.checked.prog.inPlace 3) = true := by kernel_rfl
theorem clo1 : (Rows.topSteadiedRow.unfollowed == Tryz.pinned.checked.prog.unfollowed 3) = true := by kernel_rfl
theorem clo2 : (Rows.topSteadiedRow.recurses == Tryz.pinned.checked.prog.recurses 3) = true := by kernel_rfl
theorem clo3 : (Rows.topSteadiedRow.named == Tryz.pinned.checked.prog.varsNamed 3) = true := by kernel_rfl
theorem Qbh : joinedFacts Tryz.pinned.checked.prog 3 Tryz.f3 Rows.topSteadiedSpec Rows.topSteadiedRow = true := by
  unfold joinedFacts
  rw [clo0, clo1, clo2, clo3]
  kernel_rfl
end Go.Proofs.YthoefcibbdfakaaGreatDoor
