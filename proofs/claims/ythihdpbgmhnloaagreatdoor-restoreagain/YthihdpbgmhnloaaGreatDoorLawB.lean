/- Closed facts of the row, one by one. -/
import Derived.Test.YthihdpbgmhnloaaGreatDoorRows
import Derived.Test.YthihdpbgmhnloaaGreatDoorTab
import Derived.Test.YthihdpbgmhnloaaGreatDoorG20
import Derived.Test.YthihdpbgmhnloaaGreatDoorG21
import Derived.Test.YthihdpbgmhnloaaGreatDoorCards
import Derived.Test.YthihdpbgmhnloaaGreatDoorTie
import Derived.ProofKit
import Derived.Lay
import Derived.LaidOnce
import Derived.SevenTiedAt
namespace Go.Proofs.YthihdpbgmhnloaaGreatDoor
theorem clo0 : (Rows.restoreAgainRow.inPlace == Tryz.pinned.checked.prog.inPlace 11) = true := by kernel_rfl
theorem clo1 : (Rows.restoreAgainRow.unfollowed == Tryz.pinned.checked.prog.unfollowed 11) = true := by kernel_rfl
theorem clo2 : (Rows.restoreAgainRow.recurses == Tryz.pinned.checked.prog.recurses 11) = true := by kernel_rfl
theorem clo3 : (Rows.restoreAgainRow.named == Tryz.pinned.checked.prog.varsNamed 11) = true := by kernel_rfl
theorem closed_facts : joinedFacts Tryz.pinned.checked.prog 11 Tryz.f11 Rows.restoreAgainSpec Rows.restoreAgainRow = true := by
  unfold joinedFacts
  rw [clo0, clo1, clo2, clo3]
  kernel_rfl
end Go.Proofs.YthihdpbgmhnloaaGreatDoor
