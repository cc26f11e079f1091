/- Closed facts of the row, one by one. -/
import Derived.Test.YthihdpbgmhnloaaGreatDoorRows
import Derived.Test.YthihdpbgmhnloaaGreatDoorTab
import Derived.Test.YthihdpbgmhnloaaGreatDoorG22
import Derived.Test.YthihdpbgmhnloaaGreatDoorG22
import Derived.Test.YthihdpbgmhnloaaGreatDoorCards
import Derived.Test.YthihdpbgmhnloaaGreatDoorTie
import Derived.ProofKit
import Derived.Lay
import Derived.LaidOnce
import Derived.SevenTiedAt
namespace Go.Proofs.YthihdpbgmhnloaaGreatDoor
theorem clo0 : (Rows.restoreDoesRow.inPlace == Tryz.pinned.checked.prog.inPlace 3) = true := by kernel_rfl
theorem clo1 : (Rows.restoreDoesRow.unfollowed == Tryz.pinned.checked.prog.unfollowed 3) = true := by kernel_rfl
theorem clo2 : (Rows.restoreDoesRow.recurses == Tryz.pinned.checked.prog.recurses 3) = true := by kernel_rfl
theorem clo3 : (Rows.restoreDoesRow.named == Tryz.pinned.checked.prog.varsNamed 3) = true := by kernel_rfl
theorem closed_facts : joinedFacts Tryz.pinned.checked.prog 3 Tryz.f3 Rows.restoreDoesSpec Rows.restoreDoesRow = true := by
  unfold joinedFacts
  rw [clo0, clo1, clo2, clo3]
  kernel_rfl
end Go.Proofs.YthihdpbgmhnloaaGreatDoor
