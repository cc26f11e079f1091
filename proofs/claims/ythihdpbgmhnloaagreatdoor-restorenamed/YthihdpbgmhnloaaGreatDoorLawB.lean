/- Closed facts of the row, one by one. -/
import Derived.Test.YthihdpbgmhnloaaGreatDoorRows
import Derived.Test.YthihdpbgmhnloaaGreatDoorTab
import Derived.Test.YthihdpbgmhnloaaGreatDoorG21
import Derived.Test.YthihdpbgmhnloaaGreatDoorG21
import Derived.Test.YthihdpbgmhnloaaGreatDoorG22
import Derived.Test.YthihdpbgmhnloaaGreatDoorCards
import Derived.Test.YthihdpbgmhnloaaGreatDoorTie
import Derived.ProofKit
import Derived.Lay
import Derived.LaidOnce
import Derived.SevenTiedAt
namespace Go.Proofs.YthihdpbgmhnloaaGreatDoor
theorem clo0 : (Rows.restoreNamedRow.inPlace == Tryz.pinned.checked.prog.inPlace 12) = true := by kernel_rfl
theorem clo1 : (Rows.restoreNamedRow.unfollowed == Tryz.pinned.checked.prog.unfollowed 12) = true := by kernel_rfl
theorem clo2 : (Rows.restoreNamedRow.recurses == Tryz.pinned.checked.prog.recurses 12) = true := by kernel_rfl
theorem clo3 : (Rows.restoreNamedRow.named == Tryz.pinned.checked.prog.varsNamed 12) = true := by kernel_rfl
theorem closed_facts : joinedFacts Tryz.pinned.checked.prog 12 Tryz.f12 Rows.restoreNamedSpec Rows.restoreNamedRow = true := by
  unfold joinedFacts
  rw [clo0, clo1, clo2, clo3]
  kernel_rfl
end Go.Proofs.YthihdpbgmhnloaaGreatDoor
