/- Closed facts of the row, one by one. -/
import Derived.Test.YthihdpbgmhnloaaGreatDoorRows
import Derived.Test.YthihdpbgmhnloaaGreatDoorTab
import Derived.Test.YthihdpbgmhnloaaGreatDoorG19
import Derived.Test.YthihdpbgmhnloaaGreatDoorG19
import Derived.Test.YthihdpbgmhnloaaGreatDoorCards
import Derived.Test.YthihdpbgmhnloaaGreatDoorTie
import Derived.ProofKit
import Derived.Lay
import Derived.LaidOnce
import Derived.SevenTiedAt
namespace Go.Proofs.YthihdpbgmhnloaaGreatDoor
theorem clo0 : (Rows.restoreTracedRow.inPlace == Tryz.pinned.checked.prog.inPlace 8) = true := by kernel_rfl
theorem clo1 : (Rows.restoreTracedRow.unfollowed == Tryz.pinned.checked.prog.unfollowed 8) = true := by kernel_rfl
theorem clo2 : (Rows.restoreTracedRow.recurses == Tryz.pinned.checked.prog.recurses 8) = true := by kernel_rfl
theorem clo3 : (Rows.restoreTracedRow.named == Tryz.pinned.checked.prog.varsNamed 8) = true := by kernel_rfl
theorem closed_facts : joinedFacts Tryz.pinned.checked.prog 8 Tryz.f8 Rows.restoreTracedSpec Rows.restoreTracedRow = true := by
  unfold joinedFacts
  rw [clo0, clo1, clo2, clo3]
  kernel_rfl
end Go.Proofs.YthihdpbgmhnloaaGreatDoor
