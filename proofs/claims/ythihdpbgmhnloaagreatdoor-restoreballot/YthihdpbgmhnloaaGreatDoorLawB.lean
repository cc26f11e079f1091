/- Closed facts of the row, one by one. -/
import Derived.Test.YthihdpbgmhnloaaGreatDoorRows
import Derived.Test.YthihdpbgmhnloaaGreatDoorTab
import Derived.Test.YthihdpbgmhnloaaGreatDoorR08Lw
import Derived.Test.YthihdpbgmhnloaaGreatDoorG8
import Derived.Test.YthihdpbgmhnloaaGreatDoorCards
import Derived.Test.YthihdpbgmhnloaaGreatDoorTie
import Derived.ProofKit
import Derived.Lay
import Derived.LaidOnce
import Derived.SevenTiedAt
namespace Go.Proofs.YthihdpbgmhnloaaGreatDoor
theorem clo0 : (Rows.restoreBallotRow.inPlace == Tryz.pinned.checked.prog.inPlace 10) = true := by kernel_rfl
theorem clo1 : (Rows.restoreBallotRow.unfollowed == Tryz.pinned.checked.prog.unfollowed 10) = true := by kernel_rfl
theorem clo2 : (Rows.restoreBallotRow.recurses == Tryz.pinned.checked.prog.recurses 10) = true := by kernel_rfl
theorem clo3 : (Rows.restoreBallotRow.named == Tryz.pinned.checked.prog.varsNamed 10) = true := by kernel_rfl
theorem closed_facts : joinedFacts Tryz.pinned.checked.prog 10 Tryz.f10 Rows.restoreBallotSpec Rows.restoreBallotRow = true := by
  unfold joinedFacts
  rw [clo0, clo1, clo2, clo3]
  kernel_rfl
end Go.Proofs.YthihdpbgmhnloaaGreatDoor
