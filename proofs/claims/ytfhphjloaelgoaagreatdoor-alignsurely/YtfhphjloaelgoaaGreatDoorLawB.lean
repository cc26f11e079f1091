/- Closed facts of the row, one by one. -/
import Derived.Test.YtfhphjloaelgoaaGreatDoorRows
import Derived.Test.YtfhphjloaelgoaaGreatDoorTab
import Derived.Test.YtfhphjloaelgoaaGreatDoorG19
import Derived.Test.YtfhphjloaelgoaaGreatDoorCards
import Derived.Test.YtfhphjloaelgoaaGreatDoorTie
import Derived.ProofKit
import Derived.Lay
import Derived.LaidOnce
import Derived.SevenTiedAt
namespace Go.Proofs.YtfhphjloaelgoaaGreatDoor
theorem clo0 : (Rows.alignSurelyRow.inPlace == Tryz.pinned.checked.prog.inPlace 14) = true := by kernel_rfl
theorem clo1 : (Rows.alignSurelyRow.unfollowed == Tryz.pinned.checked.prog.unfollowed 14) = true := by kernel_rfl
theorem clo2 : (Rows.alignSurelyRow.recurses == Tryz.pinned.checked.prog.recurses 14) = true := by kernel_rfl
theorem clo3 : (Rows.alignSurelyRow.named == Tryz.pinned.checked.prog.varsNamed 14) = true := by kernel_rfl
theorem closed_facts : joinedFacts Tryz.pinned.checked.prog 14 Tryz.f14 Rows.alignSurelySpec Rows.alignSurelyRow = true := by
  unfold joinedFacts
  rw [clo0, clo1, clo2, clo3]
  kernel_rfl
end Go.Proofs.YtfhphjloaelgoaaGreatDoor
