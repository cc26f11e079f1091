/- Closed facts of the row, one by one. -/
import Derived.Test.YtbnmdlnkhghbpaaGreatDoorRows
import Derived.Test.YtbnmdlnkhghbpaaGreatDoorTab
import Derived.Test.YtbnmdlnkhghbpaaGreatDoorG36
import Derived.Test.YtbnmdlnkhghbpaaGreatDoorG37
import Derived.Test.YtbnmdlnkhghbpaaGreatDoorCards
import Derived.Test.YtbnmdlnkhghbpaaGreatDoorTie
import Derived.ProofKit
import Derived.Lay
import Derived.LaidOnce
import Derived.SevenTiedAt
namespace Go.Proofs.YtbnmdlnkhghbpaaGreatDoor
theorem clo0:(Rows.topSourcedRow.inPlace==Tryz.pinned.checked.prog.inPlace 3)=true:=by kernel_rfl
theorem clo1:(Rows.topSourcedRow.unfollowed==Tryz.pinned.checked.prog.unfollowed 3)=true:=by kernel_rfl
theorem clo2:(Rows.topSourcedRow.recurses==Tryz.pinned.checked.prog.recurses 3)=true:=by kernel_rfl
theorem clo3:(Rows.topSourcedRow.named==Tryz.pinned.checked.prog.varsNamed 3)=true:=by kernel_rfl
theorem Qda:joinedFacts Tryz.pinned.checked.prog 3 Tryz.f3 Rows.topSourcedSpec Rows.topSourcedRow=true:=by
  unfold joinedFacts
  rw [clo0,clo1,clo2,clo3]
  kernel_rfl
end Go.Proofs.YtbnmdlnkhghbpaaGreatDoor
