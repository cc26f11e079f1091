/- TopSourced: for every elements, script and restoring: if a film is made of the shots of a version, a frame of each, then behind any program Undo gives each frame as it is in its source; and each pixel that Trace does not trace to nowhere comes from the frame of the same pick, and is that of its source, if no step has part in it. A tied card: the row lists uint64pow10, deBruijn tables and utf8 tables as the program's text lays them. No condition beside. -/
import Derived.Test.YtbnmdlnkhghbpaaGreatDoorRows
import Derived.Test.YtbnmdlnkhghbpaaGreatDoorTab
import Derived.Test.YtbnmdlnkhghbpaaGreatDoorG36
import Derived.Test.YtbnmdlnkhghbpaaGreatDoorG37
import Derived.Test.YtbnmdlnkhghbpaaGreatDoorCards
import Derived.Test.YtbnmdlnkhghbpaaGreatDoorTie
import Derived.ProofKit
import Derived.Lay
import Derived.LaidOnce
import Derived.SevenTiedAt
import Derived.Test.YtbnmdlnkhghbpaaGreatDoorLawA
import Derived.Test.YtbnmdlnkhghbpaaGreatDoorLawB
namespace Go.Proofs.YtbnmdlnkhghbpaaGreatDoor
open Go.Dr Go.Dr.T
theorem topSourced_holds:Rows.TopSourcedSaid :=
  OpenClaim.holds_of_wide 3 Tryz.f3 rfl rfl rfl rfl rfl rfl rfl ⟨rfl,rfl,rfl,rfl,rfl⟩ rfl rfl rfl rfl rfl (by kernel_rfl) Tryz.func3 Qda
    (of_decide_eq_true (by kernel_rfl)) (by unfold Func.isWrapper;first|(rw [if_pos (by decide +kernel)];kernel_rfl)|(rw [if_neg (by decide +kernel)];exact ⟨rfl,rfl⟩))
    (fun os started H enc _=>lifted os started H enc)
theorem topSourced_card_holds:Rows.TopSourcedCardSaid :=
  Claim7.holds_tied_plain_at .later [] [.data, .data, .data, .data, .pinned] true (true, "2802056ee6e602d9b8e096cb9babaae3d81e22c6bbbcb2a6a95dc0357bb2692d") true topSourced_holds (fun _ h => by cases h) (by kernel_rfl) (fun _ h => by cases h) topSourced_row_tie rfl ⟨rfl, rfl⟩ (by kernel_rfl) rfl
    (fun f fn hf hfn=>by
      obtain rfl:f=3:=Option.some.inj ((show Tryz.prog.funcNamed Rows.topSourcedRow.func=some 3 by kernel_rfl).symm.trans hf) |>.symm
      obtain rfl:fn=Tryz.f3:=(Option.some.inj (Tryz.func3.symm.trans hfn)).symm
      exact ⟨by kernel_rfl,fun j t ht=>by
        have hm:t∈Tryz.f3.params.toList:=by simpa using Array.mem_of_getElem? ht
        have hall:(Tryz.f3.params.toList.all fun u => !Tryz.prog.wantsStandIn u)=true:=by kernel_rfl
        exact (show Tryz.prog.wantsStandIn t=false by simpa using List.all_eq_true.1 hall t hm)⟩)
    (by kernel_rfl)
end Go.Proofs.YtbnmdlnkhghbpaaGreatDoor
