/- TopSteadied: for every frame, and however it is shaken (a window, a reach, shifts, a fill, a pixel): the moved frames are steadied by steps that shift each of them back by what Steady returns; they are then as Move moves them; the window of each is that of the first one, if its shift differs by 0; each pixel is traced to where it was; and Undo gives the moved frames again. A tied card: the row lists uint64pow10, deBruijn tables and utf8 tables as the program's text lays them. No condition beside. -/
import Derived.Test.YthoefcibbdfakaaGreatDoorRows
import Derived.Test.YthoefcibbdfakaaGreatDoorTab
import Derived.Test.YthoefcibbdfakaaGreatDoorG31
import Derived.Test.YthoefcibbdfakaaGreatDoorG31
import Derived.Test.YthoefcibbdfakaaGreatDoorCards
import Derived.Test.YthoefcibbdfakaaGreatDoorTie
import Derived.ProofKit
import Derived.Lay
import Derived.LaidOnce
import Derived.SevenTiedAt
import Derived.Test.YthoefcibbdfakaaGreatDoorLawA
import Derived.Test.YthoefcibbdfakaaGreatDoorLawB
namespace Go.Proofs.YthoefcibbdfakaaGreatDoor
open Go.Dr Go.Dr.T
theorem Q5a : Rows.TopSteadiedSaid :=
  OpenClaim.holds_of_wide 3 Tryz.f3 rfl rfl rfl rfl rfl rfl rfl ⟨rfl, rfl, rfl, rfl, rfl⟩ rfl rfl rfl rfl rfl (by kernel_rfl) Tryz.func3 Qbh
    (of_decide_eq_true (by kernel_rfl)) (by unfold Func.isWrapper; first | (rw [if_pos (by decide +kernel)]; kernel_rfl) | (rw [if_neg (by decide +kernel)]; exact ⟨rfl, rfl⟩))
    (fun os started H enc _ => lifted os started H enc)
theorem topSteadied_card_holds : Rows.TopSteadiedCardSaid :=
  Claim7.holds_tied_plain_at .later [] [.data, .data, .data, .data, .pinned] true (true, "46e68026dd46b5023f75467d97222c8e28e6e25b0e8102035c498861efe2688d") true Q5a (fun _ h => by cases h) (by kernel_rfl) (fun _ h => by cases h) topSteadied_row_tie rfl ⟨rfl, rfl⟩ (by kernel_rfl) rfl
    (fun f fn hf hfn => by
      obtain rfl : f = 3 := Option.some.inj ((show Tryz.prog.funcNamed Rows.topSteadiedRow.func = some 3 by kernel_rfl).symm.trans hf) |>.symm
      obtain rfl : fn = Tryz.f3 := (Option.some.inj (Tryz.func3.symm.trans hfn)).symm
      exact ⟨by kernel_rfl, fun j t ht => by
        have hm : t ∈ Tryz.f3.params.toList := by simpa using Array.mem_of_getElem? ht
        have hall : (Tryz.f3.params.toList.all fun u => !Tryz.prog.wantsStandIn u) = true := by kernel_rfl
        exact (show Tryz.prog.wantsStandIn t = false by simpa using List.all_eq_true.1 hall t hm)⟩)
    (by kernel_rfl)
end Go.Proofs.YthoefcibbdfakaaGreatDoor
