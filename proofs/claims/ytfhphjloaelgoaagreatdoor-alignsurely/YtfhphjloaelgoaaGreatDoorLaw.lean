/- AlignSurely: for every two elements and slack Surely returns what the document says, and the examples of the document hold; a tied card: the row lists unicode/utf8.first and acceptRanges as the program's text lays them. No condition beside. -/
import Derived.Test.YtfhphjloaelgoaaGreatDoorRows
import Derived.Test.YtfhphjloaelgoaaGreatDoorTab
import Derived.Test.YtfhphjloaelgoaaGreatDoorG19
import Derived.Test.YtfhphjloaelgoaaGreatDoorCards
import Derived.Test.YtfhphjloaelgoaaGreatDoorTie
import Derived.ProofKit
import Derived.Lay
import Derived.LaidOnce
import Derived.SevenTiedAt
import Derived.Test.YtfhphjloaelgoaaGreatDoorLawA
import Derived.Test.YtfhphjloaelgoaaGreatDoorLawB
namespace Go.Proofs.YtfhphjloaelgoaaGreatDoor
open Go.Dr Go.Dr.T
theorem alignSurely_holds : Rows.AlignSurelySaid :=
  OpenClaim.holds_of_wide 14 Tryz.f14 rfl rfl rfl rfl rfl rfl rfl ⟨rfl, rfl, rfl, rfl, rfl⟩ rfl rfl rfl rfl rfl (by kernel_rfl) Tryz.func14 closed_facts
    (of_decide_eq_true (by kernel_rfl)) (by unfold Func.isWrapper; first | (rw [if_pos (by decide +kernel)]; kernel_rfl) | (rw [if_neg (by decide +kernel)]; exact ⟨rfl, rfl⟩))
    (fun os started H enc _ => lifted os started H enc)
theorem alignSurely_card_holds : Rows.AlignSurelyCardSaid :=
  Claim7.holds_tied_plain_at .later [] [.data, .pinned] true (true, "d58f0d17b222539305d4ead2a6c364087ff54315ac79d4eade1f6a6003fbc9fb") false alignSurely_holds (fun _ h => by cases h) (by kernel_rfl) (fun _ h => by cases h) alignSurely_row_tie rfl ⟨rfl, rfl⟩ (by kernel_rfl) rfl
    (fun f fn hf hfn => by
      obtain rfl : f = 14 := Option.some.inj ((show Tryz.prog.funcNamed Rows.alignSurelyRow.func = some 14 by kernel_rfl).symm.trans hf) |>.symm
      obtain rfl : fn = Tryz.f14 := (Option.some.inj (Tryz.func14.symm.trans hfn)).symm
      exact ⟨by kernel_rfl, fun j t ht => by
        have hm : t ∈ Tryz.f14.params.toList := by simpa using Array.mem_of_getElem? ht
        have hall : (Tryz.f14.params.toList.all fun u => !Tryz.prog.wantsStandIn u) = true := by kernel_rfl
        exact (show Tryz.prog.wantsStandIn t = false by simpa using List.all_eq_true.1 hall t hm)⟩)
    (by kernel_rfl)
end Go.Proofs.YtfhphjloaelgoaaGreatDoor
