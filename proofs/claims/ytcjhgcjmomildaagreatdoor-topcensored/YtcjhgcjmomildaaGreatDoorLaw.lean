/- TopCensored: for every element, bits and order: if whole shots are cut out of a reel that has the shots of the element, whose marks all are above 0, After leads to the element that is left, Before leads back, and both elements have one best alignment, by the shots that are left; a tied card: the row lists unicode/utf8.first and acceptRanges as the program's text lays them. No condition beside. -/
import Derived.Test.YtcjhgcjmomildaaGreatDoorRows
import Derived.Test.YtcjhgcjmomildaaGreatDoorTab
import Derived.Test.YtcjhgcjmomildaaGreatDoorR16Wv
import Derived.Test.YtcjhgcjmomildaaGreatDoorCards
import Derived.Test.YtcjhgcjmomildaaGreatDoorTie
import Derived.ProofKit
import Derived.Lay
import Derived.LaidOnce
import Derived.SevenTiedAt
import Derived.Test.YtcjhgcjmomildaaGreatDoorLawA
import Derived.Test.YtcjhgcjmomildaaGreatDoorLawB
namespace Go.Proofs.YtcjhgcjmomildaaGreatDoor
open Go.Dr Go.Dr.T
theorem topCensored_holds : Rows.TopCensoredSaid :=
  OpenClaim.holds_of_wide 3 Tryz.f3 rfl rfl rfl rfl rfl rfl rfl ⟨rfl, rfl, rfl, rfl, rfl⟩ rfl rfl rfl rfl rfl (by kernel_rfl) Tryz.func3 closed_facts
    (of_decide_eq_true (by kernel_rfl)) (by unfold Func.isWrapper; first | (rw [if_pos (by decide +kernel)]; kernel_rfl) | (rw [if_neg (by decide +kernel)]; exact ⟨rfl, rfl⟩))
    (fun os started H enc _ => lifted os started H enc)
theorem topCensored_card_holds : Rows.TopCensoredCardSaid :=
  Claim7.holds_tied_plain_at .later [] [.data, .pinned] true (true, "924d79a2bf840c6cd95281110761ddca38a499ef8ebb217a6c7d667759360283") false topCensored_holds (fun _ h => by cases h) (by kernel_rfl) (fun _ h => by cases h) topCensored_row_tie rfl ⟨rfl, rfl⟩ (by kernel_rfl) rfl
    (fun f fn hf hfn => by
      obtain rfl : f = 3 := Option.some.inj ((show Tryz.prog.funcNamed Rows.topCensoredRow.func = some 3 by kernel_rfl).symm.trans hf) |>.symm
      obtain rfl : fn = Tryz.f3 := (Option.some.inj (Tryz.func3.symm.trans hfn)).symm
      exact ⟨by kernel_rfl, fun j t ht => by
        have hm : t ∈ Tryz.f3.params.toList := by simpa using Array.mem_of_getElem? ht
        have hall : (Tryz.f3.params.toList.all fun u => !Tryz.prog.wantsStandIn u) = true := by kernel_rfl
        exact (show Tryz.prog.wantsStandIn t = false by simpa using List.all_eq_true.1 hall t hm)⟩)
    (by kernel_rfl)
end Go.Proofs.YtcjhgcjmomildaaGreatDoor
