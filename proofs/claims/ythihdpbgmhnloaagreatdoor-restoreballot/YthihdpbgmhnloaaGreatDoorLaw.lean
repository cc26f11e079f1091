/- RestoreBallot: for every ballot, number and one vote more: Voted gives no list with an error, else numbers of the group that grow; votes of two places that are turned give the same; a smaller need gives no less; and one vote more, of a voter that is new, adds none but its own number. A tied card: the row lists uint64pow10, deBruijn tables and utf8 tables as the program's text lays them. No condition beside. -/
import Derived.Test.YthihdpbgmhnloaaGreatDoorRows
import Derived.Test.YthihdpbgmhnloaaGreatDoorTab
import Derived.Test.YthihdpbgmhnloaaGreatDoorR08Lw
import Derived.Test.YthihdpbgmhnloaaGreatDoorG8
import Derived.Test.YthihdpbgmhnloaaGreatDoorCards
import Derived.Test.YthihdpbgmhnloaaGreatDoorTie
import Derived.ProofKit
import Derived.Lay
import Derived.LaidOnce
import Derived.SevenTiedAt
import Derived.Test.YthihdpbgmhnloaaGreatDoorLawA
import Derived.Test.YthihdpbgmhnloaaGreatDoorLawB
namespace Go.Proofs.YthihdpbgmhnloaaGreatDoor
open Go.Dr Go.Dr.T
theorem restoreBallot_holds : Rows.RestoreBallotSaid :=
  OpenClaim.holds_of_wide 10 Tryz.f10 rfl rfl rfl rfl rfl rfl rfl ⟨rfl, rfl, rfl, rfl, rfl⟩ rfl rfl rfl rfl rfl (by kernel_rfl) Tryz.func10 closed_facts
    (of_decide_eq_true (by kernel_rfl)) (by unfold Func.isWrapper; first | (rw [if_pos (by decide +kernel)]; kernel_rfl) | (rw [if_neg (by decide +kernel)]; exact ⟨rfl, rfl⟩))
    (fun os started H enc _ => lifted os started H enc)
theorem restoreBallot_card_holds : Rows.RestoreBallotCardSaid :=
  Claim7.holds_tied_plain_at .later [] [.data, .data, .data, .data, .pinned] true (true, "973e6eee187ceac379c5e49a52a5c87831c4cd0a7ed806dbb18199690f455163") true restoreBallot_holds (fun _ h => by cases h) (by kernel_rfl) (fun _ h => by cases h) restoreBallot_row_tie rfl ⟨rfl, rfl⟩ (by kernel_rfl) rfl
    (fun f fn hf hfn => by
      obtain rfl : f = 10 := Option.some.inj ((show Tryz.prog.funcNamed Rows.restoreBallotRow.func = some 10 by kernel_rfl).symm.trans hf) |>.symm
      obtain rfl : fn = Tryz.f10 := (Option.some.inj (Tryz.func10.symm.trans hfn)).symm
      exact ⟨by kernel_rfl, fun j t ht => by
        have hm : t ∈ Tryz.f10.params.toList := by simpa using Array.mem_of_getElem? ht
        have hall : (Tryz.f10.params.toList.all fun u => !Tryz.prog.wantsStandIn u) = true := by kernel_rfl
        exact (show Tryz.prog.wantsStandIn t = false by simpa using List.all_eq_true.1 hall t hm)⟩)
    (by kernel_rfl)
end Go.Proofs.YthihdpbgmhnloaaGreatDoor
