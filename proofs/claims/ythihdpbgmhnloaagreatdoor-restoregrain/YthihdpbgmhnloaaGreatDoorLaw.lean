/- RestoreGrain: for any two films and step: a step of grain changes two films of the same size in the same way, wherever both have pixels that are at least B, and at most 255 less B. A tied card: the row lists uint64pow10, deBruijn tables and utf8 tables as the program's text lays them. No condition beside. -/
import Derived.Test.YthihdpbgmhnloaaGreatDoorRows
import Derived.Test.YthihdpbgmhnloaaGreatDoorTab
import Derived.Test.YthihdpbgmhnloaaGreatDoorR08Kb
import Derived.Test.YthihdpbgmhnloaaGreatDoorG17
import Derived.Test.YthihdpbgmhnloaaGreatDoorCards
import Derived.Test.YthihdpbgmhnloaaGreatDoorTie
import Derived.ProofKit
import Derived.Lay
import Derived.LaidOnce
import Derived.SevenTiedAt
import Derived.Test.YthihdpbgmhnloaaGreatDoorLawA
import Derived.Test.YthihdpbgmhnloaaGreatDoorLawB
namespace Go.Proofs.YthihdpbgmhnloaaGreatDoor
open Go.Dr Go.Dr.T
theorem restoreGrain_holds : Rows.RestoreGrainSaid :=
  OpenClaim.holds_of_wide 9 Tryz.f9 rfl rfl rfl rfl rfl rfl rfl ⟨rfl, rfl, rfl, rfl, rfl⟩ rfl rfl rfl rfl rfl (by kernel_rfl) Tryz.func9 closed_facts
    (of_decide_eq_true (by kernel_rfl)) (by unfold Func.isWrapper; first | (rw [if_pos (by decide +kernel)]; kernel_rfl) | (rw [if_neg (by decide +kernel)]; exact ⟨rfl, rfl⟩))
    (fun os started H enc _ => lifted os started H enc)
theorem restoreGrain_card_holds : Rows.RestoreGrainCardSaid :=
  Claim7.holds_tied_plain_at .later [] [.data, .data, .data, .data, .pinned] true (true, "973e6eee187ceac379c5e49a52a5c87831c4cd0a7ed806dbb18199690f455163") true restoreGrain_holds (fun _ h => by cases h) (by kernel_rfl) (fun _ h => by cases h) restoreGrain_row_tie rfl ⟨rfl, rfl⟩ (by kernel_rfl) rfl
    (fun f fn hf hfn => by
      obtain rfl : f = 9 := Option.some.inj ((show Tryz.prog.funcNamed Rows.restoreGrainRow.func = some 9 by kernel_rfl).symm.trans hf) |>.symm
      obtain rfl : fn = Tryz.f9 := (Option.some.inj (Tryz.func9.symm.trans hfn)).symm
      exact ⟨by kernel_rfl, fun j t ht => by
        have hm : t ∈ Tryz.f9.params.toList := by simpa using Array.mem_of_getElem? ht
        have hall : (Tryz.f9.params.toList.all fun u => !Tryz.prog.wantsStandIn u) = true := by kernel_rfl
        exact (show Tryz.prog.wantsStandIn t = false by simpa using List.all_eq_true.1 hall t hm)⟩)
    (by kernel_rfl)
end Go.Proofs.YthihdpbgmhnloaaGreatDoor
