/- RestoreNamed: for every film, program and forged change: if one New of a log is another one, so that the log still is in order, Undo of the film behind the program names this step, with ReErrOld; so does Redo of the scan, if it is an Old. A tied card: the row lists uint64pow10, deBruijn tables and utf8 tables as the program's text lays them. No condition beside. -/
import Derived.Test.YthihdpbgmhnloaaGreatDoorRows
import Derived.Test.YthihdpbgmhnloaaGreatDoorTab
import Derived.Test.YthihdpbgmhnloaaGreatDoorG21
import Derived.Test.YthihdpbgmhnloaaGreatDoorG21
import Derived.Test.YthihdpbgmhnloaaGreatDoorG22
import Derived.Test.YthihdpbgmhnloaaGreatDoorCards
import Derived.Test.YthihdpbgmhnloaaGreatDoorTie
import Derived.ProofKit
import Derived.Lay
import Derived.LaidOnce
import Derived.SevenTiedAt
import Derived.Test.YthihdpbgmhnloaaGreatDoorLawA
import Derived.Test.YthihdpbgmhnloaaGreatDoorLawB
namespace Go.Proofs.YthihdpbgmhnloaaGreatDoor
open Go.Dr Go.Dr.T
theorem restoreNamed_holds : Rows.RestoreNamedSaid :=
  OpenClaim.holds_of_wide 12 Tryz.f12 rfl rfl rfl rfl rfl rfl rfl ⟨rfl, rfl, rfl, rfl, rfl⟩ rfl rfl rfl rfl rfl (by kernel_rfl) Tryz.func12 closed_facts
    (of_decide_eq_true (by kernel_rfl)) (by unfold Func.isWrapper; first | (rw [if_pos (by decide +kernel)]; kernel_rfl) | (rw [if_neg (by decide +kernel)]; exact ⟨rfl, rfl⟩))
    (fun os started H enc _ => lifted os started H enc)
theorem restoreNamed_card_holds : Rows.RestoreNamedCardSaid :=
  Claim7.holds_tied_plain_at .later [] [.data, .data, .data, .data, .pinned] true (true, "973e6eee187ceac379c5e49a52a5c87831c4cd0a7ed806dbb18199690f455163") true restoreNamed_holds (fun _ h => by cases h) (by kernel_rfl) (fun _ h => by cases h) restoreNamed_row_tie rfl ⟨rfl, rfl⟩ (by kernel_rfl) rfl
    (fun f fn hf hfn => by
      obtain rfl : f = 12 := Option.some.inj ((show Tryz.prog.funcNamed Rows.restoreNamedRow.func = some 12 by kernel_rfl).symm.trans hf) |>.symm
      obtain rfl : fn = Tryz.f12 := (Option.some.inj (Tryz.func12.symm.trans hfn)).symm
      exact ⟨by kernel_rfl, fun j t ht => by
        have hm : t ∈ Tryz.f12.params.toList := by simpa using Array.mem_of_getElem? ht
        have hall : (Tryz.f12.params.toList.all fun u => !Tryz.prog.wantsStandIn u) = true := by kernel_rfl
        exact (show Tryz.prog.wantsStandIn t = false by simpa using List.all_eq_true.1 hall t hm)⟩)
    (by kernel_rfl)
end Go.Proofs.YthihdpbgmhnloaaGreatDoor
