/- AlignWholes: for every list of elements Whole and Round return what the document says, and the examples of the document hold; a tied card: the row lists unicode/utf8.first and acceptRanges as the program's text lays them. No condition beside. -/
import Derived.Test.YtfhphjloaelgoaaGreatDoorRows
import Derived.Test.YtfhphjloaelgoaaGreatDoorTab
import Derived.Test.YtfhphjloaelgoaaGreatDoorG20
import Derived.Test.YtfhphjloaelgoaaGreatDoorCards
import Derived.Test.YtfhphjloaelgoaaGreatDoorTie
import Derived.ProofKit
import Derived.Lay
import Derived.LaidOnce
import Derived.SevenTiedAt
namespace Go.Proofs.YtfhphjloaelgoaaGreatDoor
open Go.Dr Go.Dr.T

theorem own : ownKnob Tryz.prog.godebug = none := by kernel_rfl
theorem laidOut : laidOutB Tryz.prog = true := by kernel_rfl

theorem law_run (av : List V) (h : Ty.vals [TyEls] av) (hs : ∀ v ∈ av, v.short) : ∃ n, call0 T.FB2 T.md n 9 av = some (.bool true) := by
  simp only [Ty.vals] at h
  obtain ⟨f, _, rfl, hf, rfl⟩ := h
  obtain ⟨l, rfl⟩ := els_val hf
  exact call0_of rfl rfl law_wholes (.inl rfl)

def noBulk (H : Type) : Bulk H := { bk := fun d => bulkD d, bks := fun l => bulkDs l, one := bulk_one, str := bulk_str, slice := bulk_slice, agg := bulk_agg, nil := rfl, cons := fun _ _ => rfl }

set_option maxRecDepth 100000 in
theorem contract (H : Type) (enc : TypeId × Value → H) (W : World) (base : Nat) (args : Array Value) (ds gs : List (DataW H)) (before : List MemPlace)
    (hval : ∀ (j : Nat) t v, Tryz.f9.params[j]? = some t → args[j]? = some v → Value.okWide Tryz.prog W .any base t v)
    (hW : DataW.Whole enc Tryz.prog Tryz.f9.params.toList Rows.alignWholesSpec.vars false W args.toList ds gs before) :
    Calls Tryz.prog 9 args W fun e W' => ∃ v, e = .returned v ∧ Rows.alignWholesSpec.post enc Tryz.prog Tryz.f9 false true false false W args v W' :=
  door_contract (P := Tryz.prog) (fn := Tryz.f9) (f := 9) (spec := Rows.alignWholesSpec) (F := T.FB2) (md := T.md) (bt := 4) (N := (noBulk H).bks ds) (Ts := [TyEls]) tableB2 laidOut rfl (by kernel_rfl) (by kernel_rfl) (by decide +kernel) (by kernel_rfl) (fun av h _ hs => law_run av h hs)
    (fun ds h => by
      have h3 : ds.length = 1 := h
      match ds, h3 with
      | [d1], _ => rfl) (noBulk H) hval hW (Nat.le_refl _)

def laidL : List (String × DataW Unit) := [("unicode/utf8.acceptRanges", Rows.laid_unicode_utf8_acceptRanges), ("unicode/utf8.first", Rows.laid_unicode_utf8_first)]
set_option maxRecDepth 100000 in
theorem lifted (os : Os) (started : os.Started) (H : Type) (enc : TypeId × Value → H) :
    ReturnsInHanded {} Tryz.checked os 9 .any (fun w args => (Rows.alignWholesSpec.pre enc Tryz.prog Tryz.f9 [] false w args ∧ laidMetH Tryz.prog laidL w) ∧ sizedMet enc Tryz.prog Tryz.f9 (OpenSpec.ofChange Rows.alignWholesSpec) false w args)
      (Rows.alignWholesSpec.post enc Tryz.prog Tryz.f9 false true false false) := by
  refine returnsInHanded_of_change_and (C := Tryz.checked) (X := fun w _ => laidMetH Tryz.prog laidL w) (fun _ _ _ hh h => h.of_heap hh) own started (by kernel_rfl) Tryz.func9
    (ChangeSpec.witness_shaped (enc := enc) (C := Tryz.checked) (os := os) (X := fun w _ => laidMetH Tryz.prog laidL w) false (World.laidAll Tryz.prog os laidL) #[.slice none 0 0] 8 (World.laidAll_os _ _ _)
      (World.shaped_of_ZipB (by kernel_rfl) (by kernel_rfl)) (by kernel_rfl) (by kernel_rfl) (by kernel_rfl)
      (by rw [MakeChecks.laidMetH_plain _ _ _ (by kernel_rfl)]; exact laidMet_laidAll _ (by kernel_rfl) (by kernel_rfl))) ?_
  intro W base args ds gs before hval hW _ _ _ _
  exact contract H enc W base args ds gs before hval hW

theorem alignWholes_holds : Rows.AlignWholesSaid :=
  OpenClaim.holds_of_wide 9 Tryz.f9 rfl rfl rfl rfl rfl rfl rfl ⟨rfl, rfl, rfl, rfl, rfl⟩ rfl rfl rfl rfl rfl (by kernel_rfl) Tryz.func9 (by kernel_rfl)
    (of_decide_eq_true (by kernel_rfl)) (by unfold Func.isWrapper; first | (rw [if_pos (by decide +kernel)]; kernel_rfl) | (rw [if_neg (by decide +kernel)]; exact ⟨rfl, rfl⟩))
    (fun os started H enc _ => lifted os started H enc)
theorem alignWholes_card_holds : Rows.AlignWholesCardSaid :=
  Claim7.holds_tied_plain_at .later [] [.data, .pinned] true (true, "d58f0d17b222539305d4ead2a6c364087ff54315ac79d4eade1f6a6003fbc9fb") false alignWholes_holds (fun _ h => by cases h) (by kernel_rfl) (fun _ h => by cases h) alignWholes_row_tie rfl ⟨rfl, rfl⟩ (by kernel_rfl) rfl
    (fun f fn hf hfn => by
      obtain rfl : f = 9 := Option.some.inj ((show Tryz.prog.funcNamed Rows.alignWholesRow.func = some 9 by kernel_rfl).symm.trans hf) |>.symm
      obtain rfl : fn = Tryz.f9 := (Option.some.inj (Tryz.func9.symm.trans hfn)).symm
      exact ⟨by kernel_rfl, fun j t ht => by
        have hm : t ∈ Tryz.f9.params.toList := by simpa using Array.mem_of_getElem? ht
        have hall : (Tryz.f9.params.toList.all fun u => !Tryz.prog.wantsStandIn u) = true := by kernel_rfl
        exact (show Tryz.prog.wantsStandIn t = false by simpa using List.all_eq_true.1 hall t hm)⟩)
    (by kernel_rfl)
end Go.Proofs.YtfhphjloaelgoaaGreatDoor
