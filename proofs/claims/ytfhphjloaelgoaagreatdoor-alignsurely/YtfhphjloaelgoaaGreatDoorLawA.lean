/- The contract of the law, and the law for every argument; the statement itself: the text behind this one. -/
import Derived.Test.YtfhphjloaelgoaaGreatDoorRows
import Derived.Test.YtfhphjloaelgoaaGreatDoorTab
import Derived.Test.YtfhphjloaelgoaaGreatDoorG19
import Derived.Test.YtfhphjloaelgoaaGreatDoorCards
import Derived.Test.YtfhphjloaelgoaaGreatDoorTie
import Derived.ProofKit
import Derived.Lay
import Derived.LaidOnce
import Derived.SevenTiedAt
namespace Go.Proofs.YtfhphjloaelgoaaGreatDoor
open Go.Dr Go.Dr.T

theorem own : ownKnob Tryz.prog.godebug = none := by kernel_rfl
theorem laidOut : laidOutB Tryz.prog = true := by kernel_rfl

theorem law_run (av : List V) (h : Ty.vals [TyEl, TyEl, .int .i64] av) (hs : ∀ v ∈ av, v.short) : ∃ n, call0 T.FB2 T.md n 14 av = some (.bool true) := by
  simp only [Ty.vals] at h
  obtain ⟨f, _, rfl, hf, g, _, rfl, hg, k, _, rfl, hk, rfl⟩ := h
  obtain ⟨x, rfl⟩ := el_val hf
  obtain ⟨y, rfl⟩ := el_val hg
  obtain ⟨s, rfl⟩ := int_val hk
  exact call0_of rfl rfl law_surely (.inl rfl)

def noBulk (H : Type) : Bulk H := { bk := fun d => bulkD d, bks := fun l => bulkDs l, one := bulk_one, str := bulk_str, slice := bulk_slice, agg := bulk_agg, nil := rfl, cons := fun _ _ => rfl }

set_option maxRecDepth 100000 in
theorem contract (H : Type) (enc : TypeId × Value → H) (W : World) (base : Nat) (args : Array Value) (ds gs : List (DataW H)) (before : List MemPlace)
    (hval : ∀ (j : Nat) t v, Tryz.f14.params[j]? = some t → args[j]? = some v → Value.okWide Tryz.prog W .any base t v)
    (hW : DataW.Whole enc Tryz.prog Tryz.f14.params.toList Rows.alignSurelySpec.vars false W args.toList ds gs before) :
    Calls Tryz.prog 14 args W fun e W' => ∃ v, e = .returned v ∧ Rows.alignSurelySpec.post enc Tryz.prog Tryz.f14 false true false false W args v W' :=
  door_contract (P := Tryz.prog) (fn := Tryz.f14) (f := 14) (spec := Rows.alignSurelySpec) (F := T.FB2) (md := T.md) (bt := 4) (N := (noBulk H).bks ds) (Ts := [TyEl, TyEl, .int .i64]) tableB2 laidOut rfl (by kernel_rfl) (by kernel_rfl) (by decide +kernel) (by kernel_rfl) (fun av h _ hs => law_run av h hs)
    (fun ds h => by
      have h3 : ds.length = 3 := h
      match ds, h3 with
      | [d1, d2, d3], _ => rfl) (noBulk H) hval hW (Nat.le_refl _)

def laidL : List (String × DataW Unit) := [("unicode/utf8.acceptRanges", Rows.laid_unicode_utf8_acceptRanges), ("unicode/utf8.first", Rows.laid_unicode_utf8_first)]
set_option maxRecDepth 100000 in
theorem lifted (os : Os) (started : os.Started) (H : Type) (enc : TypeId × Value → H) :
    ReturnsInHanded {} Tryz.checked os 14 .any (fun w args => (Rows.alignSurelySpec.pre enc Tryz.prog Tryz.f14 [] false w args ∧ laidMetH Tryz.prog laidL w) ∧ sizedMet enc Tryz.prog Tryz.f14 (OpenSpec.ofChange Rows.alignSurelySpec) false w args)
      (Rows.alignSurelySpec.post enc Tryz.prog Tryz.f14 false true false false) := by
  refine returnsInHanded_of_change_and (C := Tryz.checked) (X := fun w _ => laidMetH Tryz.prog laidL w) (fun _ _ _ hh h => h.of_heap hh) own started (by kernel_rfl) Tryz.func14
    (ChangeSpec.witness_shaped (enc := enc) (C := Tryz.checked) (os := os) (X := fun w _ => laidMetH Tryz.prog laidL w) false (World.laidAll Tryz.prog os laidL) #[.agg #[.string ⟨#[]⟩, .slice none 0 0, .int .i64 0], .agg #[.string ⟨#[]⟩, .slice none 0 0, .int .i64 0], .int .i64 0] 8 (World.laidAll_os _ _ _)
      (World.shaped_of_ZipB (by kernel_rfl) (by kernel_rfl)) (by kernel_rfl) (by kernel_rfl) (by kernel_rfl)
      (by rw [MakeChecks.laidMetH_plain _ _ _ (by kernel_rfl)]; exact laidMet_laidAll _ (by kernel_rfl) (by kernel_rfl))) ?_
  intro W base args ds gs before hval hW _ _ _ _
  exact contract H enc W base args ds gs before hval hW

end Go.Proofs.YtfhphjloaelgoaaGreatDoor
