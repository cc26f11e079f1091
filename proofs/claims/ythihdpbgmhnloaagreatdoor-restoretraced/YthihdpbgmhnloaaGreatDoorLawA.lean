/- The contract of the law, and the law for every argument; the statement itself: the text behind this one. -/
import Derived.Test.YthihdpbgmhnloaaGreatDoorRows
import Derived.Test.YthihdpbgmhnloaaGreatDoorTab
import Derived.Test.YthihdpbgmhnloaaGreatDoorG19
import Derived.Test.YthihdpbgmhnloaaGreatDoorG19
import Derived.Test.YthihdpbgmhnloaaGreatDoorCards
import Derived.Test.YthihdpbgmhnloaaGreatDoorTie
import Derived.ProofKit
import Derived.Lay
import Derived.LaidOnce
import Derived.SevenTiedAt
namespace Go.Proofs.YthihdpbgmhnloaaGreatDoor
open Go.Dr Go.Dr.T

theorem own : ownKnob Tryz.prog.godebug = none := by kernel_rfl
theorem laidOut : laidOutB Tryz.prog = true := by kernel_rfl

theorem law_run (av : List V) (h : Ty.vals [TyFms, TySps, TyAt] av) (hs : ∀ v ∈ av, v.short) : ∃ n, call0 T.FB1 T.md n 8 av = some (.bool true) := by
  simp only [Ty.vals] at h
  obtain ⟨f, _, rfl, hf, g, _, rfl, hg, k, _, rfl, hk, rfl⟩ := h
  obtain ⟨l, rfl⟩ := fms_val hf
  obtain ⟨ss, rfl⟩ := sps_val hg
  obtain ⟨x, y, rfl⟩ := at_val hk
  exact call0_of rfl rfl law_traced (.inl rfl)

def noBulk (H : Type) : Bulk H := { bk := fun d => bulkD d, bks := fun l => bulkDs l, one := bulk_one, str := bulk_str, slice := bulk_slice, agg := bulk_agg, nil := rfl, cons := fun _ _ => rfl }

def laidL : List (String × DataW Unit) := [("math/bits.deBruijn32tab", Rows.laid_math_bits_deBruijn32tab), ("math/bits.deBruijn64tab", Rows.laid_math_bits_deBruijn64tab), ("internal/strconv.uint64pow10", Rows.laid_internal_strconv_uint64pow10), ("unicode/utf8.acceptRanges", Rows.laid_unicode_utf8_acceptRanges), ("unicode/utf8.first", Rows.laid_unicode_utf8_first)]
theorem tabLaid {W : World} (h : laidMetH Tryz.prog laidL W) : Lib.TabIs Tryz.prog W tabN .u64 Lib.pow10Tab := by
  rw [MakeChecks.laidMetH_plain _ _ _ (by kernel_rfl)] at h
  obtain ⟨ps, hv, _⟩ := h
  exact tab_in (g := 5) (t := 222) (e := 204) (n := 20) (by kernel_rfl) (by kernel_rfl) (by kernel_rfl) (by kernel_rfl) (by kernel_rfl) (by kernel_rfl) hv (List.mem_iff_get.2 ⟨⟨2, by decide⟩, rfl⟩)

set_option maxRecDepth 100000 in
theorem contract (H : Type) (enc : TypeId × Value → H) (W : World) (base : Nat) (args : Array Value) (ds gs : List (DataW H)) (before : List MemPlace)
    (hval : ∀ (j : Nat) t v, Tryz.f8.params[j]? = some t → args[j]? = some v → Value.okWide Tryz.prog W .any base t v)
    (hT : Lib.TabIs Tryz.prog W tabN .u64 Lib.pow10Tab) (hW : DataW.Whole enc Tryz.prog Tryz.f8.params.toList Rows.restoreTracedSpec.vars false W args.toList ds gs before) :
    Calls Tryz.prog 8 args W fun e W' => ∃ v, e = .returned v ∧ Rows.restoreTracedSpec.post enc Tryz.prog Tryz.f8 false true false false W args v W' :=
  door_contract (P := Tryz.prog) (fn := Tryz.f8) (f := 8) (spec := Rows.restoreTracedSpec) (F := T.FB1) (md := T.md) (bt := 4) (N := (noBulk H).bks ds) (Ts := [TyFms, TySps, TyAt]) tableB1 laidOut rfl (by kernel_rfl) (by kernel_rfl) (by decide +kernel) (by kernel_rfl) (fun av h _ hs => law_run av h hs)
    (fun ds h => by
      have h3 : ds.length = 3 := h
      match ds, h3 with
      | [d1, d2, d3], _ => rfl) (noBulk H) hval hW (Nat.le_refl _) ⟨tabSize hT, hT⟩

set_option maxRecDepth 100000 in
theorem lifted (os : Os) (started : os.Started) (H : Type) (enc : TypeId × Value → H) :
    ReturnsInHanded {} Tryz.checked os 8 .any (fun w args => (Rows.restoreTracedSpec.pre enc Tryz.prog Tryz.f8 [] false w args ∧ laidMetH Tryz.prog laidL w) ∧ sizedMet enc Tryz.prog Tryz.f8 (OpenSpec.ofChange Rows.restoreTracedSpec) false w args)
      (Rows.restoreTracedSpec.post enc Tryz.prog Tryz.f8 false true false false) := by
  refine returnsInHanded_of_change_and (C := Tryz.checked) (X := fun w _ => laidMetH Tryz.prog laidL w) (fun _ _ _ hh h => h.of_heap hh) own started (by kernel_rfl) Tryz.func8
    (ChangeSpec.witness_shaped (enc := enc) (C := Tryz.checked) (os := os) (X := fun w _ => laidMetH Tryz.prog laidL w) false (World.laidAll Tryz.prog os laidL) #[.slice none 0 0, .slice none 0 0, .agg #[.int .i64 0, .int .i64 0]] 8 (World.laidAll_os _ _ _)
      (World.shaped_of_ZipB (by kernel_rfl) (by kernel_rfl)) (by kernel_rfl) (by kernel_rfl) (by kernel_rfl)
      (by rw [MakeChecks.laidMetH_plain _ _ _ (by kernel_rfl)]; exact laidMet_laidAll _ (by kernel_rfl) (by kernel_rfl))) ?_
  intro W base args ds gs before hval hW _ _ hX _
  refine contract H enc W base args ds gs before hval (tabLaid hX) hW

end Go.Proofs.YthihdpbgmhnloaaGreatDoor
