/- The contract of the law, and the law for every argument; the statement itself: the text behind this one. -/
import Derived.Test.YthoefcibbdfakaaGreatDoorRows
import Derived.Test.YthoefcibbdfakaaGreatDoorTab
import Derived.Test.YthoefcibbdfakaaGreatDoorG31
import Derived.Test.YthoefcibbdfakaaGreatDoorG31
import Derived.Test.YthoefcibbdfakaaGreatDoorCards
import Derived.Test.YthoefcibbdfakaaGreatDoorTie
import Derived.ProofKit
import Derived.Lay
import Derived.LaidOnce
import Derived.SevenTiedAt
namespace Go.Proofs.YthoefcibbdfakaaGreatDoor
open Go.Dr Go.Dr.T

theorem own : ownKnob Tryz.prog.godebug = none := by kernel_rfl
theorem Qqa : laidOutB Tryz.prog = true := by kernel_rfl

theorem Qq9 (av : List V) (h : Ty.vals [TyFr, TyShk] av) (hs : ∀ v ∈ av, v.short) : ∃ n, Qgn T.FB1 T.md n 3 av = some (.bool true) := by
  simp only [Ty.vals] at h
  obtain ⟨f, _, rfl, hf, g, _, rfl, hg, rfl⟩ := h
  obtain ⟨w, u, l, rfl⟩ := Qjp hf
  obtain ⟨a, b, d, e, r, Bs, fill, px, rfl, hpx, hBs⟩ := Qpm hg
  exact Qnb rfl rfl (Qb8 hBs hpx) (.inl rfl)

def Qoa (H : Type) : Bulk H := { bk := fun d => Q5q d, bks := fun l => Q8y l, one := Qnf, str := Qne, slice := Qgo, agg := Qng, nil := rfl, cons := fun _ _ => rfl }

def Qj8 : List (String × DataW Unit) := [("math/bits.deBruijn32tab", Rows.laid_math_bits_deBruijn32tab), ("math/bits.deBruijn64tab", Rows.laid_math_bits_deBruijn64tab), ("internal/strconv.uint64pow10", Rows.laid_internal_strconv_uint64pow10), ("unicode/utf8.acceptRanges", Rows.laid_unicode_utf8_acceptRanges), ("unicode/utf8.first", Rows.laid_unicode_utf8_first)]
theorem Qpj {W : World} (h : laidMetH Tryz.prog Qj8 W) : Lib.TabIs Tryz.prog W tabN .u64 Lib.pow10Tab := by
  rw [MakeChecks.laidMetH_plain _ _ _ (by kernel_rfl)] at h
  obtain ⟨ps, hv, _⟩ := h
  exact Qo1 (g := 3) (t := 204) (e := 192) (n := 20) (by kernel_rfl) (by kernel_rfl) (by kernel_rfl) (by kernel_rfl) (by kernel_rfl) (by kernel_rfl) hv (List.mem_iff_get.2 ⟨⟨2, by decide⟩, rfl⟩)

set_option maxRecDepth 100000 in
theorem Qf9 (H : Type) (enc : TypeId × Value → H) (W : World) (base : Nat) (args : Array Value) (ds gs : List (DataW H)) (before : List MemPlace)
    (hval : ∀ (j : Nat) t v, Tryz.f3.params[j]? = some t → args[j]? = some v → Value.okWide Tryz.prog W .any base t v)
    (hT : Lib.TabIs Tryz.prog W tabN .u64 Lib.pow10Tab) (hW : DataW.Whole enc Tryz.prog Tryz.f3.params.toList Rows.topSteadiedSpec.vars false W args.toList ds gs before) :
    Calls Tryz.prog 3 args W fun e W' => ∃ v, e = .returned v ∧ Rows.topSteadiedSpec.post enc Tryz.prog Tryz.f3 false true false false W args v W' :=
  Q9x (P := Tryz.prog) (fn := Tryz.f3) (f := 3) (spec := Rows.topSteadiedSpec) (F := T.FB1) (md := T.md) (bt := 4) (N := (Qoa H).bks ds) (Ts := [TyFr, TyShk]) Qph Qqa rfl (by kernel_rfl) (by kernel_rfl) (by decide +kernel) (by kernel_rfl) (fun av h _ hs => Qq9 av h hs)
    (fun ds h => by
      have h3 : ds.length = 2 := h
      match ds, h3 with
      | [d1, d2], _ => rfl) (Qoa H) hval hW (Nat.le_refl _) ⟨Qpi hT, hT⟩

set_option maxRecDepth 100000 in
theorem lifted (os : Os) (started : os.Started) (H : Type) (enc : TypeId × Value → H) :
    ReturnsInHanded {} Tryz.checked os 3 .any (fun w args => (Rows.topSteadiedSpec.pre enc Tryz.prog Tryz.f3 [] false w args ∧ laidMetH Tryz.prog Qj8 w) ∧ sizedMet enc Tryz.prog Tryz.f3 (OpenSpec.ofChange Rows.topSteadiedSpec) false w args)
      (Rows.topSteadiedSpec.post enc Tryz.prog Tryz.f3 false true false false) := by
  refine returnsInHanded_of_change_and (C := Tryz.checked) (X := fun w _ => laidMetH Tryz.prog Qj8 w) (fun _ _ _ hh h => h.of_heap hh) own started (by kernel_rfl) Tryz.func3
    (ChangeSpec.witness_shaped (enc := enc) (C := Tryz.checked) (os := os) (X := fun w _ => laidMetH Tryz.prog Qj8 w) false (World.laidAll Tryz.prog os Qj8) #[.agg #[.int .i64 0, .int .i64 0, .slice none 0 0], .agg #[.int .i64 0, .int .i64 0, .int .i64 0, .int .i64 0, .int .i64 0, .slice none 0 0, .int .u8 0, .int .u16 0]] 8 (World.laidAll_os _ _ _)
      (World.shaped_of_ZipB (by kernel_rfl) (by kernel_rfl)) (by kernel_rfl) (by kernel_rfl) (by kernel_rfl)
      (by rw [MakeChecks.laidMetH_plain _ _ _ (by kernel_rfl)]; exact laidMet_laidAll _ (by kernel_rfl) (by kernel_rfl))) ?_
  intro W base args ds gs before hval hW _ _ hX _
  refine Qf9 H enc W base args ds gs before hval (Qpj hX) hW

end Go.Proofs.YthoefcibbdfakaaGreatDoor
