/- SoundHums: for all samples, period and hum the law returns true, and its arguments read behind the call as before. No condition. -/
import Derived.Test.YtokbdaiamhibeaaRows
import Derived.Test.YtokbdaiamhibeaaTab
import Derived.Test.YtokbdaiamhibeaaR09Qh
import Derived.Test.YtokbdaiamhibeaaR09Wx
import Derived.ProofKit
namespace Go.Proofs.Ytokbdaiamhibeaa
open Go.Dr Go.Dr.T

theorem own : ownKnob Try.prog.godebug = none := by kernel_rfl
theorem laidOut : laidOutB Try.prog = true := by kernel_rfl

theorem law_run (av : List V) (h : Ty.vals [TyI, .int .i64, TyI] av true) : ∃ n, call0 T.F T.md n 14 av = some (.bool true) := by
  simp only [Ty.vals] at h
  obtain ⟨f, _, rfl, hf, x, _, rfl, hx, y, _, rfl, hy, rfl⟩ := h
  obtain ⟨p, rfl⟩ := int_valX hx
  have hh : ∃ c' hum, HumV y c' hum := by
    rcases ints_valX hy with rfl | rfl | ⟨l, hl, rfl⟩
    · exact ⟨true, [], .inl ⟨rfl, rfl, rfl⟩⟩
    · exact ⟨false, [], .inr (.inl ⟨rfl, rfl, rfl⟩)⟩
    · exact ⟨false, l, .inr (.inr ⟨rfl, hl⟩)⟩
  obtain ⟨c', hum, hh⟩ := hh
  rcases ints_valX hf with rfl | rfl | ⟨l, hl, rfl⟩
  · exact law_hums_nil (.inl ⟨rfl, rfl⟩) hh
  · exact law_hums_nil (.inr ⟨rfl, rfl⟩) hh
  · have h0 : l.length ≠ 0 := fun e => hl (List.eq_nil_of_length_eq_zero e)
    rcases hh with ⟨rfl, rfl, rfl⟩ | ⟨rfl, rfl, rfl⟩ | ⟨rfl, _⟩
    · exact call0_of (m4 rfl h0) rfl (law_hums (c := false) (c' := true) (l := l) (hum := []) (p := p) h0) (.inl rfl)
    · exact call0_of (m4 rfl h0) rfl (law_hums (c := false) (c' := false) (l := l) (hum := []) (p := p) h0) (.inl rfl)
    · exact call0_of (m4 rfl h0) rfl (law_hums (c := false) (c' := c') (l := l) (hum := hum) (p := p) h0) (.inl rfl)

def noBulk (H : Type) : Bulk H := { bk := fun d => bulkD d, bks := fun l => bulkDs l, one := bulk_one, str := bulk_str, slice := bulk_slice, agg := bulk_agg, nil := rfl, cons := fun _ _ => rfl }

set_option maxRecDepth 100000 in
theorem contract (H : Type) (enc : TypeId × Value → H) (W : World) (base : Nat) (args : Array Value) (ds gs : List (DataW H)) (before : List MemPlace)
    (hval : ∀ (j : Nat) t v, Try.f14.params[j]? = some t → args[j]? = some v → Value.okWide Try.prog W .any base t v)
    (hW : DataW.Whole enc Try.prog Try.f14.params.toList Rows.soundHumsSpec.vars false W args.toList ds gs before) :
    Calls Try.prog 14 args W fun e W' => ∃ v, e = .returned v ∧ Rows.soundHumsSpec.post enc Try.prog Try.f14 false true false false W args v W' :=
  door_contract (ex := true) (P := Try.prog) (fn := Try.f14) (f := 14) (spec := Rows.soundHumsSpec) (F := T.F) (md := T.md) (bt := 4) (N := (noBulk H).bks ds) (Ts := [TyI, .int .i64, TyI]) tableOk laidOut rfl (by kernel_rfl) (by kernel_rfl) (by decide +kernel) (by kernel_rfl) (fun av h _ => law_run av h)
    (fun ds h => by
      have h3 : ds.length = 3 := h
      match ds, h3 with
      | [d1, d2, d3], _ => rfl) (noBulk H) hval hW (Nat.le_refl _)

set_option maxRecDepth 100000 in
theorem lifted (os : Os) (started : os.Started) (H : Type) (enc : TypeId × Value → H) :
    ReturnsInHanded {} Try.checked os 14 .any (Rows.soundHumsSpec.pre6 enc Try.prog Try.f14 Rows.soundHumsRow.domain false) (Rows.soundHumsSpec.post enc Try.prog Try.f14 false true false false) := by
  refine returnsInHanded_of_change (C := Try.checked) own started (by kernel_rfl) Try.func14
    (ChangeSpec.witness6 (enc := enc) (C := Try.checked) false ⟨#[], #[.slice none 0 0, .int .i64 0, .slice none 0 0], []⟩ 8 (by kernel_rfl) (by kernel_rfl) (by kernel_rfl) (by kernel_rfl)) ?_
  intro W base args ds gs before hval hW _ _
  exact contract H enc W base args ds gs before hval hW

theorem soundHums_holds : Rows.SoundHumsSaid :=
  OpenClaim.holds_of_wide 14 Try.f14 rfl rfl rfl rfl rfl rfl rfl ⟨rfl, rfl, rfl, rfl, rfl⟩ rfl rfl rfl rfl rfl (by kernel_rfl) Try.func14 (by kernel_rfl)
    (of_decide_eq_true (by kernel_rfl)) (by unfold Func.isWrapper; first | (rw [if_pos (by decide +kernel)]; kernel_rfl) | (rw [if_neg (by decide +kernel)]; exact ⟨rfl, rfl⟩))
    (fun os started H enc _ => lifted os started H enc)
end Go.Proofs.Ytokbdaiamhibeaa
