/- SoundQuiet: for all samples, period and pulls the law returns true, and its arguments read behind the call as before. No condition. -/
import Derived.Test.YtokbdaiamhibeaaRows
import Derived.Test.YtokbdaiamhibeaaTab
import Derived.Test.YtokbdaiamhibeaaR09Qv
import Derived.Test.YtokbdaiamhibeaaR09Wq
import Derived.ProofKit
namespace Go.Proofs.Ytokbdaiamhibeaa
open Go.Dr Go.Dr.T

theorem own : ownKnob Try.prog.godebug = none := by kernel_rfl
theorem laidOut : laidOutB Try.prog = true := by kernel_rfl

theorem law_run (av : List V) (h : Ty.vals [TyI, .int .i64, .agg [.int .i64, .int .i64, .int .i64, TyPops]] av) : ∃ n, call0 T.F T.md n 15 av = some (.bool true) := by
  simp only [Ty.vals] at h
  obtain ⟨f, _, rfl, hf, x, _, rfl, hx, y, _, rfl, hy, rfl⟩ := h
  obtain ⟨l, rfl, _⟩ := ints_val hf
  obtain ⟨p, rfl, _⟩ := int_val hx
  obtain ⟨b, s, m, sp, r, kp, rfl⟩ := pulled_val hy
  exact call0_of rfl rfl (law_quiet false false false l sp kp p b s m r) (.inl rfl)

def noBulk (H : Type) : Bulk H := { bk := fun d => bulkD d, bks := fun l => bulkDs l, one := bulk_one, str := bulk_str, slice := bulk_slice, agg := bulk_agg, nil := rfl, cons := fun _ _ => rfl }

set_option maxRecDepth 100000 in
theorem contract (H : Type) (enc : TypeId × Value → H) (W : World) (base : Nat) (args : Array Value) (ds gs : List (DataW H)) (before : List MemPlace)
    (hval : ∀ (j : Nat) t v, Try.f15.params[j]? = some t → args[j]? = some v → Value.okWide Try.prog W .any base t v)
    (hW : DataW.Whole enc Try.prog Try.f15.params.toList Rows.soundQuietSpec.vars false W args.toList ds gs before) :
    Calls Try.prog 15 args W fun e W' => ∃ v, e = .returned v ∧ Rows.soundQuietSpec.post enc Try.prog Try.f15 false true false false W args v W' :=
  door_contract (P := Try.prog) (fn := Try.f15) (f := 15) (spec := Rows.soundQuietSpec) (F := T.F) (md := T.md) (bt := 4) (N := (noBulk H).bks ds) (Ts := [TyI, .int .i64, .agg [.int .i64, .int .i64, .int .i64, TyPops]]) tableOk laidOut rfl (by kernel_rfl) (by kernel_rfl) (by decide +kernel) (by kernel_rfl) (fun av h _ => law_run av h)
    (fun ds h => by
      have h3 : ds.length = 3 := h
      match ds, h3 with
      | [d1, d2, d3], _ => rfl) (noBulk H) hval hW (Nat.le_refl _)

set_option maxRecDepth 100000 in
theorem lifted (os : Os) (started : os.Started) (H : Type) (enc : TypeId × Value → H) :
    ReturnsInHanded {} Try.checked os 15 .any (Rows.soundQuietSpec.pre6 enc Try.prog Try.f15 Rows.soundQuietRow.domain false) (Rows.soundQuietSpec.post enc Try.prog Try.f15 false true false false) := by
  refine returnsInHanded_of_change (C := Try.checked) own started (by kernel_rfl) Try.func15
    (ChangeSpec.witness6 (enc := enc) (C := Try.checked) false ⟨#[], #[.slice none 0 0, .int .i64 0, .agg #[.int .i64 0, .int .i64 0, .int .i64 0, .slice none 0 0, .int .i64 0, .slice none 0 0]], []⟩ 8 (by kernel_rfl) (by kernel_rfl) (by kernel_rfl) (by kernel_rfl)) ?_
  intro W base args ds gs before hval hW _ _
  exact contract H enc W base args ds gs before hval hW

theorem soundQuiet_holds : Rows.SoundQuietSaid :=
  OpenClaim.holds_of_wide 15 Try.f15 rfl rfl rfl rfl rfl rfl rfl ⟨rfl, rfl, rfl, rfl, rfl⟩ rfl rfl rfl rfl rfl (by kernel_rfl) Try.func15 (by kernel_rfl)
    (of_decide_eq_true (by kernel_rfl)) (by unfold Func.isWrapper; first | (rw [if_pos (by decide +kernel)]; kernel_rfl) | (rw [if_neg (by decide +kernel)]; exact ⟨rfl, rfl⟩))
    (fun os started H enc _ => lifted os started H enc)
end Go.Proofs.Ytokbdaiamhibeaa
