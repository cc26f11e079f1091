/- ScanLight: for all shots, every light and further shot, where they hold together at most 1048576 values, the law returns true, and its arguments read behind the call as before. That bound is the only condition (the narrowed statement). -/
import Derived.Test.YtigcchafpenhiaaRows
import Derived.Test.YtigcchafpenhiaaTab
import Derived.Test.YtigcchafpenhiaaR07L7
import Derived.Test.YtigcchafpenhiaaR07Ws
import Derived.ProofKit
namespace Go.Proofs.Ytigcchafpenhiaa
open Go.Dr Go.Dr.T

theorem own : ownKnob Try.prog.godebug = none := by kernel_rfl
theorem laidOut : laidOutB Try.prog = true := by kernel_rfl

theorem law_run (av : List V) (h : Ty.vals [TySs, .int .i64, .agg [.int .i64, .int .i64]] av) (hb : bulks av ≤ 1048576) : ∃ n, call0 T.F T.md n 7 av = some (.bool true) := by
  simp only [Ty.vals] at h
  obtain ⟨f, _, rfl, hf, g, _, rfl, hg, x, _, rfl, hx, rfl⟩ := h
  obtain ⟨l, rfl⟩ := shots_val hf
  obtain ⟨n, rfl⟩ := int_val hg
  obtain ⟨x1, x2, rfl⟩ := shot_val hx
  exact call0_of rfl rfl (law_light false (shots_bulk hb) n x1 x2) (.inl rfl)

theorem upOne {H : Type} (d : DataW H) : 1 ≤ Rows.uptoBulk d := by
  cases d with
  | lit l => cases l <;> simp [Rows.uptoBulk]
  | _ => simp [Rows.uptoBulk]
theorem upSlice {H : Type} (e s : List (DataW H)) : Rows.uptoBulkAll e + 1 ≤ Rows.uptoBulk (.slice e s) := by
  simp only [Rows.uptoBulk]; omega
theorem upAgg {H : Type} (e : List (DataW H)) : Rows.uptoBulkAll e ≤ Rows.uptoBulk (.agg e) := by
  simp only [Rows.uptoBulk]; omega
theorem upStr {H : Type} (s : List UInt8) : s.length + 1 ≤ Rows.uptoBulk (H := H) (.lit (.string s)) := by
  simp only [Rows.uptoBulk]; omega
def upBulk (H : Type) : Bulk H := { bk := fun d => Rows.uptoBulk d, bks := fun l => Rows.uptoBulkAll l, one := upOne, str := upStr, slice := upSlice, agg := upAgg, nil := rfl, cons := fun _ _ => rfl }
theorem upAll {H : Type} : ∀ (a b : List (DataW H)), Rows.uptoBulkAll a ≤ Rows.uptoBulkAll (a ++ b)
  | [], _ => Nat.zero_le _
  | d :: a, b => by
    have := upAll a b
    simp only [List.cons_append, Rows.uptoBulkAll]; omega

set_option maxRecDepth 100000 in
theorem contract (H : Type) (enc : TypeId × Value → H) (W : World) (base : Nat) (args : Array Value) (ds gs : List (DataW H)) (before : List MemPlace)
    (hval : ∀ (j : Nat) t v, Try.f7.params[j]? = some t → args[j]? = some v → Value.okWide Try.prog W .any base t v)
    (hW : DataW.Whole enc Try.prog Try.f7.params.toList Rows.scanLightSpec.vars false W args.toList ds gs before) (hk : Rows.uptoSmall H (ds ++ gs) = true) :
    Calls Try.prog 7 args W fun e W' => ∃ v, e = .returned v ∧ Rows.scanLightSpec.post enc Try.prog Try.f7 false true false false W args v W' :=
  door_contract (P := Try.prog) (fn := Try.f7) (f := 7) (spec := Rows.scanLightSpec) (F := T.F) (md := T.md) (bt := 4) (N := 1048576) (Ts := [TySs, .int .i64, .agg [.int .i64, .int .i64]]) tableOk laidOut rfl (by kernel_rfl) (by kernel_rfl) (by decide +kernel) (by kernel_rfl) (fun av h hb => law_run av h hb)
    (fun ds h => by
      have h3 : ds.length = 3 := h
      match ds, h3 with
      | [d1, d2, d3], _ => rfl) (upBulk H) hval hW (Nat.le_trans (upAll ds gs) (of_decide_eq_true hk))

set_option maxRecDepth 100000 in
theorem lifted (os : Os) (started : os.Started) (H : Type) (enc : TypeId × Value → H) (F0 : Stop.Interp) :
    ReturnsInHanded {} Try.checked os 7 .any ((Rows.OpenSpec.upto Rows.scanLightSpec).pre6 enc Try.prog Try.f7 Rows.scanLightUptoRow.domain false) (((Rows.OpenSpec.upto Rows.scanLightSpec).at F0).post enc Try.prog Try.f7 false true false false) := by
  refine returnsInHanded_of_cond (C := Try.checked) (s := Rows.OpenSpec.upto Rows.scanLightSpec) (k := Rows.uptoSmall) rfl own started (by kernel_rfl) Try.func7
    (OpenSpec.witness (enc := enc) (C := Try.checked) (s := Rows.OpenSpec.upto Rows.scanLightSpec) (k := Rows.uptoSmall) rfl false ⟨#[], #[.slice none 0 0, .int .i64 0, .agg #[.int .i64 0, .int .i64 0]], []⟩ 8 (by kernel_rfl) (by kernel_rfl) (by kernel_rfl)
      (x := ([.nil, .lit (.int .i64 0), .agg [.lit (.int .i64 0), .lit (.int .i64 0)]], [], [])) (by kernel_rfl) (by kernel_rfl) (by kernel_rfl)) ?_
  intro W base args ds gs before hval hW _ hk _
  exact contract H enc W base args ds gs before hval hW hk

theorem scanLight_holds : Rows.ScanLightUptoSaid :=
  OpenClaim.holds_of_cond 7 Try.f7 rfl rfl rfl rfl rfl rfl rfl ⟨rfl, rfl, rfl, rfl, rfl⟩ rfl rfl rfl rfl rfl (by kernel_rfl) Try.func7 (by kernel_rfl)
    (of_decide_eq_true (by kernel_rfl)) (by unfold Func.isWrapper; first | (rw [if_pos (by decide +kernel)]; kernel_rfl) | (rw [if_neg (by decide +kernel)]; exact ⟨rfl, rfl⟩))
    (fun os started H enc _ F0 => lifted os started H enc F0)
end Go.Proofs.Ytigcchafpenhiaa
