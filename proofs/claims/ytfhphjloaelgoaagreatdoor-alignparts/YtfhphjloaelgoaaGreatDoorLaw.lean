/- AlignParts: for every element whose marks all are above 0 and parts of it: they do not contradict each other; with the element itself its order is the only one; a tied card: the row lists unicode/utf8.first and acceptRanges as the program's text lays them. Where the arguments hold together at most 1048576 values (the narrowed statement). -/
import Derived.Test.YtfhphjloaelgoaaGreatDoorRows
import Derived.Test.YtfhphjloaelgoaaGreatDoorTab
import Derived.Test.YtfhphjloaelgoaaGreatDoorR06I7
import Derived.Test.YtfhphjloaelgoaaGreatDoorCards
import Derived.Test.YtfhphjloaelgoaaGreatDoorTie
import Derived.ProofKit
import Derived.Lay
import Derived.LaidOnce
import Derived.SevenTiedAt
import Derived.Deep.DeepHandedRow
namespace Go.Proofs.YtfhphjloaelgoaaGreatDoor
open Go.Dr Go.Dr.T

theorem own : ownKnob Tryz.prog.godebug = none := by kernel_rfl
theorem laidOut : laidOutB Tryz.prog = true := by kernel_rfl

theorem law_run (av : List V) (h : Ty.vals [TyEl, TyUs, .bool] av) (hb : bulks av ≤ 1048576) (hs : ∀ v ∈ av, v.short) : ∃ n, call0 T.FB3 T.md n 11 av = some (.bool true) := by
  simp only [Ty.vals] at h
  obtain ⟨f, _, rfl, hf, g, _, rfl, hg, k, _, rfl, hk, rfl⟩ := h
  obtain ⟨x, rfl⟩ := el_val hf
  obtain ⟨bs, rfl⟩ := us_val hg
  obtain ⟨wh, rfl⟩ := bool_val hk
  exact call0_of rfl rfl (law_parts (parts_bulk hb).1 (parts_bulk hb).2) (.inl rfl)

theorem upOne {H : Type} (d : DataW H) : 1 ≤ Rows.uptoBulk d := by
  cases d with
  | lit l => cases l <;> simp [Rows.uptoBulk]
  | _ => simp [Rows.uptoBulk]
theorem upSlice {H : Type} (e s : List (DataW H)) : Rows.uptoBulkAll e + 1 ≤ Rows.uptoBulk (.slice e s) := by
  simp only [Rows.uptoBulk]; omega
theorem upAgg {H : Type} (e : List (DataW H)) : Rows.uptoBulkAll e ≤ Rows.uptoBulk (.agg e) := by
  simp only [Rows.uptoBulk]; omega
theorem upStr {H : Type} (s : List UInt8) : s.length + 1 ≤ Rows.uptoBulk (H := H) (.lit (.string s)) := by
  simp only [Rows.uptoBulk]; omega
def upBulk (H : Type) : Bulk H := { bk := fun d => Rows.uptoBulk d, bks := fun l => Rows.uptoBulkAll l, one := upOne, str := upStr, slice := upSlice, agg := upAgg, nil := rfl, cons := fun _ _ => rfl }
theorem upAll {H : Type} : ∀ (a b : List (DataW H)), Rows.uptoBulkAll a ≤ Rows.uptoBulkAll (a ++ b)
  | [], _ => Nat.zero_le _
  | d :: a, b => by
    have := upAll a b
    simp only [List.cons_append, Rows.uptoBulkAll]; omega

set_option maxRecDepth 100000 in
theorem contract (H : Type) (enc : TypeId × Value → H) (W : World) (base : Nat) (args : Array Value) (ds gs : List (DataW H)) (before : List MemPlace)
    (hval : ∀ (j : Nat) t v, Tryz.f11.params[j]? = some t → args[j]? = some v → Value.okWide Tryz.prog W .any base t v)
    (hW : DataW.Whole enc Tryz.prog Tryz.f11.params.toList Rows.alignPartsSpec.vars false W args.toList ds gs before) (hk : Rows.uptoSmall H (ds ++ gs) = true) :
    Calls Tryz.prog 11 args W fun e W' => ∃ v, e = .returned v ∧ Rows.alignPartsSpec.post enc Tryz.prog Tryz.f11 false true false false W args v W' :=
  door_contract (P := Tryz.prog) (fn := Tryz.f11) (f := 11) (spec := Rows.alignPartsSpec) (F := T.FB3) (md := T.md) (bt := 4) (N := 1048576) (Ts := [TyEl, TyUs, .bool]) tableB3 laidOut rfl (by kernel_rfl) (by kernel_rfl) (by decide +kernel) (by kernel_rfl) (fun av h hb hs => law_run av h hb hs)
    (fun ds h => by
      have h3 : ds.length = 3 := h
      match ds, h3 with
      | [d1, d2, d3], _ => rfl) (upBulk H) hval hW (Nat.le_trans (upAll ds gs) (of_decide_eq_true hk))

noncomputable def laidWorld (os : Os) : World := World.laidAll Tryz.prog os Rows.alignPartsUptoRow.laid
theorem laid_met (os : Os) (args : Array Value) : laidMetH Tryz.prog Rows.alignPartsUptoRow.laid ((laidWorld os).forCall (fun _ _ => 0) ⟨#[], args, []⟩).memory := by
  rw [MakeChecks.laidMetH_plain _ _ _ (by kernel_rfl)]
  exact laidMet_laidAll _ (by kernel_rfl) (by kernel_rfl)
theorem reads (os : Os) {H : Type} (enc : TypeId × Value → H) : ∃ places, DataW.whole enc Tryz.prog ((laidWorld os).forCall (fun _ _ => 0) ⟨#[], #[.agg #[.string ⟨#[]⟩, .slice none 0 0, .int .i64 0], .slice none 0 0, .bool false], []⟩).memory Tryz.f11.params.toList Rows.alignPartsSpec.vars false #[.agg #[.string ⟨#[]⟩, .slice none 0 0, .int .i64 0], .slice none 0 0, .bool false].toList 8 = some ([.agg [.lit (.string []), .nil, .lit (.int .i64 0)], .nil, .lit (.bool false)], [], places) :=
  ⟨[], by kernel_rfl⟩
set_option maxRecDepth 100000 in
theorem lifted (os : Os) (started : os.Started) (H : Type) (enc : TypeId × Value → H) (F0 : Stop.Interp) :
    ReturnsInHanded {} Tryz.checked os 11 .any ((Rows.OpenSpec.upto Rows.alignPartsSpec).preRow enc Tryz.prog Tryz.f11 Rows.alignPartsUptoRow.domain false Rows.alignPartsUptoRow.laid) (((Rows.OpenSpec.upto Rows.alignPartsSpec).at F0).post enc Tryz.prog Tryz.f11 false true false false) := by
  obtain ⟨places, hx⟩ := reads os enc
  refine returnsInHanded_of_row (C := Tryz.checked) (s := Rows.OpenSpec.upto Rows.alignPartsSpec) own started (by kernel_rfl) Tryz.func11
    (witness_row_at (enc := enc) (C := Tryz.checked) false (laidWorld os) #[.agg #[.string ⟨#[]⟩, .slice none 0 0, .int .i64 0], .slice none 0 0, .bool false] (World.laidAll_os _ _ _) (by kernel_rfl) (by kernel_rfl) (by kernel_rfl)
      (OpenSpec.preRow_of_cond 8 hx (by kernel_rfl) (fun k hk => by cases hk; kernel_rfl) (by kernel_rfl) (laid_met os _))) ?_
  intro W base args ds gs before hval hW _ hcond _ _ _ _
  exact contract H enc W base args ds gs before hval hW (hcond _ rfl)
theorem alignParts_holds : Rows.AlignPartsUptoSaid :=
  OpenClaim.holds_of_cond 11 Tryz.f11 rfl rfl rfl rfl rfl rfl rfl ⟨rfl, rfl, rfl, rfl, rfl⟩ rfl rfl rfl rfl rfl (by kernel_rfl) Tryz.func11 (by kernel_rfl)
    (of_decide_eq_true (by kernel_rfl)) (by unfold Func.isWrapper; first | (rw [if_pos (by decide +kernel)]; kernel_rfl) | (rw [if_neg (by decide +kernel)]; exact ⟨rfl, rfl⟩))
    (fun os started H enc _ F0 => by rw [OpenClaim.pre_eq_preRow]; exact lifted os started H enc F0)
theorem alignParts_card_holds : Rows.AlignPartsUptoCardSaid :=
  Claim7.holds_tied_plain_at .later [] _ _ _ _ alignParts_holds (fun _ h => by cases h) (by kernel_rfl) (fun _ h => by cases h) alignPartsUpto_row_tie rfl ⟨rfl, rfl⟩ (by kernel_rfl) rfl
    (fun f fn hf hfn => by
      obtain rfl : f = 11 := Option.some.inj ((show Tryz.prog.funcNamed Rows.alignPartsUptoRow.func = some 11 by kernel_rfl).symm.trans hf) |>.symm
      obtain rfl : fn = Tryz.f11 := (Option.some.inj (Tryz.func11.symm.trans hfn)).symm
      exact ⟨by kernel_rfl, fun j t ht => by
        have hm : t ∈ Tryz.f11.params.toList := by simpa using Array.mem_of_getElem? ht
        have hall : (Tryz.f11.params.toList.all fun u => !Tryz.prog.wantsStandIn u) = true := by kernel_rfl
        exact (show Tryz.prog.wantsStandIn t = false by simpa using List.all_eq_true.1 hall t hm)⟩)
    (by kernel_rfl)
end Go.Proofs.YtfhphjloaelgoaaGreatDoor
