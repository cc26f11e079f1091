/- SoundBloops: for all samples and pops the law returns true, and its arguments read behind the call as before. No condition. -/
import Derived.Test.YtokbdaiamhibeaaRows
import Derived.Test.YtokbdaiamhibeaaTab
import Derived.Test.YtokbdaiamhibeaaR09Uf
import Derived.ProofKit
namespace Go.Proofs.Ytokbdaiamhibeaa
open Go.Dr Go.Dr.T

theorem own : ownKnob Try.prog.godebug = none := by kernel_rfl
theorem laidOut : laidOutB Try.prog = true := by kernel_rfl

theorem law_run (av : List V) (h : Ty.vals [TyI, TyPops] av true) : ∃ n, call0 T.F T.md n 13 av = some (.bool true) := by
  simp only [Ty.vals] at h
  obtain ⟨f, _, rfl, hf, x, _, rfl, hx, rfl⟩ := h
  obtain ⟨sv, kv, r, c', c2, sp, kp, rfl, hs, hk⟩ := pops_valX hx
  obtain ⟨c, l, hl⟩ := humV_of hf
  rcases humV_ints hl with ⟨c1, hn⟩ | ⟨rfl, h0⟩
  · exact law_bloops_nil hn hs hk
  · have hv : ∀ {v : V} {c : Bool} {l : List Int}, HumV v c l → ∃ c', V.view [] 63 v = some (.sl c' l.length (ofI l)) := by
      rintro v c l (⟨rfl, rfl, rfl⟩ | ⟨rfl, rfl, rfl⟩ | ⟨rfl, _⟩)
      · exact ⟨true, rfl⟩
      · exact ⟨false, rfl⟩
      · exact ⟨c, rfl⟩
    have hb : ∀ {v : V} {c : Bool} {l : List Int}, HumV v c l → v.blo 0 = true := by
      rintro v c l (⟨rfl, rfl, rfl⟩ | ⟨rfl, rfl, rfl⟩ | ⟨rfl, _⟩) <;> rfl
    obtain ⟨d1, v1⟩ := hv hs
    obtain ⟨d2, v2⟩ := hv hk
    have h63 : mapO (V.view [] 63) [sv, .int .i64 r, kv] = some [.sl d1 sp.length (ofI sp), .int .i64 r, .sl d2 kp.length (ofI kp)] := by
      simp only [mapO, v1, v2]
      rfl
    have h64 : mapO (V.view [] 64) [.agg [sv, .int .i64 r, kv]] = some [.agg [.sl d1 sp.length (ofI sp), .int .i64 r, .sl d2 kp.length (ofI kp)]] := by
      show (match (mapO (V.view [] 63) [sv, .int .i64 r, kv]).map V.agg with | none => none | some x => some [x]) = _
      rw [h63]; rfl
    have hvw : views [] depth [.sl c l.length (ofI l), .agg [sv, .int .i64 r, kv]] = some [.sl c l.length (ofI l), .agg [.sl d1 sp.length (ofI sp), .int .i64 r, .sl d2 kp.length (ofI kp)]] := by
      show (match V.view [] 64 (.sl c l.length (ofI l)) with | none => none | some x => match mapO (V.view [] 64) [.agg [sv, .int .i64 r, kv]] with | none => none | some r => some (x :: r)) = _
      rw [h64]; rfl
    exact call0_of (m4 rfl h0) hvw (law_bloops h0) (.inl (by simp only [blos, V.blo, hb hs, hb hk, Bool.and_self]))

def noBulk (H : Type) : Bulk H := { bk := fun d => bulkD d, bks := fun l => bulkDs l, one := bulk_one, str := bulk_str, slice := bulk_slice, agg := bulk_agg, nil := rfl, cons := fun _ _ => rfl }

set_option maxRecDepth 100000 in
theorem contract (H : Type) (enc : TypeId × Value → H) (W : World) (base : Nat) (args : Array Value) (ds gs : List (DataW H)) (before : List MemPlace)
    (hval : ∀ (j : Nat) t v, Try.f13.params[j]? = some t → args[j]? = some v → Value.okWide Try.prog W .any base t v)
    (hW : DataW.Whole enc Try.prog Try.f13.params.toList Rows.soundBloopsSpec.vars false W args.toList ds gs before) :
    Calls Try.prog 13 args W fun e W' => ∃ v, e = .returned v ∧ Rows.soundBloopsSpec.post enc Try.prog Try.f13 false true false false W args v W' :=
  door_contract (ex := true) (P := Try.prog) (fn := Try.f13) (f := 13) (spec := Rows.soundBloopsSpec) (F := T.F) (md := T.md) (bt := 4) (N := (noBulk H).bks ds) (Ts := [TyI, TyPops]) tableOk laidOut rfl (by kernel_rfl) (by kernel_rfl) (by decide +kernel) (by kernel_rfl) (fun av h _ => law_run av h)
    (fun ds h => by
      have h3 : ds.length = 2 := h
      match ds, h3 with
      | [d1, d2], _ => rfl) (noBulk H) hval hW (Nat.le_refl _)

set_option maxRecDepth 100000 in
theorem lifted (os : Os) (started : os.Started) (H : Type) (enc : TypeId × Value → H) :
    ReturnsInHanded {} Try.checked os 13 .any (Rows.soundBloopsSpec.pre6 enc Try.prog Try.f13 Rows.soundBloopsRow.domain false) (Rows.soundBloopsSpec.post enc Try.prog Try.f13 false true false false) := by
  refine returnsInHanded_of_change (C := Try.checked) own started (by kernel_rfl) Try.func13
    (ChangeSpec.witness6 (enc := enc) (C := Try.checked) false ⟨#[], #[.slice none 0 0, .agg #[.slice none 0 0, .int .i64 0, .slice none 0 0]], []⟩ 8 (by kernel_rfl) (by kernel_rfl) (by kernel_rfl) (by kernel_rfl)) ?_
  intro W base args ds gs before hval hW _ _
  exact contract H enc W base args ds gs before hval hW

theorem soundBloops_holds : Rows.SoundBloopsSaid :=
  OpenClaim.holds_of_wide 13 Try.f13 rfl rfl rfl rfl rfl rfl rfl ⟨rfl, rfl, rfl, rfl, rfl⟩ rfl rfl rfl rfl rfl (by kernel_rfl) Try.func13 (by kernel_rfl)
    (of_decide_eq_true (by kernel_rfl)) (by unfold Func.isWrapper; first | (rw [if_pos (by decide +kernel)]; kernel_rfl) | (rw [if_neg (by decide +kernel)]; exact ⟨rfl, rfl⟩))
    (fun os started H enc _ => lifted os started H enc)
end Go.Proofs.Ytokbdaiamhibeaa
