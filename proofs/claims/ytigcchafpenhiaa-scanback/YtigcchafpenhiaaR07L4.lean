/- Chapter 07: the law ScanBack where the first move gives nothing. -/
import Derived.Test.YtigcchafpenhiaaR07Bm
namespace Go.Dr.T

set_option maxRecDepth 100000 in
set_option maxHeartbeats 20000000 in
theorem back_bad {w h : Int} {c : Bool} {l : List UInt8} {dx dy : Int} (hb : ¬ (checkL w h l.length = 0 ∧ -12 ≤ dx ∧ dx ≤ 12 ∧ -12 ≤ dy ∧ dy ≤ 12)) (fill : UInt8) (ex ey : Int) (fill2 : UInt8) :
    Fun F md 5 [frV w h c l, .agg [.int .i64 dx, .int .i64 dy, .int .u8 fill.toNat], .agg [.int .i64 ex, .int .i64 ey, .int .u8 fill2.toNat]] (.bool true) := by
  obtain ⟨k, hk, hm⟩ : ∃ k : Int, k ≠ 0 ∧ Fun F md 21 [frV w h c l, .int .i64 dx, .int .i64 dy, .int .u8 fill.toNat] (.tup [frV 0 0 true [], .int .i64 k]) := by
    by_cases hck : checkL w h l.length = 0
    · exact ⟨7, by decide, move_far hck (fun h => hb ⟨hck, h⟩) _⟩
    · exact ⟨_, hck, move_bad hck _ _ _⟩
  refine fun_of rfl rfl ?_
  repeat' (first
      | refine Br.t ?_
      | refine Br.f ?_
      | refine Br.decT (by first | assumption | omega) ?_
      | refine Br.decF (by first | assumption | omega) ?_
      | refine Br.dec (fun _ => ?_) (fun _ => ?_)
      | refine Br.not ?_
      | refine Br.and ?_
      | refine Br.or ?_
      | refine Bnd.i64 (by omega) (by omega) ?_
      | refine Br.yes (beq_self_eq_true _) ?_
      | refine call_fun rfl rfl (checkR_any _ _ _ _) (.inl rfl) ?_
      | refine call_fun rfl rfl hm (.inl rfl) ?_
      | refine call_fun rfl rfl (sameR_any 0 0 true [] 0 0 true []) (.inl rfl) ?_
      | refine call_fun rfl rfl awake (.inl rfl) ?_
      | refine Req.mk (by first | rfl | decide | exact ⟨rfl, rfl⟩ | exact ⟨rfl, by decide⟩ | exact (fun _ => rfl) | exact (fun h => nomatch h) | (simp; done) | omega | (simp [big]; done) | exact le_big (by omega) | exact lt_big (by omega)) ?_
      | refine Idx.nat (by omega) ?_
      | refine Idx.nat (le_big (by omega)) ?_
      | refine Idx.int (by omega) (by omega) ?_
      | refine Ifz.zero ?_
      | refine Ifz.pos (by omega) ?_
      | refine Get.mk _ rfl ?_
      | refine Leaves.of ?_
      | refine Ends.of ?_
      | refine Vw.bool ?_
      | refine Vw.int ?_
      | refine Vw.nil
      | refine Vw.sl
      | refine Vw.tup ?_
      | refine Vw.agg ?_
      | refine VwL.cons ?_ ?_
      | refine VwL.nil)
  all_goals rfl

end Go.Dr.T
