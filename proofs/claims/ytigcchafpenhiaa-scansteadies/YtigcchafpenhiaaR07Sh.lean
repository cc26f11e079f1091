/- Chapter 07: the law ScanSteadies. -/
import Derived.Test.YtigcchafpenhiaaR07Sg
import Derived.Test.YtigcchafpenhiaaR07Awk
namespace Go.Dr.T

abbrev wdV (a b d e r : Int) : V := .agg [.int .i64 a, .int .i64 b, .int .i64 d, .int .i64 e, .int .i64 r]
set_option maxRecDepth 100000 in
set_option maxHeartbeats 20000000 in
theorem law_steadies (w h : Int) (c : Bool) (l : List UInt8) (w' h' : Int) (c' : Bool) (l' : List UInt8) (a b d e r : Int) :
    Fun F md 4 [frV w h c l, frV w' h' c' l', wdV a b d e r] (.bool true) := by
  obtain ⟨s1, s2, s3, k, hA, hB⟩ : ∃ s1 s2 s3 k, Fun F md 24 [frV w h c l, frV w' h' c' l', winV a b d e, .int .i64 r] (.tup [.agg [.int .i64 s1, .int .i64 s2, .int .i64 s3], .int .i64 k]) ∧ Fun F md 25 [frV w h c l, frV w' h' c' l', winV a b d e, .int .i64 r] (.tup [.agg [.int .i64 s1, .int .i64 s2, .int .i64 s3], .int .i64 k]) := by
    rcases steadies_any w h c l w' h' c' l' a b d e r with ⟨k, _, hA, hB⟩ | ⟨W, H, x0, y0, p, q, R, m, _, _, _, _, _, _, _, _, _, _, _, _, _, _, _, _, _, _, _, hA, hB⟩
    · exact ⟨_, _, _, _, hA, hB⟩
    · exact ⟨_, _, _, _, hA, hB⟩
  refine fun_of rfl rfl ?_
  repeat' (first
    | (conv => whnf)
      first
      | refine Br.t ?_
      | refine Br.f ?_
      | refine Br.decT (by first | assumption | omega) ?_
      | refine Br.decF (by first | assumption | omega) ?_
      | refine Br.dec (fun _ => ?_) (fun _ => ?_)
      | refine Br.not ?_
      | refine Br.and ?_
      | refine Br.or ?_
      | refine Bnd.i64 (by omega) (by omega) ?_
      | refine call_fun rfl rfl hA (.inl rfl) ?_
      | refine call_fun rfl rfl hB (.inl rfl) ?_
      | refine call_fun rfl rfl awake (.inl rfl) ?_
      | refine Req.mk (by first | rfl | decide | exact ⟨rfl, rfl⟩ | exact ⟨rfl, by decide⟩ | exact (fun _ => rfl) | exact (fun h => nomatch h) | (simp; done) | omega | (simp [big]; done) | exact le_big (by omega) | exact lt_big (by omega)) ?_
      | refine Idx.nat (by omega) ?_
      | refine Idx.nat (le_big (by omega)) ?_
      | refine Idx.int (by omega) (by omega) ?_
      | refine Ifz.zero ?_
      | refine Ifz.pos (by omega) ?_
      | refine Get.mk _ rfl ?_
      | refine Leaves.of ?_
      | refine Ends.of ?_
      | refine Vw.bool ?_
      | refine Vw.int ?_
      | refine Vw.nil
      | refine Vw.sl
      | refine Vw.tup ?_
      | refine Vw.agg ?_
      | refine VwL.cons ?_ ?_
      | refine VwL.nil)
  all_goals first | rfl | omega


end Go.Dr.T
