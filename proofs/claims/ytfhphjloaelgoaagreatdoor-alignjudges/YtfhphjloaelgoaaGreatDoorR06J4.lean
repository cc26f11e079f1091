/- Chapter 06: the law AlignJudges. -/
import Derived.Test.YtfhphjloaelgoaaGreatDoorR06J3
import Derived.Test.YtfhphjloaelgoaaGreatDoorR06Ax
import Derived.Test.YtfhphjloaelgoaaGreatDoorR06Wr
namespace Go.Dr.T
theorem two_val {v : V} (h : (Ty.agg [TyEl, TyEl]).val v) : ∃ x y : El, v = .agg (x.v ++ y.v) := by
  simp only [Ty.val, Ty.hasAll] at h
  obtain ⟨l, rfl, a, b, rfl, ha, c, d, rfl, hc, rfl⟩ := h
  obtain ⟨x, rfl⟩ := el_all (by simpa only [Ty.has] using ha)
  obtain ⟨y, rfl⟩ := el_all (by simpa only [Ty.has] using hc)
  exact ⟨x, y, by rw [List.append_nil]⟩
set_option maxRecDepth 100000 in
theorem law_judges {x y : El} {s : Int} {l : List (Int × Int)} (hl : l.length ≤ 9223372036854775807) : Fun FB2 md 5 [.agg (x.v ++ y.v), .int .i64 s, .sl false l.length (shC l)] (.bool true) := by
  have h1 := ((judge_ok (c := false) (x := x) (y := y) (s := s) hl).tab sub1).tab sub2
  have h2 := ((refJudge_ok (c := false) (x := x) (y := y) (s := s) hl).tab sub1).tab sub2
  have h3 := awake
  obtain ⟨a, b, hv⟩ : ∃ a b, jgV x y s l = .tup [.int .i64 a, .int .i64 b] := by
    unfold jgV
    split
    · exact ⟨_, _, rfl⟩
    · split <;> exact ⟨_, _, rfl⟩
  rw [hv] at h1 h2
  refine fun_of rfl rfl ?_
  repeat' (first
 | (conv => whnf)
   first
   | refine Br.t ?_
   | refine Br.f ?_
   | (refine Br.decT ?_ ?_; (focus first | assumption | omega))
   | (refine Br.decF ?_ ?_; (focus first | assumption | omega))
   | refine Br.dec (fun _ => ?_) (fun _ => ?_)
   | refine Br.not ?_
   | refine Br.and ?_
   | refine Br.or ?_
   | (refine Bnd.i64 ?_ ?_ ?_; (focus omega); (focus omega))
   | refine call_fun rfl rfl h1 (.inl rfl) ?_
   | refine call_fun rfl rfl h2 (.inl rfl) ?_
   | refine call_fun rfl rfl h3 (.inl rfl) ?_
   | (refine Idx.nat ?_ ?_; (focus omega))
   | refine Idx.nat (le_big (by omega)) ?_
   | (refine Idx.int ?_ ?_ ?_; (focus omega); (focus omega))
   | (refine Idx.int ?_ ?_ ?_; (focus decide); (focus decide))
   | refine Ifz.zero ?_
   | (refine Ifz.pos ?_ ?_; (focus omega))
   | refine Get.mk _ rfl ?_
   | refine Leaves.of ?_
   | refine Ends.of ?_
   | refine Vw.bool ?_
   | refine Vw.int ?_
   | refine Vw.nil
   | refine Vw.sl
   | refine Vw.tup ?_
   | refine Vw.agg ?_
   | refine VwL.cons ?_ ?_
   | refine VwL.nil
   | (refine Req.mk ?_ ?_; (focus first | rfl | decide | exact ⟨rfl, rfl⟩ | exact ⟨rfl, by decide⟩ | exact (fun _ => rfl) | exact (fun h => nomatch h) | (simp; done) | omega | (simp [big]; done) | exact le_big (by omega) | exact lt_big (by omega))))
  all_goals first | rfl | simp
end Go.Dr.T
