/- Chapter 06: what two shots share, and two elements' error, of the document. -/
import Derived.Test.YtfhphjloaelgoaaGreatDoorR06P3
namespace Go.Dr.T
abbrev elB (x : El) : B := .blk [.str x.nm, .sl x.c x.l.length (shC x.l), .int .i64 x.g] false
set_option maxRecDepth 100000 in
theorem refShare_ok {s : Int} {x y : Int × Int} (hs : 0 ≤ s ∧ s ≤ 200000) (hx : 0 ≤ x.1 ∧ x.1 ≤ 999 ∧ 1 ≤ x.2 ∧ x.2 ≤ 200000) (hy : 0 ≤ y.1 ∧ y.1 ≤ 999 ∧ 1 ≤ y.2 ∧ y.2 ≤ 200000) : Fun FB md 64 [.agg [.int .i64 x.1, .int .i64 x.2], .agg [.int .i64 y.1, .int .i64 y.2], .int .i64 s] (.int .i64 (shr s x y)) := by
  obtain ⟨m, n⟩ := x
  obtain ⟨m', n'⟩ := y
  dsimp only at *
  have hw : IntKind.i64.wrap ((min n n').tdiv 2) = min n n' / 2 := by rw [Int.tdiv_eq_ediv_of_nonneg (by omega)]; exact wrap_i64 (by omega) (by omega)
  refine fun_of rfl rfl ?_
  repeat' (first
 | (conv => whnf)
   first
   | refine Br.t ?_
   | refine Br.f ?_
   | (refine Br.decT ?_ ?_; (focus first | assumption | omega))
   | (refine Br.decF ?_ ?_; (focus first | assumption | omega))
   | refine Br.dec (fun _ => ?_) (fun _ => ?_)
   | refine Br.not ?_
   | (refine Bnd.i64 ?_ ?_ ?_; (focus omega); (focus omega))
   | refine Bnd.any ?_
   | refine Get.mk _ rfl ?_
   | refine Leaves.of ?_
   | refine Vw.int ?_
   | (refine Req.mk ?_ ?_; (focus first | rfl | decide | exact ⟨rfl, rfl⟩ | exact ⟨rfl, by decide⟩ | exact (fun _ => rfl) | exact (fun h => nomatch h) | (simp; done) | omega | (simp [big]; done) | exact le_big (by omega) | exact lt_big (by omega))))
  all_goals rw [shr_case]
  all_goals (try rw [hw])
  all_goals first
    | (rw [if_pos (by omega)]; done)
    | (rw [if_neg (by omega), if_pos (by omega)]; omega)
    | (rw [if_neg (by omega), if_neg (by omega), if_pos (by omega)]; done)
    | (rw [if_neg (by omega), if_neg (by omega), if_neg (by omega)]; done)
    | (exfalso; omega)
theorem openE_1 {x y : El} {s : Int} (h : x.e ≠ 0) : openE x y s = x.e := by simp [openE, ckd, h]
theorem openE_2 {x y : El} {s : Int} (h : x.e = 0) (h2 : y.e ≠ 0) : openE x y s = y.e := by simp [openE, ckd, h, h2]
theorem openE_3 {x y : El} {s : Int} (h : x.e = 0) (h2 : y.e = 0) : openE x y s = if outB s 0 200000 = true then 7 else 0 := by simp [openE, ckd, h, h2]
set_option maxRecDepth 100000 in
theorem two_ok {x y : El} {s : Int} : Fun FB md 55 [elA' x, elA' y, .int .i64 s] (.int .i64 (openE x y s)) := by
  have h1 : Fun FB md 19 [elA' x] (.tup [.int .i64 (ckE x.nm x.l x.g).1, .int .i64 x.e]) := refCheck_ok (nm := x.nm) (c := x.c) (l := x.l) (g := x.g)
  have h2 : Fun FB md 19 [elA' y] (.tup [.int .i64 (ckE y.nm y.l y.g).1, .int .i64 y.e]) := refCheck_ok (nm := y.nm) (c := y.c) (l := y.l) (g := y.g)
  have h3 := in_ok (n := s) (lo := 0) (hi := 200000)
  generalize (ckE x.nm x.l x.g).1 = ax at *
  generalize (ckE y.nm y.l y.g).1 = ay at *
  by_cases hex : x.e = 0
  · by_cases hey : y.e = 0
    · rw [openE_3 hex hey]
      rw [hex] at h1
      rw [hey] at h2
      cases hs : outB s 0 200000 <;> rw [hs] at h3
      all_goals refine fun_of rfl rfl ?_
      all_goals
        repeat' (first
 | (conv => whnf)
   first
   | refine Br.t ?_
   | refine Br.f ?_
   | refine call_fun rfl rfl h1 (.inl rfl) ?_
   | refine call_fun rfl rfl h2 (.inl rfl) ?_
   | refine call_fun rfl rfl h3 (.inl rfl) ?_
   | refine Get.mk _ rfl ?_
   | refine Leaves.of ?_
   | refine Vw.int ?_
   | (refine Req.mk ?_ ?_; (focus first | rfl | decide | exact ⟨rfl, rfl⟩ | exact ⟨rfl, by decide⟩ | exact (fun _ => rfl) | exact (fun h => nomatch h) | (simp; done) | omega | (simp [big]; done) | exact le_big (by omega) | exact lt_big (by omega))))
      all_goals first | rfl | (exfalso; omega)
    · rw [openE_2 hex hey]
      rw [hex] at h1
      generalize y.e = ey at *
      refine fun_of rfl rfl ?_
      repeat' (first
 | (conv => whnf)
   first
   | refine Br.t ?_
   | refine Br.f ?_
   | (refine Br.decF ?_ ?_; (focus first | assumption | omega))
   | refine call_fun rfl rfl h1 (.inl rfl) ?_
   | refine call_fun rfl rfl h2 (.inl rfl) ?_
   | refine Get.mk _ rfl ?_
   | refine Leaves.of ?_
   | refine Vw.int ?_
   | (refine Req.mk ?_ ?_; (focus first | rfl | decide | exact ⟨rfl, rfl⟩ | exact ⟨rfl, by decide⟩ | exact (fun _ => rfl) | exact (fun h => nomatch h) | (simp; done) | omega | (simp [big]; done) | exact le_big (by omega) | exact lt_big (by omega))))
      all_goals first | rfl | (exfalso; omega)
  · rw [openE_1 hex]
    generalize x.e = ex at *
    refine fun_of rfl rfl ?_
    repeat' (first
 | (conv => whnf)
   first
   | refine Br.f ?_
   | (refine Br.decF ?_ ?_; (focus first | assumption | omega))
   | refine call_fun rfl rfl h1 (.inl rfl) ?_
   | refine Get.mk _ rfl ?_
   | refine Leaves.of ?_
   | refine Vw.int ?_
   | (refine Req.mk ?_ ?_; (focus first | rfl | decide | exact ⟨rfl, rfl⟩ | exact ⟨rfl, by decide⟩ | exact (fun _ => rfl) | exact (fun h => nomatch h) | (simp; done) | omega | (simp [big]; done) | exact le_big (by omega) | exact lt_big (by omega))))
    all_goals first | rfl | (exfalso; omega)
end Go.Dr.T
