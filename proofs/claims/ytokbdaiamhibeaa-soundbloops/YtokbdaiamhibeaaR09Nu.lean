/- Chapter 09: numbers: quotients rounded down. -/
import Derived.Test.YtokbdaiamhibeaaR09Sm
namespace Go.Dr.T

theorem div_down {a b : Int} (hb : 0 < b) : a / b = if a.tmod b < 0 then a.tdiv b - 1 else a.tdiv b := by
  have h := Int.mul_tdiv_add_tmod a b
  have h1 := Int.tmod_lt_of_pos a hb
  have h2 := Int.lt_tmod_of_pos a hb
  generalize a.tmod b = r at *
  generalize a.tdiv b = q at *
  split
  · exact ((Int.ediv_emod_unique hb (r := r + b)).2 ⟨by rw [Int.mul_sub, Int.mul_one]; omega, by omega, by omega⟩).1
  · exact ((Int.ediv_emod_unique hb (r := r)).2 ⟨by omega, by omega, by omega⟩).1
theorem tdiv_in {a b n : Int} (h : -n ≤ a ∧ a ≤ n) (hb : 0 < b) : -n ≤ a.tdiv b ∧ a.tdiv b ≤ n := by
  have e := Int.mul_tdiv_add_tmod a b
  have h1 := Int.tmod_lt_of_pos a hb
  have h2 := Int.lt_tmod_of_pos a hb
  by_cases h0 : 0 ≤ a
  · have q1 := Int.tdiv_nonneg h0 (Int.le_of_lt hb)
    have q2 := Int.tdiv_le_self b h0
    omega
  · have q1 := Int.tdiv_nonneg (a := -a) (b := b) (by omega) (Int.le_of_lt hb)
    have q2 := Int.tdiv_le_self (a := -a) b (by omega)
    rw [Int.neg_tdiv] at q1 q2
    omega
abbrev mid (a : Int) : Prop := -1000000000000000 ≤ a ∧ a ≤ 1000000000000000
set_option maxRecDepth 100000 in
theorem down_any {a b : Int} (ha : mid a) (hb : 0 < b) : Fun F md 74 [.int .i64 a, .int .i64 b] (.int .i64 (a / b)) := by
  have hd := tdiv_in ha hb
  rw [div_down hb]
  generalize hr : a.tmod b = r at *
  refine fun_of rfl rfl ?_
  repeat' (first
    | (conv => whnf)
      first
      | refine Br.t ?_
      | refine Br.f ?_
      | (refine Br.decT ?_ ?_; (focus first | assumption | omega))
      | (refine Br.decF ?_ ?_; (focus first | assumption | omega))
      | refine Br.dec (fun _ => ?_) (fun _ => ?_)
      | refine Br.not ?_
      | refine Br.and ?_
      | refine Br.or ?_
      | (refine Bnd.i64 ?_ ?_ ?_; (focus omega); (focus omega))
      | refine Req.mk (show (_ : Int) ≠ 0 by omega) ?_
      | refine Bnd.eq hr ?_
      | (refine Idx.nat ?_ ?_; (focus omega))
      | refine Idx.nat (le_big (by omega)) ?_
      | (refine Idx.int ?_ ?_ ?_; (focus omega); (focus omega))
      | (refine Idx.int ?_ ?_ ?_; (focus decide); (focus decide))
      | refine Ifz.zero ?_
      | (refine Ifz.pos ?_ ?_; (focus omega))
      | refine Get.mk _ rfl ?_
      | refine Leaves.of ?_
      | refine Ends.of ?_
      | refine Vw.bool ?_
      | refine Vw.int ?_
      | refine Vw.nil
      | refine Vw.sl
      | refine Vw.tup ?_
      | refine Vw.agg ?_
      | refine VwL.cons ?_ ?_
      | refine VwL.nil
      | refine LeavesF.of ?_
      | refine VwF.bool ?_
      | refine VwF.int ?_
      | refine VwF.nil
      | refine VwF.sl
      | refine VwF.tup ?_
      | refine VwF.agg ?_
      | refine VwLF.cons ?_ ?_
      | refine VwLF.nil
      | (refine Req.mk ?_ ?_; (focus first | rfl | decide | exact ⟨rfl, rfl⟩ | exact ⟨rfl, by decide⟩ | exact (fun _ => rfl) | exact (fun h => nomatch h) | (simp; done) | omega | (simp [big]; done) | exact le_big (by omega) | exact lt_big (by omega))))
  all_goals first | (rw [if_pos ‹_›]; done) | (rw [if_neg ‹_›]; done) | skip
set_option maxRecDepth 100000 in
theorem downR_any {a b : Int} (ha : mid a) (hb : 0 < b) (hbb : b ≤ 2000000000000000) : Fun F md 76 [.int .i64 a, .int .i64 b] (.int .i64 (a / b)) := by
  have hd := tdiv_in ha hb
  have hm := Int.mul_tdiv_add_tmod a b
  have h1 := Int.tmod_lt_of_pos a hb
  have h2 := Int.lt_tmod_of_pos a hb
  rw [Int.mul_comm] at hm
  rw [div_down hb]
  generalize a.tmod b = r at *
  refine fun_of rfl rfl ?_
  repeat' (first
    | (conv => whnf)
      first
      | refine Br.t ?_
      | refine Br.f ?_
      | (refine Br.decT ?_ ?_; (focus first | assumption | omega))
      | (refine Br.decF ?_ ?_; (focus first | assumption | omega))
      | refine Br.dec (fun _ => ?_) (fun _ => ?_)
      | refine Br.not ?_
      | refine Br.and ?_
      | refine Br.or ?_
      | (refine Bnd.i64 ?_ ?_ ?_; (focus omega); (focus omega))
      | refine Req.mk (show (_ : Int) ≠ 0 by omega) ?_
      | (refine Idx.nat ?_ ?_; (focus omega))
      | refine Idx.nat (le_big (by omega)) ?_
      | (refine Idx.int ?_ ?_ ?_; (focus omega); (focus omega))
      | (refine Idx.int ?_ ?_ ?_; (focus decide); (focus decide))
      | refine Ifz.zero ?_
      | (refine Ifz.pos ?_ ?_; (focus omega))
      | refine Get.mk _ rfl ?_
      | refine Leaves.of ?_
      | refine Ends.of ?_
      | refine Vw.bool ?_
      | refine Vw.int ?_
      | refine Vw.nil
      | refine Vw.sl
      | refine Vw.tup ?_
      | refine Vw.agg ?_
      | refine VwL.cons ?_ ?_
      | refine VwL.nil
      | refine LeavesF.of ?_
      | refine VwF.bool ?_
      | refine VwF.int ?_
      | refine VwF.nil
      | refine VwF.sl
      | refine VwF.tup ?_
      | refine VwF.agg ?_
      | refine VwLF.cons ?_ ?_
      | refine VwLF.nil
      | (refine Req.mk ?_ ?_; (focus first | rfl | decide | exact ⟨rfl, rfl⟩ | exact ⟨rfl, by decide⟩ | exact (fun _ => rfl) | exact (fun h => nomatch h) | (simp; done) | omega | (simp [big]; done) | exact le_big (by omega) | exact lt_big (by omega))))
  all_goals first | (rw [if_pos (by omega)]; done) | (rw [if_neg (by omega)]; done) | skip

end Go.Dr.T
