/- Chapter 07: Level, and how far a level that is made even is from it. -/
import Derived.Test.YtigcchafpenhiaaR07Ll
namespace Go.Dr.T

def lvL (x e : Int) : Int := min 255 ((x * e).tdiv 1000000)
theorem mul_range {x e a b : Int} (hx : 0 ≤ x ∧ x ≤ a) (he : 0 ≤ e ∧ e ≤ b) : 0 ≤ x * e ∧ x * e ≤ a * b :=
  ⟨Int.mul_nonneg hx.1 he.1, Int.le_trans (Int.mul_le_mul_of_nonneg_right hx.2 he.1) (Int.mul_le_mul_of_nonneg_left he.2 (by omega))⟩
theorem lvL_range {x e : Int} (hx : 0 ≤ x ∧ x ≤ 10000000) (he : 1 ≤ e ∧ e ≤ 100000) : 0 ≤ lvL x e ∧ lvL x e ≤ 255 := by
  have h := (mul_range hx (e := e) (b := 100000) (by omega)).1
  have h1 : 0 ≤ (x * e).tdiv 1000000 := Int.tdiv_nonneg h (by omega)
  unfold lvL; omega

set_option maxRecDepth 100000 in
theorem level_any {x e : Int} (hx : 0 ≤ x ∧ x ≤ 10000000) (he : 1 ≤ e ∧ e ≤ 100000) : Fun F md 28 [.int .i64 x, .int .i64 e] (.int .i64 (lvL x e)) := by
  have h := mul_range hx (e := e) (b := 100000) (by omega)
  refine fun_of rfl rfl ?_
  repeat' (first
    | (conv => whnf)
      first
      | refine Br.t ?_
      | refine Br.f ?_
      | (refine Br.decT ?_ ?_; (focus first | assumption | omega))
      | (refine Br.decF ?_ ?_; (focus first | assumption | omega))
      | refine Br.dec (fun _ => ?_) (fun _ => ?_)
      | refine Br.not ?_
      | refine Br.and ?_
      | refine Br.or ?_
      | (refine Bnd.i64 ?_ ?_ ?_; (focus omega); (focus omega))
      | refine Req.mk (show (_ : Int) ≠ 0 by omega) ?_
      | refine Bnd.i64 (tdiv_lo (by omega) (by omega)) (tdiv_hi (by omega) (by omega)) ?_
      | refine Bnd.any ?_
      | (refine Idx.nat ?_ ?_; (focus omega))
      | refine Idx.nat (le_big (by omega)) ?_
      | (refine Idx.int ?_ ?_ ?_; (focus omega); (focus omega))
      | (refine Idx.int ?_ ?_ ?_; (focus decide); (focus decide))
      | refine Ifz.zero ?_
      | (refine Ifz.pos ?_ ?_; (focus omega))
      | refine Get.mk _ rfl ?_
      | refine Leaves.of ?_
      | refine Ends.of ?_
      | refine Vw.bool ?_
      | refine Vw.int ?_
      | refine Vw.nil
      | refine Vw.sl
      | refine Vw.tup ?_
      | refine Vw.agg ?_
      | refine VwL.cons ?_ ?_
      | refine VwL.nil
      | refine LeavesF.of ?_
      | refine VwF.bool ?_
      | refine VwF.int ?_
      | refine VwF.nil
      | refine VwF.sl
      | refine VwF.tup ?_
      | refine VwF.agg ?_
      | refine VwLF.cons ?_ ?_
      | refine VwLF.nil
      | (refine Req.mk ?_ ?_; (focus first | rfl | decide | exact ⟨rfl, rfl⟩ | exact ⟨rfl, by decide⟩ | exact (fun _ => rfl) | exact (fun h => nomatch h) | (simp; done) | omega | (simp [big]; done) | exact le_big (by omega) | exact lt_big (by omega))))
  all_goals rfl

theorem even_near {x e : Int} (hx : 0 ≤ x ∧ x ≤ 10000000) (he : 1 ≤ e ∧ e ≤ 100000) (hn : lvL x e < 255) :
    evV e (lvL x e) - lvL x 1000 ≤ 1 + (500 : Int).tdiv e ∧ lvL x 1000 - evV e (lvL x e) ≤ 1 + (500 : Int).tdiv e := by
  have hr := lvL_range hx he
  unfold evV
  rw [if_pos hn]
  have hxe := mul_range hx (e := e) (b := 100000) (by omega)
  have e1 : lvL x e = (x * e) / 1000000 := by
    have : (x * e).tdiv 1000000 = (x * e) / 1000000 := Int.tdiv_eq_ediv_of_nonneg hxe.1
    unfold lvL at hn ⊢; omega
  have e2 : lvL x 1000 = min 255 (x / 1000) := by
    unfold lvL
    rw [Int.tdiv_eq_ediv_of_nonneg (by omega)]; omega
  rw [e2]
  generalize hN : lvL x e = n at *
  rw [Int.tdiv_eq_ediv_of_nonneg (show (0 : Int) ≤ 500 by omega), Int.tdiv_eq_ediv_of_nonneg (show (0 : Int) ≤ 500 * (2 * n + 1) by omega)]
  have q1 := Int.ediv_mul_le (500 * (2 * n + 1)) (show e ≠ 0 by omega)
  have q2 := Int.lt_ediv_add_one_mul_self (500 * (2 * n + 1)) (show 0 < e by omega)
  have d1 := Int.ediv_mul_le 500 (show e ≠ 0 by omega)
  have d2 := Int.lt_ediv_add_one_mul_self 500 (show 0 < e by omega)
  generalize 500 * (2 * n + 1) / e = q at *
  generalize (500 : Int) / e = D at *
  have l1 : (x / 1000) * 1000 ≤ x := by omega
  have l2 : x + 1 ≤ (x / 1000 + 1) * 1000 := by omega
  generalize x / 1000 = L at *
  have m1 := Int.mul_le_mul_of_nonneg_right l1 (show 0 ≤ e by omega)
  have m2 := Int.mul_le_mul_of_nonneg_right l2 (show 0 ≤ e by omega)
  rw [show L * 1000 * e = 1000 * (L * e) by rw [Int.mul_comm L 1000, Int.mul_assoc]] at m1
  rw [show (L + 1) * 1000 * e = 1000 * (L * e) + 1000 * e by rw [Int.mul_comm (L + 1) 1000, Int.mul_assoc, Int.add_mul, Int.mul_add, Int.one_mul], Int.add_mul, Int.one_mul] at m2
  rw [Int.add_mul, Int.one_mul] at q2 d2
  have k1 : q ≤ L + D + 1 := by
    apply Int.not_lt.1
    intro h
    have := Int.mul_le_mul_of_nonneg_right (show L + D + 2 ≤ q by omega) (show 0 ≤ e by omega)
    rw [Int.add_mul, Int.add_mul] at this
    omega
  have k2 : L ≤ q + D + 1 := by
    apply Int.not_lt.1
    intro h
    have := Int.mul_le_mul_of_nonneg_right (show q + D + 2 ≤ L by omega) (show 0 ≤ e by omega)
    rw [Int.add_mul, Int.add_mul] at this
    omega
  omega

end Go.Dr.T
