/- Chapter 07: the exposures that a pixel allows: the plain laws, and level of the program. -/
import Derived.Test.YtigcchafpenhiaaR07Ev
namespace Go.Dr.T

set_option maxRecDepth 100000 in
theorem level92 {x e : Int} (hx : 0 ≤ x ∧ x ≤ 10000000) (he : 1 ≤ e ∧ e ≤ 100000) : Fun F md 92 [.int .i64 x, .int .i64 e] (.int .i64 (lvL x e)) := by
  have h := mul_range hx (e := e) (b := 100000) (by omega)
  refine fun_of rfl rfl ?_
  repeat' (first
    | (conv => whnf)
      first
      | refine Br.t ?_
      | refine Br.f ?_
      | (refine Br.decT ?_ ?_; (focus first | assumption | omega))
      | (refine Br.decF ?_ ?_; (focus first | assumption | omega))
      | refine Br.dec (fun _ => ?_) (fun _ => ?_)
      | refine Br.not ?_
      | refine Br.and ?_
      | refine Br.or ?_
      | (refine Bnd.i64 ?_ ?_ ?_; (focus omega); (focus omega))
      | refine Req.mk (show (_ : Int) ≠ 0 by omega) ?_
      | refine Bnd.i64 (tdiv_lo (by omega) (by omega)) (tdiv_hi (by omega) (by omega)) ?_
      | refine Bnd.any ?_
      | (refine Idx.nat ?_ ?_; (focus omega))
      | refine Idx.nat (le_big (by omega)) ?_
      | (refine Idx.int ?_ ?_ ?_; (focus omega); (focus omega))
      | (refine Idx.int ?_ ?_ ?_; (focus decide); (focus decide))
      | refine Ifz.zero ?_
      | (refine Ifz.pos ?_ ?_; (focus omega))
      | refine Get.mk _ rfl ?_
      | refine Leaves.of ?_
      | refine Ends.of ?_
      | refine Vw.bool ?_
      | refine Vw.int ?_
      | refine Vw.nil
      | refine Vw.sl
      | refine Vw.tup ?_
      | refine Vw.agg ?_
      | refine VwL.cons ?_ ?_
      | refine VwL.nil
      | refine LeavesF.of ?_
      | refine VwF.bool ?_
      | refine VwF.int ?_
      | refine VwF.nil
      | refine VwF.sl
      | refine VwF.tup ?_
      | refine VwF.agg ?_
      | refine VwLF.cons ?_ ?_
      | refine VwLF.nil
      | (refine Req.mk ?_ ?_; (focus first | rfl | decide | exact ⟨rfl, rfl⟩ | exact ⟨rfl, by decide⟩ | exact (fun _ => rfl) | exact (fun h => nomatch h) | (simp; done) | omega | (simp [big]; done) | exact le_big (by omega) | exact lt_big (by omega))))
  all_goals rfl

theorem lvL_mono {x e e' : Int} (hx : 0 ≤ x) (he : 0 ≤ e) (h : e ≤ e') : lvL x e ≤ lvL x e' := by
  have h1 : 0 ≤ x * e := Int.mul_nonneg hx he
  have h2 : x * e ≤ x * e' := Int.mul_le_mul_of_nonneg_left h hx
  unfold lvL
  rw [Int.tdiv_eq_ediv_of_nonneg h1, Int.tdiv_eq_ediv_of_nonneg (by omega)]
  have := Int.ediv_le_ediv (show (0 : Int) < 1000000 by omega) h2
  omega

/-- how many of the first n fail a test that, once met, stays met. -/
def cntP (P : Nat → Bool) : Nat → Nat
  | 0 => 0
  | n + 1 => if P n then cntP P n else cntP P n + 1
theorem cntP_le (P : Nat → Bool) : ∀ n, cntP P n ≤ n
  | 0 => Nat.le_refl _
  | n + 1 => by have := cntP_le P n; simp only [cntP]; split <;> omega
theorem cntP_false {P : Nat → Bool} : ∀ {n : Nat}, (∀ k < n, P k = false) → cntP P n = n
  | 0, _ => rfl
  | n + 1, h => by simp only [cntP, h n (by omega), Bool.false_eq_true, if_false]; rw [cntP_false fun k hk => h k (by omega)]
theorem cntP_at {P : Nat → Bool} : ∀ {n r : Nat}, r ≤ n → (∀ k < r, P k = false) → (∀ k, r ≤ k → k < n → P k = true) → cntP P n = r
  | 0, r, h, _, _ => by simp only [cntP]; omega
  | n + 1, r, h, h1, h2 => by
    by_cases e : r = n + 1
    · subst e; exact cntP_false h1
    · simp only [cntP, h2 n (by omega) (by omega), if_true]
      exact cntP_at (by omega) h1 fun k hk hk2 => h2 k hk (by omega)

theorem wrap_u64 {e : Int} (h1 : 0 ≤ e) (h2 : e ≤ 18446744073709551615) : IntKind.u64.wrap e = e := by
  unfold IntKind.wrap
  simp only [IntKind.bits, IntKind.signed, Bool.false_and, Bool.false_eq_true, if_false]
  omega

end Go.Dr.T
