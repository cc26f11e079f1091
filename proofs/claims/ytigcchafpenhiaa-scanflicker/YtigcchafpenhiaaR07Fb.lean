/- Chapter 07: exposures of the program. -/
import Derived.Test.YtigcchafpenhiaaR07Fa
namespace Go.Dr.T

def loP (p : Int) : Int := loL (1000, p)
def hiP (p : Int) : Int := hiL (1000, p)
theorem loP_range {p : Int} (hp : 0 ≤ p ∧ p ≤ 255) : 0 ≤ loP p ∧ loP p ≤ 10000000 := by
  unfold loP loL
  simp only
  rw [Int.tdiv_eq_ediv_of_nonneg (by omega)]; omega
theorem hiP_range {p : Int} (hp : 0 ≤ p ∧ p ≤ 255) : 0 ≤ hiP p ∧ hiP p ≤ 10000000 := by
  unfold hiP hiL
  simp only
  split
  · rw [Int.tdiv_eq_ediv_of_nonneg (by omega)]; omega
  · omega
def tstA (p q : Int) (k : Nat) : Bool := decide (q ≤ lvL (hiP p) ((k : Int) + 1))
def tstB (p q : Int) (k : Nat) : Bool := decide (q < lvL (loP p) ((k : Int) + 1))
theorem fdiv_two (i j : Nat) : ((i : Int) + (j : Int)).fdiv (2 ^ (min (1 : Int).toNat IntKind.u64.bits)) = (((i + j) / 2 : Nat) : Int) := by
  show ((i : Int) + (j : Int)).fdiv 2 = _
  rw [Int.fdiv_eq_ediv_of_nonneg _ (by omega)]; omega

theorem tst_mono {P : Nat → Bool} {f : Nat → Int} {q : Int} (hP : ∀ k, P k = decide (q ≤ f k)) (hf : ∀ k k', k ≤ k' → f k ≤ f k') {m : Nat} : (P m = true → ∀ k, m ≤ k → P k = true) ∧ (P m = false → ∀ k < m + 1, P k = false) := by
  refine ⟨fun h k hk => ?_, fun h k hk => ?_⟩
  · rw [hP, decide_eq_true_eq] at h ⊢
    have := hf m k hk; omega
  · rw [hP, decide_eq_false_iff_not] at h ⊢
    have := hf k m (by omega); omega
theorem tstA_mono {p q : Int} (hp : 0 ≤ p ∧ p ≤ 255) {m : Nat} : (tstA p q m = true → ∀ k, m ≤ k → tstA p q k = true) ∧ (tstA p q m = false → ∀ k < m + 1, tstA p q k = false) :=
  tst_mono (f := fun k => lvL (hiP p) ((k : Int) + 1)) (fun _ => rfl) (fun k k' h => lvL_mono (hiP_range hp).1 (by omega) (by omega))
theorem tstB_mono {p q : Int} (hp : 0 ≤ p ∧ p ≤ 255) {m : Nat} : (tstB p q m = true → ∀ k, m ≤ k → tstB p q k = true) ∧ (tstB p q m = false → ∀ k < m + 1, tstB p q k = false) :=
  tst_mono (q := q + 1) (f := fun k => lvL (loP p) ((k : Int) + 1)) (fun _ => by unfold tstB; rw [Bool.eq_iff_iff, decide_eq_true_eq, decide_eq_true_eq]; omega) (fun k k' h => lvL_mono (loP_range hp).1 (by omega) (by omega))


set_option maxRecDepth 100000 in
set_option maxHeartbeats 20000000 in
theorem exposures_any {p q : Int} (hp : 0 ≤ p ∧ p ≤ 255) (hq : 0 ≤ q ∧ q ≤ 255) : Fun F md 79 [.int .i64 p, .int .i64 q] (.agg [.int .i64 ((cntP (tstA p q) 100000 : Nat) + 1), .int .i64 (cntP (tstB p q) 100000 : Nat)]) := by
  have hli := lights_any (x := (1000, p)) ⟨show (1 : Int) ≤ 1000 by decide, show (1000 : Int) ≤ 100000 by decide, hp.1, hp.2⟩
  have hH := hiP_range hp
  have hL := loP_range hp
  have eH : hiL (1000, p) = hiP p := rfl
  have eL : loL (1000, p) = loP p := rfl
  rw [eH, eL] at hli
  refine fun_of rfl rfl ?_
  repeat' (first
    | (conv => whnf)
      first
      | refine Br.t ?_
      | refine Br.f ?_
      | (refine Br.decT ?_ ?_; (focus first | assumption | omega))
      | (refine Br.decF ?_ ?_; (focus first | assumption | omega))
      | refine Br.dec (fun _ => ?_) (fun _ => ?_)
      | refine Br.not ?_
      | refine Br.and ?_
      | refine Br.or ?_
      | (refine Bnd.i64 ?_ ?_ ?_; (focus omega); (focus omega))
      | refine call_fun rfl rfl hli (.inl rfl) ?_
      | refine call_one rfl rfl rfl ?_
      | (refine Idx.nat ?_ ?_; (focus omega))
      | refine Idx.nat (le_big (by omega)) ?_
      | (refine Idx.int ?_ ?_ ?_; (focus omega); (focus omega))
      | (refine Idx.int ?_ ?_ ?_; (focus decide); (focus decide))
      | refine Ifz.zero ?_
      | (refine Ifz.pos ?_ ?_; (focus omega))
      | refine Get.mk _ rfl ?_
      | refine Leaves.of ?_
      | refine Ends.of ?_
      | refine Vw.bool ?_
      | refine Vw.int ?_
      | refine Vw.nil
      | refine Vw.sl
      | refine Vw.tup ?_
      | refine Vw.agg ?_
      | refine VwL.cons ?_ ?_
      | refine VwL.nil
      | refine LeavesF.of ?_
      | refine VwF.bool ?_
      | refine VwF.int ?_
      | refine VwF.nil
      | refine VwF.sl
      | refine VwF.tup ?_
      | refine VwF.agg ?_
      | refine VwLF.cons ?_ ?_
      | refine VwLF.nil
      | (refine Req.mk ?_ ?_; (focus first | rfl | decide | exact ⟨rfl, rfl⟩ | exact ⟨rfl, by decide⟩ | exact (fun _ => rfl) | exact (fun h => nomatch h) | (simp; done) | omega | (simp [big]; done) | exact le_big (by omega) | exact lt_big (by omega))))
  refine LoopP.by (fun a : Nat × Nat => a.1 ≤ a.2 ∧ a.2 ≤ 100000 ∧ (∀ k < a.1, tstA p q k = false) ∧ (∀ k, a.2 ≤ k → k < 100000 → tstA p q k = true)) (fun a => [(5, .int .i64 (a.1 : Nat)), (6, .int .i64 (a.2 : Nat))]) (fun _ => [.blk [.int .i64 q] false, .blk [.int .i64 0, .int .i64 0] false, .blk [.int .i64 (loP p), .int .i64 (hiP p)] false]) (fun a => a.2 - a.1) (0, 100000) ⟨by simp only; omega, by simp only; omega, fun k hk => absurd hk (Nat.not_lt_zero k), fun k h1 h2 => absurd h1 (by simp only; omega)⟩ rfl ?_
  rintro ⟨i, j⟩ ⟨hij, hj, hlo, hhi⟩
  simp only at hij hj hlo hhi
  dsimp only
  by_cases hlt : i < j
  · have hfd := fdiv_two i j
    have hmid : (i + j) / 2 < 100000 := by omega
    have hlv := lvL_range hH (e := (((i + j) / 2 : Nat) : Int) + 1) (by omega)
    by_cases ht : q ≤ lvL (hiP p) ((((i + j) / 2 : Nat) : Int) + 1)
    · have ht' : tstA p q ((i + j) / 2) = true := decide_eq_true ht
      have hm := (tstA_mono hp (q := q)).1 ht'
      repeat' (first
        | (conv => whnf)
          first
          | refine Br.t ?_
          | refine Br.f ?_
          | (refine Br.decT ?_ ?_; (focus first | assumption | omega))
          | (refine Br.decF ?_ ?_; (focus first | assumption | omega))
          | refine Br.dec (fun _ => ?_) (fun _ => ?_)
          | refine Br.not ?_
          | refine Br.and ?_
          | refine Br.or ?_
          | (refine Bnd.i64 ?_ ?_ ?_; (focus omega); (focus omega))
          | refine Bnd.eq (wrap_u64 (by omega) (by omega)) ?_
          | refine Bnd.eq hfd ?_
          | refine call_one rfl rfl rfl ?_
          | refine call_fun rfl rfl (level92 hH (by omega)) (.inl rfl) ?_
          | (refine Idx.nat ?_ ?_; (focus omega))
          | refine Idx.nat (le_big (by omega)) ?_
          | (refine Idx.int ?_ ?_ ?_; (focus omega); (focus omega))
          | (refine Idx.int ?_ ?_ ?_; (focus decide); (focus decide))
          | refine Ifz.zero ?_
          | (refine Ifz.pos ?_ ?_; (focus omega))
          | refine Get.mk _ rfl ?_
          | refine Leaves.of ?_
          | refine Ends.of ?_
          | refine Vw.bool ?_
          | refine Vw.int ?_
          | refine Vw.nil
          | refine Vw.sl
          | refine Vw.tup ?_
          | refine Vw.agg ?_
          | refine VwL.cons ?_ ?_
          | refine VwL.nil
          | refine LeavesF.of ?_
          | refine VwF.bool ?_
          | refine VwF.int ?_
          | refine VwF.nil
          | refine VwF.sl
          | refine VwF.tup ?_
          | refine VwF.agg ?_
          | refine VwLF.cons ?_ ?_
          | refine VwLF.nil
          | (refine Req.mk ?_ ?_; (focus first | rfl | decide | exact ⟨rfl, rfl⟩ | exact ⟨rfl, by decide⟩ | exact (fun _ => rfl) | exact (fun h => nomatch h) | (simp; done) | omega | (simp [big]; done) | exact le_big (by omega) | exact lt_big (by omega))))
      exact NextP.mk (i, (i + j) / 2) ⟨by simp only; omega, by simp only; omega, hlo, fun k h1 h2 => hm k h1⟩ (by simp only; omega) rfl
    · have ht' : tstA p q ((i + j) / 2) = false := decide_eq_false ht
      have hm := (tstA_mono hp (q := q)).2 ht'
      repeat' (first
        | (conv => whnf)
          first
          | refine Br.t ?_
          | refine Br.f ?_
          | (refine Br.decT ?_ ?_; (focus first | assumption | omega))
          | (refine Br.decF ?_ ?_; (focus first | assumption | omega))
          | refine Br.dec (fun _ => ?_) (fun _ => ?_)
          | refine Br.not ?_
          | refine Br.and ?_
          | refine Br.or ?_
          | (refine Bnd.i64 ?_ ?_ ?_; (focus omega); (focus omega))
          | refine Bnd.eq (wrap_u64 (by omega) (by omega)) ?_
          | refine Bnd.eq hfd ?_
          | refine call_one rfl rfl rfl ?_
          | refine call_fun rfl rfl (level92 hH (by omega)) (.inl rfl) ?_
          | (refine Idx.nat ?_ ?_; (focus omega))
          | refine Idx.nat (le_big (by omega)) ?_
          | (refine Idx.int ?_ ?_ ?_; (focus omega); (focus omega))
          | (refine Idx.int ?_ ?_ ?_; (focus decide); (focus decide))
          | refine Ifz.zero ?_
          | (refine Ifz.pos ?_ ?_; (focus omega))
          | refine Get.mk _ rfl ?_
          | refine Leaves.of ?_
          | refine Ends.of ?_
          | refine Vw.bool ?_
          | refine Vw.int ?_
          | refine Vw.nil
          | refine Vw.sl
          | refine Vw.tup ?_
          | refine Vw.agg ?_
          | refine VwL.cons ?_ ?_
          | refine VwL.nil
          | refine LeavesF.of ?_
          | refine VwF.bool ?_
          | refine VwF.int ?_
          | refine VwF.nil
          | refine VwF.sl
          | refine VwF.tup ?_
          | refine VwF.agg ?_
          | refine VwLF.cons ?_ ?_
          | refine VwLF.nil
          | (refine Req.mk ?_ ?_; (focus first | rfl | decide | exact ⟨rfl, rfl⟩ | exact ⟨rfl, by decide⟩ | exact (fun _ => rfl) | exact (fun h => nomatch h) | (simp; done) | omega | (simp [big]; done) | exact le_big (by omega) | exact lt_big (by omega))))
      exact NextP.mk ((i + j) / 2 + 1, j) ⟨by simp only; omega, by simp only; omega, hm, hhi⟩ (by simp only; omega) rfl
  · obtain rfl : j = i := by omega
    have hcnt := cntP_at (n := 100000) hj hlo hhi
    clear hlo hhi hij
    rw [hcnt]
    repeat' (first
      | (conv => whnf)
        first
        | refine Br.t ?_
        | refine Br.f ?_
        | (refine Br.decT ?_ ?_; (focus first | assumption | omega))
        | (refine Br.decF ?_ ?_; (focus first | assumption | omega))
        | refine Br.dec (fun _ => ?_) (fun _ => ?_)
        | refine Br.not ?_
        | refine Br.and ?_
        | refine Br.or ?_
        | (refine Bnd.i64 ?_ ?_ ?_; (focus omega); (focus omega))
        | refine call_one rfl rfl rfl ?_
        | (refine Idx.nat ?_ ?_; (focus omega))
        | refine Idx.nat (le_big (by omega)) ?_
        | (refine Idx.int ?_ ?_ ?_; (focus omega); (focus omega))
        | (refine Idx.int ?_ ?_ ?_; (focus decide); (focus decide))
        | refine Ifz.zero ?_
        | (refine Ifz.pos ?_ ?_; (focus omega))
        | refine Get.mk _ rfl ?_
        | refine Leaves.of ?_
        | refine Ends.of ?_
        | refine Vw.bool ?_
        | refine Vw.int ?_
        | refine Vw.nil
        | refine Vw.sl
        | refine Vw.tup ?_
        | refine Vw.agg ?_
        | refine VwL.cons ?_ ?_
        | refine VwL.nil
        | refine LeavesF.of ?_
        | refine VwF.bool ?_
        | refine VwF.int ?_
        | refine VwF.nil
        | refine VwF.sl
        | refine VwF.tup ?_
        | refine VwF.agg ?_
        | refine VwLF.cons ?_ ?_
        | refine VwLF.nil
        | (refine Req.mk ?_ ?_; (focus first | rfl | decide | exact ⟨rfl, rfl⟩ | exact ⟨rfl, by decide⟩ | exact (fun _ => rfl) | exact (fun h => nomatch h) | (simp; done) | omega | (simp [big]; done) | exact le_big (by omega) | exact lt_big (by omega))))
    refine LoopP.by (fun a : Nat × Nat => a.1 ≤ a.2 ∧ a.2 ≤ 100000 ∧ (∀ k < a.1, tstB p q k = false) ∧ (∀ k, a.2 ≤ k → k < 100000 → tstB p q k = true)) (fun a => [(5, .int .i64 (a.1 : Nat)), (6, .int .i64 (a.2 : Nat))]) (fun _ => [.blk [.int .i64 q] false, .blk [.int .i64 0, .int .i64 0] false, .blk [.int .i64 (loP p), .int .i64 (hiP p)] false]) (fun a => a.2 - a.1) (0, 100000) ⟨by simp only; omega, by simp only; omega, fun k hk => absurd hk (Nat.not_lt_zero k), fun k h1 h2 => absurd h1 (by simp only; omega)⟩ rfl ?_
    rename Nat => n0
    rintro ⟨i, j⟩ ⟨hij, hj, hlo, hhi⟩
    simp only at hij hj hlo hhi
    dsimp only
    by_cases hlt : i < j
    · have hfd := fdiv_two i j
      have hmid : (i + j) / 2 < 100000 := by omega
      have hlv := lvL_range hL (e := (((i + j) / 2 : Nat) : Int) + 1) (by omega)
      by_cases ht : q < lvL (loP p) ((((i + j) / 2 : Nat) : Int) + 1)
      · have ht' : tstB p q ((i + j) / 2) = true := decide_eq_true ht
        have hm := (tstB_mono hp (q := q)).1 ht'
        repeat' (first
          | (conv => whnf)
            first
            | refine Br.t ?_
            | refine Br.f ?_
            | (refine Br.decT ?_ ?_; (focus first | assumption | omega))
            | (refine Br.decF ?_ ?_; (focus first | assumption | omega))
            | refine Br.dec (fun _ => ?_) (fun _ => ?_)
            | refine Br.not ?_
            | refine Br.and ?_
            | refine Br.or ?_
            | (refine Bnd.i64 ?_ ?_ ?_; (focus omega); (focus omega))
            | refine Bnd.eq (wrap_u64 (by omega) (by omega)) ?_
            | refine Bnd.eq hfd ?_
            | refine call_one rfl rfl rfl ?_
            | refine call_fun rfl rfl (level92 hL (by omega)) (.inl rfl) ?_
            | (refine Idx.nat ?_ ?_; (focus omega))
            | refine Idx.nat (le_big (by omega)) ?_
            | (refine Idx.int ?_ ?_ ?_; (focus omega); (focus omega))
            | (refine Idx.int ?_ ?_ ?_; (focus decide); (focus decide))
            | refine Ifz.zero ?_
            | (refine Ifz.pos ?_ ?_; (focus omega))
            | refine Get.mk _ rfl ?_
            | refine Leaves.of ?_
            | refine Ends.of ?_
            | refine Vw.bool ?_
            | refine Vw.int ?_
            | refine Vw.nil
            | refine Vw.sl
            | refine Vw.tup ?_
            | refine Vw.agg ?_
            | refine VwL.cons ?_ ?_
            | refine VwL.nil
            | refine LeavesF.of ?_
            | refine VwF.bool ?_
            | refine VwF.int ?_
            | refine VwF.nil
            | refine VwF.sl
            | refine VwF.tup ?_
            | refine VwF.agg ?_
            | refine VwLF.cons ?_ ?_
            | refine VwLF.nil
            | (refine Req.mk ?_ ?_; (focus first | rfl | decide | exact ⟨rfl, rfl⟩ | exact ⟨rfl, by decide⟩ | exact (fun _ => rfl) | exact (fun h => nomatch h) | (simp; done) | omega | (simp [big]; done) | exact le_big (by omega) | exact lt_big (by omega))))
        exact NextP.mk (i, (i + j) / 2) ⟨by simp only; omega, by simp only; omega, hlo, fun k h1 h2 => hm k h1⟩ (by simp only; omega) rfl
      · have ht' : tstB p q ((i + j) / 2) = false := decide_eq_false ht
        have hm := (tstB_mono hp (q := q)).2 ht'
        repeat' (first
          | (conv => whnf)
            first
            | refine Br.t ?_
            | refine Br.f ?_
            | (refine Br.decT ?_ ?_; (focus first | assumption | omega))
            | (refine Br.decF ?_ ?_; (focus first | assumption | omega))
            | refine Br.dec (fun _ => ?_) (fun _ => ?_)
            | refine Br.not ?_
            | refine Br.and ?_
            | refine Br.or ?_
            | (refine Bnd.i64 ?_ ?_ ?_; (focus omega); (focus omega))
            | refine Bnd.eq (wrap_u64 (by omega) (by omega)) ?_
            | refine Bnd.eq hfd ?_
            | refine call_one rfl rfl rfl ?_
            | refine call_fun rfl rfl (level92 hL (by omega)) (.inl rfl) ?_
            | (refine Idx.nat ?_ ?_; (focus omega))
            | refine Idx.nat (le_big (by omega)) ?_
            | (refine Idx.int ?_ ?_ ?_; (focus omega); (focus omega))
            | (refine Idx.int ?_ ?_ ?_; (focus decide); (focus decide))
            | refine Ifz.zero ?_
            | (refine Ifz.pos ?_ ?_; (focus omega))
            | refine Get.mk _ rfl ?_
            | refine Leaves.of ?_
            | refine Ends.of ?_
            | refine Vw.bool ?_
            | refine Vw.int ?_
            | refine Vw.nil
            | refine Vw.sl
            | refine Vw.tup ?_
            | refine Vw.agg ?_
            | refine VwL.cons ?_ ?_
            | refine VwL.nil
            | refine LeavesF.of ?_
            | refine VwF.bool ?_
            | refine VwF.int ?_
            | refine VwF.nil
            | refine VwF.sl
            | refine VwF.tup ?_
            | refine VwF.agg ?_
            | refine VwLF.cons ?_ ?_
            | refine VwLF.nil
            | (refine Req.mk ?_ ?_; (focus first | rfl | decide | exact ⟨rfl, rfl⟩ | exact ⟨rfl, by decide⟩ | exact (fun _ => rfl) | exact (fun h => nomatch h) | (simp; done) | omega | (simp [big]; done) | exact le_big (by omega) | exact lt_big (by omega))))
        exact NextP.mk ((i + j) / 2 + 1, j) ⟨by simp only; omega, by simp only; omega, hm, hhi⟩ (by simp only; omega) rfl
    · obtain rfl : j = i := by omega
      have hcnt2 := cntP_at (n := 100000) hj hlo hhi
      rw [hcnt2]
      repeat' (first
        | (conv => whnf)
          first
          | refine Br.t ?_
          | refine Br.f ?_
          | (refine Br.decT ?_ ?_; (focus first | assumption | omega))
          | (refine Br.decF ?_ ?_; (focus first | assumption | omega))
          | refine Br.dec (fun _ => ?_) (fun _ => ?_)
          | refine Br.not ?_
          | refine Br.and ?_
          | refine Br.or ?_
          | (refine Bnd.i64 ?_ ?_ ?_; (focus omega); (focus omega))
          | (refine Idx.nat ?_ ?_; (focus omega))
          | refine Idx.nat (le_big (by omega)) ?_
          | (refine Idx.int ?_ ?_ ?_; (focus omega); (focus omega))
          | (refine Idx.int ?_ ?_ ?_; (focus decide); (focus decide))
          | refine Ifz.zero ?_
          | (refine Ifz.pos ?_ ?_; (focus omega))
          | refine Get.mk _ rfl ?_
          | refine Leaves.of ?_
          | refine Ends.of ?_
          | refine Vw.bool ?_
          | refine Vw.int ?_
          | refine Vw.nil
          | refine Vw.sl
          | refine Vw.tup ?_
          | refine Vw.agg ?_
          | refine VwL.cons ?_ ?_
          | refine VwL.nil
          | refine LeavesF.of ?_
          | refine VwF.bool ?_
          | refine VwF.int ?_
          | refine VwF.nil
          | refine VwF.sl
          | refine VwF.tup ?_
          | refine VwF.agg ?_
          | refine VwLF.cons ?_ ?_
          | refine VwLF.nil
          | (refine Req.mk ?_ ?_; (focus first | rfl | decide | exact ⟨rfl, rfl⟩ | exact ⟨rfl, by decide⟩ | exact (fun _ => rfl) | exact (fun h => nomatch h) | (simp; done) | omega | (simp [big]; done) | exact le_big (by omega) | exact lt_big (by omega))))
      all_goals rfl

end Go.Dr.T
