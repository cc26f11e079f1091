/- Chapter 09: Hum of the reference; Hum in all cases. -/
import Derived.Test.YtokbdaiamhibeaaR09Hm
namespace Go.Dr.T

theorem mean_range {l : List Int} (hL : l.length ≤ 4000) (hg : ∀ i, -1000000 ≤ gI l i ∧ gI l i ≤ 1000000) {k p : Nat} (hk : k < p) (hkl : k < l.length) : -4000000000 ≤ meanR l k p ∧ meanR l k p ≤ 4000000000 := by
  have hsr := sumR_range (l := l) (p := p) (k := k) hg l.length
  have hcp := cntR_pos (p := p) hk (n := l.length) hkl
  unfold meanR
  have e1 : -(4000000000 : Int) ≤ sumR l p k l.length := by omega
  have e2 : sumR l p k l.length ≤ 4000000000 := by omega
  exact div_in ⟨e1, e2⟩ hcp
set_option maxRecDepth 100000 in
set_option maxHeartbeats 20000000 in
theorem humR_ok {c : Bool} {l : List Int} {p : Nat} (hE : smpE l 1000000 = 0) (hp : 1 ≤ p) (hp5 : p ≤ 500) (hpl : p ≤ l.length) :
    Fun F md 47 [.sl c l.length (ofI l), .int .i64 (p : Nat)] (.tup [.sl false p (ofI (acc (humX l p) p)), .int .i64 0]) := by
  have hst := samples_any (c := c) (l := l) (m := 1000000) (by omega)
  rw [hE] at hst
  obtain ⟨hL, hin⟩ := smp_ok hE
  have hg := gI_in (m := 1000000) (by omega) hin
  have hg' : ∀ i, -10000000 ≤ gI l i ∧ gI l i ≤ 10000000 := fun i => by have := hg i; omega
  have hM1 := mean_any (c := c) (l := l) (k := 0) (p := 1) hL (by omega) (by omega) (by omega) hg'
  have hm0 := mean_range hL hg (k := 0) (p := 1) (by omega) (by omega)
  refine fun_of rfl rfl ?_
  repeat' (first
    | (conv => whnf)
      first
      | refine Br.t ?_
      | refine Br.f ?_
      | (refine Br.decT ?_ ?_; (focus first | assumption | omega))
      | (refine Br.decF ?_ ?_; (focus first | assumption | omega))
      | refine Br.dec (fun _ => ?_) (fun _ => ?_)
      | refine Br.not ?_
      | refine Br.and ?_
      | refine Br.or ?_
      | (refine Bnd.i64 ?_ ?_ ?_; (focus omega); (focus omega))
      | refine call_fun rfl rfl hst (.inl rfl) ?_
      | refine call_fun rfl rfl (in_any _ _ _) (.inl rfl) ?_
      | (refine Idx.nat ?_ ?_; (focus omega))
      | refine Idx.nat (le_big (by omega)) ?_
      | (refine Idx.int ?_ ?_ ?_; (focus omega); (focus omega))
      | (refine Idx.int ?_ ?_ ?_; (focus decide); (focus decide))
      | refine Ifz.zero ?_
      | (refine Ifz.pos ?_ ?_; (focus omega))
      | refine Get.mk _ rfl ?_
      | refine Leaves.of ?_
      | refine Ends.of ?_
      | refine Vw.bool ?_
      | refine Vw.int ?_
      | refine Vw.nil
      | refine Vw.sl
      | refine Vw.tup ?_
      | refine Vw.agg ?_
      | refine VwL.cons ?_ ?_
      | refine VwL.nil
      | refine LeavesF.of ?_
      | refine VwF.bool ?_
      | refine VwF.int ?_
      | refine VwF.nil
      | refine VwF.sl
      | refine VwF.tup ?_
      | refine VwF.agg ?_
      | refine VwLF.cons ?_ ?_
      | refine VwLF.nil
      | (refine Req.mk ?_ ?_; (focus first | rfl | decide | exact ⟨rfl, rfl⟩ | exact ⟨rfl, by decide⟩ | exact (fun _ => rfl) | exact (fun h => nomatch h) | (simp; done) | omega | (simp [big]; done) | exact le_big (by omega) | exact lt_big (by omega))))
  all_goals try (exfalso; omega)
  refine LoopP.by (fun i : Nat => i ≤ p) (fun i => match i with
      | 0 => [(7, .nilsl), (8, .int .i64 ((0 : Nat) : Int))]
      | i + 1 => [(7, .ms 1 0 (i + 1) 0 (i + 1) false), (8, .int .i64 ((i + 1 : Nat) : Int))])
    (fun i => match i with
      | 0 => []
      | i + 1 => [.blk (ofI (acc (humX l p) (i + 1))) true]) (fun i => p - i) 0 (Nat.zero_le _) rfl ?_
  intro i hi
  cases i with
  | zero =>
    dsimp only
    have hnx := acc_one (humX l p)
    generalize hC2 : ofI (acc (humX l p) 1) = C2 at *
    have hmk := mean_range hL hg (k := 0) (p := p) (by omega) (by omega)
    have hM := mean_any (c := c) (l := l) (k := 0) (p := p) hL (by omega) (by omega) (by omega) hg'
    have hX : humX l p 0 = meanR l 0 p - meanR l 0 1 := rfl
    rw [hX] at hnx
    generalize meanR l 0 p = m1 at *
    generalize meanR l 0 1 = m0 at *
    repeat' (first
      | (conv => whnf)
        first
        | refine Br.t ?_
        | refine Br.f ?_
        | (refine Br.decT ?_ ?_; (focus first | assumption | omega))
        | (refine Br.decF ?_ ?_; (focus first | assumption | omega))
        | refine Br.dec (fun _ => ?_) (fun _ => ?_)
        | refine Br.not ?_
        | refine Br.and ?_
        | refine Br.or ?_
        | (refine Bnd.i64 ?_ ?_ ?_; (focus omega); (focus omega))
        | refine call_fun rfl rfl hM (.inl rfl) ?_
        | refine call_fun rfl rfl hM1 (.inl rfl) ?_
        | (refine Idx.nat ?_ ?_; (focus omega))
        | refine Idx.nat (le_big (by omega)) ?_
        | (refine Idx.int ?_ ?_ ?_; (focus omega); (focus omega))
        | (refine Idx.int ?_ ?_ ?_; (focus decide); (focus decide))
        | refine Ifz.zero ?_
        | (refine Ifz.pos ?_ ?_; (focus omega))
        | refine Get.mk _ rfl ?_
        | refine Leaves.of ?_
        | refine Ends.of ?_
        | refine Vw.bool ?_
        | refine Vw.int ?_
        | refine Vw.nil
        | refine Vw.sl
        | refine Vw.tup ?_
        | refine Vw.agg ?_
        | refine VwL.cons ?_ ?_
        | refine VwL.nil
        | refine LeavesF.of ?_
        | refine VwF.bool ?_
        | refine VwF.int ?_
        | refine VwF.nil
        | refine VwF.sl
        | refine VwF.tup ?_
        | refine VwF.agg ?_
        | refine VwLF.cons ?_ ?_
        | refine VwLF.nil
        | (refine Req.mk ?_ ?_; (focus first | rfl | decide | exact ⟨rfl, rfl⟩ | exact ⟨rfl, by decide⟩ | exact (fun _ => rfl) | exact (fun h => nomatch h) | (simp; done) | omega | (simp [big]; done) | exact le_big (by omega) | exact lt_big (by omega))))
    all_goals first | exact NextP.mk (0 + 1) (by omega) (by omega) (by dsimp only; rw [hC2, ← hnx]; rfl) | (exfalso; omega)
  | succ i =>
    dsimp only
    by_cases hin' : i + 1 < p
    · have hnx := acc_next (humX l p) (i + 1)
      generalize hC2 : ofI (acc (humX l p) (i + 1 + 1)) = C2 at *
      have hl0 : (ofI (acc (humX l p) (i + 1))).length = i + 1 := by rw [ofI_length, acc_length]
      generalize ofI (acc (humX l p) (i + 1)) = C0 at *
      have hmk := mean_range hL hg (k := (i + 1)) (p := p) (by omega) (by omega)
      have hM := mean_any (c := c) (l := l) (k := (i + 1)) (p := p) hL (by omega) (by omega) (by omega) hg'
      have hX : humX l p (i + 1) = meanR l (i + 1) p - meanR l 0 1 := rfl
      rw [hX] at hnx
      generalize meanR l (i + 1) p = m1 at *
      generalize meanR l 0 1 = m0 at *
      repeat' (first
        | (conv => whnf)
          first
          | refine Br.t ?_
          | refine Br.f ?_
          | (refine Br.decT ?_ ?_; (focus first | assumption | omega))
          | (refine Br.decF ?_ ?_; (focus first | assumption | omega))
          | refine Br.dec (fun _ => ?_) (fun _ => ?_)
          | refine Br.not ?_
          | refine Br.and ?_
          | refine Br.or ?_
          | (refine Bnd.i64 ?_ ?_ ?_; (focus omega); (focus omega))
          | refine call_fun rfl rfl hM (.inl rfl) ?_
          | refine call_fun rfl rfl hM1 (.inl rfl) ?_
          | refine Req.mk hl0 ?_
          | refine Req.mk ⟨by omega, by rw [hl0]; show (i + 1 + 1) * 9 < 68719476736; omega⟩ ?_
          | (refine Idx.nat ?_ ?_; (focus omega))
          | refine Idx.nat (le_big (by omega)) ?_
          | (refine Idx.int ?_ ?_ ?_; (focus omega); (focus omega))
          | (refine Idx.int ?_ ?_ ?_; (focus decide); (focus decide))
          | refine Ifz.zero ?_
          | (refine Ifz.pos ?_ ?_; (focus omega))
          | refine Get.mk _ rfl ?_
          | refine Leaves.of ?_
          | refine Ends.of ?_
          | refine Vw.bool ?_
          | refine Vw.int ?_
          | refine Vw.nil
          | refine Vw.sl
          | refine Vw.tup ?_
          | refine Vw.agg ?_
          | refine VwL.cons ?_ ?_
          | refine VwL.nil
          | refine LeavesF.of ?_
          | refine VwF.bool ?_
          | refine VwF.int ?_
          | refine VwF.nil
          | refine VwF.sl
          | refine VwF.tup ?_
          | refine VwF.agg ?_
          | refine VwLF.cons ?_ ?_
          | refine VwLF.nil
          | (refine Req.mk ?_ ?_; (focus first | rfl | decide | exact ⟨rfl, rfl⟩ | exact ⟨rfl, by decide⟩ | exact (fun _ => rfl) | exact (fun h => nomatch h) | (simp; done) | omega | (simp [big]; done) | exact le_big (by omega) | exact lt_big (by omega))))
      all_goals first | exact NextP.mk ((i + 1) + 1) (by omega) (by omega) (by dsimp only; rw [hC2, ← hnx]; rfl) | (exfalso; omega)
    · obtain rfl : p = i + 1 := by omega
      repeat' (first
        | (conv => whnf)
          first
          | refine Br.t ?_
          | refine Br.f ?_
          | (refine Br.decT ?_ ?_; (focus first | assumption | omega))
          | (refine Br.decF ?_ ?_; (focus first | assumption | omega))
          | refine Br.dec (fun _ => ?_) (fun _ => ?_)
          | refine Br.not ?_
          | refine Br.and ?_
          | refine Br.or ?_
          | (refine Bnd.i64 ?_ ?_ ?_; (focus omega); (focus omega))
          | (refine Idx.nat ?_ ?_; (focus omega))
          | refine Idx.nat (le_big (by omega)) ?_
          | (refine Idx.int ?_ ?_ ?_; (focus omega); (focus omega))
          | (refine Idx.int ?_ ?_ ?_; (focus decide); (focus decide))
          | refine Ifz.zero ?_
          | (refine Ifz.pos ?_ ?_; (focus omega))
          | refine Get.mk _ rfl ?_
          | refine Leaves.of ?_
          | refine Ends.of ?_
          | refine Vw.bool ?_
          | refine Vw.int ?_
          | refine Vw.nil
          | refine Vw.sl
          | refine Vw.tup ?_
          | refine Vw.agg ?_
          | refine VwL.cons ?_ ?_
          | refine VwL.nil
          | refine LeavesF.of ?_
          | refine VwF.bool ?_
          | refine VwF.int ?_
          | refine VwF.nil
          | refine VwF.sl
          | refine VwF.tup ?_
          | refine VwF.agg ?_
          | refine VwLF.cons ?_ ?_
          | refine VwLF.nil
          | (refine Req.mk ?_ ?_; (focus first | rfl | decide | exact ⟨rfl, rfl⟩ | exact ⟨rfl, by decide⟩ | exact (fun _ => rfl) | exact (fun h => nomatch h) | (simp; done) | omega | (simp [big]; done) | exact le_big (by omega) | exact lt_big (by omega))))
      · refine Vw.ints rfl rfl (by rw [acc_length]) (by rw [acc_length]) (by rw [acc_length])
      all_goals rfl
def BadHm (k1 : Int) (n : Nat) (p k : Int) : Prop := (k1 ≠ 0 ∧ k = k1) ∨ (k1 = 0 ∧ n = 0 ∧ k = 9) ∨ (k1 = 0 ∧ n ≠ 0 ∧ k = 7 ∧ (p < 1 ∨ 500 < p ∨ (n : Int) < p))
set_option maxRecDepth 100000 in
set_option maxHeartbeats 20000000 in
theorem hum_bad {c : Bool} {l : List Int} {p k : Int} (hb : BadHm (smpE l 1000000) l.length p k) : Fun F md 46 [.sl c l.length (ofI l), .int .i64 p] (.tup [.sl true 0 [], .int .i64 k]) := by
  have hst := strange_any (c := c) (l := l) (m := 1000000) (by omega)
  generalize smpE l 1000000 = k1 at *
  rcases hb with ⟨e1, rfl⟩ | ⟨e1, e2, rfl⟩ | ⟨e1, e2, rfl, e3⟩
  · refine fun_of rfl rfl ?_
    repeat' (first
      | (conv => whnf)
        first
        | refine Br.t ?_
        | refine Br.f ?_
        | (refine Br.decT ?_ ?_; (focus first | assumption | omega))
        | (refine Br.decF ?_ ?_; (focus first | assumption | omega))
        | refine Br.dec (fun _ => ?_) (fun _ => ?_)
        | refine Br.not ?_
        | refine Br.and ?_
        | refine Br.or ?_
        | (refine Bnd.i64 ?_ ?_ ?_; (focus omega); (focus omega))
        | refine call_fun rfl rfl hst (.inl rfl) ?_
        | refine call_fun rfl rfl (out_any _ _ _) (.inl rfl) ?_
        | refine Bnd.any ?_
        | (refine Idx.nat ?_ ?_; (focus omega))
        | refine Idx.nat (le_big (by omega)) ?_
        | (refine Idx.int ?_ ?_ ?_; (focus omega); (focus omega))
        | (refine Idx.int ?_ ?_ ?_; (focus decide); (focus decide))
        | refine Ifz.zero ?_
        | (refine Ifz.pos ?_ ?_; (focus omega))
        | refine Get.mk _ rfl ?_
        | refine Leaves.of ?_
        | refine Ends.of ?_
        | refine Vw.bool ?_
        | refine Vw.int ?_
        | refine Vw.nil
        | refine Vw.sl
        | refine Vw.tup ?_
        | refine Vw.agg ?_
        | refine VwL.cons ?_ ?_
        | refine VwL.nil
        | refine LeavesF.of ?_
        | refine VwF.bool ?_
        | refine VwF.int ?_
        | refine VwF.nil
        | refine VwF.sl
        | refine VwF.tup ?_
        | refine VwF.agg ?_
        | refine VwLF.cons ?_ ?_
        | refine VwLF.nil
        | (refine Req.mk ?_ ?_; (focus first | rfl | decide | exact ⟨rfl, rfl⟩ | exact ⟨rfl, by decide⟩ | exact (fun _ => rfl) | exact (fun h => nomatch h) | (simp; done) | omega | (simp [big]; done) | exact le_big (by omega) | exact lt_big (by omega))))
    all_goals first | rfl | (exfalso; omega)
  · subst e1
    refine fun_of rfl rfl ?_
    repeat' (first
      | (conv => whnf)
        first
        | refine Br.t ?_
        | refine Br.f ?_
        | (refine Br.decT ?_ ?_; (focus first | assumption | omega))
        | (refine Br.decF ?_ ?_; (focus first | assumption | omega))
        | refine Br.dec (fun _ => ?_) (fun _ => ?_)
        | refine Br.not ?_
        | refine Br.and ?_
        | refine Br.or ?_
        | (refine Bnd.i64 ?_ ?_ ?_; (focus omega); (focus omega))
        | refine call_fun rfl rfl hst (.inl rfl) ?_
        | refine call_fun rfl rfl (out_any _ _ _) (.inl rfl) ?_
        | refine Bnd.any ?_
        | (refine Idx.nat ?_ ?_; (focus omega))
        | refine Idx.nat (le_big (by omega)) ?_
        | (refine Idx.int ?_ ?_ ?_; (focus omega); (focus omega))
        | (refine Idx.int ?_ ?_ ?_; (focus decide); (focus decide))
        | refine Ifz.zero ?_
        | (refine Ifz.pos ?_ ?_; (focus omega))
        | refine Get.mk _ rfl ?_
        | refine Leaves.of ?_
        | refine Ends.of ?_
        | refine Vw.bool ?_
        | refine Vw.int ?_
        | refine Vw.nil
        | refine Vw.sl
        | refine Vw.tup ?_
        | refine Vw.agg ?_
        | refine VwL.cons ?_ ?_
        | refine VwL.nil
        | refine LeavesF.of ?_
        | refine VwF.bool ?_
        | refine VwF.int ?_
        | refine VwF.nil
        | refine VwF.sl
        | refine VwF.tup ?_
        | refine VwF.agg ?_
        | refine VwLF.cons ?_ ?_
        | refine VwLF.nil
        | (refine Req.mk ?_ ?_; (focus first | rfl | decide | exact ⟨rfl, rfl⟩ | exact ⟨rfl, by decide⟩ | exact (fun _ => rfl) | exact (fun h => nomatch h) | (simp; done) | omega | (simp [big]; done) | exact le_big (by omega) | exact lt_big (by omega))))
    all_goals first | rfl | (exfalso; omega)
  · subst e1
    refine fun_of rfl rfl ?_
    repeat' (first
      | (conv => whnf)
        first
        | refine Br.t ?_
        | refine Br.f ?_
        | (refine Br.decT ?_ ?_; (focus first | assumption | omega))
        | (refine Br.decF ?_ ?_; (focus first | assumption | omega))
        | refine Br.dec (fun _ => ?_) (fun _ => ?_)
        | refine Br.not ?_
        | refine Br.and ?_
        | refine Br.or ?_
        | (refine Bnd.i64 ?_ ?_ ?_; (focus omega); (focus omega))
        | refine call_fun rfl rfl hst (.inl rfl) ?_
        | refine call_fun rfl rfl (out_any _ _ _) (.inl rfl) ?_
        | refine Bnd.any ?_
        | (refine Idx.nat ?_ ?_; (focus omega))
        | refine Idx.nat (le_big (by omega)) ?_
        | (refine Idx.int ?_ ?_ ?_; (focus omega); (focus omega))
        | (refine Idx.int ?_ ?_ ?_; (focus decide); (focus decide))
        | refine Ifz.zero ?_
        | (refine Ifz.pos ?_ ?_; (focus omega))
        | refine Get.mk _ rfl ?_
        | refine Leaves.of ?_
        | refine Ends.of ?_
        | refine Vw.bool ?_
        | refine Vw.int ?_
        | refine Vw.nil
        | refine Vw.sl
        | refine Vw.tup ?_
        | refine Vw.agg ?_
        | refine VwL.cons ?_ ?_
        | refine VwL.nil
        | refine LeavesF.of ?_
        | refine VwF.bool ?_
        | refine VwF.int ?_
        | refine VwF.nil
        | refine VwF.sl
        | refine VwF.tup ?_
        | refine VwF.agg ?_
        | refine VwLF.cons ?_ ?_
        | refine VwLF.nil
        | (refine Req.mk ?_ ?_; (focus first | rfl | decide | exact ⟨rfl, rfl⟩ | exact ⟨rfl, by decide⟩ | exact (fun _ => rfl) | exact (fun h => nomatch h) | (simp; done) | omega | (simp [big]; done) | exact le_big (by omega) | exact lt_big (by omega))))
    all_goals first | rfl | (exfalso; omega)
set_option maxRecDepth 100000 in
set_option maxHeartbeats 20000000 in
theorem humR_bad {c : Bool} {l : List Int} {p k : Int} (hb : BadHm (smpE l 1000000) l.length p k) : Fun F md 47 [.sl c l.length (ofI l), .int .i64 p] (.tup [.sl true 0 [], .int .i64 k]) := by
  have hst := samples_any (c := c) (l := l) (m := 1000000) (by omega)
  generalize smpE l 1000000 = k1 at *
  rcases hb with ⟨e1, rfl⟩ | ⟨e1, e2, rfl⟩ | ⟨e1, e2, rfl, e3⟩
  · refine fun_of rfl rfl ?_
    repeat' (first
      | (conv => whnf)
        first
        | refine Br.t ?_
        | refine Br.f ?_
        | (refine Br.decT ?_ ?_; (focus first | assumption | omega))
        | (refine Br.decF ?_ ?_; (focus first | assumption | omega))
        | refine Br.dec (fun _ => ?_) (fun _ => ?_)
        | refine Br.not ?_
        | refine Br.and ?_
        | refine Br.or ?_
        | (refine Bnd.i64 ?_ ?_ ?_; (focus omega); (focus omega))
        | refine call_fun rfl rfl hst (.inl rfl) ?_
        | refine call_fun rfl rfl (in_any _ _ _) (.inl rfl) ?_
        | refine Bnd.any ?_
        | (refine Idx.nat ?_ ?_; (focus omega))
        | refine Idx.nat (le_big (by omega)) ?_
        | (refine Idx.int ?_ ?_ ?_; (focus omega); (focus omega))
        | (refine Idx.int ?_ ?_ ?_; (focus decide); (focus decide))
        | refine Ifz.zero ?_
        | (refine Ifz.pos ?_ ?_; (focus omega))
        | refine Get.mk _ rfl ?_
        | refine Leaves.of ?_
        | refine Ends.of ?_
        | refine Vw.bool ?_
        | refine Vw.int ?_
        | refine Vw.nil
        | refine Vw.sl
        | refine Vw.tup ?_
        | refine Vw.agg ?_
        | refine VwL.cons ?_ ?_
        | refine VwL.nil
        | refine LeavesF.of ?_
        | refine VwF.bool ?_
        | refine VwF.int ?_
        | refine VwF.nil
        | refine VwF.sl
        | refine VwF.tup ?_
        | refine VwF.agg ?_
        | refine VwLF.cons ?_ ?_
        | refine VwLF.nil
        | (refine Req.mk ?_ ?_; (focus first | rfl | decide | exact ⟨rfl, rfl⟩ | exact ⟨rfl, by decide⟩ | exact (fun _ => rfl) | exact (fun h => nomatch h) | (simp; done) | omega | (simp [big]; done) | exact le_big (by omega) | exact lt_big (by omega))))
    all_goals first | rfl | (exfalso; omega)
  · subst e1
    refine fun_of rfl rfl ?_
    repeat' (first
      | (conv => whnf)
        first
        | refine Br.t ?_
        | refine Br.f ?_
        | (refine Br.decT ?_ ?_; (focus first | assumption | omega))
        | (refine Br.decF ?_ ?_; (focus first | assumption | omega))
        | refine Br.dec (fun _ => ?_) (fun _ => ?_)
        | refine Br.not ?_
        | refine Br.and ?_
        | refine Br.or ?_
        | (refine Bnd.i64 ?_ ?_ ?_; (focus omega); (focus omega))
        | refine call_fun rfl rfl hst (.inl rfl) ?_
        | refine call_fun rfl rfl (in_any _ _ _) (.inl rfl) ?_
        | refine Bnd.any ?_
        | (refine Idx.nat ?_ ?_; (focus omega))
        | refine Idx.nat (le_big (by omega)) ?_
        | (refine Idx.int ?_ ?_ ?_; (focus omega); (focus omega))
        | (refine Idx.int ?_ ?_ ?_; (focus decide); (focus decide))
        | refine Ifz.zero ?_
        | (refine Ifz.pos ?_ ?_; (focus omega))
        | refine Get.mk _ rfl ?_
        | refine Leaves.of ?_
        | refine Ends.of ?_
        | refine Vw.bool ?_
        | refine Vw.int ?_
        | refine Vw.nil
        | refine Vw.sl
        | refine Vw.tup ?_
        | refine Vw.agg ?_
        | refine VwL.cons ?_ ?_
        | refine VwL.nil
        | refine LeavesF.of ?_
        | refine VwF.bool ?_
        | refine VwF.int ?_
        | refine VwF.nil
        | refine VwF.sl
        | refine VwF.tup ?_
        | refine VwF.agg ?_
        | refine VwLF.cons ?_ ?_
        | refine VwLF.nil
        | (refine Req.mk ?_ ?_; (focus first | rfl | decide | exact ⟨rfl, rfl⟩ | exact ⟨rfl, by decide⟩ | exact (fun _ => rfl) | exact (fun h => nomatch h) | (simp; done) | omega | (simp [big]; done) | exact le_big (by omega) | exact lt_big (by omega))))
    all_goals first | rfl | (exfalso; omega)
  · subst e1
    refine fun_of rfl rfl ?_
    repeat' (first
      | (conv => whnf)
        first
        | refine Br.t ?_
        | refine Br.f ?_
        | (refine Br.decT ?_ ?_; (focus first | assumption | omega))
        | (refine Br.decF ?_ ?_; (focus first | assumption | omega))
        | refine Br.dec (fun _ => ?_) (fun _ => ?_)
        | refine Br.not ?_
        | refine Br.and ?_
        | refine Br.or ?_
        | (refine Bnd.i64 ?_ ?_ ?_; (focus omega); (focus omega))
        | refine call_fun rfl rfl hst (.inl rfl) ?_
        | refine call_fun rfl rfl (in_any _ _ _) (.inl rfl) ?_
        | refine Bnd.any ?_
        | (refine Idx.nat ?_ ?_; (focus omega))
        | refine Idx.nat (le_big (by omega)) ?_
        | (refine Idx.int ?_ ?_ ?_; (focus omega); (focus omega))
        | (refine Idx.int ?_ ?_ ?_; (focus decide); (focus decide))
        | refine Ifz.zero ?_
        | (refine Ifz.pos ?_ ?_; (focus omega))
        | refine Get.mk _ rfl ?_
        | refine Leaves.of ?_
        | refine Ends.of ?_
        | refine Vw.bool ?_
        | refine Vw.int ?_
        | refine Vw.nil
        | refine Vw.sl
        | refine Vw.tup ?_
        | refine Vw.agg ?_
        | refine VwL.cons ?_ ?_
        | refine VwL.nil
        | refine LeavesF.of ?_
        | refine VwF.bool ?_
        | refine VwF.int ?_
        | refine VwF.nil
        | refine VwF.sl
        | refine VwF.tup ?_
        | refine VwF.agg ?_
        | refine VwLF.cons ?_ ?_
        | refine VwLF.nil
        | (refine Req.mk ?_ ?_; (focus first | rfl | decide | exact ⟨rfl, rfl⟩ | exact ⟨rfl, by decide⟩ | exact (fun _ => rfl) | exact (fun h => nomatch h) | (simp; done) | omega | (simp [big]; done) | exact le_big (by omega) | exact lt_big (by omega))))
    all_goals first | rfl | (exfalso; omega)
theorem hm_cases (l : List Int) (p : Int) : (∃ k, k ≠ 0 ∧ BadHm (smpE l 1000000) l.length p k) ∨ (smpE l 1000000 = 0 ∧ ∃ n : Nat, p = (n : Int) ∧ 1 ≤ n ∧ n ≤ 500 ∧ n ≤ l.length) := by
  unfold BadHm
  by_cases h1 : smpE l 1000000 = 0
  · by_cases h2 : l.length = 0
    · exact .inl ⟨9, by omega, .inr (.inl ⟨h1, h2, rfl⟩)⟩
    · by_cases h3 : p < 1 ∨ 500 < p ∨ (l.length : Int) < p
      · exact .inl ⟨7, by omega, .inr (.inr ⟨h1, h2, rfl, h3⟩)⟩
      · exact .inr ⟨h1, p.toNat, by omega, by omega, by omega, by omega⟩
  · exact .inl ⟨_, h1, .inl ⟨h1, rfl⟩⟩
theorem hums_any (c : Bool) (l : List Int) (p : Int) : ∃ c1 c2 A k, A.length ≤ 4000 ∧ Fun F md 46 [.sl c l.length (ofI l), .int .i64 p] (.tup [.sl c1 A.length (ofI A), .int .i64 k]) ∧
    Fun F md 47 [.sl c l.length (ofI l), .int .i64 p] (.tup [.sl c2 A.length (ofI A), .int .i64 k]) := by
  rcases hm_cases l p with ⟨k, _, hk⟩ | ⟨h1, n, rfl, h3, h4, h5⟩
  · exact ⟨true, true, [], k, by simp, hum_bad hk, humR_bad hk⟩
  · refine ⟨decide (n = n), false, acc (humX l n) n, 0, by rw [acc_length]; omega, ?_, ?_⟩
    · rw [acc_length]; exact hum_ok h1 h3 h4 h5
    · rw [acc_length]; exact humR_ok h1 h3 h4 h5

end Go.Dr.T
