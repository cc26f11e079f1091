/- Chapter 09: syncs of the laws: turn, samples, marked. -/
import Derived.Test.YtokbdaiamhibeaaR09Bs
namespace Go.Dr.T

def tuB (l : List UInt8) (i : Nat) : Int := if l.length = 0 then 0 else pB l (i % l.length)
theorem tuB_range (l : List UInt8) (i : Nat) : 0 ≤ tuB l i ∧ tuB l i ≤ 255 := by
  unfold tuB; split
  · omega
  · exact pB_range _ _
set_option maxRecDepth 100000 in
set_option maxHeartbeats 20000000 in
theorem turn_any (c : Bool) (l : List UInt8) (i : Nat) : Fun F md 69 [.sl c l.length (ofBytes l), .int .i64 (i : Nat)] (.int .i64 (tuB l i)) := by
  unfold tuB
  by_cases h : l.length = 0
  · rw [if_pos h]
    refine fun_of rfl rfl ?_
    repeat' (first
      | (conv => whnf)
        first
        | refine Br.t ?_
        | refine Br.f ?_
        | (refine Br.decT ?_ ?_; (focus first | assumption | omega))
        | (refine Br.decF ?_ ?_; (focus first | assumption | omega))
        | refine Br.dec (fun _ => ?_) (fun _ => ?_)
        | refine Br.not ?_
        | refine Br.and ?_
        | refine Br.or ?_
        | (refine Bnd.i64 ?_ ?_ ?_; (focus omega); (focus omega))
        | (refine Idx.nat ?_ ?_; (focus omega))
        | refine Idx.nat (le_big (by omega)) ?_
        | (refine Idx.int ?_ ?_ ?_; (focus omega); (focus omega))
        | (refine Idx.int ?_ ?_ ?_; (focus decide); (focus decide))
        | refine Ifz.zero ?_
        | (refine Ifz.pos ?_ ?_; (focus omega))
        | refine Get.mk _ rfl ?_
        | refine Leaves.of ?_
        | refine Ends.of ?_
        | refine Vw.bool ?_
        | refine Vw.int ?_
        | refine Vw.nil
        | refine Vw.sl
        | refine Vw.tup ?_
        | refine Vw.agg ?_
        | refine VwL.cons ?_ ?_
        | refine VwL.nil
        | refine LeavesF.of ?_
        | refine VwF.bool ?_
        | refine VwF.int ?_
        | refine VwF.nil
        | refine VwF.sl
        | refine VwF.tup ?_
        | refine VwF.agg ?_
        | refine VwLF.cons ?_ ?_
        | refine VwLF.nil
        | (refine Req.mk ?_ ?_; (focus first | rfl | decide | exact ⟨rfl, rfl⟩ | exact ⟨rfl, by decide⟩ | exact (fun _ => rfl) | exact (fun h => nomatch h) | (simp; done) | omega | (simp [big]; done) | exact le_big (by omega) | exact lt_big (by omega))))
    all_goals first | rfl | (exfalso; omega)
  · rw [if_neg h]
    have hR : (i : Int).tmod (l.length : Int) = ((i % l.length : Nat) : Int) := Int.ofNat_tmod _ _
    have hl : i % l.length < l.length := Nat.mod_lt _ (by omega)
    have hc := pB_cell hl
    have hr := pB_range l (i % l.length)
    generalize i % l.length = k at *
    generalize pB l k = v at *
    refine fun_of rfl rfl ?_
    repeat' (first
      | (conv => whnf)
        first
        | refine Bnd.eq hR ?_
        | refine Br.t ?_
        | refine Br.f ?_
        | (refine Br.decT ?_ ?_; (focus first | assumption | omega))
        | (refine Br.decF ?_ ?_; (focus first | assumption | omega))
        | refine Br.dec (fun _ => ?_) (fun _ => ?_)
        | refine Br.not ?_
        | refine Br.and ?_
        | refine Br.or ?_
        | (refine Bnd.i64 ?_ ?_ ?_; (focus omega); (focus omega))
        | refine Req.mk (show (_ : Int) ≠ 0 by omega) ?_
        | refine Get.mk _ hc ?_
        | (refine Idx.nat ?_ ?_; (focus omega))
        | refine Idx.nat (le_big (by omega)) ?_
        | (refine Idx.int ?_ ?_ ?_; (focus omega); (focus omega))
        | (refine Idx.int ?_ ?_ ?_; (focus decide); (focus decide))
        | refine Ifz.zero ?_
        | (refine Ifz.pos ?_ ?_; (focus omega))
        | refine Get.mk _ rfl ?_
        | refine Leaves.of ?_
        | refine Ends.of ?_
        | refine Vw.bool ?_
        | refine Vw.int ?_
        | refine Vw.nil
        | refine Vw.sl
        | refine Vw.tup ?_
        | refine Vw.agg ?_
        | refine VwL.cons ?_ ?_
        | refine VwL.nil
        | refine LeavesF.of ?_
        | refine VwF.bool ?_
        | refine VwF.int ?_
        | refine VwF.nil
        | refine VwF.sl
        | refine VwF.tup ?_
        | refine VwF.agg ?_
        | refine VwLF.cons ?_ ?_
        | refine VwLF.nil
        | (refine Req.mk ?_ ?_; (focus first | rfl | decide | exact ⟨rfl, rfl⟩ | exact ⟨rfl, by decide⟩ | exact (fun _ => rfl) | exact (fun h => nomatch h) | (simp; done) | omega | (simp [big]; done) | exact le_big (by omega) | exact lt_big (by omega))))
    all_goals first | rfl | (exfalso; omega)
/-- a part in 255ths. -/
def pt (d u : Int) : Int := (d * u).tdiv 255
theorem pt_range {d u : Int} (hd : 0 ≤ d) (hu : 0 ≤ u ∧ u ≤ 255) : 0 ≤ pt d u ∧ pt d u ≤ d := by
  have h0 : 0 ≤ d * u := Int.mul_nonneg hd hu.1
  have h1 : d * u ≤ d * 255 := Int.mul_le_mul_of_nonneg_left hu.2 hd
  unfold pt
  rw [Int.tdiv_eq_ediv_of_nonneg h0]
  omega
theorem pt_wrap {d u : Int} (hd : 0 ≤ d ∧ d ≤ 1000000000) (hu : 0 ≤ u ∧ u ≤ 255) : IntKind.i64.wrap (d * u) = d * u ∧ IntKind.i64.wrap ((d * u).tdiv 255) = pt d u := by
  have h0 : 0 ≤ d * u := Int.mul_nonneg hd.1 hu.1
  have h1 : d * u ≤ 1000000000 * 255 := Int.mul_le_mul hd.2 hu.2 hu.1 (by omega)
  have h2 := pt_range hd.1 hu
  unfold pt at h2 ⊢
  exact ⟨wrap_i64 (by omega) (by omega), wrap_i64 (by omega) (by omega)⟩
/-- a sync. -/
def smp (lo hi first : Int) (steps : List UInt8) : Nat → Int
  | 0 => max 0 (min 50000000 first)
  | f + 1 => smp lo hi first steps f + lo + pt (hi - lo) (tuB steps (f + 1))
theorem smp_step {lo hi first : Int} (steps : List UInt8) (h : lo ≤ hi) (f : Nat) : smp lo hi first steps f + lo ≤ smp lo hi first steps (f + 1) ∧ smp lo hi first steps (f + 1) ≤ smp lo hi first steps f + hi := by
  have := pt_range (d := hi - lo) (by omega) (tuB_range steps (f + 1))
  simp only [smp]; omega
theorem smp_range {lo hi first : Int} (steps : List UInt8) (h0 : 1 ≤ lo) (h : lo ≤ hi) (h4 : hi ≤ 4000) : ∀ f : Nat, 0 ≤ smp lo hi first steps f ∧ smp lo hi first steps f ≤ 50000000 + 4000 * f
  | 0 => by simp only [smp]; omega
  | f + 1 => by
    have ih := smp_range (first := first) steps h0 h h4 f
    have := smp_step (first := first) steps h f
    omega
/-- between two frames. -/
theorem smp_span {lo hi first : Int} (steps : List UInt8) (h : lo ≤ hi) (a : Nat) : ∀ d : Nat, smp lo hi first steps a + d * lo ≤ smp lo hi first steps (a + d) ∧ smp lo hi first steps (a + d) ≤ smp lo hi first steps a + d * hi
  | 0 => by simp
  | d + 1 => by
    have ih := smp_span (first := first) steps h a d
    have hs := smp_step (first := first) steps h (a + d)
    have e1 : ((d + 1 : Nat) : Int) * lo = (d : Int) * lo + lo := by push_cast; rw [Int.add_mul, Int.one_mul]
    have e2 : ((d + 1 : Nat) : Int) * hi = (d : Int) * hi + hi := by push_cast; rw [Int.add_mul, Int.one_mul]
    rw [e1, e2, ← Nat.add_assoc]
    omega
/-- a sync that keeps to a mark is in what the mark allows. -/
theorem smp_in {lo hi first : Int} (steps : List UInt8) (h : lo ≤ hi) {m : Mk} {a f : Nat} (ha : m.1 = (a : Int)) (hk : smp lo hi first steps a - m.2.1 ≤ m.2.2 ∧ m.2.1 - smp lo hi first steps a ≤ m.2.2) :
    alLo lo hi m f ≤ smp lo hi first steps f ∧ smp lo hi first steps f ≤ alHi lo hi m f := by
  unfold alLo alHi
  rw [ha]
  rcases Nat.le_total a f with q | q
  · have hs := smp_span (first := first) steps h a (f - a)
    rw [show a + (f - a) = f by omega, show ((f - a : Nat) : Int) = (f : Int) - a by omega] at hs
    generalize ((f : Int) - a) * lo = y at *
    generalize ((f : Int) - a) * hi = z at *
    omega
  · have hs := smp_span (first := first) steps h f (a - f)
    rw [show f + (a - f) = a by omega] at hs
    have e1 : ((f : Int) - a) * lo = -(((a - f : Nat) : Int) * lo) := by rw [← Int.neg_mul]; congr 1; omega
    have e2 : ((f : Int) - a) * hi = -(((a - f : Nat) : Int) * hi) := by rw [← Int.neg_mul]; congr 1; omega
    rw [e1, e2]
    generalize ((a - f : Nat) : Int) * lo = y at *
    generalize ((a - f : Nat) : Int) * hi = z at *
    omega

abbrev hdV (c1 c2 : Bool) (first : Int) (a b : List UInt8) : V := .agg [.int .i64 first, .sl c1 a.length (ofBytes a), .sl c2 b.length (ofBytes b)]
set_option maxRecDepth 100000 in
set_option maxHeartbeats 20000000 in
theorem samples_ok {cm cs c1 c2 : Bool} {t : Tsk} {first : Int} {sa sb : List UInt8} (ht : OkT t) (h4 : t.fr ≤ 400) :
    ∃ c, Fun F md 31 [tskV cm cs t, hdV c1 c2 first sa sb] (.sl c t.fr.toNat (ofI (acc (smp t.lo t.hi first sa) t.fr.toNat))) := by
  have hfr := ht.fr; have hlo := ht.lo; have hhi := ht.hi
  have hle := ht.le
  obtain ⟨N, hN⟩ : ∃ N : Nat, t.fr = (N : Int) := ⟨t.fr.toNat, by omega⟩
  rw [hN, Int.toNat_natCast]
  rw [hN] at hfr h4
  refine ⟨decide (N = 1), ?_⟩
  refine fun_of rfl rfl ?_
  repeat' (first
    | (conv => whnf)
      first
      | refine Br.t ?_
      | refine Br.f ?_
      | (refine Br.decT ?_ ?_; (focus first | assumption | omega))
      | (refine Br.decF ?_ ?_; (focus first | assumption | omega))
      | refine Br.dec (fun _ => ?_) (fun _ => ?_)
      | refine Br.not ?_
      | refine Br.and ?_
      | refine Br.or ?_
      | (refine Bnd.i64 ?_ ?_ ?_; (focus omega); (focus omega))
      | refine Bnd.any ?_
      | (refine Idx.nat ?_ ?_; (focus omega))
      | refine Idx.nat (le_big (by omega)) ?_
      | (refine Idx.int ?_ ?_ ?_; (focus omega); (focus omega))
      | (refine Idx.int ?_ ?_ ?_; (focus decide); (focus decide))
      | refine Ifz.zero ?_
      | (refine Ifz.pos ?_ ?_; (focus omega))
      | refine Get.mk _ rfl ?_
      | refine Leaves.of ?_
      | refine Ends.of ?_
      | refine Vw.bool ?_
      | refine Vw.int ?_
      | refine Vw.nil
      | refine Vw.sl
      | refine Vw.tup ?_
      | refine Vw.agg ?_
      | refine VwL.cons ?_ ?_
      | refine VwL.nil
      | refine LeavesF.of ?_
      | refine VwF.bool ?_
      | refine VwF.int ?_
      | refine VwF.nil
      | refine VwF.sl
      | refine VwF.tup ?_
      | refine VwF.agg ?_
      | refine VwLF.cons ?_ ?_
      | refine VwLF.nil
      | (refine Req.mk ?_ ?_; (focus first | rfl | decide | exact ⟨rfl, rfl⟩ | exact ⟨rfl, by decide⟩ | exact (fun _ => rfl) | exact (fun h => nomatch h) | (simp; done) | omega | (simp [big]; done) | exact le_big (by omega) | exact lt_big (by omega))))
  refine LoopP.by (fun i : Nat => i + 1 ≤ N) (fun i => match i with
      | 0 => [(5, .sl true 1 [.int .i64 (smp t.lo t.hi first sa 0)]), (6, .int .i64 ((0 + 1 : Nat) : Int))]
      | i + 1 => [(5, .ms 1 2 (i + 1 + 1) 0 (i + 1 + 1) false), (6, .int .i64 ((i + 1 + 1 : Nat) : Int))])
    (fun i => match i with
      | 0 => [bg0 t cm cs, .blk [.int .i64 first, .sl c1 sa.length (ofBytes sa), .sl c2 sb.length (ofBytes sb)] false]
      | i + 1 => [bg0 t cm cs, .blk [.int .i64 first, .sl c1 sa.length (ofBytes sa), .sl c2 sb.length (ofBytes sb)] false, .blk (ofI (acc (smp t.lo t.hi first sa) (i + 1 + 1))) true]) (fun i => N - i) 0 (by omega) rfl ?_
  intro i hi
  cases i with
  | zero =>
    dsimp only
    by_cases hin : 0 + 1 < N
    · have hT := turn_any c1 sa (0 + 1)
      have htr := tuB_range sa (0 + 1)
      have hpr := pt_range (d := t.hi - t.lo) (by omega) htr
      obtain ⟨hM, hD⟩ := pt_wrap (d := t.hi - t.lo) (by omega) htr
      have hrs := smp_range (lo := t.lo) (hi := t.hi) (first := first) sa (by omega) ht.le (by omega) (0)
      have hnx : smp t.lo t.hi first sa (0 + 1) = smp t.lo t.hi first sa (0) + t.lo + pt (t.hi - t.lo) (tuB sa (0 + 1)) := rfl
      have hac : [V.int .i64 (smp t.lo t.hi first sa 0)] ++ [V.int .i64 (smp t.lo t.hi first sa (0 + 1))] = ofI (acc (smp t.lo t.hi first sa) (0 + 1 + 1)) := rfl
      generalize hC : ofI (acc (smp t.lo t.hi first sa) (0 + 1 + 1)) = C2 at *
      generalize smp t.lo t.hi first sa (0 + 1) = y at *
      generalize smp t.lo t.hi first sa 0 = x at *
      generalize tuB sa (0 + 1) = u at *
      subst hnx
      repeat' (first
        | (conv => whnf)
          first
          | refine Bnd.eq hM ?_
          | refine Bnd.eq hD ?_
          | refine Br.t ?_
          | refine Br.f ?_
          | (refine Br.decT ?_ ?_; (focus first | assumption | omega))
          | (refine Br.decF ?_ ?_; (focus first | assumption | omega))
          | refine Br.dec (fun _ => ?_) (fun _ => ?_)
          | refine Br.not ?_
          | refine Br.and ?_
          | refine Br.or ?_
          | (refine Bnd.i64 ?_ ?_ ?_; (focus omega); (focus omega))
          | refine call_fun rfl rfl hT (.inl rfl) ?_
          | (refine Idx.nat ?_ ?_; (focus omega))
          | refine Idx.nat (le_big (by omega)) ?_
          | (refine Idx.int ?_ ?_ ?_; (focus omega); (focus omega))
          | (refine Idx.int ?_ ?_ ?_; (focus decide); (focus decide))
          | refine Ifz.zero ?_
          | (refine Ifz.pos ?_ ?_; (focus omega))
          | refine Get.mk _ rfl ?_
          | refine Leaves.of ?_
          | refine Ends.of ?_
          | refine Vw.bool ?_
          | refine Vw.int ?_
          | refine Vw.nil
          | refine Vw.sl
          | refine Vw.tup ?_
          | refine Vw.agg ?_
          | refine VwL.cons ?_ ?_
          | refine VwL.nil
          | refine LeavesF.of ?_
          | refine VwF.bool ?_
          | refine VwF.int ?_
          | refine VwF.nil
          | refine VwF.sl
          | refine VwF.tup ?_
          | refine VwF.agg ?_
          | refine VwLF.cons ?_ ?_
          | refine VwLF.nil
          | (refine Req.mk ?_ ?_; (focus first | rfl | decide | exact ⟨rfl, rfl⟩ | exact ⟨rfl, by decide⟩ | exact (fun _ => rfl) | exact (fun h => nomatch h) | (simp; done) | omega | (simp [big]; done) | exact le_big (by omega) | exact lt_big (by omega))))
      all_goals first | exact NextP.mk 1 (by omega) (by omega) (by dsimp only; rw [hC, ← hac]; rfl) | (exfalso; omega)
    · obtain rfl : N = 1 := by omega
      repeat' (first
        | (conv => whnf)
          first
          | refine Br.t ?_
          | refine Br.f ?_
          | (refine Br.decT ?_ ?_; (focus first | assumption | omega))
          | (refine Br.decF ?_ ?_; (focus first | assumption | omega))
          | refine Br.dec (fun _ => ?_) (fun _ => ?_)
          | refine Br.not ?_
          | refine Br.and ?_
          | refine Br.or ?_
          | (refine Bnd.i64 ?_ ?_ ?_; (focus omega); (focus omega))
          | (refine Idx.nat ?_ ?_; (focus omega))
          | refine Idx.nat (le_big (by omega)) ?_
          | (refine Idx.int ?_ ?_ ?_; (focus omega); (focus omega))
          | (refine Idx.int ?_ ?_ ?_; (focus decide); (focus decide))
          | refine Ifz.zero ?_
          | (refine Ifz.pos ?_ ?_; (focus omega))
          | refine Get.mk _ rfl ?_
          | refine Leaves.of ?_
          | refine Ends.of ?_
          | refine Vw.bool ?_
          | refine Vw.int ?_
          | refine Vw.nil
          | refine Vw.sl
          | refine Vw.tup ?_
          | refine Vw.agg ?_
          | refine VwL.cons ?_ ?_
          | refine VwL.nil
          | refine LeavesF.of ?_
          | refine VwF.bool ?_
          | refine VwF.int ?_
          | refine VwF.nil
          | refine VwF.sl
          | refine VwF.tup ?_
          | refine VwF.agg ?_
          | refine VwLF.cons ?_ ?_
          | refine VwLF.nil
          | (refine Req.mk ?_ ?_; (focus first | rfl | decide | exact ⟨rfl, rfl⟩ | exact ⟨rfl, by decide⟩ | exact (fun _ => rfl) | exact (fun h => nomatch h) | (simp; done) | omega | (simp [big]; done) | exact le_big (by omega) | exact lt_big (by omega))))
      all_goals first | rfl | (exfalso; omega)
  | succ i =>
    dsimp only
    have hlc : (ofI (acc (smp t.lo t.hi first sa) (i + 1 + 1))).length = i + 1 + 1 := by rw [ofI_length, acc_length]
    by_cases hin : i + 1 + 1 < N
    · have hT := turn_any c1 sa ((i + 1) + 1)
      have htr := tuB_range sa ((i + 1) + 1)
      have hpr := pt_range (d := t.hi - t.lo) (by omega) htr
      obtain ⟨hM, hD⟩ := pt_wrap (d := t.hi - t.lo) (by omega) htr
      have hrs := smp_range (lo := t.lo) (hi := t.hi) (first := first) sa (by omega) ht.le (by omega) ((i + 1))
      have hnx : smp t.lo t.hi first sa ((i + 1) + 1) = smp t.lo t.hi first sa ((i + 1)) + t.lo + pt (t.hi - t.lo) (tuB sa ((i + 1) + 1)) := rfl
      have hcx : cellAt (ofI (acc (smp t.lo t.hi first sa) (i + 1 + 1))) (0 + (((i + 1 + 1 : Nat) : Int) - 1).toNat * 1) = some (.int .i64 (smp t.lo t.hi first sa (i + 1))) := by
        rw [show (((i + 1 + 1 : Nat) : Int) - 1).toNat = i + 1 by omega, gI_cell0 (by rw [acc_length]; omega), gI_get (by rw [acc_length]; omega)]
        simp [acc]
      have hac := acc_next (smp t.lo t.hi first sa) (i + 1 + 1)
      generalize hC : ofI (acc (smp t.lo t.hi first sa) (i + 1 + 1 + 1)) = C2 at *
      generalize ofI (acc (smp t.lo t.hi first sa) (i + 1 + 1)) = C0 at *
      generalize smp t.lo t.hi first sa (i + 1 + 1) = y at *
      generalize smp t.lo t.hi first sa (i + 1) = x at *
      generalize tuB sa (i + 1 + 1) = u at *
      subst hnx
      repeat' (first
        | (conv => whnf)
          first
          | refine Bnd.eq hM ?_
          | refine Bnd.eq hD ?_
          | refine Br.t ?_
          | refine Br.f ?_
          | (refine Br.decT ?_ ?_; (focus first | assumption | omega))
          | (refine Br.decF ?_ ?_; (focus first | assumption | omega))
          | refine Br.dec (fun _ => ?_) (fun _ => ?_)
          | refine Br.not ?_
          | refine Br.and ?_
          | refine Br.or ?_
          | (refine Bnd.i64 ?_ ?_ ?_; (focus omega); (focus omega))
          | refine call_fun rfl rfl hT (.inl rfl) ?_
          | refine Get.mk _ hcx ?_
          | refine Req.mk hlc ?_
          | refine Req.mk ⟨by omega, by rw [hlc]; show (i + 1 + 1 + 1) * 9 < 68719476736; omega⟩ ?_
          | (refine Idx.nat ?_ ?_; (focus omega))
          | refine Idx.nat (le_big (by omega)) ?_
          | (refine Idx.int ?_ ?_ ?_; (focus omega); (focus omega))
          | (refine Idx.int ?_ ?_ ?_; (focus decide); (focus decide))
          | refine Ifz.zero ?_
          | (refine Ifz.pos ?_ ?_; (focus omega))
          | refine Get.mk _ rfl ?_
          | refine Leaves.of ?_
          | refine Ends.of ?_
          | refine Vw.bool ?_
          | refine Vw.int ?_
          | refine Vw.nil
          | refine Vw.sl
          | refine Vw.tup ?_
          | refine Vw.agg ?_
          | refine VwL.cons ?_ ?_
          | refine VwL.nil
          | refine LeavesF.of ?_
          | refine VwF.bool ?_
          | refine VwF.int ?_
          | refine VwF.nil
          | refine VwF.sl
          | refine VwF.tup ?_
          | refine VwF.agg ?_
          | refine VwLF.cons ?_ ?_
          | refine VwLF.nil
          | (refine Req.mk ?_ ?_; (focus first | rfl | decide | exact ⟨rfl, rfl⟩ | exact ⟨rfl, by decide⟩ | exact (fun _ => rfl) | exact (fun h => nomatch h) | (simp; done) | omega | (simp [big]; done) | exact le_big (by omega) | exact lt_big (by omega))))
      all_goals first | exact NextP.mk (i + 1 + 1) (by omega) (by omega) (by dsimp only; rw [hC, ← hac]; rfl) | (exfalso; omega)
    · obtain rfl : N = i + 1 + 1 := by omega
      rw [decide_eq_false (show ¬ i + 1 + 1 = 1 by omega)]
      repeat' (first
        | (conv => whnf)
          first
          | refine Br.t ?_
          | refine Br.f ?_
          | (refine Br.decT ?_ ?_; (focus first | assumption | omega))
          | (refine Br.decF ?_ ?_; (focus first | assumption | omega))
          | refine Br.dec (fun _ => ?_) (fun _ => ?_)
          | refine Br.not ?_
          | refine Br.and ?_
          | refine Br.or ?_
          | (refine Bnd.i64 ?_ ?_ ?_; (focus omega); (focus omega))
          | (refine Idx.nat ?_ ?_; (focus omega))
          | refine Idx.nat (le_big (by omega)) ?_
          | (refine Idx.int ?_ ?_ ?_; (focus omega); (focus omega))
          | (refine Idx.int ?_ ?_ ?_; (focus decide); (focus decide))
          | refine Ifz.zero ?_
          | (refine Ifz.pos ?_ ?_; (focus omega))
          | refine Get.mk _ rfl ?_
          | refine Leaves.of ?_
          | refine Ends.of ?_
          | refine Vw.bool ?_
          | refine Vw.int ?_
          | refine Vw.nil
          | refine Vw.sl
          | refine Vw.tup ?_
          | refine Vw.agg ?_
          | refine VwL.cons ?_ ?_
          | refine VwL.nil
          | refine LeavesF.of ?_
          | refine VwF.bool ?_
          | refine VwF.int ?_
          | refine VwF.nil
          | refine VwF.sl
          | refine VwF.tup ?_
          | refine VwF.agg ?_
          | refine VwLF.cons ?_ ?_
          | refine VwLF.nil
          | (refine Req.mk ?_ ?_; (focus first | rfl | decide | exact ⟨rfl, rfl⟩ | exact ⟨rfl, by decide⟩ | exact (fun _ => rfl) | exact (fun h => nomatch h) | (simp; done) | omega | (simp [big]; done) | exact le_big (by omega) | exact lt_big (by omega))))
      · refine Vw.ints rfl rfl (by rw [acc_length]) (by rw [acc_length]) (by rw [acc_length])
      all_goals first | rfl | (exfalso; omega)

end Go.Dr.T
