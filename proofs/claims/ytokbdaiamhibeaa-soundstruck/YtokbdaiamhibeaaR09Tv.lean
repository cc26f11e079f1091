/- Chapter 09: marked; the law SoundTrue. -/
import Derived.Test.YtokbdaiamhibeaaR09Tu
namespace Go.Dr.T

/-- the sample of a frame. -/
abbrev syX (t : Tsk) (first : Int) (sa : List UInt8) (f : Nat) : Int := smp t.lo t.hi first sa f
/-- a mark that is made anew. -/
def nmS (x e u : Int) : Int := max 0 (x - e + pt (2 * e) u)
def nwM (t : Tsk) (first : Int) (sa sb : List UInt8) (i : Nat) : Mk := ((mAt t.ms i).1, nmS (syX t first sa (mAt t.ms i).1.toNat) (mAt t.ms i).2.2 (tuB sb i), (mAt t.ms i).2.2)
def nwL (t : Tsk) (first : Int) (sa sb : List UInt8) (i : Nat) : List Mk := (List.range i).map (nwM t first sa sb)
theorem nwL_len (t : Tsk) (first : Int) (sa sb : List UInt8) (i : Nat) : (nwL t first sa sb i).length = i := by simp [nwL]
theorem nwL_snoc (t : Tsk) (first : Int) (sa sb : List UInt8) (i : Nat) : ofM (nwL t first sa sb i) ++ mkC (nwM t first sa sb i) = ofM (nwL t first sa sb (i + 1)) := by
  rw [show nwL t first sa sb (i + 1) = nwL t first sa sb i ++ [nwM t first sa sb i] by simp [nwL, List.range_succ], show ofM (_ ++ _) = _ from flat_append _ _]
  simp [flat]
def nwT (t : Tsk) (first : Int) (sa sb : List UInt8) : Tsk := ⟨t.fr, t.lo, t.hi, nwL t first sa sb t.ms.length, t.sp⟩

def mrU (i : Nat) : List (Nat × V) := [(8, .int .i64 (i : Nat))]
def mrH (t : Tsk) (cm cs c1 c2 : Bool) (first : Int) (sa sb : List UInt8) (i : Nat) : List B :=
  match i with
  | 0 => [bg0 t cm cs, .blk [.int .i64 first, .sl c1 sa.length (ofBytes sa), .sl c2 sb.length (ofBytes sb)] false, .blk [.int .i64 0, .int .i64 0, .int .i64 0, .nilsl, .nilsl] false, .blk [.int .i64 t.fr, .int .i64 t.lo, .int .i64 t.hi, .nilsl, .sl cs t.sp.length (ofI t.sp)] false]
  | i + 1 => [bg0 t cm cs, .blk [.int .i64 first, .sl c1 sa.length (ofBytes sa), .sl c2 sb.length (ofBytes sb)] false, .blk [.int .i64 0, .int .i64 0, .int .i64 0, .nilsl, .nilsl] false, .blk [.int .i64 t.fr, .int .i64 t.lo, .int .i64 t.hi, .ms 3 5 (3 * (i + 1)) 0 (i + 1) false, .sl cs t.sp.length (ofI t.sp)] false, .blk (mkC (nwM t first sa sb 0)) false, .blk (ofM (nwL t first sa sb (i + 1))) true]
set_option maxRecDepth 100000 in
set_option maxHeartbeats 20000000 in
theorem marked_ok {cm cs c1 c2 cx : Bool} {t : Tsk} {first : Int} {sa sb : List UInt8} (ht : OkT t) (h4 : t.fr ≤ 400) :
    ∃ c, Fun F md 32 [tskV cm cs t, .sl cx t.fr.toNat (ofI (acc (syX t first sa) t.fr.toNat)), hdV c1 c2 first sa sb] (tskV c cs (nwT t first sa sb)) := by
  have hfr := ht.fr; have hlo := ht.lo; have hhi := ht.hi
  have hmany := ht.many
  obtain ⟨N, hN⟩ : ∃ N : Nat, t.fr = (N : Int) := ⟨t.fr.toNat, by omega⟩
  rw [hN, Int.toNat_natCast]
  rw [hN] at hfr h4
  refine ⟨decide (t.ms.length = 0), ?_⟩
  refine fun_of rfl rfl ?_
  repeat' (first
    | (conv => whnf)
      first
      | refine Br.t ?_
      | refine Br.f ?_
      | (refine Br.decT ?_ ?_; (focus first | assumption | omega))
      | (refine Br.decF ?_ ?_; (focus first | assumption | omega))
      | refine Br.dec (fun _ => ?_) (fun _ => ?_)
      | refine Br.not ?_
      | refine Br.and ?_
      | refine Br.or ?_
      | (refine Bnd.i64 ?_ ?_ ?_; (focus omega); (focus omega))
      | (refine Idx.nat ?_ ?_; (focus omega))
      | refine Idx.nat (le_big (by omega)) ?_
      | (refine Idx.int ?_ ?_ ?_; (focus omega); (focus omega))
      | (refine Idx.int ?_ ?_ ?_; (focus decide); (focus decide))
      | refine Ifz.zero ?_
      | (refine Ifz.pos ?_ ?_; (focus omega))
      | refine Get.mk _ rfl ?_
      | refine Leaves.of ?_
      | refine Ends.of ?_
      | refine Vw.bool ?_
      | refine Vw.int ?_
      | refine Vw.nil
      | refine Vw.sl
      | refine Vw.tup ?_
      | refine Vw.agg ?_
      | refine VwL.cons ?_ ?_
      | refine VwL.nil
      | refine LeavesF.of ?_
      | refine VwF.bool ?_
      | refine VwF.int ?_
      | refine VwF.nil
      | refine VwF.sl
      | refine VwF.tup ?_
      | refine VwF.agg ?_
      | refine VwLF.cons ?_ ?_
      | refine VwLF.nil
      | (refine Req.mk ?_ ?_; (focus first | rfl | decide | exact ⟨rfl, rfl⟩ | exact ⟨rfl, by decide⟩ | exact (fun _ => rfl) | exact (fun h => nomatch h) | (simp; done) | omega | (simp [big]; done) | exact le_big (by omega) | exact lt_big (by omega))))
  refine LoopP.by (fun i : Nat => i ≤ t.ms.length) mrU (mrH t cm cs c1 c2 first sa sb) (fun i => t.ms.length - i) 0 (by omega) rfl ?_
  intro i hi
  by_cases hin : i < t.ms.length
  · cases i with
    | zero =>
      have hat := ht.at hin
      have hpt := mAt_part hin
      have hT := turn_any c2 sb 0
      have htr := tuB_range sb 0
      obtain ⟨A, hA⟩ := Int.eq_ofNat_of_zero_le hat.1.1
      have hAN : A < N := by omega
      have hca := gI_cell (l := acc (syX t first sa) N) (i := A) (by rw [acc_length]; exact hAN)
      rw [gI_get (by rw [acc_length]; exact hAN)] at hca
      have hsx : (acc (syX t first sa) N)[A]'(by rw [acc_length]; exact hAN) = syX t first sa A := by simp [acc]
      rw [hsx] at hca
      have hrx := smp_range (lo := t.lo) (hi := t.hi) (first := first) sa (by omega) ht.le (by omega) A
      have hsn := nwL_snoc t first sa sb 0
      have hnw : nwM t first sa sb 0 = ((mAt t.ms 0).1, nmS (syX t first sa (mAt t.ms 0).1.toNat) (mAt t.ms 0).2.2 (tuB sb 0), (mAt t.ms 0).2.2) := rfl
      rw [hA, Int.toNat_natCast] at hnw
      have hpr := pt_range (d := 2 * (mAt t.ms 0).2.2) (by omega) htr
      obtain ⟨hM, hD⟩ := pt_wrap (d := 2 * (mAt t.ms 0).2.2) (by omega) htr
      generalize hmm : mAt t.ms 0 = m at *
      obtain ⟨ma, ms', me⟩ := m
      dsimp only at hat hA hpt hnw hpr hM hD
      subst hA
      unfold mkC at hpt
      dsimp only at hpt
      change 0 ≤ syX t first sa A ∧ syX t first sa A ≤ _ at hrx
      generalize syX t first sa A = x at *
      generalize tuB sb 0 = u at *
      unfold nmS at hnw
      repeat' (first
        | (conv => whnf)
          first
          | refine Bnd.eq hM ?_
          | refine Bnd.eq hD ?_
          | refine Br.t ?_
          | refine Br.f ?_
          | (refine Br.decT ?_ ?_; (focus first | assumption | omega))
          | (refine Br.decF ?_ ?_; (focus first | assumption | omega))
          | refine Br.dec (fun _ => ?_) (fun _ => ?_)
          | refine Br.not ?_
          | refine Br.and ?_
          | refine Br.or ?_
          | (refine Bnd.i64 ?_ ?_ ?_; (focus omega); (focus omega))
          | refine call_fun rfl rfl hT (.inl rfl) ?_
          | refine Get.mk _ hpt ?_
          | refine Get.mk _ hca ?_
          | refine Bnd.any ?_
          | (refine Idx.nat ?_ ?_; (focus omega))
          | refine Idx.nat (le_big (by omega)) ?_
          | (refine Idx.int ?_ ?_ ?_; (focus omega); (focus omega))
          | (refine Idx.int ?_ ?_ ?_; (focus decide); (focus decide))
          | refine Ifz.zero ?_
          | (refine Ifz.pos ?_ ?_; (focus omega))
          | refine Get.mk _ rfl ?_
          | refine Leaves.of ?_
          | refine Ends.of ?_
          | refine Vw.bool ?_
          | refine Vw.int ?_
          | refine Vw.nil
          | refine Vw.sl
          | refine Vw.tup ?_
          | refine Vw.agg ?_
          | refine VwL.cons ?_ ?_
          | refine VwL.nil
          | refine LeavesF.of ?_
          | refine VwF.bool ?_
          | refine VwF.int ?_
          | refine VwF.nil
          | refine VwF.sl
          | refine VwF.tup ?_
          | refine VwF.agg ?_
          | refine VwLF.cons ?_ ?_
          | refine VwLF.nil
          | (refine Req.mk ?_ ?_; (focus first | rfl | decide | exact ⟨rfl, rfl⟩ | exact ⟨rfl, by decide⟩ | exact (fun _ => rfl) | exact (fun h => nomatch h) | (simp; done) | omega | (simp [big]; done) | exact le_big (by omega) | exact lt_big (by omega))))
      all_goals first | exact NextP.mk 1 (by omega) (by omega) (by show norm _ _ _ = (⟨_, [_, _, _, _, .blk (mkC (nwM t first sa sb 0)) false, .blk (ofM (nwL t first sa sb (0 + 1))) true]⟩ : St); rw [← hsn, hnw]; rfl) | (exfalso; omega)
    | succ i =>
      have hlp : (ofM (nwL t first sa sb (i + 1))).length = 3 * (i + 1) := by rw [show (ofM (nwL t first sa sb (i + 1))).length = _ from flat_length mkC_len _, nwL_len]; omega
      show fV _ fun tm' => fB [_, _, _, .blk [_, _, _, .ms 3 5 (3 * (i + 1)) 0 (i + 1) false, _] false, .blk (mkC (nwM t first sa sb 0)) false, .blk (ofM (nwL t first sa sb (i + 1))) true] _
      have hat := ht.at hin
      have hpt := mAt_part hin
      have hT := turn_any c2 sb (i + 1)
      have htr := tuB_range sb (i + 1)
      obtain ⟨A, hA⟩ := Int.eq_ofNat_of_zero_le hat.1.1
      have hAN : A < N := by omega
      have hca := gI_cell (l := acc (syX t first sa) N) (i := A) (by rw [acc_length]; exact hAN)
      rw [gI_get (by rw [acc_length]; exact hAN)] at hca
      have hsx : (acc (syX t first sa) N)[A]'(by rw [acc_length]; exact hAN) = syX t first sa A := by simp [acc]
      rw [hsx] at hca
      have hrx := smp_range (lo := t.lo) (hi := t.hi) (first := first) sa (by omega) ht.le (by omega) A
      have hsn := nwL_snoc t first sa sb (i + 1)
      have hnw : nwM t first sa sb (i + 1) = ((mAt t.ms (i + 1)).1, nmS (syX t first sa (mAt t.ms (i + 1)).1.toNat) (mAt t.ms (i + 1)).2.2 (tuB sb (i + 1)), (mAt t.ms (i + 1)).2.2) := rfl
      rw [hA, Int.toNat_natCast] at hnw
      have hpr := pt_range (d := 2 * (mAt t.ms (i + 1)).2.2) (by omega) htr
      obtain ⟨hM, hD⟩ := pt_wrap (d := 2 * (mAt t.ms (i + 1)).2.2) (by omega) htr
      generalize hmm : mAt t.ms (i + 1) = m at *
      obtain ⟨ma, ms', me⟩ := m
      dsimp only at hat hA hpt hnw hpr hM hD
      subst hA
      unfold mkC at hpt
      dsimp only at hpt
      change 0 ≤ syX t first sa A ∧ syX t first sa A ≤ _ at hrx
      generalize syX t first sa A = x at *
      generalize tuB sb (i + 1) = u at *
      unfold nmS at hnw
      repeat' (first
        | (conv => whnf)
          first
          | refine Bnd.eq hM ?_
          | refine Bnd.eq hD ?_
          | refine Br.t ?_
          | refine Br.f ?_
          | (refine Br.decT ?_ ?_; (focus first | assumption | omega))
          | (refine Br.decF ?_ ?_; (focus first | assumption | omega))
          | refine Br.dec (fun _ => ?_) (fun _ => ?_)
          | refine Br.not ?_
          | refine Br.and ?_
          | refine Br.or ?_
          | (refine Bnd.i64 ?_ ?_ ?_; (focus omega); (focus omega))
          | refine call_fun rfl rfl hT (.inl rfl) ?_
          | refine Get.mk _ hpt ?_
          | refine Get.mk _ hca ?_
          | refine Bnd.any ?_
          | refine Req.mk hlp ?_
          | refine Req.mk ⟨by omega, by rw [hlp]; show (3 * (i + 1) + 3) * 25 < 68719476736; omega⟩ ?_
          | (refine Idx.nat ?_ ?_; (focus omega))
          | refine Idx.nat (le_big (by omega)) ?_
          | (refine Idx.int ?_ ?_ ?_; (focus omega); (focus omega))
          | (refine Idx.int ?_ ?_ ?_; (focus decide); (focus decide))
          | refine Ifz.zero ?_
          | (refine Ifz.pos ?_ ?_; (focus omega))
          | refine Get.mk _ rfl ?_
          | refine Leaves.of ?_
          | refine Ends.of ?_
          | refine Vw.bool ?_
          | refine Vw.int ?_
          | refine Vw.nil
          | refine Vw.sl
          | refine Vw.tup ?_
          | refine Vw.agg ?_
          | refine VwL.cons ?_ ?_
          | refine VwL.nil
          | refine LeavesF.of ?_
          | refine VwF.bool ?_
          | refine VwF.int ?_
          | refine VwF.nil
          | refine VwF.sl
          | refine VwF.tup ?_
          | refine VwF.agg ?_
          | refine VwLF.cons ?_ ?_
          | refine VwLF.nil
          | (refine Req.mk ?_ ?_; (focus first | rfl | decide | exact ⟨rfl, rfl⟩ | exact ⟨rfl, by decide⟩ | exact (fun _ => rfl) | exact (fun h => nomatch h) | (simp; done) | omega | (simp [big]; done) | exact le_big (by omega) | exact lt_big (by omega))))
      all_goals first | exact NextP.mk (i + 1 + 1) (by omega) (by omega) (by show norm _ _ _ = (⟨_, [_, _, _, _, .blk (mkC (nwM t first sa sb 0)) false, .blk (ofM (nwL t first sa sb (i + 1 + 1))) true]⟩ : St); rw [← hsn, hnw]; rfl) | (exfalso; omega)
  · have hil : t.ms.length = i := by omega
    unfold tskV nwT
    dsimp only
    rw [hil]
    cases i with
    | zero =>
      repeat' (first
        | (conv => whnf)
          first
          | refine Br.t ?_
          | refine Br.f ?_
          | (refine Br.decT ?_ ?_; (focus first | assumption | omega))
          | (refine Br.decF ?_ ?_; (focus first | assumption | omega))
          | refine Br.dec (fun _ => ?_) (fun _ => ?_)
          | refine Br.not ?_
          | refine Br.and ?_
          | refine Br.or ?_
          | (refine Bnd.i64 ?_ ?_ ?_; (focus omega); (focus omega))
          | (refine Idx.nat ?_ ?_; (focus omega))
          | refine Idx.nat (le_big (by omega)) ?_
          | (refine Idx.int ?_ ?_ ?_; (focus omega); (focus omega))
          | (refine Idx.int ?_ ?_ ?_; (focus decide); (focus decide))
          | refine Ifz.zero ?_
          | (refine Ifz.pos ?_ ?_; (focus omega))
          | refine Get.mk _ rfl ?_
          | refine Leaves.of ?_
          | refine Ends.of ?_
          | refine Vw.bool ?_
          | refine Vw.int ?_
          | refine Vw.nil
          | refine Vw.sl
          | refine Vw.tup ?_
          | refine Vw.agg ?_
          | refine VwL.cons ?_ ?_
          | refine VwL.nil
          | refine LeavesF.of ?_
          | refine VwF.bool ?_
          | refine VwF.int ?_
          | refine VwF.nil
          | refine VwF.sl
          | refine VwF.tup ?_
          | refine VwF.agg ?_
          | refine VwLF.cons ?_ ?_
          | refine VwLF.nil
          | (refine Req.mk ?_ ?_; (focus first | rfl | decide | exact ⟨rfl, rfl⟩ | exact ⟨rfl, by decide⟩ | exact (fun _ => rfl) | exact (fun h => nomatch h) | (simp; done) | omega | (simp [big]; done) | exact le_big (by omega) | exact lt_big (by omega))))
      all_goals first | rfl | (exfalso; omega)
    | succ i =>
      rw [decide_eq_false (show ¬ i + 1 = 0 by omega), nwL_len]
      show fV _ fun tm' => fB [_, _, _, .blk [_, _, _, .ms 3 5 (3 * (i + 1)) 0 (i + 1) false, _] false, .blk (mkC (nwM t first sa sb 0)) false, .blk (ofM (nwL t first sa sb (i + 1))) true] _
      repeat' (first
        | (conv => whnf)
          first
          | refine Br.t ?_
          | refine Br.f ?_
          | (refine Br.decT ?_ ?_; (focus first | assumption | omega))
          | (refine Br.decF ?_ ?_; (focus first | assumption | omega))
          | refine Br.dec (fun _ => ?_) (fun _ => ?_)
          | refine Br.not ?_
          | refine Br.and ?_
          | refine Br.or ?_
          | (refine Bnd.i64 ?_ ?_ ?_; (focus omega); (focus omega))
          | (refine Vw.flat mkC_len (fun m => VwL.mk3 m) rfl rfl ?_ ?_ ?_; (focus rw [nwL_len]; omega); (focus rw [nwL_len]); (focus rw [nwL_len]))
          | (refine Idx.nat ?_ ?_; (focus omega))
          | refine Idx.nat (le_big (by omega)) ?_
          | (refine Idx.int ?_ ?_ ?_; (focus omega); (focus omega))
          | (refine Idx.int ?_ ?_ ?_; (focus decide); (focus decide))
          | refine Ifz.zero ?_
          | (refine Ifz.pos ?_ ?_; (focus omega))
          | refine Get.mk _ rfl ?_
          | refine Leaves.of ?_
          | refine Ends.of ?_
          | refine Vw.bool ?_
          | refine Vw.int ?_
          | refine Vw.nil
          | refine Vw.sl
          | refine Vw.tup ?_
          | refine Vw.agg ?_
          | refine VwL.cons ?_ ?_
          | refine VwL.nil
          | refine LeavesF.of ?_
          | refine VwF.bool ?_
          | refine VwF.int ?_
          | refine VwF.nil
          | refine VwF.sl
          | refine VwF.tup ?_
          | refine VwF.agg ?_
          | refine VwLF.cons ?_ ?_
          | refine VwLF.nil
          | (refine Req.mk ?_ ?_; (focus first | rfl | decide | exact ⟨rfl, rfl⟩ | exact ⟨rfl, by decide⟩ | exact (fun _ => rfl) | exact (fun h => nomatch h) | (simp; done) | omega | (simp [big]; done) | exact le_big (by omega) | exact lt_big (by omega))))
      all_goals first | rfl | (exfalso; omega)

/-! a sync that keeps to all marks -/
theorem nmS_keeps {x e u : Int} (hx : 0 ≤ x) (he : 0 ≤ e) (hu : 0 ≤ u ∧ u ≤ 255) : x - nmS x e u ≤ e ∧ nmS x e u - x ≤ e := by
  have := pt_range (d := 2 * e) (by omega) hu
  unfold nmS; omega
/-- all marks of a task allow a sync. -/
def Allows (t : Tsk) (x : Nat → Int) : Prop := ∀ k, k < t.ms.length → ∀ f : Nat, alLo t.lo t.hi (mAt t.ms k) f ≤ x f ∧ x f ≤ alHi t.lo t.hi (mAt t.ms k) f
theorem nwT_mAt {t : Tsk} {first : Int} {sa sb : List UInt8} {k : Nat} (h : k < t.ms.length) : mAt (nwT t first sa sb).ms k = nwM t first sa sb k := by
  unfold nwT
  dsimp only
  rw [mAt_get (by rw [nwL_len]; exact h)]
  simp [nwL]
theorem nwT_allows {t : Tsk} {first : Int} {sa sb : List UInt8} (ht : OkT t) : Allows (nwT t first sa sb) (syX t first sa) := by
  intro k hk f
  have hk' : k < t.ms.length := by simpa [nwT, nwL_len] using hk
  rw [nwT_mAt hk']
  have hat := ht.at hk'
  have hlo := ht.lo; have hhi := ht.hi
  have hx := smp_range (lo := t.lo) (hi := t.hi) (first := first) sa (by omega) ht.le (by omega) (mAt t.ms k).1.toNat
  exact smp_in sa ht.le (m := nwM t first sa sb k) (a := (mAt t.ms k).1.toNat) (by unfold nwM; dsimp only; omega) (nmS_keeps hx.1 hat.2.2.1 (tuB_range sb k))
theorem allows_agn {t : Tsk} {x : Nat → Int} (h : Allows t x) {a b : Nat} (ha : a < t.ms.length) {B : Nat} (hB : (mAt t.ms b).1 = (B : Int)) (hk : x B - (mAt t.ms b).2.1 ≤ (mAt t.ms b).2.2 ∧ (mAt t.ms b).2.1 - x B ≤ (mAt t.ms b).2.2) : agn t.lo t.hi (mAt t.ms a) (mAt t.ms b) = false := by
  have := h a ha B
  unfold agn
  rw [hB]
  simp only [Bool.or_eq_false_iff, decide_eq_false_iff_not]
  omega
theorem allows_where {t : Tsk} {x : Nat → Int} (h : Allows t x) (h0 : 0 < t.ms.length) (f : Nat) : (whS t f).1 ≤ x f ∧ x f ≤ (whS t f).2 := by
  obtain ⟨⟨k, hk, e1⟩, ⟨k', hk', e2⟩⟩ := atS_ends (g := atG t f) (tkS_pos t h0)
  have a1 := h k (tkS_lt t _ k hk) f
  have a2 := h k' (tkS_lt t _ k' hk') f
  unfold whS
  rw [e1, e2]
  unfold atG
  dsimp only
  omega
theorem none_struck {t : Tsk} (h : ∀ a b, a < t.ms.length → b < t.ms.length → agn t.lo t.hi (mAt t.ms a) (mAt t.ms b) = false) : ∀ i, i ≤ t.ms.length → (tkS t i).2 = []
  | 0, _ => rfl
  | i + 1, hi => by
    have ih := none_struck h i (by omega)
    have hz : ¬ 0 ≤ hitZ t (tkS t i).1 (mAt t.ms i) := by
      have : hitZ t (tkS t i).1 (mAt t.ms i) < 0 := by
        unfold hitZ
        rw [fiF_neg, List.all_eq_true]
        intro x hx
        unfold tkI at hx
        obtain ⟨k, hk, rfl⟩ := List.mem_map.1 hx
        have hki := tkS_lt t i k hk
        rw [Int.toNat_natCast, h k i (by omega) (by omega)]; rfl
      omega
    simp only [tkS]
    rw [if_neg hz]; exact ih
theorem nwT_struck {t : Tsk} {first : Int} {sa sb : List UInt8} (ht : OkT t) : tkT (nwT t first sa sb) = [] := by
  have hal := nwT_allows (first := first) (sa := sa) (sb := sb) ht
  refine none_struck (fun a b ha hb => ?_) _ (Nat.le_refl _)
  have hb' : b < t.ms.length := by simpa [nwT, nwL_len] using hb
  have hat := ht.at hb'
  have hlo := ht.lo; have hhi := ht.hi
  have hx := smp_range (lo := t.lo) (hi := t.hi) (first := first) sa (by omega) ht.le (by omega) (mAt t.ms b).1.toNat
  refine allows_agn hal ha (B := (mAt t.ms b).1.toNat) (by rw [nwT_mAt hb']; unfold nwM; dsimp only; omega) ?_
  rw [nwT_mAt hb']
  exact nmS_keeps hx.1 hat.2.2.1 (tuB_range sb b)

set_option maxRecDepth 100000 in
set_option maxHeartbeats 20000000 in
theorem true_good {cm cs c1 c2 : Bool} {t : Tsk} {first : Int} {sa sb : List UInt8} {fr : Nat} (hc : chkT t = (0, 0, 0)) (ht : OkT t) (h4 : t.fr ≤ 400) (hfr' : fr ≤ 65535) :
    Fun F md 8 [tskV cm cs t, hdV c1 c2 first sa sb, .int .u16 (fr : Nat)] (.bool true) := by
  have hck := chkR_any cm cs t
  rw [hc] at hck
  obtain ⟨cx, hS⟩ := samples_ok (cm := cm) (cs := cs) (c1 := c1) (c2 := c2) (first := first) (sa := sa) (sb := sb) ht h4
  obtain ⟨cy, hM⟩ := marked_ok (cm := cm) (cs := cs) (c1 := c1) (c2 := c2) (cx := cx) (first := first) (sa := sa) (sb := sb) ht h4
  have hck2 := chkR_any cy cs (nwT t first sa sb)
  have hfr := ht.fr
  by_cases hs : (chkT (nwT t first sa sb)).2.2 = 0 ∧ 0 < (nwT t first sa sb).ms.length
  · obtain ⟨hcs, hts⟩ := chk_ok hs.1
    rw [hcs] at hck2
    obtain ⟨cz, hStr⟩ := struck_any cy cs (nwT t first sa sb)
    have hse : strE (nwT t first sa sb) = ([], 0) := by
      unfold strE
      rw [hcs, if_neg (by simp), nwT_struck ht]
    rw [hse] at hStr
    have hFit := fit_ok (cm := cy) (cs := cs) hcs hts hs.2
    have hwh := fun (f : Nat) (hf : (f : Int) < (nwT t first sa sb).fr) => (by
      have := whereP_any cy cs (nwT t first sa sb) (f : Int)
      rwa [whE_ok hcs hs.2 (by omega)] at this : Fun F md 29 [tskV cy cs (nwT t first sa sb), .int .i64 (f : Int)] (whV ((whS (nwT t first sa sb) f).1, (whS (nwT t first sa sb) f).2, 0)))
    have hal := allows_where (nwT_allows (first := first) (sa := sa) (sb := sb) ht) hs.2
    have hfrs : (nwT t first sa sb).fr = t.fr := rfl
    have hsps : (nwT t first sa sb).sp = t.sp := rfl
    have hlos : (nwT t first sa sb).lo = t.lo := rfl
    have hhis : (nwT t first sa sb).hi = t.hi := rfl
    have hlo := ht.lo; have hhi := ht.hi
    have hxr := fun f => smp_range (lo := t.lo) (hi := t.hi) (first := first) sa (by omega) ht.le (by omega) f
    have hspn := hts.sps
    have hbest := (fitL_best (nwT t first sa sb) t.fr.toNat (i := (nwT t first sa sb).sp.length) hspn.1).1
    have hnear := fun (f : Nat) (hf : (f : Int) < 400) => whS_near hts hs.2 (by rw [hfrs]; exact h4) (f := (f : Int)) (by omega)
    have hsp := fun j (hj : j < (nwT t first sa sb).sp.length) => gI_sp hts hj
    have hexin := fun (sp : Int) (N f : Nat) (hf : f < N) => exL_in (t := nwT t first sa sb) (sp := sp) hf
    have hexat := fun (sp : Int) (N : Nat) (hN : 1 ≤ N) => exL_at (t := nwT t first sa sb) (sp := sp) hN
    rw [hfrs] at hFit hwh
    dsimp only [fitV, whV, ckV] at hFit hwh hck hck2 hStr
    rw [fitL_len] at hFit
    generalize nwT t first sa sb = s at *
    obtain ⟨N, hN⟩ : ∃ N : Nat, t.fr = (N : Int) := ⟨t.fr.toNat, by omega⟩
    rw [hN, Int.toNat_natCast] at hS hM hFit hbest
    rw [hN] at hfr h4 hwh
    obtain ⟨j, hj, hbj⟩ := hbest
    have hsj := hsp j hj
    rw [hbj] at hFit
    dsimp only at hFit
    have hR : (fr : Int).tmod t.fr = ((fr % N : Nat) : Int) := by rw [hN]; exact Int.ofNat_tmod _ _
    have hfN : fr % N < N := Nat.mod_lt _ (by omega)
    have hW := hwh (fr % N) (by omega)
    have hxf := hal (fr % N)
    have hcf := gI_cell (l := acc (syX t first sa) N) (i := fr % N) (by rw [acc_length]; exact hfN)
    rw [gI_get (by rw [acc_length]; exact hfN), show (acc (syX t first sa) N)[fr % N]'(by rw [acc_length]; exact hfN) = syX t first sa (fr % N) by simp [acc]] at hcf
    have hxO : exO (exL s (gI s.sp j) N) = ((exL s (gI s.sp j) N).m - (exL s (gI s.sp j) N).s + 1) / 2 := rfl
    rw [hxO] at hFit
    have hin := fun f hf => hexin (gI s.sp j) N f hf
    obtain ⟨u, v, u1, v1, _, _, u3, v3⟩ := hexat (gI s.sp j) N (by omega)
    have hnu := hnear u (by omega)
    have hnv := hnear v (by omega)
    have hqu := qF_near (f := u) hsj (by omega)
    have hqv := qF_near (f := v) hsj (by omega)
    clear hexin hexat hwh hbj
    generalize (exL s (gI s.sp j) N).m = em at *
    generalize (exL s (gI s.sp j) N).s = es at *
    have hBr : -300000000 ≤ (em + es) / 2 ∧ (em + es) / 2 ≤ 300000000 := by omega
    have hOr : (em - es + 1) / 2 ≤ 500000000 := by omega
    have hd : ∀ f, f < N → (em + es) / 2 + qF (gI s.sp j) f - syX t first sa f ≤ (em - es + 1) / 2 ∧ syX t first sa f - ((em + es) / 2 + qF (gI s.sp j) f) ≤ (em - es + 1) / 2 := by
      intro f hf
      have a1 := hin f hf
      have a2 := hal f
      omega
    clear hin u3 v3 hnu hnv hqu hqv hxO
    generalize (em + es) / 2 = bb at *
    generalize (em - es + 1) / 2 = oo at *
    have hxfr := hxr (fr % N)
    change 0 ≤ syX t first sa (fr % N) ∧ syX t first sa (fr % N) ≤ _ at hxfr
    generalize fr % N = f at *
    generalize hwf : whS s (f : Int) = w at *
    obtain ⟨w1, w2⟩ := w
    dsimp only at hW hxf
    have hcell : ∀ i, i < N → cellAt (ofI (acc (syX t first sa) N)) (i * 1) = some (.int .i64 (syX t first sa i)) := by
      intro i hi
      rw [gI_cell (by rw [acc_length]; exact hi), gI_get (by rw [acc_length]; exact hi)]
      simp [acc]
    generalize hxx : syX t first sa f = xf at *
    generalize ofI (acc (syX t first sa) N) = C at *
    generalize (fitL s N s.sp.length).2 = L at *
    refine fun_of rfl rfl ?_
    repeat' (first
      | (conv => whnf)
        first
        | refine Bnd.eq hR ?_
        | refine Br.t ?_
        | refine Br.f ?_
        | (refine Br.decT ?_ ?_; (focus first | assumption | omega))
        | (refine Br.decF ?_ ?_; (focus first | assumption | omega))
        | refine Br.dec (fun _ => ?_) (fun _ => ?_)
        | refine Br.not ?_
        | refine Br.and ?_
        | refine Br.or ?_
        | (refine Bnd.i64 ?_ ?_ ?_; (focus omega); (focus omega))
        | refine Req.mk (show (_ : Int) ≠ 0 by omega) ?_
        | refine call_fun rfl rfl hck (.inl rfl) ?_
        | refine call_fun rfl rfl hS (.inl rfl) ?_
        | refine call_fun rfl rfl hM (.inl rfl) ?_
        | refine call_fun rfl rfl hck2 (.inl rfl) ?_
        | refine call_fun rfl rfl hStr (.inl rfl) ?_
        | refine call_fun rfl rfl hW (.inl rfl) ?_
        | refine call_fun rfl rfl hFit (.inl rfl) ?_
        | refine Get.mk _ hcf ?_
        | (refine Idx.nat ?_ ?_; (focus omega))
        | refine Idx.nat (le_big (by omega)) ?_
        | (refine Idx.int ?_ ?_ ?_; (focus omega); (focus omega))
        | (refine Idx.int ?_ ?_ ?_; (focus decide); (focus decide))
        | refine Ifz.zero ?_
        | (refine Ifz.pos ?_ ?_; (focus omega))
        | refine Get.mk _ rfl ?_
        | refine Leaves.of ?_
        | refine Ends.of ?_
        | refine Vw.bool ?_
        | refine Vw.int ?_
        | refine Vw.nil
        | refine Vw.sl
        | refine Vw.tup ?_
        | refine Vw.agg ?_
        | refine VwL.cons ?_ ?_
        | refine VwL.nil
        | refine LeavesF.of ?_
        | refine VwF.bool ?_
        | refine VwF.int ?_
        | refine VwF.nil
        | refine VwF.sl
        | refine VwF.tup ?_
        | refine VwF.agg ?_
        | refine VwLF.cons ?_ ?_
        | refine VwLF.nil
        | (refine Req.mk ?_ ?_; (focus first | rfl | decide | exact ⟨rfl, rfl⟩ | exact ⟨rfl, by decide⟩ | exact (fun _ => rfl) | exact (fun h => nomatch h) | (simp; done) | omega | (simp [big]; done) | exact le_big (by omega) | exact lt_big (by omega))))
    all_goals try (exfalso; omega)
    refine LoopP.byB (fun i : Nat => i ≤ N) (fun i => [(18, .int .i64 (i : Nat))]) (fun _ => []) (fun i => N - i) 0 (Nat.zero_le _) rfl ?_
    intro i hi
    by_cases hin : i < N
    · obtain ⟨hMul, hQ, hq0, hq1⟩ := qF_facts (f := i) hsj (by omega)
      have hci := hcell i hin
      have hdi := hd i hin
      have hxi := hxr i
      change 0 ≤ syX t first sa i ∧ syX t first sa i ≤ _ at hxi
      generalize syX t first sa i = x at *
      generalize qF (gI s.sp j) i = q at *
      repeat' (first
        | (conv => whnf)
          first
          | refine Bnd.eq hMul ?_
          | refine Bnd.eq hQ ?_
          | refine Br.t ?_
          | refine Br.f ?_
          | (refine Br.decT ?_ ?_; (focus first | assumption | omega))
          | (refine Br.decF ?_ ?_; (focus first | assumption | omega))
          | refine Br.dec (fun _ => ?_) (fun _ => ?_)
          | refine Br.not ?_
          | refine Br.and ?_
          | refine Br.or ?_
          | (refine Bnd.i64 ?_ ?_ ?_; (focus omega); (focus omega))
          | refine Get.mk _ hci ?_
          | refine Bnd.any ?_
          | (refine Idx.nat ?_ ?_; (focus omega))
          | refine Idx.nat (le_big (by omega)) ?_
          | (refine Idx.int ?_ ?_ ?_; (focus omega); (focus omega))
          | (refine Idx.int ?_ ?_ ?_; (focus decide); (focus decide))
          | refine Ifz.zero ?_
          | (refine Ifz.pos ?_ ?_; (focus omega))
          | refine Get.mk _ rfl ?_
          | refine Leaves.of ?_
          | refine Ends.of ?_
          | refine Vw.bool ?_
          | refine Vw.int ?_
          | refine Vw.nil
          | refine Vw.sl
          | refine Vw.tup ?_
          | refine Vw.agg ?_
          | refine VwL.cons ?_ ?_
          | refine VwL.nil
          | refine LeavesF.of ?_
          | refine VwF.bool ?_
          | refine VwF.int ?_
          | refine VwF.nil
          | refine VwF.sl
          | refine VwF.tup ?_
          | refine VwF.agg ?_
          | refine VwLF.cons ?_ ?_
          | refine VwLF.nil
          | (refine Req.mk ?_ ?_; (focus first | rfl | decide | exact ⟨rfl, rfl⟩ | exact ⟨rfl, by decide⟩ | exact (fun _ => rfl) | exact (fun h => nomatch h) | (simp; done) | omega | (simp [big]; done) | exact le_big (by omega) | exact lt_big (by omega))))
      all_goals first | exact NextP.mk (i + 1) (by omega) (by omega) rfl | (exfalso; omega)
    · obtain rfl : i = N := by omega
      repeat' (first
        | (conv => whnf)
          first
          | refine Br.t ?_
          | refine Br.f ?_
          | (refine Br.decT ?_ ?_; (focus first | assumption | omega))
          | (refine Br.decF ?_ ?_; (focus first | assumption | omega))
          | refine Br.dec (fun _ => ?_) (fun _ => ?_)
          | refine Br.not ?_
          | refine Br.and ?_
          | refine Br.or ?_
          | (refine Bnd.i64 ?_ ?_ ?_; (focus omega); (focus omega))
          | refine call_fun rfl rfl awake (.inl rfl) ?_
          | (refine Idx.nat ?_ ?_; (focus omega))
          | refine Idx.nat (le_big (by omega)) ?_
          | (refine Idx.int ?_ ?_ ?_; (focus omega); (focus omega))
          | (refine Idx.int ?_ ?_ ?_; (focus decide); (focus decide))
          | refine Ifz.zero ?_
          | (refine Ifz.pos ?_ ?_; (focus omega))
          | refine Get.mk _ rfl ?_
          | refine Leaves.of ?_
          | refine Ends.of ?_
          | refine Vw.bool ?_
          | refine Vw.int ?_
          | refine Vw.nil
          | refine Vw.sl
          | refine Vw.tup ?_
          | refine Vw.agg ?_
          | refine VwL.cons ?_ ?_
          | refine VwL.nil
          | refine LeavesF.of ?_
          | refine VwF.bool ?_
          | refine VwF.int ?_
          | refine VwF.nil
          | refine VwF.sl
          | refine VwF.tup ?_
          | refine VwF.agg ?_
          | refine VwLF.cons ?_ ?_
          | refine VwLF.nil
          | (refine Req.mk ?_ ?_; (focus first | rfl | decide | exact ⟨rfl, rfl⟩ | exact ⟨rfl, by decide⟩ | exact (fun _ => rfl) | exact (fun h => nomatch h) | (simp; done) | omega | (simp [big]; done) | exact le_big (by omega) | exact lt_big (by omega))))
      all_goals first | rfl | (exfalso; omega)
  · dsimp only [ckV] at hck hck2
    generalize hz : chkT (nwT t first sa sb) = z at *
    generalize nwT t first sa sb = s at *
    refine fun_of rfl rfl ?_
    repeat' (first
      | (conv => whnf)
        first
        | refine Br.t ?_
        | refine Br.f ?_
        | (refine Br.decT ?_ ?_; (focus first | assumption | omega))
        | (refine Br.decF ?_ ?_; (focus first | assumption | omega))
        | refine Br.dec (fun _ => ?_) (fun _ => ?_)
        | refine Br.not ?_
        | refine Br.and ?_
        | refine Br.or ?_
        | (refine Bnd.i64 ?_ ?_ ?_; (focus omega); (focus omega))
        | refine call_fun rfl rfl hck (.inl rfl) ?_
        | refine call_fun rfl rfl hS (.inl rfl) ?_
        | refine call_fun rfl rfl hM (.inl rfl) ?_
        | refine call_fun rfl rfl hck2 (.inl rfl) ?_
        | refine call_fun rfl rfl awake (.inl rfl) ?_
        | (refine Idx.nat ?_ ?_; (focus omega))
        | refine Idx.nat (le_big (by omega)) ?_
        | (refine Idx.int ?_ ?_ ?_; (focus omega); (focus omega))
        | (refine Idx.int ?_ ?_ ?_; (focus decide); (focus decide))
        | refine Ifz.zero ?_
        | (refine Ifz.pos ?_ ?_; (focus omega))
        | refine Get.mk _ rfl ?_
        | refine Leaves.of ?_
        | refine Ends.of ?_
        | refine Vw.bool ?_
        | refine Vw.int ?_
        | refine Vw.nil
        | refine Vw.sl
        | refine Vw.tup ?_
        | refine Vw.agg ?_
        | refine VwL.cons ?_ ?_
        | refine VwL.nil
        | refine LeavesF.of ?_
        | refine VwF.bool ?_
        | refine VwF.int ?_
        | refine VwF.nil
        | refine VwF.sl
        | refine VwF.tup ?_
        | refine VwF.agg ?_
        | refine VwLF.cons ?_ ?_
        | refine VwLF.nil
        | (refine Req.mk ?_ ?_; (focus first | rfl | decide | exact ⟨rfl, rfl⟩ | exact ⟨rfl, by decide⟩ | exact (fun _ => rfl) | exact (fun h => nomatch h) | (simp; done) | omega | (simp [big]; done) | exact le_big (by omega) | exact lt_big (by omega))))
    all_goals first | rfl | (exfalso; omega)
set_option maxRecDepth 100000 in
set_option maxHeartbeats 20000000 in
theorem law_true (cm cs c1 c2 : Bool) (t : Tsk) (first : Int) (sa sb : List UInt8) (fr : Nat) (hfr : fr ≤ 65535) : Fun F md 8 [tskV cm cs t, hdV c1 c2 first sa sb, .int .u16 (fr : Nat)] (.bool true) := by
  by_cases hg : (chkT t).2.2 = 0 ∧ t.fr ≤ 400
  · obtain ⟨hc, ht⟩ := chk_ok hg.1
    exact true_good hc ht hg.2 hfr
  · have hck := chkR_any cm cs t
    dsimp only [ckV] at hck
    generalize chkT t = z at *
    refine fun_of rfl rfl ?_
    repeat' (first
      | (conv => whnf)
        first
        | refine Br.t ?_
        | refine Br.f ?_
        | (refine Br.decT ?_ ?_; (focus first | assumption | omega))
        | (refine Br.decF ?_ ?_; (focus first | assumption | omega))
        | refine Br.dec (fun _ => ?_) (fun _ => ?_)
        | refine Br.not ?_
        | refine Br.and ?_
        | refine Br.or ?_
        | (refine Bnd.i64 ?_ ?_ ?_; (focus omega); (focus omega))
        | refine call_fun rfl rfl hck (.inl rfl) ?_
        | refine call_fun rfl rfl awake (.inl rfl) ?_
        | (refine Idx.nat ?_ ?_; (focus omega))
        | refine Idx.nat (le_big (by omega)) ?_
        | (refine Idx.int ?_ ?_ ?_; (focus omega); (focus omega))
        | (refine Idx.int ?_ ?_ ?_; (focus decide); (focus decide))
        | refine Ifz.zero ?_
        | (refine Ifz.pos ?_ ?_; (focus omega))
        | refine Get.mk _ rfl ?_
        | refine Leaves.of ?_
        | refine Ends.of ?_
        | refine Vw.bool ?_
        | refine Vw.int ?_
        | refine Vw.nil
        | refine Vw.sl
        | refine Vw.tup ?_
        | refine Vw.agg ?_
        | refine VwL.cons ?_ ?_
        | refine VwL.nil
        | refine LeavesF.of ?_
        | refine VwF.bool ?_
        | refine VwF.int ?_
        | refine VwF.nil
        | refine VwF.sl
        | refine VwF.tup ?_
        | refine VwF.agg ?_
        | refine VwLF.cons ?_ ?_
        | refine VwLF.nil
        | (refine Req.mk ?_ ?_; (focus first | rfl | decide | exact ⟨rfl, rfl⟩ | exact ⟨rfl, by decide⟩ | exact (fun _ => rfl) | exact (fun h => nomatch h) | (simp; done) | omega | (simp [big]; done) | exact le_big (by omega) | exact lt_big (by omega))))
    all_goals first | rfl | (exfalso; omega)

end Go.Dr.T
