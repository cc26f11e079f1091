/- Chapter 09: Struck, Where, both; the law SoundSyncs. -/
import Derived.Test.YtokbdaiamhibeaaR09Bi
namespace Go.Dr.T

abbrev tkK (t : Tsk) : List Nat := (tkS t t.ms.length).1
abbrev tkT (t : Tsk) : List (Int × Int) := (tkS t t.ms.length).2
theorem tkS_pos (t : Tsk) : ∀ {i : Nat}, 0 < i → 0 < (tkS t i).1.length
  | 0, h => by omega
  | 1, _ => by
    have hz : hitZ t [] (mAt t.ms 0) = -1 := rfl
    have : tkS t 1 = ([0], []) := by simp [tkS, hz]
    rw [this]; simp
  | i + 2, _ => by
    have := tkS_pos t (i := i + 1) (by omega)
    rw [show tkS t (i + 2) = if 0 ≤ hitZ t (tkS t (i + 1)).1 (mAt t.ms (i + 1)) then ((tkS t (i + 1)).1, (tkS t (i + 1)).2 ++ [(((i + 1 : Nat) : Int), (gI (tkI (tkS t (i + 1)).1) (hitZ t (tkS t (i + 1)).1 (mAt t.ms (i + 1))).toNat))]) else ((tkS t (i + 1)).1 ++ [i + 1], (tkS t (i + 1)).2) from rfl]
    split
    · exact this
    · simp
theorem bgSt_eq (t : Tsk) : bgSt t = .sl (decide ((tkT t).length = 0)) (tkT t).length (ofSp (tkT t)) := by
  unfold bgSt
  split
  · rename_i h
    have : tkT t = [] := List.length_eq_zero_iff.1 h
    rw [this]; rfl
  · rename_i h
    rw [decide_eq_false h]
theorem tkK_zero {t : Tsk} (h : t.ms.length = 0) : tkK t = [] := by unfold tkK; rw [h]; rfl
theorem bgTk_eq (t : Tsk) : bgTk t = .sl (decide (t.ms.length = 0)) (tkK t).length (tkC (tkK t)) := by
  unfold bgTk
  split
  · rename_i h
    rw [tkK_zero h, decide_eq_true h]; rfl
  · rename_i h
    rw [decide_eq_false h]
theorem tkOut_eq (t : Tsk) : tkOut t = .sl (decide (t.ms.length = 0)) (tkK t).length (ofM (outM t (tkK t))) := by
  unfold tkOut
  split
  · rename_i h
    rw [tkK_zero h, decide_eq_true h]; rfl
  · rename_i h
    rw [decide_eq_false h]
theorem tkT_len (t : Tsk) : (tkT t).length ≤ t.ms.length := (tkS_len t _).2
theorem tkK_len (t : Tsk) : (tkK t).length ≤ t.ms.length := (tkS_len t _).1

def strE (t : Tsk) : List (Int × Int) × Int := if (chkT t).2.2 ≠ 0 then ([], (chkT t).2.2) else (tkT t, 0)
set_option maxRecDepth 100000 in
set_option maxHeartbeats 20000000 in
theorem struck_any (cm cs : Bool) (t : Tsk) : ∃ c, Fun F md 26 [tskV cm cs t] (.tup [.sl c (strE t).1.length (ofSp (strE t).1), .int .i64 (strE t).2]) := by
  unfold strE
  by_cases h : (chkT t).2.2 = 0
  · obtain ⟨hc, ht⟩ := chk_ok h
    have hb := begin_ok (cm := cm) (cs := cs) ht hc
    unfold bgV syV at hb
    rw [bgSt_eq, bgTk_eq] at hb
    simp only [h, ne_eq, not_true_eq_false, if_false]
    refine ⟨decide ((tkT t).length = 0), fun_of rfl rfl ?_⟩
    repeat' (first
      | (conv => whnf)
        first
        | refine Br.t ?_
        | refine Br.f ?_
        | (refine Br.decT ?_ ?_; (focus first | assumption | omega))
        | (refine Br.decF ?_ ?_; (focus first | assumption | omega))
        | refine Br.dec (fun _ => ?_) (fun _ => ?_)
        | refine Br.not ?_
        | refine Br.and ?_
        | refine Br.or ?_
        | (refine Bnd.i64 ?_ ?_ ?_; (focus omega); (focus omega))
        | refine call_fun rfl rfl hb (.inl rfl) ?_
        | (refine Idx.nat ?_ ?_; (focus omega))
        | refine Idx.nat (le_big (by omega)) ?_
        | (refine Idx.int ?_ ?_ ?_; (focus omega); (focus omega))
        | (refine Idx.int ?_ ?_ ?_; (focus decide); (focus decide))
        | refine Ifz.zero ?_
        | (refine Ifz.pos ?_ ?_; (focus omega))
        | refine Get.mk _ rfl ?_
        | refine Leaves.of ?_
        | refine Ends.of ?_
        | refine Vw.bool ?_
        | refine Vw.int ?_
        | refine Vw.nil
        | refine Vw.sl
        | refine Vw.tup ?_
        | refine Vw.agg ?_
        | refine VwL.cons ?_ ?_
        | refine VwL.nil
        | refine LeavesF.of ?_
        | refine VwF.bool ?_
        | refine VwF.int ?_
        | refine VwF.nil
        | refine VwF.sl
        | refine VwF.tup ?_
        | refine VwF.agg ?_
        | refine VwLF.cons ?_ ?_
        | refine VwLF.nil
        | (refine Req.mk ?_ ?_; (focus first | rfl | decide | exact ⟨rfl, rfl⟩ | exact ⟨rfl, by decide⟩ | exact (fun _ => rfl) | exact (fun h => nomatch h) | (simp; done) | omega | (simp [big]; done) | exact le_big (by omega) | exact lt_big (by omega))))
    all_goals first | rfl | (exfalso; omega)
  · have hb := begin_bad (cm := cm) (cs := cs) (t := t) rfl h
    simp only [h, ne_eq, not_false_eq_true, if_true]
    generalize (chkT t).2.2 = k at *
    refine ⟨true, fun_of rfl rfl ?_⟩
    repeat' (first
      | (conv => whnf)
        first
        | refine Br.t ?_
        | refine Br.f ?_
        | (refine Br.decT ?_ ?_; (focus first | assumption | omega))
        | (refine Br.decF ?_ ?_; (focus first | assumption | omega))
        | refine Br.dec (fun _ => ?_) (fun _ => ?_)
        | refine Br.not ?_
        | refine Br.and ?_
        | refine Br.or ?_
        | (refine Bnd.i64 ?_ ?_ ?_; (focus omega); (focus omega))
        | refine call_fun rfl rfl hb (.inl rfl) ?_
        | (refine Idx.nat ?_ ?_; (focus omega))
        | refine Idx.nat (le_big (by omega)) ?_
        | (refine Idx.int ?_ ?_ ?_; (focus omega); (focus omega))
        | (refine Idx.int ?_ ?_ ?_; (focus decide); (focus decide))
        | refine Ifz.zero ?_
        | (refine Ifz.pos ?_ ?_; (focus omega))
        | refine Get.mk _ rfl ?_
        | refine Leaves.of ?_
        | refine Ends.of ?_
        | refine Vw.bool ?_
        | refine Vw.int ?_
        | refine Vw.nil
        | refine Vw.sl
        | refine Vw.tup ?_
        | refine Vw.agg ?_
        | refine VwL.cons ?_ ?_
        | refine VwL.nil
        | refine LeavesF.of ?_
        | refine VwF.bool ?_
        | refine VwF.int ?_
        | refine VwF.nil
        | refine VwF.sl
        | refine VwF.tup ?_
        | refine VwF.agg ?_
        | refine VwLF.cons ?_ ?_
        | refine VwLF.nil
        | (refine Req.mk ?_ ?_; (focus first | rfl | decide | exact ⟨rfl, rfl⟩ | exact ⟨rfl, by decide⟩ | exact (fun _ => rfl) | exact (fun h => nomatch h) | (simp; done) | omega | (simp [big]; done) | exact le_big (by omega) | exact lt_big (by omega))))
    all_goals first | rfl | (exfalso; omega)
set_option maxRecDepth 100000 in
set_option maxHeartbeats 20000000 in
theorem struckR_any (cm cs : Bool) (t : Tsk) : ∃ c, Fun F md 27 [tskV cm cs t] (.tup [.sl c (strE t).1.length (ofSp (strE t).1), .int .i64 (strE t).2]) := by
  have hv := valid_any cm cs t
  unfold strE
  by_cases h : (chkT t).2.2 = 0
  · obtain ⟨hc, ht⟩ := chk_ok h
    have hb := taken_ok (cm := cm) (cs := cs) ht
    rw [bgSt_eq, tkOut_eq] at hb
    rw [h] at hv
    simp only [h, ne_eq, not_true_eq_false, if_false]
    refine ⟨decide ((tkT t).length = 0), fun_of rfl rfl ?_⟩
    repeat' (first
      | (conv => whnf)
        first
        | refine Br.t ?_
        | refine Br.f ?_
        | (refine Br.decT ?_ ?_; (focus first | assumption | omega))
        | (refine Br.decF ?_ ?_; (focus first | assumption | omega))
        | refine Br.dec (fun _ => ?_) (fun _ => ?_)
        | refine Br.not ?_
        | refine Br.and ?_
        | refine Br.or ?_
        | (refine Bnd.i64 ?_ ?_ ?_; (focus omega); (focus omega))
        | refine call_fun rfl rfl hv (.inl rfl) ?_
        | refine call_fun rfl rfl hb (.inl rfl) ?_
        | (refine Idx.nat ?_ ?_; (focus omega))
        | refine Idx.nat (le_big (by omega)) ?_
        | (refine Idx.int ?_ ?_ ?_; (focus omega); (focus omega))
        | (refine Idx.int ?_ ?_ ?_; (focus decide); (focus decide))
        | refine Ifz.zero ?_
        | (refine Ifz.pos ?_ ?_; (focus omega))
        | refine Get.mk _ rfl ?_
        | refine Leaves.of ?_
        | refine Ends.of ?_
        | refine Vw.bool ?_
        | refine Vw.int ?_
        | refine Vw.nil
        | refine Vw.sl
        | refine Vw.tup ?_
        | refine Vw.agg ?_
        | refine VwL.cons ?_ ?_
        | refine VwL.nil
        | refine LeavesF.of ?_
        | refine VwF.bool ?_
        | refine VwF.int ?_
        | refine VwF.nil
        | refine VwF.sl
        | refine VwF.tup ?_
        | refine VwF.agg ?_
        | refine VwLF.cons ?_ ?_
        | refine VwLF.nil
        | (refine Req.mk ?_ ?_; (focus first | rfl | decide | exact ⟨rfl, rfl⟩ | exact ⟨rfl, by decide⟩ | exact (fun _ => rfl) | exact (fun h => nomatch h) | (simp; done) | omega | (simp [big]; done) | exact le_big (by omega) | exact lt_big (by omega))))
    all_goals first | rfl | (exfalso; omega)
  · simp only [h, ne_eq, not_false_eq_true, if_true]
    generalize (chkT t).2.2 = k at *
    refine ⟨true, fun_of rfl rfl ?_⟩
    repeat' (first
      | (conv => whnf)
        first
        | refine Br.t ?_
        | refine Br.f ?_
        | (refine Br.decT ?_ ?_; (focus first | assumption | omega))
        | (refine Br.decF ?_ ?_; (focus first | assumption | omega))
        | refine Br.dec (fun _ => ?_) (fun _ => ?_)
        | refine Br.not ?_
        | refine Br.and ?_
        | refine Br.or ?_
        | (refine Bnd.i64 ?_ ?_ ?_; (focus omega); (focus omega))
        | refine call_fun rfl rfl hv (.inl rfl) ?_
        | (refine Idx.nat ?_ ?_; (focus omega))
        | refine Idx.nat (le_big (by omega)) ?_
        | (refine Idx.int ?_ ?_ ?_; (focus omega); (focus omega))
        | (refine Idx.int ?_ ?_ ?_; (focus decide); (focus decide))
        | refine Ifz.zero ?_
        | (refine Ifz.pos ?_ ?_; (focus omega))
        | refine Get.mk _ rfl ?_
        | refine Leaves.of ?_
        | refine Ends.of ?_
        | refine Vw.bool ?_
        | refine Vw.int ?_
        | refine Vw.nil
        | refine Vw.sl
        | refine Vw.tup ?_
        | refine Vw.agg ?_
        | refine VwL.cons ?_ ?_
        | refine VwL.nil
        | refine LeavesF.of ?_
        | refine VwF.bool ?_
        | refine VwF.int ?_
        | refine VwF.nil
        | refine VwF.sl
        | refine VwF.tup ?_
        | refine VwF.agg ?_
        | refine VwLF.cons ?_ ?_
        | refine VwLF.nil
        | (refine Req.mk ?_ ?_; (focus first | rfl | decide | exact ⟨rfl, rfl⟩ | exact ⟨rfl, by decide⟩ | exact (fun _ => rfl) | exact (fun h => nomatch h) | (simp; done) | omega | (simp [big]; done) | exact le_big (by omega) | exact lt_big (by omega))))
    all_goals first | rfl | (exfalso; omega)
set_option maxRecDepth 100000 in
theorem strikes_same {c c' : Bool} {l : List (Int × Int)} (hl : l.length ≤ 1000000) : Fun F md 28 [.sl c l.length (ofSp l), .sl c' l.length (ofSp l)] (.bool true) := by
  refine fun_of rfl rfl ?_
  repeat' (first
    | (conv => whnf)
      first
      | refine Br.t ?_
      | refine Br.f ?_
      | (refine Br.decT ?_ ?_; (focus first | assumption | omega))
      | (refine Br.decF ?_ ?_; (focus first | assumption | omega))
      | refine Br.dec (fun _ => ?_) (fun _ => ?_)
      | refine Br.not ?_
      | refine Br.and ?_
      | refine Br.or ?_
      | (refine Bnd.i64 ?_ ?_ ?_; (focus omega); (focus omega))
      | (refine Idx.nat ?_ ?_; (focus omega))
      | refine Idx.nat (le_big (by omega)) ?_
      | (refine Idx.int ?_ ?_ ?_; (focus omega); (focus omega))
      | (refine Idx.int ?_ ?_ ?_; (focus decide); (focus decide))
      | refine Ifz.zero ?_
      | (refine Ifz.pos ?_ ?_; (focus omega))
      | refine Get.mk _ rfl ?_
      | refine Leaves.of ?_
      | refine Ends.of ?_
      | refine Vw.bool ?_
      | refine Vw.int ?_
      | refine Vw.nil
      | refine Vw.sl
      | refine Vw.tup ?_
      | refine Vw.agg ?_
      | refine VwL.cons ?_ ?_
      | refine VwL.nil
      | refine LeavesF.of ?_
      | refine VwF.bool ?_
      | refine VwF.int ?_
      | refine VwF.nil
      | refine VwF.sl
      | refine VwF.tup ?_
      | refine VwF.agg ?_
      | refine VwLF.cons ?_ ?_
      | refine VwLF.nil
      | (refine Req.mk ?_ ?_; (focus first | rfl | decide | exact ⟨rfl, rfl⟩ | exact ⟨rfl, by decide⟩ | exact (fun _ => rfl) | exact (fun h => nomatch h) | (simp; done) | omega | (simp [big]; done) | exact le_big (by omega) | exact lt_big (by omega))))
  refine LoopP.by (fun i : Nat => i ≤ l.length) (fun i => [(5, .int .i64 (i : Nat))]) (fun _ => []) (fun i => l.length - i) 0 (Nat.zero_le _) rfl ?_
  intro i hi
  by_cases hin : i < l.length
  · repeat' (first
      | (conv => whnf)
        first
        | refine Br.t ?_
        | refine Br.f ?_
        | (refine Br.decT ?_ ?_; (focus first | assumption | omega))
        | (refine Br.decF ?_ ?_; (focus first | assumption | omega))
        | refine Br.dec (fun _ => ?_) (fun _ => ?_)
        | refine Br.not ?_
        | refine Br.and ?_
        | refine Br.or ?_
        | (refine Bnd.i64 ?_ ?_ ?_; (focus omega); (focus omega))
        | refine Get.mk _ (ofSp_part hin) ?_
        | (refine Idx.nat ?_ ?_; (focus omega))
        | refine Idx.nat (le_big (by omega)) ?_
        | (refine Idx.int ?_ ?_ ?_; (focus omega); (focus omega))
        | (refine Idx.int ?_ ?_ ?_; (focus decide); (focus decide))
        | refine Ifz.zero ?_
        | (refine Ifz.pos ?_ ?_; (focus omega))
        | refine Get.mk _ rfl ?_
        | refine Leaves.of ?_
        | refine Ends.of ?_
        | refine Vw.bool ?_
        | refine Vw.int ?_
        | refine Vw.nil
        | refine Vw.sl
        | refine Vw.tup ?_
        | refine Vw.agg ?_
        | refine VwL.cons ?_ ?_
        | refine VwL.nil
        | refine LeavesF.of ?_
        | refine VwF.bool ?_
        | refine VwF.int ?_
        | refine VwF.nil
        | refine VwF.sl
        | refine VwF.tup ?_
        | refine VwF.agg ?_
        | refine VwLF.cons ?_ ?_
        | refine VwLF.nil
        | (refine Req.mk ?_ ?_; (focus first | rfl | decide | exact ⟨rfl, rfl⟩ | exact ⟨rfl, by decide⟩ | exact (fun _ => rfl) | exact (fun h => nomatch h) | (simp; done) | omega | (simp [big]; done) | exact le_big (by omega) | exact lt_big (by omega))))
    exact NextP.mk (i + 1) hin (by omega) rfl
  · repeat' (first
      | (conv => whnf)
        first
        | refine Br.t ?_
        | refine Br.f ?_
        | (refine Br.decT ?_ ?_; (focus first | assumption | omega))
        | (refine Br.decF ?_ ?_; (focus first | assumption | omega))
        | refine Br.dec (fun _ => ?_) (fun _ => ?_)
        | refine Br.not ?_
        | refine Br.and ?_
        | refine Br.or ?_
        | (refine Bnd.i64 ?_ ?_ ?_; (focus omega); (focus omega))
        | (refine Idx.nat ?_ ?_; (focus omega))
        | refine Idx.nat (le_big (by omega)) ?_
        | (refine Idx.int ?_ ?_ ?_; (focus omega); (focus omega))
        | (refine Idx.int ?_ ?_ ?_; (focus decide); (focus decide))
        | refine Ifz.zero ?_
        | (refine Ifz.pos ?_ ?_; (focus omega))
        | refine Get.mk _ rfl ?_
        | refine Leaves.of ?_
        | refine Ends.of ?_
        | refine Vw.bool ?_
        | refine Vw.int ?_
        | refine Vw.nil
        | refine Vw.sl
        | refine Vw.tup ?_
        | refine Vw.agg ?_
        | refine VwL.cons ?_ ?_
        | refine VwL.nil
        | refine LeavesF.of ?_
        | refine VwF.bool ?_
        | refine VwF.int ?_
        | refine VwF.nil
        | refine VwF.sl
        | refine VwF.tup ?_
        | refine VwF.agg ?_
        | refine VwLF.cons ?_ ?_
        | refine VwLF.nil
        | (refine Req.mk ?_ ?_; (focus first | rfl | decide | exact ⟨rfl, rfl⟩ | exact ⟨rfl, by decide⟩ | exact (fun _ => rfl) | exact (fun h => nomatch h) | (simp; done) | omega | (simp [big]; done) | exact le_big (by omega) | exact lt_big (by omega))))
    all_goals rfl

/-! Where -/
def atG (t : Tsk) (f : Int) (k : Nat) : Int × Int := (alLo t.lo t.hi (mAt t.ms k) f, alHi t.lo t.hi (mAt t.ms k) f)
def whS (t : Tsk) (f : Int) : Int × Int := atS (atG t f) (tkK t)
theorem at_ok {cm cs c : Bool} {t : Tsk} {f : Int} {st : V} (ht : OkT t) (h0 : 0 < t.ms.length) (hf : 0 ≤ f ∧ f ≤ 20000) :
    Fun F md 67 [syV t.fr t.lo t.hi cm t.ms.length (ofM t.ms) (.sl cs t.sp.length (ofI t.sp)) (.sl c (tkK t).length (tkC (tkK t))) st, .int .i64 f] (.agg [.int .i64 (whS t f).1, .int .i64 (whS t f).2]) := by
  have hfr := ht.fr; have hlo := ht.lo; have hhi := ht.hi; have hmany := ht.many
  refine at_any (g := atG t f) (tkS_pos t h0) (by have := tkK_len t; omega) ?_
  intro k hk
  have hkn := tkS_lt t _ k hk
  have hat := ht.at hkn
  exact allowed_any (a := (mAt t.ms k).1) (s := (mAt t.ms k).2.1) (e := (mAt t.ms k).2.2) ⟨by omega, by omega, by omega, by omega⟩ ⟨by omega, by omega, by omega, by omega, by omega, by omega⟩ hkn (mAt_part hkn)
set_option maxRecDepth 100000 in
set_option maxHeartbeats 20000000 in
theorem where_any {cm cs c : Bool} {t : Tsk} {f : Int} (ht : OkT t) (h0 : 0 < t.ms.length) (hf : 0 ≤ f ∧ f ≤ 20000) :
    Fun F md 68 [tskV cm cs t, .sl c (tkK t).length (ofM (outM t (tkK t))), .int .i64 f] (.agg [.int .i64 (whS t f).1, .int .i64 (whS t f).2]) := by
  have hfr := ht.fr; have hlo := ht.lo; have hhi := ht.hi; have hmany := ht.many
  have hlen := tkK_len t
  have hpos := tkS_pos t h0
  have hF := fun k (hk : k ∈ tkK t) => (by
    have hkn := tkS_lt t _ k hk
    have hat := ht.at hkn
    exact from_any (fr := t.fr) (cm := cm) (cs := cs) (nm := t.ms.length) (ns := t.sp.length) (mk := ofM t.ms) (sp := ofI t.sp) (m := mAt t.ms k) (f := f) ⟨by omega, by omega, by omega, by omega⟩ ht.le ⟨by omega, by omega, by omega⟩ hf :
    Fun F md 98 [tskV cm cs t, .agg (mkC (mAt t.ms k)), .int .i64 f] (.agg [.int .i64 (atG t f k).1, .int .i64 (atG t f k).2]))
  unfold whS
  change 0 < (tkK t).length at hpos
  generalize tkK t = ks at *
  cases ks with
  | nil => simp at hpos
  | cons k r =>
    have e : atS (atG t f) (k :: r) = r.foldl (narS (atG t f)) (atG t f k) := rfl
    rw [e]
    have h1 := hF k (by simp)
    have hL : (k :: r).length = r.length + 1 := by simp
    have hp0 : part (ofM (outM t (k :: r))) (Int.toNat 0 * 3) 3 = some (mkC (mAt t.ms k)) := by
      have := outM_part (t := t) (ks := k :: r) (j := 0) (by simp)
      rw [Nat.zero_add] at this; exact this
    refine fun_of rfl rfl ?_
    repeat' (first
      | (conv => whnf)
        first
        | refine Br.t ?_
        | refine Br.f ?_
        | (refine Br.decT ?_ ?_; (focus first | assumption | omega))
        | (refine Br.decF ?_ ?_; (focus first | assumption | omega))
        | refine Br.dec (fun _ => ?_) (fun _ => ?_)
        | refine Br.not ?_
        | refine Br.and ?_
        | refine Br.or ?_
        | (refine Bnd.i64 ?_ ?_ ?_; (focus omega); (focus omega))
        | (refine Idx.int ?_ ?_ ?_; (focus decide); (focus simp))
        | refine Get.mk _ hp0 ?_
        | refine call_fun rfl rfl h1 (.inl rfl) ?_
        | (refine Idx.nat ?_ ?_; (focus omega))
        | refine Idx.nat (le_big (by omega)) ?_
        | (refine Idx.int ?_ ?_ ?_; (focus omega); (focus omega))
        | (refine Idx.int ?_ ?_ ?_; (focus decide); (focus decide))
        | refine Ifz.zero ?_
        | (refine Ifz.pos ?_ ?_; (focus omega))
        | refine Get.mk _ rfl ?_
        | refine Leaves.of ?_
        | refine Ends.of ?_
        | refine Vw.bool ?_
        | refine Vw.int ?_
        | refine Vw.nil
        | refine Vw.sl
        | refine Vw.tup ?_
        | refine Vw.agg ?_
        | refine VwL.cons ?_ ?_
        | refine VwL.nil
        | refine LeavesF.of ?_
        | refine VwF.bool ?_
        | refine VwF.int ?_
        | refine VwF.nil
        | refine VwF.sl
        | refine VwF.tup ?_
        | refine VwF.agg ?_
        | refine VwLF.cons ?_ ?_
        | refine VwLF.nil
        | (refine Req.mk ?_ ?_; (focus first | rfl | decide | exact ⟨rfl, rfl⟩ | exact ⟨rfl, by decide⟩ | exact (fun _ => rfl) | exact (fun h => nomatch h) | (simp; done) | omega | (simp [big]; done) | exact le_big (by omega) | exact lt_big (by omega))))
    refine LoopP.by (fun x : Nat × Int × Int => x.1 ≤ r.length ∧ (r.take x.1).foldl (narS (atG t f)) (atG t f k) = x.2) (fun x => [(8, .int .i64 ((x.1 + 1 : Nat) : Int))]) (fun x => [bg0 t cm cs, .blk [.int .i64 0, .int .i64 0] false, .blk [.int .i64 x.2.1, .int .i64 x.2.2] false]) (fun x => r.length - x.1) (0, atG t f k) ⟨Nat.zero_le _, rfl⟩ rfl ?_
    rintro ⟨i, lo, hi⟩ ⟨hir, hf'⟩
    simp only at hir hf'
    dsimp only
    by_cases hin : i < r.length
    · have hpi : part (ofM (outM t (k :: r))) ((i + 1) * 3) 3 = some (mkC (mAt t.ms r[i])) := by
        have := outM_part (t := t) (ks := k :: r) (j := i + 1) (by simpa using hin)
        rw [Nat.zero_add] at this; exact this
      have hk := hF r[i] (by simp)
      have hs := fold_take (f := narS (atG t f)) (s := atG t f k) hin
      rw [hf'] at hs
      simp only [narS] at hs
      generalize mAt t.ms r[i] = m at *
      generalize atG t f r[i] = q at *
      obtain ⟨q1, q2⟩ := q
      simp only at hs hk
      repeat' (first
        | (conv => whnf)
          first
          | refine Br.t ?_
          | refine Br.f ?_
          | (refine Br.decT ?_ ?_; (focus first | assumption | omega))
          | (refine Br.decF ?_ ?_; (focus first | assumption | omega))
          | refine Br.dec (fun _ => ?_) (fun _ => ?_)
          | refine Br.not ?_
          | refine Br.and ?_
          | refine Br.or ?_
          | (refine Bnd.i64 ?_ ?_ ?_; (focus omega); (focus omega))
          | refine Get.mk _ hpi ?_
          | refine call_fun rfl rfl hk (.inl rfl) ?_
          | refine Bnd.any ?_
          | (refine Idx.nat ?_ ?_; (focus omega))
          | refine Idx.nat (le_big (by omega)) ?_
          | (refine Idx.int ?_ ?_ ?_; (focus omega); (focus omega))
          | (refine Idx.int ?_ ?_ ?_; (focus decide); (focus decide))
          | refine Ifz.zero ?_
          | (refine Ifz.pos ?_ ?_; (focus omega))
          | refine Get.mk _ rfl ?_
          | refine Leaves.of ?_
          | refine Ends.of ?_
          | refine Vw.bool ?_
          | refine Vw.int ?_
          | refine Vw.nil
          | refine Vw.sl
          | refine Vw.tup ?_
          | refine Vw.agg ?_
          | refine VwL.cons ?_ ?_
          | refine VwL.nil
          | refine LeavesF.of ?_
          | refine VwF.bool ?_
          | refine VwF.int ?_
          | refine VwF.nil
          | refine VwF.sl
          | refine VwF.tup ?_
          | refine VwF.agg ?_
          | refine VwLF.cons ?_ ?_
          | refine VwLF.nil
          | (refine Req.mk ?_ ?_; (focus first | rfl | decide | exact ⟨rfl, rfl⟩ | exact ⟨rfl, by decide⟩ | exact (fun _ => rfl) | exact (fun h => nomatch h) | (simp; done) | omega | (simp [big]; done) | exact le_big (by omega) | exact lt_big (by omega))))
      all_goals first | exact NextP.mk (i + 1, _, _) ⟨hin, hs⟩ (by simp only; omega) rfl | (exfalso; omega)
    · obtain rfl : i = r.length := by omega
      rw [List.take_length] at hf'
      repeat' (first
        | (conv => whnf)
          first
          | refine Br.t ?_
          | refine Br.f ?_
          | (refine Br.decT ?_ ?_; (focus first | assumption | omega))
          | (refine Br.decF ?_ ?_; (focus first | assumption | omega))
          | refine Br.dec (fun _ => ?_) (fun _ => ?_)
          | refine Br.not ?_
          | refine Br.and ?_
          | refine Br.or ?_
          | (refine Bnd.i64 ?_ ?_ ?_; (focus omega); (focus omega))
          | (refine Idx.nat ?_ ?_; (focus omega))
          | refine Idx.nat (le_big (by omega)) ?_
          | (refine Idx.int ?_ ?_ ?_; (focus omega); (focus omega))
          | (refine Idx.int ?_ ?_ ?_; (focus decide); (focus decide))
          | refine Ifz.zero ?_
          | (refine Ifz.pos ?_ ?_; (focus omega))
          | refine Get.mk _ rfl ?_
          | refine Leaves.of ?_
          | refine Ends.of ?_
          | refine Vw.bool ?_
          | refine Vw.int ?_
          | refine Vw.nil
          | refine Vw.sl
          | refine Vw.tup ?_
          | refine Vw.agg ?_
          | refine VwL.cons ?_ ?_
          | refine VwL.nil
          | refine LeavesF.of ?_
          | refine VwF.bool ?_
          | refine VwF.int ?_
          | refine VwF.nil
          | refine VwF.sl
          | refine VwF.tup ?_
          | refine VwF.agg ?_
          | refine VwLF.cons ?_ ?_
          | refine VwLF.nil
          | (refine Req.mk ?_ ?_; (focus first | rfl | decide | exact ⟨rfl, rfl⟩ | exact ⟨rfl, by decide⟩ | exact (fun _ => rfl) | exact (fun h => nomatch h) | (simp; done) | omega | (simp [big]; done) | exact le_big (by omega) | exact lt_big (by omega))))
      all_goals first | rfl | (rw [hf']; done) | (exfalso; omega)
def whE (t : Tsk) (f : Int) : Int × Int × Int := if (chkT t).2.2 ≠ 0 then (0, 0, (chkT t).2.2) else if f < 0 ∨ t.fr - 1 < f then (0, 0, 7) else if t.ms.length = 0 then (0, 0, 9) else ((whS t f).1, (whS t f).2, 0)
abbrev whV (r : Int × Int × Int) : V := .tup [.agg [.int .i64 r.1, .int .i64 r.2.1], .int .i64 r.2.2]
set_option maxRecDepth 100000 in
set_option maxHeartbeats 20000000 in
theorem whereP_any (cm cs : Bool) (t : Tsk) (f : Int) : Fun F md 29 [tskV cm cs t, .int .i64 f] (whV (whE t f)) := by
  have hv : True := trivial
  unfold whE
  by_cases h : (chkT t).2.2 = 0
  · obtain ⟨hc, ht⟩ := chk_ok h
    have hfr := ht.fr
    have hb := begin_ok (cm := cm) (cs := cs) ht hc
    unfold bgV syV at hb
    rw [bgSt_eq, bgTk_eq] at hb
    simp only [h, ne_eq, not_true_eq_false, if_false]
    by_cases h1 : f < 0 ∨ t.fr - 1 < f
    · rw [if_pos h1]
      refine fun_of rfl rfl ?_
      repeat' (first
        | (conv => whnf)
          first
          | refine Br.t ?_
          | refine Br.f ?_
          | (refine Br.decT ?_ ?_; (focus first | assumption | omega))
          | (refine Br.decF ?_ ?_; (focus first | assumption | omega))
          | refine Br.dec (fun _ => ?_) (fun _ => ?_)
          | refine Br.not ?_
          | refine Br.and ?_
          | refine Br.or ?_
          | (refine Bnd.i64 ?_ ?_ ?_; (focus omega); (focus omega))
          | refine call_fun rfl rfl hv (.inl rfl) ?_
          | refine call_fun rfl rfl hb (.inl rfl) ?_
          | refine call_fun rfl rfl (out_any _ _ _) (.inl rfl) ?_
          | (refine Idx.nat ?_ ?_; (focus omega))
          | refine Idx.nat (le_big (by omega)) ?_
          | (refine Idx.int ?_ ?_ ?_; (focus omega); (focus omega))
          | (refine Idx.int ?_ ?_ ?_; (focus decide); (focus decide))
          | refine Ifz.zero ?_
          | (refine Ifz.pos ?_ ?_; (focus omega))
          | refine Get.mk _ rfl ?_
          | refine Leaves.of ?_
          | refine Ends.of ?_
          | refine Vw.bool ?_
          | refine Vw.int ?_
          | refine Vw.nil
          | refine Vw.sl
          | refine Vw.tup ?_
          | refine Vw.agg ?_
          | refine VwL.cons ?_ ?_
          | refine VwL.nil
          | refine LeavesF.of ?_
          | refine VwF.bool ?_
          | refine VwF.int ?_
          | refine VwF.nil
          | refine VwF.sl
          | refine VwF.tup ?_
          | refine VwF.agg ?_
          | refine VwLF.cons ?_ ?_
          | refine VwLF.nil
          | (refine Req.mk ?_ ?_; (focus first | rfl | decide | exact ⟨rfl, rfl⟩ | exact ⟨rfl, by decide⟩ | exact (fun _ => rfl) | exact (fun h => nomatch h) | (simp; done) | omega | (simp [big]; done) | exact le_big (by omega) | exact lt_big (by omega))))
      all_goals first | rfl | (exfalso; omega)
    · rw [if_neg h1]
      by_cases h2 : t.ms.length = 0
      · rw [if_pos h2]
        refine fun_of rfl rfl ?_
        repeat' (first
          | (conv => whnf)
            first
            | refine Br.t ?_
            | refine Br.f ?_
            | (refine Br.decT ?_ ?_; (focus first | assumption | omega))
            | (refine Br.decF ?_ ?_; (focus first | assumption | omega))
            | refine Br.dec (fun _ => ?_) (fun _ => ?_)
            | refine Br.not ?_
            | refine Br.and ?_
            | refine Br.or ?_
            | (refine Bnd.i64 ?_ ?_ ?_; (focus omega); (focus omega))
            | refine call_fun rfl rfl hv (.inl rfl) ?_
            | refine call_fun rfl rfl hb (.inl rfl) ?_
            | refine call_fun rfl rfl (out_any _ _ _) (.inl rfl) ?_
            | (refine Idx.nat ?_ ?_; (focus omega))
            | refine Idx.nat (le_big (by omega)) ?_
            | (refine Idx.int ?_ ?_ ?_; (focus omega); (focus omega))
            | (refine Idx.int ?_ ?_ ?_; (focus decide); (focus decide))
            | refine Ifz.zero ?_
            | (refine Ifz.pos ?_ ?_; (focus omega))
            | refine Get.mk _ rfl ?_
            | refine Leaves.of ?_
            | refine Ends.of ?_
            | refine Vw.bool ?_
            | refine Vw.int ?_
            | refine Vw.nil
            | refine Vw.sl
            | refine Vw.tup ?_
            | refine Vw.agg ?_
            | refine VwL.cons ?_ ?_
            | refine VwL.nil
            | refine LeavesF.of ?_
            | refine VwF.bool ?_
            | refine VwF.int ?_
            | refine VwF.nil
            | refine VwF.sl
            | refine VwF.tup ?_
            | refine VwF.agg ?_
            | refine VwLF.cons ?_ ?_
            | refine VwLF.nil
            | (refine Req.mk ?_ ?_; (focus first | rfl | decide | exact ⟨rfl, rfl⟩ | exact ⟨rfl, by decide⟩ | exact (fun _ => rfl) | exact (fun h => nomatch h) | (simp; done) | omega | (simp [big]; done) | exact le_big (by omega) | exact lt_big (by omega))))
        all_goals first | rfl | (exfalso; omega)
      · rw [if_neg h2]
        have hw := at_ok (cm := cm) (cs := cs) (c := decide (t.ms.length = 0)) (st := .sl (decide ((tkT t).length = 0)) (tkT t).length (ofSp (tkT t))) ht (by omega) (f := f) (by omega)
        refine fun_of rfl rfl ?_
        repeat' (first
          | (conv => whnf)
            first
            | refine Br.t ?_
            | refine Br.f ?_
            | (refine Br.decT ?_ ?_; (focus first | assumption | omega))
            | (refine Br.decF ?_ ?_; (focus first | assumption | omega))
            | refine Br.dec (fun _ => ?_) (fun _ => ?_)
            | refine Br.not ?_
            | refine Br.and ?_
            | refine Br.or ?_
            | (refine Bnd.i64 ?_ ?_ ?_; (focus omega); (focus omega))
            | refine call_fun rfl rfl hv (.inl rfl) ?_
            | refine call_fun rfl rfl hb (.inl rfl) ?_
            | refine call_fun rfl rfl (out_any _ _ _) (.inl rfl) ?_
            | refine call_fun rfl rfl hw (.inl rfl) ?_
            | (refine Idx.nat ?_ ?_; (focus omega))
            | refine Idx.nat (le_big (by omega)) ?_
            | (refine Idx.int ?_ ?_ ?_; (focus omega); (focus omega))
            | (refine Idx.int ?_ ?_ ?_; (focus decide); (focus decide))
            | refine Ifz.zero ?_
            | (refine Ifz.pos ?_ ?_; (focus omega))
            | refine Get.mk _ rfl ?_
            | refine Leaves.of ?_
            | refine Ends.of ?_
            | refine Vw.bool ?_
            | refine Vw.int ?_
            | refine Vw.nil
            | refine Vw.sl
            | refine Vw.tup ?_
            | refine Vw.agg ?_
            | refine VwL.cons ?_ ?_
            | refine VwL.nil
            | refine LeavesF.of ?_
            | refine VwF.bool ?_
            | refine VwF.int ?_
            | refine VwF.nil
            | refine VwF.sl
            | refine VwF.tup ?_
            | refine VwF.agg ?_
            | refine VwLF.cons ?_ ?_
            | refine VwLF.nil
            | (refine Req.mk ?_ ?_; (focus first | rfl | decide | exact ⟨rfl, rfl⟩ | exact ⟨rfl, by decide⟩ | exact (fun _ => rfl) | exact (fun h => nomatch h) | (simp; done) | omega | (simp [big]; done) | exact le_big (by omega) | exact lt_big (by omega))))
        all_goals first | rfl | (exfalso; omega)
  · have hb := begin_bad (cm := cm) (cs := cs) (t := t) rfl h
    simp only [h, ne_eq, not_false_eq_true, if_true]
    generalize (chkT t).2.2 = k at *
    refine fun_of rfl rfl ?_
    repeat' (first
      | (conv => whnf)
        first
        | refine Br.t ?_
        | refine Br.f ?_
        | (refine Br.decT ?_ ?_; (focus first | assumption | omega))
        | (refine Br.decF ?_ ?_; (focus first | assumption | omega))
        | refine Br.dec (fun _ => ?_) (fun _ => ?_)
        | refine Br.not ?_
        | refine Br.and ?_
        | refine Br.or ?_
        | (refine Bnd.i64 ?_ ?_ ?_; (focus omega); (focus omega))
        | refine call_fun rfl rfl hv (.inl rfl) ?_
        | refine call_fun rfl rfl hb (.inl rfl) ?_
        | refine call_fun rfl rfl (out_any _ _ _) (.inl rfl) ?_
        | (refine Idx.nat ?_ ?_; (focus omega))
        | refine Idx.nat (le_big (by omega)) ?_
        | (refine Idx.int ?_ ?_ ?_; (focus omega); (focus omega))
        | (refine Idx.int ?_ ?_ ?_; (focus decide); (focus decide))
        | refine Ifz.zero ?_
        | (refine Ifz.pos ?_ ?_; (focus omega))
        | refine Get.mk _ rfl ?_
        | refine Leaves.of ?_
        | refine Ends.of ?_
        | refine Vw.bool ?_
        | refine Vw.int ?_
        | refine Vw.nil
        | refine Vw.sl
        | refine Vw.tup ?_
        | refine Vw.agg ?_
        | refine VwL.cons ?_ ?_
        | refine VwL.nil
        | refine LeavesF.of ?_
        | refine VwF.bool ?_
        | refine VwF.int ?_
        | refine VwF.nil
        | refine VwF.sl
        | refine VwF.tup ?_
        | refine VwF.agg ?_
        | refine VwLF.cons ?_ ?_
        | refine VwLF.nil
        | (refine Req.mk ?_ ?_; (focus first | rfl | decide | exact ⟨rfl, rfl⟩ | exact ⟨rfl, by decide⟩ | exact (fun _ => rfl) | exact (fun h => nomatch h) | (simp; done) | omega | (simp [big]; done) | exact le_big (by omega) | exact lt_big (by omega))))
    all_goals first | rfl | (exfalso; omega)
set_option maxRecDepth 100000 in
set_option maxHeartbeats 20000000 in
theorem whereR_any (cm cs : Bool) (t : Tsk) (f : Int) : Fun F md 30 [tskV cm cs t, .int .i64 f] (whV (whE t f)) := by
  have hv := valid_any cm cs t
  unfold whE
  by_cases h : (chkT t).2.2 = 0
  · obtain ⟨hc, ht⟩ := chk_ok h
    have hfr := ht.fr
    have hb := taken_ok (cm := cm) (cs := cs) ht
    rw [bgSt_eq, tkOut_eq] at hb
    rw [h] at hv
    simp only [h, ne_eq, not_true_eq_false, if_false]
    by_cases h1 : f < 0 ∨ t.fr - 1 < f
    · rw [if_pos h1]
      refine fun_of rfl rfl ?_
      repeat' (first
        | (conv => whnf)
          first
          | refine Br.t ?_
          | refine Br.f ?_
          | (refine Br.decT ?_ ?_; (focus first | assumption | omega))
          | (refine Br.decF ?_ ?_; (focus first | assumption | omega))
          | refine Br.dec (fun _ => ?_) (fun _ => ?_)
          | refine Br.not ?_
          | refine Br.and ?_
          | refine Br.or ?_
          | (refine Bnd.i64 ?_ ?_ ?_; (focus omega); (focus omega))
          | refine call_fun rfl rfl hv (.inl rfl) ?_
          | refine call_fun rfl rfl hb (.inl rfl) ?_
          | refine call_fun rfl rfl (in_any _ _ _) (.inl rfl) ?_
          | (refine Idx.nat ?_ ?_; (focus omega))
          | refine Idx.nat (le_big (by omega)) ?_
          | (refine Idx.int ?_ ?_ ?_; (focus omega); (focus omega))
          | (refine Idx.int ?_ ?_ ?_; (focus decide); (focus decide))
          | refine Ifz.zero ?_
          | (refine Ifz.pos ?_ ?_; (focus omega))
          | refine Get.mk _ rfl ?_
          | refine Leaves.of ?_
          | refine Ends.of ?_
          | refine Vw.bool ?_
          | refine Vw.int ?_
          | refine Vw.nil
          | refine Vw.sl
          | refine Vw.tup ?_
          | refine Vw.agg ?_
          | refine VwL.cons ?_ ?_
          | refine VwL.nil
          | refine LeavesF.of ?_
          | refine VwF.bool ?_
          | refine VwF.int ?_
          | refine VwF.nil
          | refine VwF.sl
          | refine VwF.tup ?_
          | refine VwF.agg ?_
          | refine VwLF.cons ?_ ?_
          | refine VwLF.nil
          | (refine Req.mk ?_ ?_; (focus first | rfl | decide | exact ⟨rfl, rfl⟩ | exact ⟨rfl, by decide⟩ | exact (fun _ => rfl) | exact (fun h => nomatch h) | (simp; done) | omega | (simp [big]; done) | exact le_big (by omega) | exact lt_big (by omega))))
      all_goals first | rfl | (exfalso; omega)
    · rw [if_neg h1]
      by_cases h2 : t.ms.length = 0
      · rw [if_pos h2]
        refine fun_of rfl rfl ?_
        repeat' (first
          | (conv => whnf)
            first
            | refine Br.t ?_
            | refine Br.f ?_
            | (refine Br.decT ?_ ?_; (focus first | assumption | omega))
            | (refine Br.decF ?_ ?_; (focus first | assumption | omega))
            | refine Br.dec (fun _ => ?_) (fun _ => ?_)
            | refine Br.not ?_
            | refine Br.and ?_
            | refine Br.or ?_
            | (refine Bnd.i64 ?_ ?_ ?_; (focus omega); (focus omega))
            | refine call_fun rfl rfl hv (.inl rfl) ?_
            | refine call_fun rfl rfl hb (.inl rfl) ?_
            | refine call_fun rfl rfl (in_any _ _ _) (.inl rfl) ?_
            | (refine Idx.nat ?_ ?_; (focus omega))
            | refine Idx.nat (le_big (by omega)) ?_
            | (refine Idx.int ?_ ?_ ?_; (focus omega); (focus omega))
            | (refine Idx.int ?_ ?_ ?_; (focus decide); (focus decide))
            | refine Ifz.zero ?_
            | (refine Ifz.pos ?_ ?_; (focus omega))
            | refine Get.mk _ rfl ?_
            | refine Leaves.of ?_
            | refine Ends.of ?_
            | refine Vw.bool ?_
            | refine Vw.int ?_
            | refine Vw.nil
            | refine Vw.sl
            | refine Vw.tup ?_
            | refine Vw.agg ?_
            | refine VwL.cons ?_ ?_
            | refine VwL.nil
            | refine LeavesF.of ?_
            | refine VwF.bool ?_
            | refine VwF.int ?_
            | refine VwF.nil
            | refine VwF.sl
            | refine VwF.tup ?_
            | refine VwF.agg ?_
            | refine VwLF.cons ?_ ?_
            | refine VwLF.nil
            | (refine Req.mk ?_ ?_; (focus first | rfl | decide | exact ⟨rfl, rfl⟩ | exact ⟨rfl, by decide⟩ | exact (fun _ => rfl) | exact (fun h => nomatch h) | (simp; done) | omega | (simp [big]; done) | exact le_big (by omega) | exact lt_big (by omega))))
        all_goals first | rfl | (exfalso; omega)
      · rw [if_neg h2]
        have hw := where_any (cm := cm) (cs := cs) (c := decide (t.ms.length = 0)) ht (by omega) (f := f) (by omega)
        refine fun_of rfl rfl ?_
        repeat' (first
          | (conv => whnf)
            first
            | refine Br.t ?_
            | refine Br.f ?_
            | (refine Br.decT ?_ ?_; (focus first | assumption | omega))
            | (refine Br.decF ?_ ?_; (focus first | assumption | omega))
            | refine Br.dec (fun _ => ?_) (fun _ => ?_)
            | refine Br.not ?_
            | refine Br.and ?_
            | refine Br.or ?_
            | (refine Bnd.i64 ?_ ?_ ?_; (focus omega); (focus omega))
            | refine call_fun rfl rfl hv (.inl rfl) ?_
            | refine call_fun rfl rfl hb (.inl rfl) ?_
            | refine call_fun rfl rfl (in_any _ _ _) (.inl rfl) ?_
            | refine call_fun rfl rfl hw (.inl rfl) ?_
            | (refine Idx.nat ?_ ?_; (focus omega))
            | refine Idx.nat (le_big (by omega)) ?_
            | (refine Idx.int ?_ ?_ ?_; (focus omega); (focus omega))
            | (refine Idx.int ?_ ?_ ?_; (focus decide); (focus decide))
            | refine Ifz.zero ?_
            | (refine Ifz.pos ?_ ?_; (focus omega))
            | refine Get.mk _ rfl ?_
            | refine Leaves.of ?_
            | refine Ends.of ?_
            | refine Vw.bool ?_
            | refine Vw.int ?_
            | refine Vw.nil
            | refine Vw.sl
            | refine Vw.tup ?_
            | refine Vw.agg ?_
            | refine VwL.cons ?_ ?_
            | refine VwL.nil
            | refine LeavesF.of ?_
            | refine VwF.bool ?_
            | refine VwF.int ?_
            | refine VwF.nil
            | refine VwF.sl
            | refine VwF.tup ?_
            | refine VwF.agg ?_
            | refine VwLF.cons ?_ ?_
            | refine VwLF.nil
            | (refine Req.mk ?_ ?_; (focus first | rfl | decide | exact ⟨rfl, rfl⟩ | exact ⟨rfl, by decide⟩ | exact (fun _ => rfl) | exact (fun h => nomatch h) | (simp; done) | omega | (simp [big]; done) | exact le_big (by omega) | exact lt_big (by omega))))
        all_goals first | rfl | (exfalso; omega)
  · have hb : True := trivial
    simp only [h, ne_eq, not_false_eq_true, if_true]
    generalize (chkT t).2.2 = k at *
    refine fun_of rfl rfl ?_
    repeat' (first
      | (conv => whnf)
        first
        | refine Br.t ?_
        | refine Br.f ?_
        | (refine Br.decT ?_ ?_; (focus first | assumption | omega))
        | (refine Br.decF ?_ ?_; (focus first | assumption | omega))
        | refine Br.dec (fun _ => ?_) (fun _ => ?_)
        | refine Br.not ?_
        | refine Br.and ?_
        | refine Br.or ?_
        | (refine Bnd.i64 ?_ ?_ ?_; (focus omega); (focus omega))
        | refine call_fun rfl rfl hv (.inl rfl) ?_
        | refine call_fun rfl rfl hb (.inl rfl) ?_
        | refine call_fun rfl rfl (in_any _ _ _) (.inl rfl) ?_
        | (refine Idx.nat ?_ ?_; (focus omega))
        | refine Idx.nat (le_big (by omega)) ?_
        | (refine Idx.int ?_ ?_ ?_; (focus omega); (focus omega))
        | (refine Idx.int ?_ ?_ ?_; (focus decide); (focus decide))
        | refine Ifz.zero ?_
        | (refine Ifz.pos ?_ ?_; (focus omega))
        | refine Get.mk _ rfl ?_
        | refine Leaves.of ?_
        | refine Ends.of ?_
        | refine Vw.bool ?_
        | refine Vw.int ?_
        | refine Vw.nil
        | refine Vw.sl
        | refine Vw.tup ?_
        | refine Vw.agg ?_
        | refine VwL.cons ?_ ?_
        | refine VwL.nil
        | refine LeavesF.of ?_
        | refine VwF.bool ?_
        | refine VwF.int ?_
        | refine VwF.nil
        | refine VwF.sl
        | refine VwF.tup ?_
        | refine VwF.agg ?_
        | refine VwLF.cons ?_ ?_
        | refine VwLF.nil
        | (refine Req.mk ?_ ?_; (focus first | rfl | decide | exact ⟨rfl, rfl⟩ | exact ⟨rfl, by decide⟩ | exact (fun _ => rfl) | exact (fun h => nomatch h) | (simp; done) | omega | (simp [big]; done) | exact le_big (by omega) | exact lt_big (by omega))))
    all_goals first | rfl | (exfalso; omega)
set_option maxRecDepth 100000 in
set_option maxHeartbeats 20000000 in
theorem law_syncs (cm cs : Bool) (t : Tsk) (f : Int) : Fun F md 7 [tskV cm cs t, .int .i64 f] (.bool true) := by
  have hA := chk_any cm cs t
  have hB := chkR_any cm cs t
  obtain ⟨c1, hC⟩ := struck_any cm cs t
  obtain ⟨c2, hD⟩ := struckR_any cm cs t
  have hE := whereP_any cm cs t f
  have hG := whereR_any cm cs t f
  have hl : (strE t).1.length ≤ 1000000 := by
    unfold strE
    split
    · simp
    · rename_i h
      have ht := (chk_ok (t := t) (by omega)).2
      have := ht.many
      have := tkT_len t
      dsimp only; omega
  have hs := strikes_same (c := c1) (c' := c2) hl
  generalize chkT t = z1 at *
  generalize strE t = z2 at *
  generalize whE t f = z3 at *
  generalize ofSp z2.1 = C at *
  refine fun_of rfl rfl ?_
  repeat' (first
    | (conv => whnf)
      first
      | refine Br.t ?_
      | refine Br.f ?_
      | (refine Br.decT ?_ ?_; (focus first | assumption | omega))
      | (refine Br.decF ?_ ?_; (focus first | assumption | omega))
      | refine Br.dec (fun _ => ?_) (fun _ => ?_)
      | refine Br.not ?_
      | refine Br.and ?_
      | refine Br.or ?_
      | (refine Bnd.i64 ?_ ?_ ?_; (focus omega); (focus omega))
      | refine call_fun rfl rfl hA (.inl rfl) ?_
      | refine call_fun rfl rfl hB (.inl rfl) ?_
      | refine call_fun rfl rfl hC (.inl rfl) ?_
      | refine call_fun rfl rfl hD (.inl rfl) ?_
      | refine call_fun rfl rfl hE (.inl rfl) ?_
      | refine call_fun rfl rfl hG (.inl rfl) ?_
      | refine call_fun rfl rfl hs (.inl rfl) ?_
      | refine call_fun rfl rfl awake (.inl rfl) ?_
      | (refine Idx.nat ?_ ?_; (focus omega))
      | refine Idx.nat (le_big (by omega)) ?_
      | (refine Idx.int ?_ ?_ ?_; (focus omega); (focus omega))
      | (refine Idx.int ?_ ?_ ?_; (focus decide); (focus decide))
      | refine Ifz.zero ?_
      | (refine Ifz.pos ?_ ?_; (focus omega))
      | refine Get.mk _ rfl ?_
      | refine Leaves.of ?_
      | refine Ends.of ?_
      | refine Vw.bool ?_
      | refine Vw.int ?_
      | refine Vw.nil
      | refine Vw.sl
      | refine Vw.tup ?_
      | refine Vw.agg ?_
      | refine VwL.cons ?_ ?_
      | refine VwL.nil
      | refine LeavesF.of ?_
      | refine VwF.bool ?_
      | refine VwF.int ?_
      | refine VwF.nil
      | refine VwF.sl
      | refine VwF.tup ?_
      | refine VwF.agg ?_
      | refine VwLF.cons ?_ ?_
      | refine VwLF.nil
      | (refine Req.mk ?_ ?_; (focus first | rfl | decide | exact ⟨rfl, rfl⟩ | exact ⟨rfl, by decide⟩ | exact (fun _ => rfl) | exact (fun h => nomatch h) | (simp; done) | omega | (simp [big]; done) | exact le_big (by omega) | exact lt_big (by omega))))
  all_goals first | rfl | (exfalso; omega)

end Go.Dr.T
