/- Chapter 07: what Steady returns where there is no shift; both in all cases. -/
import Derived.Test.YtigcchafpenhiaaR07Se
import Derived.Test.YtigcchafpenhiaaR07Sf
import Derived.Test.YtigcchafpenhiaaR07L1
namespace Go.Dr.T

abbrev noS (k : Int) : V := .tup [.agg [.int .i64 0, .int .i64 0, .int .i64 0], .int .i64 k]
set_option maxRecDepth 100000 in
set_option maxHeartbeats 20000000 in
theorem steady_bad1 {w h w' h' : Int} {c c' : Bool} {l l' : List UInt8} (hc : checkL w h l.length ≠ 0) (a b d e r : Int) : Fun F md 24 [frV w h c l, frV w' h' c' l', winV a b d e, .int .i64 r] (noS (checkL w h l.length)) := by
  have ho := or62 true [checkL w h l.length, checkL w' h' l'.length] (show 2 ≤ 1000 by decide)
  rw [show orL [checkL w h l.length, checkL w' h' l'.length] = checkL w h l.length from if_pos hc] at ho
  refine fun_of rfl rfl ?_
  repeat' (first
    | (conv => whnf)
      first
      | refine Br.t ?_
      | refine Br.f ?_
      | refine Br.decT (by first | assumption | omega) ?_
      | refine Br.decF (by first | assumption | omega) ?_
      | refine Br.dec (fun _ => ?_) (fun _ => ?_)
      | refine Br.not ?_
      | refine Br.and ?_
      | refine Br.or ?_
      | refine Bnd.i64 (by omega) (by omega) ?_
      | refine call_fun rfl rfl (check_any _ _ _ _) (.inl rfl) ?_
      | refine call_fun rfl rfl ho (.inl rfl) ?_
      | refine Req.mk (by first | rfl | decide | exact ⟨rfl, rfl⟩ | exact ⟨rfl, by decide⟩ | exact (fun _ => rfl) | exact (fun h => nomatch h) | (simp; done) | omega | (simp [big]; done) | exact le_big (by omega) | exact lt_big (by omega)) ?_
      | refine Idx.nat (by omega) ?_
      | refine Idx.nat (le_big (by omega)) ?_
      | refine Idx.int (by omega) (by omega) ?_
      | refine Ifz.zero ?_
      | refine Ifz.pos (by omega) ?_
      | refine Get.mk _ rfl ?_
      | refine Leaves.of ?_
      | refine Ends.of ?_
      | refine Vw.bool ?_
      | refine Vw.int ?_
      | refine Vw.nil
      | refine Vw.sl
      | refine Vw.tup ?_
      | refine Vw.agg ?_
      | refine VwL.cons ?_ ?_
      | refine VwL.nil
      | refine LeavesF.of ?_
      | refine VwF.bool ?_
      | refine VwF.int ?_
      | refine VwF.nil
      | refine VwF.sl
      | refine VwF.tup ?_
      | refine VwF.agg ?_
      | refine VwLF.cons ?_ ?_
      | refine VwLF.nil)
  all_goals rfl
set_option maxRecDepth 100000 in
set_option maxHeartbeats 20000000 in
theorem steadyR_bad1 {w h w' h' : Int} {c c' : Bool} {l l' : List UInt8} (hc : checkL w h l.length ≠ 0) (a b d e r : Int) : Fun F md 25 [frV w h c l, frV w' h' c' l', winV a b d e, .int .i64 r] (noS (checkL w h l.length)) := by
  refine fun_of rfl rfl ?_
  repeat' (first
    | (conv => whnf)
      first
      | refine Br.t ?_
      | refine Br.f ?_
      | refine Br.decT (by first | assumption | omega) ?_
      | refine Br.decF (by first | assumption | omega) ?_
      | refine Br.dec (fun _ => ?_) (fun _ => ?_)
      | refine Br.not ?_
      | refine Br.and ?_
      | refine Br.or ?_
      | refine Bnd.i64 (by omega) (by omega) ?_
      | refine call_fun rfl rfl (checkR_any _ _ _ _) (.inl rfl) ?_
      | refine Req.mk (by first | rfl | decide | exact ⟨rfl, rfl⟩ | exact ⟨rfl, by decide⟩ | exact (fun _ => rfl) | exact (fun h => nomatch h) | (simp; done) | omega | (simp [big]; done) | exact le_big (by omega) | exact lt_big (by omega)) ?_
      | refine Idx.nat (by omega) ?_
      | refine Idx.nat (le_big (by omega)) ?_
      | refine Idx.int (by omega) (by omega) ?_
      | refine Ifz.zero ?_
      | refine Ifz.pos (by omega) ?_
      | refine Get.mk _ rfl ?_
      | refine Leaves.of ?_
      | refine Ends.of ?_
      | refine Vw.bool ?_
      | refine Vw.int ?_
      | refine Vw.nil
      | refine Vw.sl
      | refine Vw.tup ?_
      | refine Vw.agg ?_
      | refine VwL.cons ?_ ?_
      | refine VwL.nil
      | refine LeavesF.of ?_
      | refine VwF.bool ?_
      | refine VwF.int ?_
      | refine VwF.nil
      | refine VwF.sl
      | refine VwF.tup ?_
      | refine VwF.agg ?_
      | refine VwLF.cons ?_ ?_
      | refine VwLF.nil)
  all_goals rfl
set_option maxRecDepth 100000 in
set_option maxHeartbeats 20000000 in
theorem steady_bad2 {w h w' h' : Int} {c c' : Bool} {l l' : List UInt8} (hc : checkL w h l.length = 0) (hc' : checkL w' h' l'.length ≠ 0) (a b d e r : Int) : Fun F md 24 [frV w h c l, frV w' h' c' l', winV a b d e, .int .i64 r] (noS (checkL w' h' l'.length)) := by
  have ho := or62 true [checkL w h l.length, checkL w' h' l'.length] (show 2 ≤ 1000 by decide)
  rw [show orL [checkL w h l.length, checkL w' h' l'.length] = checkL w' h' l'.length from (if_neg (by simpa using hc)).trans (if_pos hc')] at ho
  refine fun_of rfl rfl ?_
  repeat' (first
    | (conv => whnf)
      first
      | refine Br.t ?_
      | refine Br.f ?_
      | refine Br.decT (by first | assumption | omega) ?_
      | refine Br.decF (by first | assumption | omega) ?_
      | refine Br.dec (fun _ => ?_) (fun _ => ?_)
      | refine Br.not ?_
      | refine Br.and ?_
      | refine Br.or ?_
      | refine Bnd.i64 (by omega) (by omega) ?_
      | refine call_fun rfl rfl (check_any _ _ _ _) (.inl rfl) ?_
      | refine call_fun rfl rfl ho (.inl rfl) ?_
      | refine Req.mk (by first | rfl | decide | exact ⟨rfl, rfl⟩ | exact ⟨rfl, by decide⟩ | exact (fun _ => rfl) | exact (fun h => nomatch h) | (simp; done) | omega | (simp [big]; done) | exact le_big (by omega) | exact lt_big (by omega)) ?_
      | refine Idx.nat (by omega) ?_
      | refine Idx.nat (le_big (by omega)) ?_
      | refine Idx.int (by omega) (by omega) ?_
      | refine Ifz.zero ?_
      | refine Ifz.pos (by omega) ?_
      | refine Get.mk _ rfl ?_
      | refine Leaves.of ?_
      | refine Ends.of ?_
      | refine Vw.bool ?_
      | refine Vw.int ?_
      | refine Vw.nil
      | refine Vw.sl
      | refine Vw.tup ?_
      | refine Vw.agg ?_
      | refine VwL.cons ?_ ?_
      | refine VwL.nil
      | refine LeavesF.of ?_
      | refine VwF.bool ?_
      | refine VwF.int ?_
      | refine VwF.nil
      | refine VwF.sl
      | refine VwF.tup ?_
      | refine VwF.agg ?_
      | refine VwLF.cons ?_ ?_
      | refine VwLF.nil)
  all_goals rfl
set_option maxRecDepth 100000 in
set_option maxHeartbeats 20000000 in
theorem steadyR_bad2 {w h w' h' : Int} {c c' : Bool} {l l' : List UInt8} (hc : checkL w h l.length = 0) (hc' : checkL w' h' l'.length ≠ 0) (a b d e r : Int) : Fun F md 25 [frV w h c l, frV w' h' c' l', winV a b d e, .int .i64 r] (noS (checkL w' h' l'.length)) := by
  refine fun_of rfl rfl ?_
  repeat' (first
    | (conv => whnf)
      first
      | refine Br.t ?_
      | refine Br.f ?_
      | refine Br.decT (by first | assumption | omega) ?_
      | refine Br.decF (by first | assumption | omega) ?_
      | refine Br.dec (fun _ => ?_) (fun _ => ?_)
      | refine Br.not ?_
      | refine Br.and ?_
      | refine Br.or ?_
      | refine Bnd.i64 (by omega) (by omega) ?_
      | refine call_fun rfl rfl (checkR_any _ _ _ _) (.inl rfl) ?_
      | refine Req.mk (by first | rfl | decide | exact ⟨rfl, rfl⟩ | exact ⟨rfl, by decide⟩ | exact (fun _ => rfl) | exact (fun h => nomatch h) | (simp; done) | omega | (simp [big]; done) | exact le_big (by omega) | exact lt_big (by omega)) ?_
      | refine Idx.nat (by omega) ?_
      | refine Idx.nat (le_big (by omega)) ?_
      | refine Idx.int (by omega) (by omega) ?_
      | refine Ifz.zero ?_
      | refine Ifz.pos (by omega) ?_
      | refine Get.mk _ rfl ?_
      | refine Leaves.of ?_
      | refine Ends.of ?_
      | refine Vw.bool ?_
      | refine Vw.int ?_
      | refine Vw.nil
      | refine Vw.sl
      | refine Vw.tup ?_
      | refine Vw.agg ?_
      | refine VwL.cons ?_ ?_
      | refine VwL.nil
      | refine LeavesF.of ?_
      | refine VwF.bool ?_
      | refine VwF.int ?_
      | refine VwF.nil
      | refine VwF.sl
      | refine VwF.tup ?_
      | refine VwF.agg ?_
      | refine VwLF.cons ?_ ?_
      | refine VwLF.nil)
  all_goals rfl

set_option maxRecDepth 100000 in
set_option maxHeartbeats 20000000 in
theorem steady_arg {W H W' H' : Nat} {c c' : Bool} {l l' : List UInt8} (h2 : W ≤ 48) (h4 : H ≤ 48) (hc : checkL W H l.length = 0) (hc' : checkL W' H' l'.length = 0) {a b d e : Int} (hno : ¬ (W = W' ∧ H = H' ∧ outA W H a b d e = false)) (r : Int) : Fun F md 24 [frV W H c l, frV W' H' c' l', winV a b d e, .int .i64 r] (noS 2) := by
  have hc1 := check_any W H c l
  have hc2 := check_any W' H' c' l'
  rw [hc] at hc1
  rw [hc'] at hc2
  have hor : orL [0, 0] = 0 := rfl
  have ho := outside_any (c0 := c) (l := l) h2 h4 a b d e
  cases hout : outA W H a b d e with
  | true =>
    rw [hout] at ho
    refine fun_of rfl rfl ?_
    repeat' (first
      | (conv => whnf)
        first
        | refine Br.t ?_
        | refine Br.f ?_
        | refine Br.decT (by first | assumption | omega) ?_
        | refine Br.decF (by first | assumption | omega) ?_
        | refine Br.dec (fun _ => ?_) (fun _ => ?_)
        | refine Br.not ?_
        | refine Br.and ?_
        | refine Br.or ?_
        | refine Bnd.i64 (by omega) (by omega) ?_
        | refine call_fun rfl rfl hc1 (.inl rfl) ?_
        | refine call_fun rfl rfl hc2 (.inl rfl) ?_
        | refine call_fun rfl rfl (or62 true [0, 0] (show 2 ≤ 1000 by decide)) (.inl rfl) ?_
        | refine call_fun rfl rfl ho (.inl rfl) ?_
        | refine call_fun rfl rfl (out_any _ _ _) (.inl rfl) ?_
        | refine call_fun rfl rfl (in_any _ _ _) (.inl rfl) ?_
        | refine Req.mk (by first | rfl | decide | exact ⟨rfl, rfl⟩ | exact ⟨rfl, by decide⟩ | exact (fun _ => rfl) | exact (fun h => nomatch h) | (simp; done) | omega | (simp [big]; done) | exact le_big (by omega) | exact lt_big (by omega)) ?_
        | refine Idx.nat (by omega) ?_
        | refine Idx.nat (le_big (by omega)) ?_
        | refine Idx.int (by omega) (by omega) ?_
        | refine Ifz.zero ?_
        | refine Ifz.pos (by omega) ?_
        | refine Get.mk _ rfl ?_
        | refine Leaves.of ?_
        | refine Ends.of ?_
        | refine Vw.bool ?_
        | refine Vw.int ?_
        | refine Vw.nil
        | refine Vw.sl
        | refine Vw.tup ?_
        | refine Vw.agg ?_
        | refine VwL.cons ?_ ?_
        | refine VwL.nil
        | refine LeavesF.of ?_
        | refine VwF.bool ?_
        | refine VwF.int ?_
        | refine VwF.nil
        | refine VwF.sl
        | refine VwF.tup ?_
        | refine VwF.agg ?_
        | refine VwLF.cons ?_ ?_
        | refine VwLF.nil)
    all_goals first | rfl | (exfalso; omega)
  | false =>
    have hno : ¬ (W = W' ∧ H = H') := fun h => hno ⟨h.1, h.2, hout⟩
    rw [hout] at ho
    refine fun_of rfl rfl ?_
    repeat' (first
      | (conv => whnf)
        first
        | refine Br.t ?_
        | refine Br.f ?_
        | refine Br.decT (by first | assumption | omega) ?_
        | refine Br.decF (by first | assumption | omega) ?_
        | refine Br.dec (fun _ => ?_) (fun _ => ?_)
        | refine Br.not ?_
        | refine Br.and ?_
        | refine Br.or ?_
        | refine Bnd.i64 (by omega) (by omega) ?_
        | refine call_fun rfl rfl hc1 (.inl rfl) ?_
        | refine call_fun rfl rfl hc2 (.inl rfl) ?_
        | refine call_fun rfl rfl (or62 true [0, 0] (show 2 ≤ 1000 by decide)) (.inl rfl) ?_
        | refine call_fun rfl rfl ho (.inl rfl) ?_
        | refine call_fun rfl rfl (out_any _ _ _) (.inl rfl) ?_
        | refine call_fun rfl rfl (in_any _ _ _) (.inl rfl) ?_
        | refine Req.mk (by first | rfl | decide | exact ⟨rfl, rfl⟩ | exact ⟨rfl, by decide⟩ | exact (fun _ => rfl) | exact (fun h => nomatch h) | (simp; done) | omega | (simp [big]; done) | exact le_big (by omega) | exact lt_big (by omega)) ?_
        | refine Idx.nat (by omega) ?_
        | refine Idx.nat (le_big (by omega)) ?_
        | refine Idx.int (by omega) (by omega) ?_
        | refine Ifz.zero ?_
        | refine Ifz.pos (by omega) ?_
        | refine Get.mk _ rfl ?_
        | refine Leaves.of ?_
        | refine Ends.of ?_
        | refine Vw.bool ?_
        | refine Vw.int ?_
        | refine Vw.nil
        | refine Vw.sl
        | refine Vw.tup ?_
        | refine Vw.agg ?_
        | refine VwL.cons ?_ ?_
        | refine VwL.nil
        | refine LeavesF.of ?_
        | refine VwF.bool ?_
        | refine VwF.int ?_
        | refine VwF.nil
        | refine VwF.sl
        | refine VwF.tup ?_
        | refine VwF.agg ?_
        | refine VwLF.cons ?_ ?_
        | refine VwLF.nil)
    all_goals first | rfl | (exfalso; omega)
set_option maxRecDepth 100000 in
set_option maxHeartbeats 20000000 in
theorem steadyR_arg {W H W' H' : Nat} {c c' : Bool} {l l' : List UInt8} (h2 : W ≤ 48) (h4 : H ≤ 48) (hc : checkL W H l.length = 0) (hc' : checkL W' H' l'.length = 0) {a b d e : Int} (hno : ¬ (W = W' ∧ H = H' ∧ outA W H a b d e = false)) (r : Int) : Fun F md 25 [frV W H c l, frV W' H' c' l', winV a b d e, .int .i64 r] (noS 2) := by
  have hc1 := checkR_any W H c l
  have hc2 := checkR_any W' H' c' l'
  rw [hc] at hc1
  rw [hc'] at hc2
  have ho := area_any (c0 := c) (l := l) h2 h4 a b d e
  cases hout : outA W H a b d e with
  | true =>
    rw [hout] at ho
    refine fun_of rfl rfl ?_
    repeat' (first
      | (conv => whnf)
        first
        | refine Br.t ?_
        | refine Br.f ?_
        | refine Br.decT (by first | assumption | omega) ?_
        | refine Br.decF (by first | assumption | omega) ?_
        | refine Br.dec (fun _ => ?_) (fun _ => ?_)
        | refine Br.not ?_
        | refine Br.and ?_
        | refine Br.or ?_
        | refine Bnd.i64 (by omega) (by omega) ?_
        | refine call_fun rfl rfl hc1 (.inl rfl) ?_
        | refine call_fun rfl rfl hc2 (.inl rfl) ?_
        | refine call_fun rfl rfl (or62 true [0, 0] (show 2 ≤ 1000 by decide)) (.inl rfl) ?_
        | refine call_fun rfl rfl ho (.inl rfl) ?_
        | refine call_fun rfl rfl (out_any _ _ _) (.inl rfl) ?_
        | refine call_fun rfl rfl (in_any _ _ _) (.inl rfl) ?_
        | refine Req.mk (by first | rfl | decide | exact ⟨rfl, rfl⟩ | exact ⟨rfl, by decide⟩ | exact (fun _ => rfl) | exact (fun h => nomatch h) | (simp; done) | omega | (simp [big]; done) | exact le_big (by omega) | exact lt_big (by omega)) ?_
        | refine Idx.nat (by omega) ?_
        | refine Idx.nat (le_big (by omega)) ?_
        | refine Idx.int (by omega) (by omega) ?_
        | refine Ifz.zero ?_
        | refine Ifz.pos (by omega) ?_
        | refine Get.mk _ rfl ?_
        | refine Leaves.of ?_
        | refine Ends.of ?_
        | refine Vw.bool ?_
        | refine Vw.int ?_
        | refine Vw.nil
        | refine Vw.sl
        | refine Vw.tup ?_
        | refine Vw.agg ?_
        | refine VwL.cons ?_ ?_
        | refine VwL.nil
        | refine LeavesF.of ?_
        | refine VwF.bool ?_
        | refine VwF.int ?_
        | refine VwF.nil
        | refine VwF.sl
        | refine VwF.tup ?_
        | refine VwF.agg ?_
        | refine VwLF.cons ?_ ?_
        | refine VwLF.nil)
    all_goals first | rfl | (exfalso; omega)
  | false =>
    have hno : ¬ (W = W' ∧ H = H') := fun h => hno ⟨h.1, h.2, hout⟩
    rw [hout] at ho
    refine fun_of rfl rfl ?_
    repeat' (first
      | (conv => whnf)
        first
        | refine Br.t ?_
        | refine Br.f ?_
        | refine Br.decT (by first | assumption | omega) ?_
        | refine Br.decF (by first | assumption | omega) ?_
        | refine Br.dec (fun _ => ?_) (fun _ => ?_)
        | refine Br.not ?_
        | refine Br.and ?_
        | refine Br.or ?_
        | refine Bnd.i64 (by omega) (by omega) ?_
        | refine call_fun rfl rfl hc1 (.inl rfl) ?_
        | refine call_fun rfl rfl hc2 (.inl rfl) ?_
        | refine call_fun rfl rfl (or62 true [0, 0] (show 2 ≤ 1000 by decide)) (.inl rfl) ?_
        | refine call_fun rfl rfl ho (.inl rfl) ?_
        | refine call_fun rfl rfl (out_any _ _ _) (.inl rfl) ?_
        | refine call_fun rfl rfl (in_any _ _ _) (.inl rfl) ?_
        | refine Req.mk (by first | rfl | decide | exact ⟨rfl, rfl⟩ | exact ⟨rfl, by decide⟩ | exact (fun _ => rfl) | exact (fun h => nomatch h) | (simp; done) | omega | (simp [big]; done) | exact le_big (by omega) | exact lt_big (by omega)) ?_
        | refine Idx.nat (by omega) ?_
        | refine Idx.nat (le_big (by omega)) ?_
        | refine Idx.int (by omega) (by omega) ?_
        | refine Ifz.zero ?_
        | refine Ifz.pos (by omega) ?_
        | refine Get.mk _ rfl ?_
        | refine Leaves.of ?_
        | refine Ends.of ?_
        | refine Vw.bool ?_
        | refine Vw.int ?_
        | refine Vw.nil
        | refine Vw.sl
        | refine Vw.tup ?_
        | refine Vw.agg ?_
        | refine VwL.cons ?_ ?_
        | refine VwL.nil
        | refine LeavesF.of ?_
        | refine VwF.bool ?_
        | refine VwF.int ?_
        | refine VwF.nil
        | refine VwF.sl
        | refine VwF.tup ?_
        | refine VwF.agg ?_
        | refine VwLF.cons ?_ ?_
        | refine VwLF.nil)
    all_goals first | rfl | (exfalso; omega)
set_option maxRecDepth 100000 in
set_option maxHeartbeats 20000000 in
theorem steady_rng {W H : Nat} {c c' : Bool} {l l' : List UInt8} (h2 : W ≤ 48) (h4 : H ≤ 48) (hc : checkL W H l.length = 0) (hc' : checkL W H l'.length = 0) {a b d e : Int} (hout : outA W H a b d e = false) {r : Int} (hr : ¬ (0 ≤ r ∧ r ≤ 12)) : Fun F md 24 [frV W H c l, frV W H c' l', winV a b d e, .int .i64 r] (noS 7) := by
  have hc1 := check_any W H c l
  have hc2 := check_any W H c' l'
  rw [hc] at hc1
  rw [hc'] at hc2
  have hor : orL [0, 0] = 0 := rfl
  have ho := outside_any (c0 := c) (l := l) h2 h4 a b d e
  rw [hout] at ho
  refine fun_of rfl rfl ?_
  repeat' (first
    | (conv => whnf)
      first
      | refine Br.t ?_
      | refine Br.f ?_
      | refine Br.decT (by first | assumption | omega) ?_
      | refine Br.decF (by first | assumption | omega) ?_
      | refine Br.dec (fun _ => ?_) (fun _ => ?_)
      | refine Br.not ?_
      | refine Br.and ?_
      | refine Br.or ?_
      | refine Bnd.i64 (by omega) (by omega) ?_
      | refine call_fun rfl rfl hc1 (.inl rfl) ?_
      | refine call_fun rfl rfl hc2 (.inl rfl) ?_
      | refine call_fun rfl rfl (or62 true [0, 0] (show 2 ≤ 1000 by decide)) (.inl rfl) ?_
      | refine call_fun rfl rfl ho (.inl rfl) ?_
      | refine call_fun rfl rfl (out_any _ _ _) (.inl rfl) ?_
      | refine call_fun rfl rfl (in_any _ _ _) (.inl rfl) ?_
      | refine Req.mk (by first | rfl | decide | exact ⟨rfl, rfl⟩ | exact ⟨rfl, by decide⟩ | exact (fun _ => rfl) | exact (fun h => nomatch h) | (simp; done) | omega | (simp [big]; done) | exact le_big (by omega) | exact lt_big (by omega)) ?_
      | refine Idx.nat (by omega) ?_
      | refine Idx.nat (le_big (by omega)) ?_
      | refine Idx.int (by omega) (by omega) ?_
      | refine Ifz.zero ?_
      | refine Ifz.pos (by omega) ?_
      | refine Get.mk _ rfl ?_
      | refine Leaves.of ?_
      | refine Ends.of ?_
      | refine Vw.bool ?_
      | refine Vw.int ?_
      | refine Vw.nil
      | refine Vw.sl
      | refine Vw.tup ?_
      | refine Vw.agg ?_
      | refine VwL.cons ?_ ?_
      | refine VwL.nil
      | refine LeavesF.of ?_
      | refine VwF.bool ?_
      | refine VwF.int ?_
      | refine VwF.nil
      | refine VwF.sl
      | refine VwF.tup ?_
      | refine VwF.agg ?_
      | refine VwLF.cons ?_ ?_
      | refine VwLF.nil)
  all_goals first | rfl | (exfalso; omega)
set_option maxRecDepth 100000 in
set_option maxHeartbeats 20000000 in
theorem steadyR_rng {W H : Nat} {c c' : Bool} {l l' : List UInt8} (h2 : W ≤ 48) (h4 : H ≤ 48) (hc : checkL W H l.length = 0) (hc' : checkL W H l'.length = 0) {a b d e : Int} (hout : outA W H a b d e = false) {r : Int} (hr : ¬ (0 ≤ r ∧ r ≤ 12)) : Fun F md 25 [frV W H c l, frV W H c' l', winV a b d e, .int .i64 r] (noS 7) := by
  have hc1 := checkR_any W H c l
  have hc2 := checkR_any W H c' l'
  rw [hc] at hc1
  rw [hc'] at hc2
  have ho := area_any (c0 := c) (l := l) h2 h4 a b d e
  rw [hout] at ho
  refine fun_of rfl rfl ?_
  repeat' (first
    | (conv => whnf)
      first
      | refine Br.t ?_
      | refine Br.f ?_
      | refine Br.decT (by first | assumption | omega) ?_
      | refine Br.decF (by first | assumption | omega) ?_
      | refine Br.dec (fun _ => ?_) (fun _ => ?_)
      | refine Br.not ?_
      | refine Br.and ?_
      | refine Br.or ?_
      | refine Bnd.i64 (by omega) (by omega) ?_
      | refine call_fun rfl rfl hc1 (.inl rfl) ?_
      | refine call_fun rfl rfl hc2 (.inl rfl) ?_
      | refine call_fun rfl rfl (or62 true [0, 0] (show 2 ≤ 1000 by decide)) (.inl rfl) ?_
      | refine call_fun rfl rfl ho (.inl rfl) ?_
      | refine call_fun rfl rfl (out_any _ _ _) (.inl rfl) ?_
      | refine call_fun rfl rfl (in_any _ _ _) (.inl rfl) ?_
      | refine Req.mk (by first | rfl | decide | exact ⟨rfl, rfl⟩ | exact ⟨rfl, by decide⟩ | exact (fun _ => rfl) | exact (fun h => nomatch h) | (simp; done) | omega | (simp [big]; done) | exact le_big (by omega) | exact lt_big (by omega)) ?_
      | refine Idx.nat (by omega) ?_
      | refine Idx.nat (le_big (by omega)) ?_
      | refine Idx.int (by omega) (by omega) ?_
      | refine Ifz.zero ?_
      | refine Ifz.pos (by omega) ?_
      | refine Get.mk _ rfl ?_
      | refine Leaves.of ?_
      | refine Ends.of ?_
      | refine Vw.bool ?_
      | refine Vw.int ?_
      | refine Vw.nil
      | refine Vw.sl
      | refine Vw.tup ?_
      | refine Vw.agg ?_
      | refine VwL.cons ?_ ?_
      | refine VwL.nil
      | refine LeavesF.of ?_
      | refine VwF.bool ?_
      | refine VwF.int ?_
      | refine VwF.nil
      | refine VwF.sl
      | refine VwF.tup ?_
      | refine VwF.agg ?_
      | refine VwLF.cons ?_ ?_
      | refine VwLF.nil)
  all_goals first | rfl | (exfalso; omega)

/-- What Steady returns. -/
inductive SteadyR (w h : Int) (c : Bool) (l : List UInt8) (w' h' : Int) (c' : Bool) (l' : List UInt8) (a b d e r : Int) : Prop where
  | bad (k : Int) : k ≠ 0 → Fun F md 24 [frV w h c l, frV w' h' c' l', winV a b d e, .int .i64 r] (noS k) → Fun F md 25 [frV w h c l, frV w' h' c' l', winV a b d e, .int .i64 r] (noS k) → SteadyR w h c l w' h' c' l' a b d e r
  | ok (W H x0 y0 p q R : Nat) (m : Sh3) : w = W → h = H → w' = W → h' = H → 1 ≤ W → W ≤ 48 → 1 ≤ H → H ≤ 48 → l.length = W * H → l'.length = W * H → a = x0 → b = ((x0 + p : Nat) : Int) → d = y0 → e = ((y0 + q : Nat) : Int) → x0 + p < W → y0 + q < H → r = R → R ≤ 12 →
      Best (insS W H x0 y0 p q) (smS W H l l' x0 y0 p q) R m →
      Fun F md 24 [frV w h c l, frV w' h' c' l', winV a b d e, .int .i64 r] (.tup [sh3V m, .int .i64 0]) → Fun F md 25 [frV w h c l, frV w' h' c' l', winV a b d e, .int .i64 r] (.tup [sh3V m, .int .i64 0]) → SteadyR w h c l w' h' c' l' a b d e r
theorem steadies_any (w h : Int) (c : Bool) (l : List UInt8) (w' h' : Int) (c' : Bool) (l' : List UInt8) (a b d e r : Int) : SteadyR w h c l w' h' c' l' a b d e r := by
  by_cases hc : checkL w h l.length = 0
  · by_cases hc' : checkL w' h' l'.length = 0
    · obtain ⟨W, H, rfl, rfl, h1, h2, h3, h4, hl⟩ := checkL_zero hc
      obtain ⟨W', H', rfl, rfl, h1', h2', h3', h4', hl'⟩ := checkL_zero hc'
      by_cases hs : W = W' ∧ H = H' ∧ outA W H a b d e = false
      · obtain ⟨rfl, rfl, hout⟩ := hs
        by_cases hr : 0 ≤ r ∧ r ≤ 12
        · have hb : 0 ≤ a ∧ a ≤ b ∧ b < W ∧ 0 ≤ d ∧ d ≤ e ∧ e < H := by
            unfold outA at hout
            simp only [Bool.not_eq_false', Bool.and_eq_true, decide_eq_true_eq] at hout
            omega
          obtain ⟨x0, rfl⟩ := Int.eq_ofNat_of_zero_le hb.1
          obtain ⟨p, hp⟩ := Int.eq_ofNat_of_zero_le (show 0 ≤ b - x0 by omega)
          obtain ⟨y0, rfl⟩ := Int.eq_ofNat_of_zero_le hb.2.2.2.1
          obtain ⟨q, hq⟩ := Int.eq_ofNat_of_zero_le (show 0 ≤ e - y0 by omega)
          obtain ⟨R, rfl⟩ := Int.eq_ofNat_of_zero_le hr.1
          obtain rfl : b = ((x0 + p : Nat) : Int) := by omega
          obtain rfl : e = ((y0 + q : Nat) : Int) := by omega
          have hR : R ≤ 12 := by omega
          obtain ⟨m, hm⟩ := best_some (Q := insS W H x0 y0 p q) (sm := smS W H l l' x0 y0 p q) (r := R) (by omega) (by unfold insS; omega)
          exact .ok W H x0 y0 p q R m rfl rfl rfl rfl h1 h2 h3 h4 hl hl' rfl rfl rfl rfl (by omega) (by omega) rfl hR hm (steady_ok h1 h2 h3 h4 hl hl' (by omega) (by omega) hR hm) (steadyR_ok h1 h2 h3 h4 hl hl' (by omega) (by omega) hR hm)
        · exact .bad 7 (by decide) (steady_rng h2 h4 hc hc' hout hr) (steadyR_rng h2 h4 hc hc' hout hr)
      · exact .bad 2 (by decide) (steady_arg h2 h4 hc hc' hs r) (steadyR_arg h2 h4 hc hc' hs r)
    · exact .bad _ hc' (steady_bad2 hc hc' _ _ _ _ _) (steadyR_bad2 hc hc' _ _ _ _ _)
  · exact .bad _ hc (steady_bad1 hc _ _ _ _ _) (steadyR_bad1 hc _ _ _ _ _)

end Go.Dr.T
