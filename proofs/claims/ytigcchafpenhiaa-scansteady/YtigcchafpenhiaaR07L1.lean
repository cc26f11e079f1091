/- Chapter 07: the law ScanMoves. -/
import Derived.Test.YtigcchafpenhiaaR07Rm
import Derived.Test.YtigcchafpenhiaaR07Awk
import Derived.Test.YtigcchafpenhiaaR07Pt
namespace Go.Dr.T

theorem checkL_zero {w h : Int} {n : Nat} (hc : checkL w h n = 0) : ∃ W H : Nat, w = W ∧ h = H ∧ 1 ≤ W ∧ W ≤ 48 ∧ 1 ≤ H ∧ H ≤ 48 ∧ n = W * H := by
  unfold checkL at hc
  split at hc
  · omega
  · rename_i hb
    split at hc
    · rename_i he
      obtain ⟨W, rfl⟩ := Int.eq_ofNat_of_zero_le (show 0 ≤ w by omega)
      obtain ⟨H, rfl⟩ := Int.eq_ofNat_of_zero_le (show 0 ≤ h by omega)
      refine ⟨W, H, rfl, rfl, by omega, by omega, by omega, by omega, ?_⟩
      have : ((n : Nat) : Int) = ((W * H : Nat) : Int) := by rw [he]; push_cast; rfl
      exact Int.ofNat.inj this
    · omega

set_option maxRecDepth 100000 in
set_option maxHeartbeats 20000000 in
theorem move_bad {w h : Int} {c : Bool} {l : List UInt8} (hck : ¬ checkL w h l.length = 0) (dx dy : Int) (fill : Int) :
    Fun F md 21 [frV w h c l, .int .i64 dx, .int .i64 dy, .int .u8 fill] (.tup [frV 0 0 true [], .int .i64 (checkL w h l.length)]) := by
  refine fun_of rfl rfl ?_
  repeat' (first
    | (conv => whnf)
      first
      | refine Br.t ?_
      | refine Br.f ?_
      | refine Br.decT (by first | assumption | omega) ?_
      | refine Br.decF (by first | assumption | omega) ?_
      | refine Br.dec (fun _ => ?_) (fun _ => ?_)
      | refine Br.not ?_
      | refine Br.and ?_
      | refine Br.or ?_
      | refine Bnd.i64 (by omega) (by omega) ?_
      | refine call_fun rfl rfl (out_any _ _ _) (.inl rfl) ?_
      | refine call_fun rfl rfl (check_any _ _ _ _) (.inl rfl) ?_
      | refine Req.mk (by first | rfl | decide | exact ⟨rfl, rfl⟩ | exact ⟨rfl, by decide⟩ | exact (fun _ => rfl) | exact (fun h => nomatch h) | (simp; done) | omega | (simp [big]; done) | exact le_big (by omega) | exact lt_big (by omega)) ?_
      | refine Idx.nat (by omega) ?_
      | refine Idx.nat (le_big (by omega)) ?_
      | refine Idx.int (by omega) (by omega) ?_
      | refine Ifz.zero ?_
      | refine Ifz.pos (by omega) ?_
      | refine Get.mk _ rfl ?_
      | refine Leaves.of ?_
      | refine Ends.of ?_
      | refine Vw.bool ?_
      | refine Vw.int ?_
      | refine Vw.nil
      | refine Vw.sl
      | refine Vw.tup ?_
      | refine Vw.agg ?_
      | refine VwL.cons ?_ ?_
      | refine VwL.nil
      | refine LeavesF.of ?_
      | refine VwF.bool ?_
      | refine VwF.int ?_
      | refine VwF.nil
      | refine VwF.sl
      | refine VwF.tup ?_
      | refine VwF.agg ?_
      | refine VwLF.cons ?_ ?_
      | refine VwLF.nil)
  all_goals rfl
set_option maxRecDepth 100000 in
set_option maxHeartbeats 20000000 in
theorem moveR_bad {w h : Int} {c : Bool} {l : List UInt8} (hck : ¬ checkL w h l.length = 0) (dx dy : Int) (fill : Int) :
    Fun F md 22 [frV w h c l, .int .i64 dx, .int .i64 dy, .int .u8 fill] (.tup [frV 0 0 true [], .int .i64 (checkL w h l.length)]) := by
  refine fun_of rfl rfl ?_
  repeat' (first
    | (conv => whnf)
      first
      | refine Br.t ?_
      | refine Br.f ?_
      | refine Br.decT (by first | assumption | omega) ?_
      | refine Br.decF (by first | assumption | omega) ?_
      | refine Br.dec (fun _ => ?_) (fun _ => ?_)
      | refine Br.not ?_
      | refine Br.and ?_
      | refine Br.or ?_
      | refine Bnd.i64 (by omega) (by omega) ?_
      | refine call_fun rfl rfl (in_any _ _ _) (.inl rfl) ?_
      | refine call_fun rfl rfl (checkR_any _ _ _ _) (.inl rfl) ?_
      | refine Req.mk (by first | rfl | decide | exact ⟨rfl, rfl⟩ | exact ⟨rfl, by decide⟩ | exact (fun _ => rfl) | exact (fun h => nomatch h) | (simp; done) | omega | (simp [big]; done) | exact le_big (by omega) | exact lt_big (by omega)) ?_
      | refine Idx.nat (by omega) ?_
      | refine Idx.nat (le_big (by omega)) ?_
      | refine Idx.int (by omega) (by omega) ?_
      | refine Ifz.zero ?_
      | refine Ifz.pos (by omega) ?_
      | refine Get.mk _ rfl ?_
      | refine Leaves.of ?_
      | refine Ends.of ?_
      | refine Vw.bool ?_
      | refine Vw.int ?_
      | refine Vw.nil
      | refine Vw.sl
      | refine Vw.tup ?_
      | refine Vw.agg ?_
      | refine VwL.cons ?_ ?_
      | refine VwL.nil
      | refine LeavesF.of ?_
      | refine VwF.bool ?_
      | refine VwF.int ?_
      | refine VwF.nil
      | refine VwF.sl
      | refine VwF.tup ?_
      | refine VwF.agg ?_
      | refine VwLF.cons ?_ ?_
      | refine VwLF.nil)
  all_goals rfl
set_option maxRecDepth 100000 in
set_option maxHeartbeats 20000000 in
theorem move_far {w h : Int} {c : Bool} {l : List UInt8} (hck : checkL w h l.length = 0) {dx dy : Int} (hd : ¬ (-12 ≤ dx ∧ dx ≤ 12 ∧ -12 ≤ dy ∧ dy ≤ 12)) (fill : Int) :
    Fun F md 21 [frV w h c l, .int .i64 dx, .int .i64 dy, .int .u8 fill] (.tup [frV 0 0 true [], .int .i64 7]) := by
  refine fun_of rfl rfl ?_
  repeat' (first
    | (conv => whnf)
      first
      | refine Br.t ?_
      | refine Br.f ?_
      | refine Br.decT (by first | assumption | omega) ?_
      | refine Br.decF (by first | assumption | omega) ?_
      | refine Br.dec (fun _ => ?_) (fun _ => ?_)
      | refine Br.not ?_
      | refine Br.and ?_
      | refine Br.or ?_
      | refine Bnd.i64 (by omega) (by omega) ?_
      | refine call_fun rfl rfl (out_any _ _ _) (.inl rfl) ?_
      | refine call_fun rfl rfl (check_any _ _ _ _) (.inl rfl) ?_
      | refine Req.mk (by first | rfl | decide | exact ⟨rfl, rfl⟩ | exact ⟨rfl, by decide⟩ | exact (fun _ => rfl) | exact (fun h => nomatch h) | (simp; done) | omega | (simp [big]; done) | exact le_big (by omega) | exact lt_big (by omega)) ?_
      | refine Idx.nat (by omega) ?_
      | refine Idx.nat (le_big (by omega)) ?_
      | refine Idx.int (by omega) (by omega) ?_
      | refine Ifz.zero ?_
      | refine Ifz.pos (by omega) ?_
      | refine Get.mk _ rfl ?_
      | refine Leaves.of ?_
      | refine Ends.of ?_
      | refine Vw.bool ?_
      | refine Vw.int ?_
      | refine Vw.nil
      | refine Vw.sl
      | refine Vw.tup ?_
      | refine Vw.agg ?_
      | refine VwL.cons ?_ ?_
      | refine VwL.nil
      | refine LeavesF.of ?_
      | refine VwF.bool ?_
      | refine VwF.int ?_
      | refine VwF.nil
      | refine VwF.sl
      | refine VwF.tup ?_
      | refine VwF.agg ?_
      | refine VwLF.cons ?_ ?_
      | refine VwLF.nil)
  all_goals first | rfl | omega
set_option maxRecDepth 100000 in
set_option maxHeartbeats 20000000 in
theorem moveR_far {w h : Int} {c : Bool} {l : List UInt8} (hck : checkL w h l.length = 0) {dx dy : Int} (hd : ¬ (-12 ≤ dx ∧ dx ≤ 12 ∧ -12 ≤ dy ∧ dy ≤ 12)) (fill : Int) :
    Fun F md 22 [frV w h c l, .int .i64 dx, .int .i64 dy, .int .u8 fill] (.tup [frV 0 0 true [], .int .i64 7]) := by
  refine fun_of rfl rfl ?_
  repeat' (first
    | (conv => whnf)
      first
      | refine Br.t ?_
      | refine Br.f ?_
      | refine Br.decT (by first | assumption | omega) ?_
      | refine Br.decF (by first | assumption | omega) ?_
      | refine Br.dec (fun _ => ?_) (fun _ => ?_)
      | refine Br.not ?_
      | refine Br.and ?_
      | refine Br.or ?_
      | refine Bnd.i64 (by omega) (by omega) ?_
      | refine call_fun rfl rfl (in_any _ _ _) (.inl rfl) ?_
      | refine call_fun rfl rfl (checkR_any _ _ _ _) (.inl rfl) ?_
      | refine Req.mk (by first | rfl | decide | exact ⟨rfl, rfl⟩ | exact ⟨rfl, by decide⟩ | exact (fun _ => rfl) | exact (fun h => nomatch h) | (simp; done) | omega | (simp [big]; done) | exact le_big (by omega) | exact lt_big (by omega)) ?_
      | refine Idx.nat (by omega) ?_
      | refine Idx.nat (le_big (by omega)) ?_
      | refine Idx.int (by omega) (by omega) ?_
      | refine Ifz.zero ?_
      | refine Ifz.pos (by omega) ?_
      | refine Get.mk _ rfl ?_
      | refine Leaves.of ?_
      | refine Ends.of ?_
      | refine Vw.bool ?_
      | refine Vw.int ?_
      | refine Vw.nil
      | refine Vw.sl
      | refine Vw.tup ?_
      | refine Vw.agg ?_
      | refine VwL.cons ?_ ?_
      | refine VwL.nil
      | refine LeavesF.of ?_
      | refine VwF.bool ?_
      | refine VwF.int ?_
      | refine VwF.nil
      | refine VwF.sl
      | refine VwF.tup ?_
      | refine VwF.agg ?_
      | refine VwLF.cons ?_ ?_
      | refine VwLF.nil)
  all_goals first | rfl | omega

theorem moves_any (w h : Int) (c : Bool) (l : List UInt8) (dx dy : Int) (fill : UInt8) : ∃ w' h' c' l' e,
    Fun F md 21 [frV w h c l, .int .i64 dx, .int .i64 dy, .int .u8 fill.toNat] (.tup [frV w' h' c' l', .int .i64 e]) ∧ Fun F md 22 [frV w h c l, .int .i64 dx, .int .i64 dy, .int .u8 fill.toNat] (.tup [frV w' h' c' l', .int .i64 e]) := by
  by_cases hck : checkL w h l.length = 0
  · by_cases hd : -12 ≤ dx ∧ dx ≤ 12 ∧ -12 ≤ dy ∧ dy ≤ 12
    · obtain ⟨W, H, rfl, rfl, h1, h2, h3, h4, hl⟩ := checkL_zero hck
      exact ⟨_, _, _, _, _, move_ok h1 h2 h3 h4 hl (by omega) (by omega) fill, moveR_ok h1 h2 h3 h4 hl (by omega) (by omega) fill⟩
    · exact ⟨_, _, _, _, _, move_far hck hd _, moveR_far hck hd _⟩
  · exact ⟨_, _, _, _, _, move_bad hck _ _ _, moveR_bad hck _ _ _⟩

set_option maxRecDepth 100000 in
set_option maxHeartbeats 20000000 in
theorem law_moves (w h : Int) (c : Bool) (l : List UInt8) (w2 h2 : Int) (c2 : Bool) (l2 : List UInt8) (dx dy : Int) (fill : UInt8) :
    Fun F md 3 [frV w h c l, frV w2 h2 c2 l2, .agg [.int .i64 dx, .int .i64 dy, .int .u8 fill.toNat]] (.bool true) := by
  obtain ⟨w', h', c', l', e, hm1, hm2⟩ := moves_any w h c l dx dy fill
  refine fun_of rfl rfl ?_
  repeat' (first
    | (conv => whnf)
      first
      | refine Br.t ?_
      | refine Br.f ?_
      | refine Br.decT (by first | assumption | omega) ?_
      | refine Br.decF (by first | assumption | omega) ?_
      | refine Br.dec (fun _ => ?_) (fun _ => ?_)
      | refine Br.not ?_
      | refine Br.and ?_
      | refine Br.or ?_
      | refine Bnd.i64 (by omega) (by omega) ?_
      | refine Br.yes (beq_self_eq_true _) ?_
      | refine call_fun rfl rfl (check_any _ _ _ _) (.inl rfl) ?_
      | refine call_fun rfl rfl (checkR_any _ _ _ _) (.inl rfl) ?_
      | refine call_fun rfl rfl (same_any _ _ _ _ _ _ _ _) (.inl rfl) ?_
      | refine call_fun rfl rfl (sameR_any _ _ _ _ _ _ _ _) (.inl rfl) ?_
      | refine call_fun rfl rfl hm1 (.inl rfl) ?_
      | refine call_fun rfl rfl hm2 (.inl rfl) ?_
      | refine call_fun rfl rfl awake (.inl rfl) ?_
      | refine Req.mk (by first | rfl | decide | exact ⟨rfl, rfl⟩ | exact ⟨rfl, by decide⟩ | exact (fun _ => rfl) | exact (fun h => nomatch h) | (simp; done) | omega | (simp [big]; done) | exact le_big (by omega) | exact lt_big (by omega)) ?_
      | refine Idx.nat (by omega) ?_
      | refine Idx.nat (le_big (by omega)) ?_
      | refine Idx.int (by omega) (by omega) ?_
      | refine Ifz.zero ?_
      | refine Ifz.pos (by omega) ?_
      | refine Get.mk _ rfl ?_
      | refine Leaves.of ?_
      | refine Ends.of ?_
      | refine Vw.bool ?_
      | refine Vw.int ?_
      | refine Vw.nil
      | refine Vw.sl
      | refine Vw.tup ?_
      | refine Vw.agg ?_
      | refine VwL.cons ?_ ?_
      | refine VwL.nil
      | refine LeavesF.of ?_
      | refine VwF.bool ?_
      | refine VwF.int ?_
      | refine VwF.nil
      | refine VwF.sl
      | refine VwF.tup ?_
      | refine VwF.agg ?_
      | refine VwLF.cons ?_ ?_
      | refine VwLF.nil)
  all_goals first | rfl | omega | exact absurd rfl (by assumption)

end Go.Dr.T
