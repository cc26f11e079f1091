/- Chapter 07: Move of the program. -/
import Derived.Test.YtigcchafpenhiaaR07Px
namespace Go.Dr.T


set_option maxRecDepth 100000 in
set_option maxHeartbeats 20000000 in
theorem move_ok {W H : Nat} {c : Bool} {l : List UInt8} (h1 : 1 ≤ W) (h2 : W ≤ 48) (h3 : 1 ≤ H) (h4 : H ≤ 48) (hl : l.length = W * H) {dx dy : Int} (hx : -12 ≤ dx ∧ dx ≤ 12) (hy : -12 ≤ dy ∧ dy ≤ 12) (fill : UInt8) :
    Fun F md 21 [frV W H c l, .int .i64 dx, .int .i64 dy, .int .u8 fill.toNat] (.tup [frV W H false (moveL W H l dx dy fill (W * H)), .int .i64 0]) := by
  have hck := check_ok h1 h2 h3 h4 hl
  have hf := fill.toNat_lt
  have hWH : W * H ≤ 2304 := Nat.mul_le_mul h2 h4
  have hWH1 : 1 * 1 ≤ W * H := Nat.mul_le_mul h1 h3
  refine fun_of rfl rfl ?_
  repeat' (first
    | (conv => whnf)
      first
      | refine Br.t ?_
      | refine Br.f ?_
      | (refine Br.decT ?_ ?_; (focus first | assumption | omega))
      | (refine Br.decF ?_ ?_; (focus first | assumption | omega))
      | refine Br.dec (fun _ => ?_) (fun _ => ?_)
      | refine Br.not ?_
      | refine Br.and ?_
      | refine Br.or ?_
      | (refine Bnd.i64 ?_ ?_ ?_; (focus omega); (focus omega))
      | refine call_fun rfl rfl (out_any _ _ _) (.inl rfl) ?_
      | refine call_fun rfl rfl (check_any _ _ _ _) (.inl rfl) ?_
      | refine call_one rfl rfl rfl ?_
      | (refine Idx.nat ?_ ?_; (focus omega))
      | refine Idx.nat (le_big (by omega)) ?_
      | (refine Idx.int ?_ ?_ ?_; (focus omega); (focus omega))
      | (refine Idx.int ?_ ?_ ?_; (focus decide); (focus decide))
      | refine Ifz.zero ?_
      | (refine Ifz.pos ?_ ?_; (focus omega))
      | refine Get.mk _ rfl ?_
      | refine Leaves.of ?_
      | refine Ends.of ?_
      | refine Vw.bool ?_
      | refine Vw.int ?_
      | refine Vw.nil
      | refine Vw.sl
      | refine Vw.tup ?_
      | refine Vw.agg ?_
      | refine VwL.cons ?_ ?_
      | refine VwL.nil
      | refine LeavesF.of ?_
      | refine VwF.bool ?_
      | refine VwF.int ?_
      | refine VwF.nil
      | refine VwF.sl
      | refine VwF.tup ?_
      | refine VwF.agg ?_
      | refine VwLF.cons ?_ ?_
      | refine VwLF.nil
      | (refine Req.mk ?_ ?_; (focus first | rfl | decide | exact ⟨rfl, rfl⟩ | exact ⟨rfl, by decide⟩ | exact (fun _ => rfl) | exact (fun h => nomatch h) | (simp; done) | omega | (simp [big]; done) | exact le_big (by omega) | exact lt_big (by omega))))
  refine LoopP.by (fun y : Nat => y ≤ H) (fun y => [(23, .int .i64 (y : Nat))]) (fun y =>
    [.blk [.int .i64 W, .int .i64 H, .sl c l.length (ofBytes l)] false, .blk [.int .i64 dx] false, .blk [.int .i64 dy] false, .blk [.int .u8 fill.toNat] false, .blk [.int .i64 0, .int .i64 0, .nilsl] false,
     .blk [.int .i64 W, .int .i64 H, .sl c l.length (ofBytes l)] false, .blk [.int .i64 W, .int .i64 H, .sl c l.length (ofBytes l)] false, .blk [.int .i64 0, .int .i64 0, .nilsl] false,
     .blk (ofBytes (moveL W H l dx dy fill (y * W))) true, .blk [.int .i64 W, .int .i64 H, .ms 1 8 (y * W) 0 (y * W) false] false]) (fun y => H - y) 0 (Nat.zero_le _) ?_ ?_
  · rw [show decide (Int.toNat 0 = l.length) = false by simp; omega, Nat.zero_mul]
    rfl
  intro y hyH
  have hyW : y * W ≤ W * H := by rw [Nat.mul_comm W H]; exact Nat.mul_le_mul_right W hyH
  repeat' (first
    | (conv => whnf)
      first
      | refine Br.t ?_
      | refine Br.f ?_
      | (refine Br.decT ?_ ?_; (focus first | assumption | omega))
      | (refine Br.decF ?_ ?_; (focus first | assumption | omega))
      | refine Br.dec (fun _ => ?_) (fun _ => ?_)
      | refine Br.not ?_
      | refine Br.and ?_
      | refine Br.or ?_
      | (refine Bnd.i64 ?_ ?_ ?_; (focus omega); (focus omega))
      | (refine Idx.nat ?_ ?_; (focus omega))
      | refine Idx.nat (le_big (by omega)) ?_
      | (refine Idx.int ?_ ?_ ?_; (focus omega); (focus omega))
      | (refine Idx.int ?_ ?_ ?_; (focus decide); (focus decide))
      | refine Ifz.zero ?_
      | (refine Ifz.pos ?_ ?_; (focus omega))
      | refine Get.mk _ rfl ?_
      | refine Leaves.of ?_
      | refine Ends.of ?_
      | refine Vw.bool ?_
      | refine Vw.int ?_
      | refine Vw.nil
      | refine Vw.sl
      | refine Vw.tup ?_
      | refine Vw.agg ?_
      | refine VwL.cons ?_ ?_
      | refine VwL.nil
      | refine LeavesF.of ?_
      | refine VwF.bool ?_
      | refine VwF.int ?_
      | refine VwF.nil
      | refine VwF.sl
      | refine VwF.tup ?_
      | refine VwF.agg ?_
      | refine VwLF.cons ?_ ?_
      | refine VwLF.nil
      | (refine Req.mk ?_ ?_; (focus first | rfl | decide | exact ⟨rfl, rfl⟩ | exact ⟨rfl, by decide⟩ | exact (fun _ => rfl) | exact (fun h => nomatch h) | (simp; done) | omega | (simp [big]; done) | exact le_big (by omega) | exact lt_big (by omega))))
  · refine LoopP.by (fun x : Nat => x ≤ W) (fun x => [(29, .int .i64 (x : Nat))]) (fun x =>
      [.blk [.int .i64 W, .int .i64 H, .sl c l.length (ofBytes l)] false, .blk [.int .i64 dx] false, .blk [.int .i64 dy] false, .blk [.int .u8 fill.toNat] false, .blk [.int .i64 0, .int .i64 0, .nilsl] false,
       .blk [.int .i64 W, .int .i64 H, .sl c l.length (ofBytes l)] false, .blk [.int .i64 W, .int .i64 H, .sl c l.length (ofBytes l)] false, .blk [.int .i64 0, .int .i64 0, .nilsl] false,
       .blk (ofBytes (moveL W H l dx dy fill (y * W + x))) true, .blk [.int .i64 W, .int .i64 H, .ms 1 8 (y * W + x) 0 (y * W + x) false] false]) (fun x => W - x) 0 (Nat.zero_le _) rfl ?_
    intro x hxW
    have hsum : y * W + x ≤ 2400 := by omega
    repeat' (first
      | (conv => whnf)
        first
        | refine Br.t ?_
        | refine Br.f ?_
        | (refine Br.decT ?_ ?_; (focus first | assumption | omega))
        | (refine Br.decF ?_ ?_; (focus first | assumption | omega))
        | refine Br.dec (fun _ => ?_) (fun _ => ?_)
        | refine Br.not ?_
        | refine Br.and ?_
        | refine Br.or ?_
        | (refine Bnd.i64 ?_ ?_ ?_; (focus omega); (focus omega))
        | refine call_fun rfl rfl (has_pix h2 h4 _ _) (.inl rfl) ?_
        | refine call_fun rfl rfl (at_pix h2 h4 hl ‹pixB _ _ _ _›) (.inl rfl) ?_
        | refine call_two rfl rfl rfl ?_
        | refine Bnd.u8 (pixV_le _ _ _ _ _).1 (pixV_le _ _ _ _ _).2 ?_
        | (refine Bnd.u8 ?_ ?_ ?_; (focus omega); (focus omega))
        | refine Req.mk ((ofBytes_length _).trans (moveL_length _ _ _ _ _ _ _)) ?_
        | refine Req.mk ⟨by omega, app_room ((ofBytes_length _).trans (moveL_length _ _ _ _ _ _ _)) (by omega)⟩ ?_
        | (refine Idx.nat ?_ ?_; (focus omega))
        | refine Idx.nat (le_big (by omega)) ?_
        | (refine Idx.int ?_ ?_ ?_; (focus omega); (focus omega))
        | (refine Idx.int ?_ ?_ ?_; (focus decide); (focus decide))
        | refine Ifz.zero ?_
        | (refine Ifz.pos ?_ ?_; (focus omega))
        | refine Get.mk _ rfl ?_
        | refine Leaves.of ?_
        | refine Ends.of ?_
        | refine Vw.bool ?_
        | refine Vw.int ?_
        | refine Vw.nil
        | refine Vw.sl
        | refine Vw.tup ?_
        | refine Vw.agg ?_
        | refine VwL.cons ?_ ?_
        | refine VwL.nil
        | refine LeavesF.of ?_
        | refine VwF.bool ?_
        | refine VwF.int ?_
        | refine VwF.nil
        | refine VwF.sl
        | refine VwF.tup ?_
        | refine VwF.agg ?_
        | refine VwLF.cons ?_ ?_
        | refine VwLF.nil
        | (refine Req.mk ?_ ?_; (focus first | rfl | decide | exact ⟨rfl, rfl⟩ | exact ⟨rfl, by decide⟩ | exact (fun _ => rfl) | exact (fun h => nomatch h) | (simp; done) | omega | (simp [big]; done) | exact le_big (by omega) | exact lt_big (by omega))))
    · refine NextP.mk (x + 1) (by omega) (by omega) ?_
      rw [moveL_snoc (mvAt_in (y := y) (x := x) rfl (by omega) ‹pixB _ _ _ _›)]
      rfl
    · refine NextP.mk (x + 1) (by omega) (by omega) ?_
      rw [moveL_snoc (mvAt_out (y := y) (x := x) rfl (by omega) ‹¬ pixB _ _ _ _›)]
      rfl
    · refine NextP.mk (y + 1) (by omega) (by omega) ?_
      obtain rfl : x = W := by omega
      rw [show y * x + x = (y + 1) * x by rw [Nat.add_mul y 1, Nat.one_mul]]
      rfl
  · rfl
  · rfl
  · have e : y * W = W * H := by rw [show y = H by omega, Nat.mul_comm]
    refine Vw.bytes rfl (moveL_length _ _ _ _ _ _ _).symm (moveL_length _ _ _ _ _ _ _).symm (by rw [e]) rfl
  · rfl

end Go.Dr.T
