/- Chapter 07: Dust of the program, of the reference. -/
import Derived.Test.YtigcchafpenhiaaR07Di
import Derived.Test.YtigcchafpenhiaaR07Lk
namespace Go.Dr.T

set_option maxRecDepth 100000 in
set_option maxHeartbeats 20000000 in
theorem dust_ok {W H : Nat} {c : Bool} {l : List UInt8} (h1 : 1 ≤ W) (h2 : W ≤ 48) (h3 : 1 ≤ H) (h4 : H ≤ 48) (hl : l.length = W * H) {w g : Int} (hw : 0 ≤ w ∧ w ≤ 256) (hg : 0 ≤ g ∧ g ≤ 12) :
    Fun F md 33 [frV W H c l, .int .i64 w, .int .i64 g] (.tup [frV W H false (genL (duAt W H l w g) (W * H)), .int .i64 0]) := by
  have hck := check_ok h1 h2 h3 h4 hl
  have hWH : W * H ≤ 2304 := Nat.mul_le_mul h2 h4
  have hWH1 : 1 * 1 ≤ W * H := Nat.mul_le_mul h1 h3
  refine fun_of rfl rfl ?_
  repeat' (first
    | (conv => whnf)
      first
      | refine Br.t ?_
      | refine Br.f ?_
      | (refine Br.decT ?_ ?_; (focus first | assumption | omega))
      | (refine Br.decF ?_ ?_; (focus first | assumption | omega))
      | refine Br.dec (fun _ => ?_) (fun _ => ?_)
      | refine Br.not ?_
      | refine Br.and ?_
      | refine Br.or ?_
      | (refine Bnd.i64 ?_ ?_ ?_; (focus omega); (focus omega))
      | refine call_fun rfl rfl (out_any _ _ _) (.inl rfl) ?_
      | refine call_fun rfl rfl (check_any _ _ _ _) (.inl rfl) ?_
      | refine call_one rfl rfl rfl ?_
      | (refine Idx.nat ?_ ?_; (focus omega))
      | refine Idx.nat (le_big (by omega)) ?_
      | (refine Idx.int ?_ ?_ ?_; (focus omega); (focus omega))
      | (refine Idx.int ?_ ?_ ?_; (focus decide); (focus decide))
      | refine Ifz.zero ?_
      | (refine Ifz.pos ?_ ?_; (focus omega))
      | refine Get.mk _ rfl ?_
      | refine Leaves.of ?_
      | refine Ends.of ?_
      | refine Vw.bool ?_
      | refine Vw.int ?_
      | refine Vw.nil
      | refine Vw.sl
      | refine Vw.tup ?_
      | refine Vw.agg ?_
      | refine VwL.cons ?_ ?_
      | refine VwL.nil
      | refine LeavesF.of ?_
      | refine VwF.bool ?_
      | refine VwF.int ?_
      | refine VwF.nil
      | refine VwF.sl
      | refine VwF.tup ?_
      | refine VwF.agg ?_
      | refine VwLF.cons ?_ ?_
      | refine VwLF.nil
      | (refine Req.mk ?_ ?_; (focus first | rfl | decide | exact ⟨rfl, rfl⟩ | exact ⟨rfl, by decide⟩ | exact (fun _ => rfl) | exact (fun h => nomatch h) | (simp; done) | omega | (simp [big]; done) | exact le_big (by omega) | exact lt_big (by omega))))
  all_goals try (exfalso; omega)
  refine LoopP.by (fun y : Nat => y ≤ H) (fun y => [(23, .int .i64 (y : Nat))]) (fun y =>
    [.blk [.int .i64 W, .int .i64 H, .sl c l.length (ofBytes l)] false, .blk [.int .i64 w] false, .blk [.int .i64 g] false, .blk [.int .i64 0, .int .i64 0, .nilsl] false,
     .blk [.int .i64 W, .int .i64 H, .sl c l.length (ofBytes l)] false, .blk [.int .i64 W, .int .i64 H, .sl c l.length (ofBytes l)] false, .blk [.int .i64 0, .int .i64 0, .nilsl] false,
     .blk (ofBytes (genL (duAt W H l w g) (y * W))) true, .blk [.int .i64 W, .int .i64 H, .ms 1 7 (y * W) 0 (y * W) false] false]) (fun y => H - y) 0 (Nat.zero_le _) ?_ ?_
  · rw [show decide (Int.toNat 0 = l.length) = false by simp; omega, Nat.zero_mul]
    rfl
  intro y hyH
  have hyW : y * W ≤ W * H := by rw [Nat.mul_comm W H]; exact Nat.mul_le_mul_right W hyH
  by_cases hyl : y < H
  · repeat' (first
      | (conv => whnf)
        first
        | refine Br.t ?_
        | refine Br.f ?_
        | (refine Br.decT ?_ ?_; (focus first | assumption | omega))
        | (refine Br.decF ?_ ?_; (focus first | assumption | omega))
        | refine Br.dec (fun _ => ?_) (fun _ => ?_)
        | refine Br.not ?_
        | refine Br.and ?_
        | refine Br.or ?_
        | (refine Bnd.i64 ?_ ?_ ?_; (focus omega); (focus omega))
        | (refine Idx.nat ?_ ?_; (focus omega))
        | refine Idx.nat (le_big (by omega)) ?_
        | (refine Idx.int ?_ ?_ ?_; (focus omega); (focus omega))
        | (refine Idx.int ?_ ?_ ?_; (focus decide); (focus decide))
        | refine Ifz.zero ?_
        | (refine Ifz.pos ?_ ?_; (focus omega))
        | refine Get.mk _ rfl ?_
        | refine Leaves.of ?_
        | refine Ends.of ?_
        | refine Vw.bool ?_
        | refine Vw.int ?_
        | refine Vw.nil
        | refine Vw.sl
        | refine Vw.tup ?_
        | refine Vw.agg ?_
        | refine VwL.cons ?_ ?_
        | refine VwL.nil
        | refine LeavesF.of ?_
        | refine VwF.bool ?_
        | refine VwF.int ?_
        | refine VwF.nil
        | refine VwF.sl
        | refine VwF.tup ?_
        | refine VwF.agg ?_
        | refine VwLF.cons ?_ ?_
        | refine VwLF.nil
        | (refine Req.mk ?_ ?_; (focus first | rfl | decide | exact ⟨rfl, rfl⟩ | exact ⟨rfl, by decide⟩ | exact (fun _ => rfl) | exact (fun h => nomatch h) | (simp; done) | omega | (simp [big]; done) | exact le_big (by omega) | exact lt_big (by omega))))
    all_goals try (exfalso; omega)
    refine LoopP.by (fun x : Nat => x ≤ W) (fun x => [(29, .int .i64 (x : Nat))]) (fun x =>
      [.blk [.int .i64 W, .int .i64 H, .sl c l.length (ofBytes l)] false, .blk [.int .i64 w] false, .blk [.int .i64 g] false, .blk [.int .i64 0, .int .i64 0, .nilsl] false,
       .blk [.int .i64 W, .int .i64 H, .sl c l.length (ofBytes l)] false, .blk [.int .i64 W, .int .i64 H, .sl c l.length (ofBytes l)] false, .blk [.int .i64 0, .int .i64 0, .nilsl] false,
       .blk (ofBytes (genL (duAt W H l w g) (y * W + x))) true, .blk [.int .i64 W, .int .i64 H, .ms 1 7 (y * W + x) 0 (y * W + x) false] false]) (fun x => W - x) 0 (Nat.zero_le _) rfl ?_
    intro x hxW
    have hsum : y * W + x ≤ 2400 := by omega
    by_cases hxl : x < W
    · have hq := duAt_eq (H := H) (l := l) (w := w) (g := g) (y := y) hxl
      have hr : 0 ≤ dv (boxHit W H l w g x y (y + g + 1)) ∧ dv (boxHit W H l w g x y (y + g + 1)) ≤ 255 := by unfold dv; split <;> omega
      have hcall := fun (ro : Nat) (b0 b3 b5 b6 b7 b8 : B) (K : V → List B → Prop) => dustC_ok (c := c) (K := K) h2 h4 hl hw hg hxl hyl (ro := ro) (b0 := b0) (b3 := b3) (b5 := b5) (b6 := b6) (b7 := b7) (b8 := b8)
      generalize dv (boxHit W H l w g x y (y + g + 1)) = px at *
      repeat' (first
        | (conv => whnf)
          first
          | refine Br.t ?_
          | refine Br.f ?_
          | (refine Br.decT ?_ ?_; (focus first | assumption | omega))
          | (refine Br.decF ?_ ?_; (focus first | assumption | omega))
          | refine Br.dec (fun _ => ?_) (fun _ => ?_)
          | refine Br.not ?_
          | refine Br.and ?_
          | refine Br.or ?_
          | (refine Bnd.i64 ?_ ?_ ?_; (focus omega); (focus omega))
          | refine hcall _ _ _ _ _ _ _ _ ?_
          | (refine Bnd.u8 ?_ ?_ ?_; (focus omega); (focus omega))
          | refine Req.mk ((ofBytes_length _).trans (genL_length _ _)) ?_
          | refine Req.mk ⟨by omega, app_room ((ofBytes_length _).trans (genL_length _ _)) (by omega)⟩ ?_
          | (refine Idx.nat ?_ ?_; (focus omega))
          | refine Idx.nat (le_big (by omega)) ?_
          | (refine Idx.int ?_ ?_ ?_; (focus omega); (focus omega))
          | (refine Idx.int ?_ ?_ ?_; (focus decide); (focus decide))
          | refine Ifz.zero ?_
          | (refine Ifz.pos ?_ ?_; (focus omega))
          | refine Get.mk _ rfl ?_
          | refine Leaves.of ?_
          | refine Ends.of ?_
          | refine Vw.bool ?_
          | refine Vw.int ?_
          | refine Vw.nil
          | refine Vw.sl
          | refine Vw.tup ?_
          | refine Vw.agg ?_
          | refine VwL.cons ?_ ?_
          | refine VwL.nil
          | refine LeavesF.of ?_
          | refine VwF.bool ?_
          | refine VwF.int ?_
          | refine VwF.nil
          | refine VwF.sl
          | refine VwF.tup ?_
          | refine VwF.agg ?_
          | refine VwLF.cons ?_ ?_
          | refine VwLF.nil
          | (refine Req.mk ?_ ?_; (focus first | rfl | decide | exact ⟨rfl, rfl⟩ | exact ⟨rfl, by decide⟩ | exact (fun _ => rfl) | exact (fun h => nomatch h) | (simp; done) | omega | (simp [big]; done) | exact le_big (by omega) | exact lt_big (by omega))))
      all_goals first | exact NextP.mk (x + 1) (by omega) (by omega) (by rw [genL_snoc hq]; rfl) | (exfalso; omega)
    · obtain rfl : x = W := by omega
      repeat' (first
        | (conv => whnf)
          first
          | refine Br.t ?_
          | refine Br.f ?_
          | (refine Br.decT ?_ ?_; (focus first | assumption | omega))
          | (refine Br.decF ?_ ?_; (focus first | assumption | omega))
          | refine Br.dec (fun _ => ?_) (fun _ => ?_)
          | refine Br.not ?_
          | refine Br.and ?_
          | refine Br.or ?_
          | (refine Bnd.i64 ?_ ?_ ?_; (focus omega); (focus omega))
          | (refine Idx.nat ?_ ?_; (focus omega))
          | refine Idx.nat (le_big (by omega)) ?_
          | (refine Idx.int ?_ ?_ ?_; (focus omega); (focus omega))
          | (refine Idx.int ?_ ?_ ?_; (focus decide); (focus decide))
          | refine Ifz.zero ?_
          | (refine Ifz.pos ?_ ?_; (focus omega))
          | refine Get.mk _ rfl ?_
          | refine Leaves.of ?_
          | refine Ends.of ?_
          | refine Vw.bool ?_
          | refine Vw.int ?_
          | refine Vw.nil
          | refine Vw.sl
          | refine Vw.tup ?_
          | refine Vw.agg ?_
          | refine VwL.cons ?_ ?_
          | refine VwL.nil
          | refine LeavesF.of ?_
          | refine VwF.bool ?_
          | refine VwF.int ?_
          | refine VwF.nil
          | refine VwF.sl
          | refine VwF.tup ?_
          | refine VwF.agg ?_
          | refine VwLF.cons ?_ ?_
          | refine VwLF.nil
          | (refine Req.mk ?_ ?_; (focus first | rfl | decide | exact ⟨rfl, rfl⟩ | exact ⟨rfl, by decide⟩ | exact (fun _ => rfl) | exact (fun h => nomatch h) | (simp; done) | omega | (simp [big]; done) | exact le_big (by omega) | exact lt_big (by omega))))
      all_goals first | exact NextP.mk (y + 1) (by omega) (by omega) (by rw [show y * x + x = (y + 1) * x by rw [Nat.add_mul y 1, Nat.one_mul]]; rfl) | (exfalso; omega)
  · have e : y * W = W * H := by rw [show y = H by omega, Nat.mul_comm]
    repeat' (first
      | (conv => whnf)
        first
        | refine Br.t ?_
        | refine Br.f ?_
        | (refine Br.decT ?_ ?_; (focus first | assumption | omega))
        | (refine Br.decF ?_ ?_; (focus first | assumption | omega))
        | refine Br.dec (fun _ => ?_) (fun _ => ?_)
        | refine Br.not ?_
        | refine Br.and ?_
        | refine Br.or ?_
        | (refine Bnd.i64 ?_ ?_ ?_; (focus omega); (focus omega))
        | (refine Vw.bytes rfl (genL_length _ _).symm (genL_length _ _).symm ?_ rfl; (focus rw [e]))
        | (refine Idx.nat ?_ ?_; (focus omega))
        | refine Idx.nat (le_big (by omega)) ?_
        | (refine Idx.int ?_ ?_ ?_; (focus omega); (focus omega))
        | (refine Idx.int ?_ ?_ ?_; (focus decide); (focus decide))
        | refine Ifz.zero ?_
        | (refine Ifz.pos ?_ ?_; (focus omega))
        | refine Get.mk _ rfl ?_
        | refine Leaves.of ?_
        | refine Ends.of ?_
        | refine Vw.bool ?_
        | refine Vw.int ?_
        | refine Vw.nil
        | refine Vw.sl
        | refine Vw.tup ?_
        | refine Vw.agg ?_
        | refine VwL.cons ?_ ?_
        | refine VwL.nil
        | refine LeavesF.of ?_
        | refine VwF.bool ?_
        | refine VwF.int ?_
        | refine VwF.nil
        | refine VwF.sl
        | refine VwF.tup ?_
        | refine VwF.agg ?_
        | refine VwLF.cons ?_ ?_
        | refine VwLF.nil
        | (refine Req.mk ?_ ?_; (focus first | rfl | decide | exact ⟨rfl, rfl⟩ | exact ⟨rfl, by decide⟩ | exact (fun _ => rfl) | exact (fun h => nomatch h) | (simp; done) | omega | (simp [big]; done) | exact le_big (by omega) | exact lt_big (by omega))))
    all_goals first | rfl | (exfalso; omega)

set_option maxRecDepth 100000 in
set_option maxHeartbeats 20000000 in
theorem dustR_ok {W H : Nat} {c : Bool} {l : List UInt8} (h1 : 1 ≤ W) (h2 : W ≤ 48) (h3 : 1 ≤ H) (h4 : H ≤ 48) (hl : l.length = W * H) {w g : Int} (hw : 0 ≤ w ∧ w ≤ 256) (hg : 0 ≤ g ∧ g ≤ 12) :
    Fun F md 34 [frV W H c l, .int .i64 w, .int .i64 g] (.tup [frV W H false (genL (duAt W H l w g) (W * H)), .int .i64 0]) := by
  have hck := check_ok h1 h2 h3 h4 hl
  have hWH : W * H ≤ 2304 := Nat.mul_le_mul h2 h4
  refine fun_of rfl rfl ?_
  repeat' (first
    | (conv => whnf)
      first
      | refine Br.t ?_
      | refine Br.f ?_
      | (refine Br.decT ?_ ?_; (focus first | assumption | omega))
      | (refine Br.decF ?_ ?_; (focus first | assumption | omega))
      | refine Br.dec (fun _ => ?_) (fun _ => ?_)
      | refine Br.not ?_
      | refine Br.and ?_
      | refine Br.or ?_
      | (refine Bnd.i64 ?_ ?_ ?_; (focus omega); (focus omega))
      | refine call_fun rfl rfl (in_any _ _ _) (.inl rfl) ?_
      | refine call_fun rfl rfl (checkR_any _ _ _ _) (.inl rfl) ?_
      | (refine Idx.nat ?_ ?_; (focus omega))
      | refine Idx.nat (le_big (by omega)) ?_
      | (refine Idx.int ?_ ?_ ?_; (focus omega); (focus omega))
      | (refine Idx.int ?_ ?_ ?_; (focus decide); (focus decide))
      | refine Ifz.zero ?_
      | (refine Ifz.pos ?_ ?_; (focus omega))
      | refine Get.mk _ rfl ?_
      | refine Leaves.of ?_
      | refine Ends.of ?_
      | refine Vw.bool ?_
      | refine Vw.int ?_
      | refine Vw.nil
      | refine Vw.sl
      | refine Vw.tup ?_
      | refine Vw.agg ?_
      | refine VwL.cons ?_ ?_
      | refine VwL.nil
      | refine LeavesF.of ?_
      | refine VwF.bool ?_
      | refine VwF.int ?_
      | refine VwF.nil
      | refine VwF.sl
      | refine VwF.tup ?_
      | refine VwF.agg ?_
      | refine VwLF.cons ?_ ?_
      | refine VwLF.nil
      | (refine Req.mk ?_ ?_; (focus first | rfl | decide | exact ⟨rfl, rfl⟩ | exact ⟨rfl, by decide⟩ | exact (fun _ => rfl) | exact (fun h => nomatch h) | (simp; done) | omega | (simp [big]; done) | exact le_big (by omega) | exact lt_big (by omega))))
  all_goals try (exfalso; omega)
  refine LoopP.by (fun y : Nat => y ≤ H) (fun y => [(10, .int .i64 (y : Nat))]) (fun y => match y with
    | 0 => [.blk [.int .i64 W, .int .i64 H, .sl c l.length (ofBytes l)] false, .blk [.int .i64 0, .int .i64 0, .nilsl] false, .blk [.int .i64 W, .int .i64 H, .nilsl] false]
    | y + 1 => [.blk [.int .i64 W, .int .i64 H, .sl c l.length (ofBytes l)] false, .blk [.int .i64 0, .int .i64 0, .nilsl] false, .blk [.int .i64 W, .int .i64 H, .ms 1 3 ((y + 1) * W) 0 ((y + 1) * W) false] false, .blk (ofBytes (genL (duAt W H l w g) ((y + 1) * W))) true]) (fun y => H - y) 0 (Nat.zero_le _) rfl ?_
  intro y hyH
  cases y with
  | zero =>
    repeat' (first
      | (conv => whnf)
        first
        | refine Br.t ?_
        | refine Br.f ?_
        | (refine Br.decT ?_ ?_; (focus first | assumption | omega))
        | (refine Br.decF ?_ ?_; (focus first | assumption | omega))
        | refine Br.dec (fun _ => ?_) (fun _ => ?_)
        | refine Br.not ?_
        | refine Br.and ?_
        | refine Br.or ?_
        | (refine Bnd.i64 ?_ ?_ ?_; (focus omega); (focus omega))
        | (refine Idx.nat ?_ ?_; (focus omega))
        | refine Idx.nat (le_big (by omega)) ?_
        | (refine Idx.int ?_ ?_ ?_; (focus omega); (focus omega))
        | (refine Idx.int ?_ ?_ ?_; (focus decide); (focus decide))
        | refine Ifz.zero ?_
        | (refine Ifz.pos ?_ ?_; (focus omega))
        | refine Get.mk _ rfl ?_
        | refine Leaves.of ?_
        | refine Ends.of ?_
        | refine Vw.bool ?_
        | refine Vw.int ?_
        | refine Vw.nil
        | refine Vw.sl
        | refine Vw.tup ?_
        | refine Vw.agg ?_
        | refine VwL.cons ?_ ?_
        | refine VwL.nil
        | refine LeavesF.of ?_
        | refine VwF.bool ?_
        | refine VwF.int ?_
        | refine VwF.nil
        | refine VwF.sl
        | refine VwF.tup ?_
        | refine VwF.agg ?_
        | refine VwLF.cons ?_ ?_
        | refine VwLF.nil
        | (refine Req.mk ?_ ?_; (focus first | rfl | decide | exact ⟨rfl, rfl⟩ | exact ⟨rfl, by decide⟩ | exact (fun _ => rfl) | exact (fun h => nomatch h) | (simp; done) | omega | (simp [big]; done) | exact le_big (by omega) | exact lt_big (by omega))))
    all_goals try (exfalso; omega)
    refine LoopP.by (fun x : Nat => x ≤ W) (fun x => [(11, .int .i64 (x : Nat))]) (fun x => match x with
      | 0 => [.blk [.int .i64 W, .int .i64 H, .sl c l.length (ofBytes l)] false, .blk [.int .i64 0, .int .i64 0, .nilsl] false, .blk [.int .i64 W, .int .i64 H, .nilsl] false]
      | x + 1 => [.blk [.int .i64 W, .int .i64 H, .sl c l.length (ofBytes l)] false, .blk [.int .i64 0, .int .i64 0, .nilsl] false, .blk [.int .i64 W, .int .i64 H, .ms 1 3 (x + 1) 0 (x + 1) false] false, .blk (ofBytes (genL (duAt W H l w g) (x + 1))) true]) (fun x => W - x) 0 (Nat.zero_le _) rfl ?_
    intro x hxW
    cases x with
    | zero =>
      have hxl : 0 < W := h1
      repeat' (first
        | (conv => whnf)
          first
          | refine Br.t ?_
          | refine Br.f ?_
          | (refine Br.decT ?_ ?_; (focus first | assumption | omega))
          | (refine Br.decF ?_ ?_; (focus first | assumption | omega))
          | refine Br.dec (fun _ => ?_) (fun _ => ?_)
          | refine Br.not ?_
          | refine Br.and ?_
          | refine Br.or ?_
          | (refine Bnd.i64 ?_ ?_ ?_; (focus omega); (focus omega))
          | (refine Bnd.u8 ?_ ?_ ?_; (focus omega); (focus omega))
          | (refine Idx.nat ?_ ?_; (focus omega))
          | refine Idx.nat (le_big (by omega)) ?_
          | (refine Idx.int ?_ ?_ ?_; (focus omega); (focus omega))
          | (refine Idx.int ?_ ?_ ?_; (focus decide); (focus decide))
          | refine Ifz.zero ?_
          | (refine Ifz.pos ?_ ?_; (focus omega))
          | refine Get.mk _ rfl ?_
          | refine Leaves.of ?_
          | refine Ends.of ?_
          | refine Vw.bool ?_
          | refine Vw.int ?_
          | refine Vw.nil
          | refine Vw.sl
          | refine Vw.tup ?_
          | refine Vw.agg ?_
          | refine VwL.cons ?_ ?_
          | refine VwL.nil
          | refine LeavesF.of ?_
          | refine VwF.bool ?_
          | refine VwF.int ?_
          | refine VwF.nil
          | refine VwF.sl
          | refine VwF.tup ?_
          | refine VwF.agg ?_
          | refine VwLF.cons ?_ ?_
          | refine VwLF.nil
          | (refine Req.mk ?_ ?_; (focus first | rfl | decide | exact ⟨rfl, rfl⟩ | exact ⟨rfl, by decide⟩ | exact (fun _ => rfl) | exact (fun h => nomatch h) | (simp; done) | omega | (simp [big]; done) | exact le_big (by omega) | exact lt_big (by omega))))
      all_goals try (exfalso; omega)
      refine LoopP.by (fun b : Int => (((0 : Nat) : Int) : Int) - g ≤ b ∧ b ≤ (((0 : Nat) : Int) : Int) + g + 1) (fun b => [(12, .int .u8 (dv (boxHit W H l w g ((0 : Nat) : Int) ((0 : Nat) : Int) b))), (13, .int .i64 b)]) (fun _ => [.blk [.int .i64 W, .int .i64 H, .sl c l.length (ofBytes l)] false, .blk [.int .i64 0, .int .i64 0, .nilsl] false, .blk [.int .i64 W, .int .i64 H, .nilsl] false]) (fun b => (((0 : Nat) : Int) + g + 1 - b).toNat) ((((0 : Nat) : Int) : Int) - g) ⟨Int.le_refl _, by omega⟩ (by rw [dv_no (boxHit_none (Int.le_refl _))]; rfl) ?_
      intro b ⟨hb1, hb2⟩
      by_cases hbe : b ≤ ((0 : Nat) : Int) + g
      · generalize hd0 : dv (boxHit W H l w g ((0 : Nat) : Int) ((0 : Nat) : Int) b) = d0 at *
        repeat' (first
          | (conv => whnf)
            first
            | refine Br.t ?_
            | refine Br.f ?_
            | (refine Br.decT ?_ ?_; (focus first | assumption | omega))
            | (refine Br.decF ?_ ?_; (focus first | assumption | omega))
            | refine Br.dec (fun _ => ?_) (fun _ => ?_)
            | refine Br.not ?_
            | refine Br.and ?_
            | refine Br.or ?_
            | (refine Bnd.i64 ?_ ?_ ?_; (focus omega); (focus omega))
            | (refine Idx.nat ?_ ?_; (focus omega))
            | refine Idx.nat (le_big (by omega)) ?_
            | (refine Idx.int ?_ ?_ ?_; (focus omega); (focus omega))
            | (refine Idx.int ?_ ?_ ?_; (focus decide); (focus decide))
            | refine Ifz.zero ?_
            | (refine Ifz.pos ?_ ?_; (focus omega))
            | refine Get.mk _ rfl ?_
            | refine Leaves.of ?_
            | refine Ends.of ?_
            | refine Vw.bool ?_
            | refine Vw.int ?_
            | refine Vw.nil
            | refine Vw.sl
            | refine Vw.tup ?_
            | refine Vw.agg ?_
            | refine VwL.cons ?_ ?_
            | refine VwL.nil
            | refine LeavesF.of ?_
            | refine VwF.bool ?_
            | refine VwF.int ?_
            | refine VwF.nil
            | refine VwF.sl
            | refine VwF.tup ?_
            | refine VwF.agg ?_
            | refine VwLF.cons ?_ ?_
            | refine VwLF.nil
            | (refine Req.mk ?_ ?_; (focus first | rfl | decide | exact ⟨rfl, rfl⟩ | exact ⟨rfl, by decide⟩ | exact (fun _ => rfl) | exact (fun h => nomatch h) | (simp; done) | omega | (simp [big]; done) | exact le_big (by omega) | exact lt_big (by omega))))
        all_goals try (exfalso; omega)
        refine LoopP.by (fun a : Int => (((0 : Nat) : Int) : Int) - g ≤ a ∧ a ≤ (((0 : Nat) : Int) : Int) + g + 1) (fun a => [(12, .int .u8 (dv (boxHit W H l w g ((0 : Nat) : Int) ((0 : Nat) : Int) b ∨ rowHit W H l w g ((0 : Nat) : Int) b a))), (14, .int .i64 a)]) (fun _ => [.blk [.int .i64 W, .int .i64 H, .sl c l.length (ofBytes l)] false, .blk [.int .i64 0, .int .i64 0, .nilsl] false, .blk [.int .i64 W, .int .i64 H, .nilsl] false]) (fun a => (((0 : Nat) : Int) + g + 1 - a).toNat) ((((0 : Nat) : Int) : Int) - g) ⟨Int.le_refl _, by omega⟩ (by rw [show dv (boxHit W H l w g ((0 : Nat) : Int) ((0 : Nat) : Int) b ∨ rowHit W H l w g ((0 : Nat) : Int) b (((0 : Nat) : Int) - g)) = d0 by rw [← hd0]; exact dv_iff ⟨fun h => h.resolve_right (rowHit_none (Int.le_refl _)), .inl⟩]; rfl) ?_
        intro a ⟨ha1, ha2⟩
        by_cases hae : a ≤ ((0 : Nat) : Int) + g
        · have hpx := pixel_any (c := c) h2 h4 hl a b
          by_cases hh : hitB W H l w a b
          · have hn : dv (boxHit W H l w g ((0 : Nat) : Int) ((0 : Nat) : Int) b ∨ rowHit W H l w g ((0 : Nat) : Int) b (a + 1)) = 255 := dv_yes (.inr ((rowHit_next ha1).2 (.inr hh)))
            rw [decide_eq_true hh.1] at hpx
            have hh2 := hh.2
            generalize pixV W H l a b = px at *
            generalize dv (boxHit W H l w g ((0 : Nat) : Int) ((0 : Nat) : Int) b ∨ rowHit W H l w g ((0 : Nat) : Int) b a) = d1 at *
            repeat' (first
              | (conv => whnf)
                first
                | refine Br.t ?_
                | refine Br.f ?_
                | (refine Br.decT ?_ ?_; (focus first | assumption | omega))
                | (refine Br.decF ?_ ?_; (focus first | assumption | omega))
                | refine Br.dec (fun _ => ?_) (fun _ => ?_)
                | refine Br.not ?_
                | refine Br.and ?_
                | refine Br.or ?_
                | (refine Bnd.i64 ?_ ?_ ?_; (focus omega); (focus omega))
                | refine call_fun rfl rfl hpx (.inl rfl) ?_
                | (refine Idx.nat ?_ ?_; (focus omega))
                | refine Idx.nat (le_big (by omega)) ?_
                | (refine Idx.int ?_ ?_ ?_; (focus omega); (focus omega))
                | (refine Idx.int ?_ ?_ ?_; (focus decide); (focus decide))
                | refine Ifz.zero ?_
                | (refine Ifz.pos ?_ ?_; (focus omega))
                | refine Get.mk _ rfl ?_
                | refine Leaves.of ?_
                | refine Ends.of ?_
                | refine Vw.bool ?_
                | refine Vw.int ?_
                | refine Vw.nil
                | refine Vw.sl
                | refine Vw.tup ?_
                | refine Vw.agg ?_
                | refine VwL.cons ?_ ?_
                | refine VwL.nil
                | refine LeavesF.of ?_
                | refine VwF.bool ?_
                | refine VwF.int ?_
                | refine VwF.nil
                | refine VwF.sl
                | refine VwF.tup ?_
                | refine VwF.agg ?_
                | refine VwLF.cons ?_ ?_
                | refine VwLF.nil
                | (refine Req.mk ?_ ?_; (focus first | rfl | decide | exact ⟨rfl, rfl⟩ | exact ⟨rfl, by decide⟩ | exact (fun _ => rfl) | exact (fun h => nomatch h) | (simp; done) | omega | (simp [big]; done) | exact le_big (by omega) | exact lt_big (by omega))))
            all_goals first | exact NextP.mk (a + 1) ⟨by omega, by omega⟩ (by omega) (by rw [hn]; rfl) | (exfalso; omega)
          · have hn : dv (boxHit W H l w g ((0 : Nat) : Int) ((0 : Nat) : Int) b ∨ rowHit W H l w g ((0 : Nat) : Int) b (a + 1)) = dv (boxHit W H l w g ((0 : Nat) : Int) ((0 : Nat) : Int) b ∨ rowHit W H l w g ((0 : Nat) : Int) b a) := dv_iff (by rw [rowHit_next ha1]; exact ⟨fun h => h.elim .inl fun h => h.elim .inr fun h => absurd h hh, fun h => h.elim .inl fun h => .inr (.inl h)⟩)
            by_cases hpb : pixB W H a b
            · have hh2 : ¬ pixV W H l a b < w := fun h => hh ⟨hpb, h⟩
              rw [decide_eq_true hpb] at hpx
              generalize pixV W H l a b = px at *
              generalize dv (boxHit W H l w g ((0 : Nat) : Int) ((0 : Nat) : Int) b ∨ rowHit W H l w g ((0 : Nat) : Int) b a) = d1 at *
              repeat' (first
                | (conv => whnf)
                  first
                  | refine Br.t ?_
                  | refine Br.f ?_
                  | (refine Br.decT ?_ ?_; (focus first | assumption | omega))
                  | (refine Br.decF ?_ ?_; (focus first | assumption | omega))
                  | refine Br.dec (fun _ => ?_) (fun _ => ?_)
                  | refine Br.not ?_
                  | refine Br.and ?_
                  | refine Br.or ?_
                  | (refine Bnd.i64 ?_ ?_ ?_; (focus omega); (focus omega))
                  | refine call_fun rfl rfl hpx (.inl rfl) ?_
                  | (refine Idx.nat ?_ ?_; (focus omega))
                  | refine Idx.nat (le_big (by omega)) ?_
                  | (refine Idx.int ?_ ?_ ?_; (focus omega); (focus omega))
                  | (refine Idx.int ?_ ?_ ?_; (focus decide); (focus decide))
                  | refine Ifz.zero ?_
                  | (refine Ifz.pos ?_ ?_; (focus omega))
                  | refine Get.mk _ rfl ?_
                  | refine Leaves.of ?_
                  | refine Ends.of ?_
                  | refine Vw.bool ?_
                  | refine Vw.int ?_
                  | refine Vw.nil
                  | refine Vw.sl
                  | refine Vw.tup ?_
                  | refine Vw.agg ?_
                  | refine VwL.cons ?_ ?_
                  | refine VwL.nil
                  | refine LeavesF.of ?_
                  | refine VwF.bool ?_
                  | refine VwF.int ?_
                  | refine VwF.nil
                  | refine VwF.sl
                  | refine VwF.tup ?_
                  | refine VwF.agg ?_
                  | refine VwLF.cons ?_ ?_
                  | refine VwLF.nil
                  | (refine Req.mk ?_ ?_; (focus first | rfl | decide | exact ⟨rfl, rfl⟩ | exact ⟨rfl, by decide⟩ | exact (fun _ => rfl) | exact (fun h => nomatch h) | (simp; done) | omega | (simp [big]; done) | exact le_big (by omega) | exact lt_big (by omega))))
              all_goals first | exact NextP.mk (a + 1) ⟨by omega, by omega⟩ (by omega) (by rw [hn]; rfl) | (exfalso; omega)
            · rw [decide_eq_false hpb] at hpx
              generalize pixV W H l a b = px at *
              generalize dv (boxHit W H l w g ((0 : Nat) : Int) ((0 : Nat) : Int) b ∨ rowHit W H l w g ((0 : Nat) : Int) b a) = d1 at *
              repeat' (first
                | (conv => whnf)
                  first
                  | refine Br.t ?_
                  | refine Br.f ?_
                  | (refine Br.decT ?_ ?_; (focus first | assumption | omega))
                  | (refine Br.decF ?_ ?_; (focus first | assumption | omega))
                  | refine Br.dec (fun _ => ?_) (fun _ => ?_)
                  | refine Br.not ?_
                  | refine Br.and ?_
                  | refine Br.or ?_
                  | (refine Bnd.i64 ?_ ?_ ?_; (focus omega); (focus omega))
                  | refine call_fun rfl rfl hpx (.inl rfl) ?_
                  | (refine Idx.nat ?_ ?_; (focus omega))
                  | refine Idx.nat (le_big (by omega)) ?_
                  | (refine Idx.int ?_ ?_ ?_; (focus omega); (focus omega))
                  | (refine Idx.int ?_ ?_ ?_; (focus decide); (focus decide))
                  | refine Ifz.zero ?_
                  | (refine Ifz.pos ?_ ?_; (focus omega))
                  | refine Get.mk _ rfl ?_
                  | refine Leaves.of ?_
                  | refine Ends.of ?_
                  | refine Vw.bool ?_
                  | refine Vw.int ?_
                  | refine Vw.nil
                  | refine Vw.sl
                  | refine Vw.tup ?_
                  | refine Vw.agg ?_
                  | refine VwL.cons ?_ ?_
                  | refine VwL.nil
                  | refine LeavesF.of ?_
                  | refine VwF.bool ?_
                  | refine VwF.int ?_
                  | refine VwF.nil
                  | refine VwF.sl
                  | refine VwF.tup ?_
                  | refine VwF.agg ?_
                  | refine VwLF.cons ?_ ?_
                  | refine VwLF.nil
                  | (refine Req.mk ?_ ?_; (focus first | rfl | decide | exact ⟨rfl, rfl⟩ | exact ⟨rfl, by decide⟩ | exact (fun _ => rfl) | exact (fun h => nomatch h) | (simp; done) | omega | (simp [big]; done) | exact le_big (by omega) | exact lt_big (by omega))))
              all_goals first | exact NextP.mk (a + 1) ⟨by omega, by omega⟩ (by omega) (by rw [hn]; rfl) | (exfalso; omega)
        · have hn : dv (boxHit W H l w g ((0 : Nat) : Int) ((0 : Nat) : Int) (b + 1)) = dv (boxHit W H l w g ((0 : Nat) : Int) ((0 : Nat) : Int) b ∨ rowHit W H l w g ((0 : Nat) : Int) b a) := dv_iff (by rw [boxHit_next hb1, show a = ((0 : Nat) : Int) + g + 1 by omega])
          generalize dv (boxHit W H l w g ((0 : Nat) : Int) ((0 : Nat) : Int) b ∨ rowHit W H l w g ((0 : Nat) : Int) b a) = d1 at *
          repeat' (first
            | (conv => whnf)
              first
              | refine Br.t ?_
              | refine Br.f ?_
              | (refine Br.decT ?_ ?_; (focus first | assumption | omega))
              | (refine Br.decF ?_ ?_; (focus first | assumption | omega))
              | refine Br.dec (fun _ => ?_) (fun _ => ?_)
              | refine Br.not ?_
              | refine Br.and ?_
              | refine Br.or ?_
              | (refine Bnd.i64 ?_ ?_ ?_; (focus omega); (focus omega))
              | (refine Idx.nat ?_ ?_; (focus omega))
              | refine Idx.nat (le_big (by omega)) ?_
              | (refine Idx.int ?_ ?_ ?_; (focus omega); (focus omega))
              | (refine Idx.int ?_ ?_ ?_; (focus decide); (focus decide))
              | refine Ifz.zero ?_
              | (refine Ifz.pos ?_ ?_; (focus omega))
              | refine Get.mk _ rfl ?_
              | refine Leaves.of ?_
              | refine Ends.of ?_
              | refine Vw.bool ?_
              | refine Vw.int ?_
              | refine Vw.nil
              | refine Vw.sl
              | refine Vw.tup ?_
              | refine Vw.agg ?_
              | refine VwL.cons ?_ ?_
              | refine VwL.nil
              | refine LeavesF.of ?_
              | refine VwF.bool ?_
              | refine VwF.int ?_
              | refine VwF.nil
              | refine VwF.sl
              | refine VwF.tup ?_
              | refine VwF.agg ?_
              | refine VwLF.cons ?_ ?_
              | refine VwLF.nil
              | (refine Req.mk ?_ ?_; (focus first | rfl | decide | exact ⟨rfl, rfl⟩ | exact ⟨rfl, by decide⟩ | exact (fun _ => rfl) | exact (fun h => nomatch h) | (simp; done) | omega | (simp [big]; done) | exact le_big (by omega) | exact lt_big (by omega))))
          all_goals first | exact NextP.mk (b + 1) ⟨by omega, by omega⟩ (by omega) (by rw [hn]; rfl) | (exfalso; omega)
      · have hq := duAt_eq (H := H) (l := l) (w := w) (g := g) (y := 0) (x := 0) hxl
        rw [show ((0 : Nat) : Int) + g + 1 = b by omega] at hq
        generalize dv (boxHit W H l w g ((0 : Nat) : Int) ((0 : Nat) : Int) b) = d0 at *
        repeat' (first
          | (conv => whnf)
            first
            | refine Br.t ?_
            | refine Br.f ?_
            | (refine Br.decT ?_ ?_; (focus first | assumption | omega))
            | (refine Br.decF ?_ ?_; (focus first | assumption | omega))
            | refine Br.dec (fun _ => ?_) (fun _ => ?_)
            | refine Br.not ?_
            | refine Br.and ?_
            | refine Br.or ?_
            | (refine Bnd.i64 ?_ ?_ ?_; (focus omega); (focus omega))
            | refine Req.mk ((ofBytes_length _).trans (genL_length _ _)) ?_
            | refine Req.mk ⟨by omega, app_room ((ofBytes_length _).trans (genL_length _ _)) (by omega)⟩ ?_
            | (refine Idx.nat ?_ ?_; (focus omega))
            | refine Idx.nat (le_big (by omega)) ?_
            | (refine Idx.int ?_ ?_ ?_; (focus omega); (focus omega))
            | (refine Idx.int ?_ ?_ ?_; (focus decide); (focus decide))
            | refine Ifz.zero ?_
            | (refine Ifz.pos ?_ ?_; (focus omega))
            | refine Get.mk _ rfl ?_
            | refine Leaves.of ?_
            | refine Ends.of ?_
            | refine Vw.bool ?_
            | refine Vw.int ?_
            | refine Vw.nil
            | refine Vw.sl
            | refine Vw.tup ?_
            | refine Vw.agg ?_
            | refine VwL.cons ?_ ?_
            | refine VwL.nil
            | refine LeavesF.of ?_
            | refine VwF.bool ?_
            | refine VwF.int ?_
            | refine VwF.nil
            | refine VwF.sl
            | refine VwF.tup ?_
            | refine VwF.agg ?_
            | refine VwLF.cons ?_ ?_
            | refine VwLF.nil
            | (refine Req.mk ?_ ?_; (focus first | rfl | decide | exact ⟨rfl, rfl⟩ | exact ⟨rfl, by decide⟩ | exact (fun _ => rfl) | exact (fun h => nomatch h) | (simp; done) | omega | (simp [big]; done) | exact le_big (by omega) | exact lt_big (by omega))))
        all_goals first | exact NextP.mk (0 + 1) (by omega) (by omega) (by rw [genL_one (by rw [hq, Nat.zero_mul])]; rfl) | (exfalso; omega)
    | succ x =>
      by_cases hxl : x + 1 < W
      · repeat' (first
          | (conv => whnf)
            first
            | refine Br.t ?_
            | refine Br.f ?_
            | (refine Br.decT ?_ ?_; (focus first | assumption | omega))
            | (refine Br.decF ?_ ?_; (focus first | assumption | omega))
            | refine Br.dec (fun _ => ?_) (fun _ => ?_)
            | refine Br.not ?_
            | refine Br.and ?_
            | refine Br.or ?_
            | (refine Bnd.i64 ?_ ?_ ?_; (focus omega); (focus omega))
            | (refine Bnd.u8 ?_ ?_ ?_; (focus omega); (focus omega))
            | (refine Idx.nat ?_ ?_; (focus omega))
            | refine Idx.nat (le_big (by omega)) ?_
            | (refine Idx.int ?_ ?_ ?_; (focus omega); (focus omega))
            | (refine Idx.int ?_ ?_ ?_; (focus decide); (focus decide))
            | refine Ifz.zero ?_
            | (refine Ifz.pos ?_ ?_; (focus omega))
            | refine Get.mk _ rfl ?_
            | refine Leaves.of ?_
            | refine Ends.of ?_
            | refine Vw.bool ?_
            | refine Vw.int ?_
            | refine Vw.nil
            | refine Vw.sl
            | refine Vw.tup ?_
            | refine Vw.agg ?_
            | refine VwL.cons ?_ ?_
            | refine VwL.nil
            | refine LeavesF.of ?_
            | refine VwF.bool ?_
            | refine VwF.int ?_
            | refine VwF.nil
            | refine VwF.sl
            | refine VwF.tup ?_
            | refine VwF.agg ?_
            | refine VwLF.cons ?_ ?_
            | refine VwLF.nil
            | (refine Req.mk ?_ ?_; (focus first | rfl | decide | exact ⟨rfl, rfl⟩ | exact ⟨rfl, by decide⟩ | exact (fun _ => rfl) | exact (fun h => nomatch h) | (simp; done) | omega | (simp [big]; done) | exact le_big (by omega) | exact lt_big (by omega))))
        all_goals try (exfalso; omega)
        refine LoopP.by (fun b : Int => (((0 : Nat) : Int) : Int) - g ≤ b ∧ b ≤ (((0 : Nat) : Int) : Int) + g + 1) (fun b => [(12, .int .u8 (dv (boxHit W H l w g ((x + 1 : Nat) : Int) ((0 : Nat) : Int) b))), (13, .int .i64 b)]) (fun _ => [.blk [.int .i64 W, .int .i64 H, .sl c l.length (ofBytes l)] false, .blk [.int .i64 0, .int .i64 0, .nilsl] false, .blk [.int .i64 W, .int .i64 H, .ms 1 3 (x + 1) 0 (x + 1) false] false, .blk (ofBytes (genL (duAt W H l w g) (x + 1))) true]) (fun b => (((0 : Nat) : Int) + g + 1 - b).toNat) ((((0 : Nat) : Int) : Int) - g) ⟨Int.le_refl _, by omega⟩ (by rw [dv_no (boxHit_none (Int.le_refl _))]; rfl) ?_
        intro b ⟨hb1, hb2⟩
        by_cases hbe : b ≤ ((0 : Nat) : Int) + g
        · generalize hd0 : dv (boxHit W H l w g ((x + 1 : Nat) : Int) ((0 : Nat) : Int) b) = d0 at *
          repeat' (first
            | (conv => whnf)
              first
              | refine Br.t ?_
              | refine Br.f ?_
              | (refine Br.decT ?_ ?_; (focus first | assumption | omega))
              | (refine Br.decF ?_ ?_; (focus first | assumption | omega))
              | refine Br.dec (fun _ => ?_) (fun _ => ?_)
              | refine Br.not ?_
              | refine Br.and ?_
              | refine Br.or ?_
              | (refine Bnd.i64 ?_ ?_ ?_; (focus omega); (focus omega))
              | (refine Idx.nat ?_ ?_; (focus omega))
              | refine Idx.nat (le_big (by omega)) ?_
              | (refine Idx.int ?_ ?_ ?_; (focus omega); (focus omega))
              | (refine Idx.int ?_ ?_ ?_; (focus decide); (focus decide))
              | refine Ifz.zero ?_
              | (refine Ifz.pos ?_ ?_; (focus omega))
              | refine Get.mk _ rfl ?_
              | refine Leaves.of ?_
              | refine Ends.of ?_
              | refine Vw.bool ?_
              | refine Vw.int ?_
              | refine Vw.nil
              | refine Vw.sl
              | refine Vw.tup ?_
              | refine Vw.agg ?_
              | refine VwL.cons ?_ ?_
              | refine VwL.nil
              | refine LeavesF.of ?_
              | refine VwF.bool ?_
              | refine VwF.int ?_
              | refine VwF.nil
              | refine VwF.sl
              | refine VwF.tup ?_
              | refine VwF.agg ?_
              | refine VwLF.cons ?_ ?_
              | refine VwLF.nil
              | (refine Req.mk ?_ ?_; (focus first | rfl | decide | exact ⟨rfl, rfl⟩ | exact ⟨rfl, by decide⟩ | exact (fun _ => rfl) | exact (fun h => nomatch h) | (simp; done) | omega | (simp [big]; done) | exact le_big (by omega) | exact lt_big (by omega))))
          all_goals try (exfalso; omega)
          refine LoopP.by (fun a : Int => (((x + 1 : Nat) : Int) : Int) - g ≤ a ∧ a ≤ (((x + 1 : Nat) : Int) : Int) + g + 1) (fun a => [(12, .int .u8 (dv (boxHit W H l w g ((x + 1 : Nat) : Int) ((0 : Nat) : Int) b ∨ rowHit W H l w g ((x + 1 : Nat) : Int) b a))), (14, .int .i64 a)]) (fun _ => [.blk [.int .i64 W, .int .i64 H, .sl c l.length (ofBytes l)] false, .blk [.int .i64 0, .int .i64 0, .nilsl] false, .blk [.int .i64 W, .int .i64 H, .ms 1 3 (x + 1) 0 (x + 1) false] false, .blk (ofBytes (genL (duAt W H l w g) (x + 1))) true]) (fun a => (((x + 1 : Nat) : Int) + g + 1 - a).toNat) ((((x + 1 : Nat) : Int) : Int) - g) ⟨Int.le_refl _, by omega⟩ (by rw [show dv (boxHit W H l w g ((x + 1 : Nat) : Int) ((0 : Nat) : Int) b ∨ rowHit W H l w g ((x + 1 : Nat) : Int) b (((x + 1 : Nat) : Int) - g)) = d0 by rw [← hd0]; exact dv_iff ⟨fun h => h.resolve_right (rowHit_none (Int.le_refl _)), .inl⟩]; rfl) ?_
          intro a ⟨ha1, ha2⟩
          by_cases hae : a ≤ ((x + 1 : Nat) : Int) + g
          · have hpx := pixel_any (c := c) h2 h4 hl a b
            by_cases hh : hitB W H l w a b
            · have hn : dv (boxHit W H l w g ((x + 1 : Nat) : Int) ((0 : Nat) : Int) b ∨ rowHit W H l w g ((x + 1 : Nat) : Int) b (a + 1)) = 255 := dv_yes (.inr ((rowHit_next ha1).2 (.inr hh)))
              rw [decide_eq_true hh.1] at hpx
              have hh2 := hh.2
              generalize pixV W H l a b = px at *
              generalize dv (boxHit W H l w g ((x + 1 : Nat) : Int) ((0 : Nat) : Int) b ∨ rowHit W H l w g ((x + 1 : Nat) : Int) b a) = d1 at *
              repeat' (first
                | (conv => whnf)
                  first
                  | refine Br.t ?_
                  | refine Br.f ?_
                  | (refine Br.decT ?_ ?_; (focus first | assumption | omega))
                  | (refine Br.decF ?_ ?_; (focus first | assumption | omega))
                  | refine Br.dec (fun _ => ?_) (fun _ => ?_)
                  | refine Br.not ?_
                  | refine Br.and ?_
                  | refine Br.or ?_
                  | (refine Bnd.i64 ?_ ?_ ?_; (focus omega); (focus omega))
                  | refine call_fun rfl rfl hpx (.inl rfl) ?_
                  | (refine Idx.nat ?_ ?_; (focus omega))
                  | refine Idx.nat (le_big (by omega)) ?_
                  | (refine Idx.int ?_ ?_ ?_; (focus omega); (focus omega))
                  | (refine Idx.int ?_ ?_ ?_; (focus decide); (focus decide))
                  | refine Ifz.zero ?_
                  | (refine Ifz.pos ?_ ?_; (focus omega))
                  | refine Get.mk _ rfl ?_
                  | refine Leaves.of ?_
                  | refine Ends.of ?_
                  | refine Vw.bool ?_
                  | refine Vw.int ?_
                  | refine Vw.nil
                  | refine Vw.sl
                  | refine Vw.tup ?_
                  | refine Vw.agg ?_
                  | refine VwL.cons ?_ ?_
                  | refine VwL.nil
                  | refine LeavesF.of ?_
                  | refine VwF.bool ?_
                  | refine VwF.int ?_
                  | refine VwF.nil
                  | refine VwF.sl
                  | refine VwF.tup ?_
                  | refine VwF.agg ?_
                  | refine VwLF.cons ?_ ?_
                  | refine VwLF.nil
                  | (refine Req.mk ?_ ?_; (focus first | rfl | decide | exact ⟨rfl, rfl⟩ | exact ⟨rfl, by decide⟩ | exact (fun _ => rfl) | exact (fun h => nomatch h) | (simp; done) | omega | (simp [big]; done) | exact le_big (by omega) | exact lt_big (by omega))))
              all_goals first | exact NextP.mk (a + 1) ⟨by omega, by omega⟩ (by omega) (by rw [hn]; rfl) | (exfalso; omega)
            · have hn : dv (boxHit W H l w g ((x + 1 : Nat) : Int) ((0 : Nat) : Int) b ∨ rowHit W H l w g ((x + 1 : Nat) : Int) b (a + 1)) = dv (boxHit W H l w g ((x + 1 : Nat) : Int) ((0 : Nat) : Int) b ∨ rowHit W H l w g ((x + 1 : Nat) : Int) b a) := dv_iff (by rw [rowHit_next ha1]; exact ⟨fun h => h.elim .inl fun h => h.elim .inr fun h => absurd h hh, fun h => h.elim .inl fun h => .inr (.inl h)⟩)
              by_cases hpb : pixB W H a b
              · have hh2 : ¬ pixV W H l a b < w := fun h => hh ⟨hpb, h⟩
                rw [decide_eq_true hpb] at hpx
                generalize pixV W H l a b = px at *
                generalize dv (boxHit W H l w g ((x + 1 : Nat) : Int) ((0 : Nat) : Int) b ∨ rowHit W H l w g ((x + 1 : Nat) : Int) b a) = d1 at *
                repeat' (first
                  | (conv => whnf)
                    first
                    | refine Br.t ?_
                    | refine Br.f ?_
                    | (refine Br.decT ?_ ?_; (focus first | assumption | omega))
                    | (refine Br.decF ?_ ?_; (focus first | assumption | omega))
                    | refine Br.dec (fun _ => ?_) (fun _ => ?_)
                    | refine Br.not ?_
                    | refine Br.and ?_
                    | refine Br.or ?_
                    | (refine Bnd.i64 ?_ ?_ ?_; (focus omega); (focus omega))
                    | refine call_fun rfl rfl hpx (.inl rfl) ?_
                    | (refine Idx.nat ?_ ?_; (focus omega))
                    | refine Idx.nat (le_big (by omega)) ?_
                    | (refine Idx.int ?_ ?_ ?_; (focus omega); (focus omega))
                    | (refine Idx.int ?_ ?_ ?_; (focus decide); (focus decide))
                    | refine Ifz.zero ?_
                    | (refine Ifz.pos ?_ ?_; (focus omega))
                    | refine Get.mk _ rfl ?_
                    | refine Leaves.of ?_
                    | refine Ends.of ?_
                    | refine Vw.bool ?_
                    | refine Vw.int ?_
                    | refine Vw.nil
                    | refine Vw.sl
                    | refine Vw.tup ?_
                    | refine Vw.agg ?_
                    | refine VwL.cons ?_ ?_
                    | refine VwL.nil
                    | refine LeavesF.of ?_
                    | refine VwF.bool ?_
                    | refine VwF.int ?_
                    | refine VwF.nil
                    | refine VwF.sl
                    | refine VwF.tup ?_
                    | refine VwF.agg ?_
                    | refine VwLF.cons ?_ ?_
                    | refine VwLF.nil
                    | (refine Req.mk ?_ ?_; (focus first | rfl | decide | exact ⟨rfl, rfl⟩ | exact ⟨rfl, by decide⟩ | exact (fun _ => rfl) | exact (fun h => nomatch h) | (simp; done) | omega | (simp [big]; done) | exact le_big (by omega) | exact lt_big (by omega))))
                all_goals first | exact NextP.mk (a + 1) ⟨by omega, by omega⟩ (by omega) (by rw [hn]; rfl) | (exfalso; omega)
              · rw [decide_eq_false hpb] at hpx
                generalize pixV W H l a b = px at *
                generalize dv (boxHit W H l w g ((x + 1 : Nat) : Int) ((0 : Nat) : Int) b ∨ rowHit W H l w g ((x + 1 : Nat) : Int) b a) = d1 at *
                repeat' (first
                  | (conv => whnf)
                    first
                    | refine Br.t ?_
                    | refine Br.f ?_
                    | (refine Br.decT ?_ ?_; (focus first | assumption | omega))
                    | (refine Br.decF ?_ ?_; (focus first | assumption | omega))
                    | refine Br.dec (fun _ => ?_) (fun _ => ?_)
                    | refine Br.not ?_
                    | refine Br.and ?_
                    | refine Br.or ?_
                    | (refine Bnd.i64 ?_ ?_ ?_; (focus omega); (focus omega))
                    | refine call_fun rfl rfl hpx (.inl rfl) ?_
                    | (refine Idx.nat ?_ ?_; (focus omega))
                    | refine Idx.nat (le_big (by omega)) ?_
                    | (refine Idx.int ?_ ?_ ?_; (focus omega); (focus omega))
                    | (refine Idx.int ?_ ?_ ?_; (focus decide); (focus decide))
                    | refine Ifz.zero ?_
                    | (refine Ifz.pos ?_ ?_; (focus omega))
                    | refine Get.mk _ rfl ?_
                    | refine Leaves.of ?_
                    | refine Ends.of ?_
                    | refine Vw.bool ?_
                    | refine Vw.int ?_
                    | refine Vw.nil
                    | refine Vw.sl
                    | refine Vw.tup ?_
                    | refine Vw.agg ?_
                    | refine VwL.cons ?_ ?_
                    | refine VwL.nil
                    | refine LeavesF.of ?_
                    | refine VwF.bool ?_
                    | refine VwF.int ?_
                    | refine VwF.nil
                    | refine VwF.sl
                    | refine VwF.tup ?_
                    | refine VwF.agg ?_
                    | refine VwLF.cons ?_ ?_
                    | refine VwLF.nil
                    | (refine Req.mk ?_ ?_; (focus first | rfl | decide | exact ⟨rfl, rfl⟩ | exact ⟨rfl, by decide⟩ | exact (fun _ => rfl) | exact (fun h => nomatch h) | (simp; done) | omega | (simp [big]; done) | exact le_big (by omega) | exact lt_big (by omega))))
                all_goals first | exact NextP.mk (a + 1) ⟨by omega, by omega⟩ (by omega) (by rw [hn]; rfl) | (exfalso; omega)
          · have hn : dv (boxHit W H l w g ((x + 1 : Nat) : Int) ((0 : Nat) : Int) (b + 1)) = dv (boxHit W H l w g ((x + 1 : Nat) : Int) ((0 : Nat) : Int) b ∨ rowHit W H l w g ((x + 1 : Nat) : Int) b a) := dv_iff (by rw [boxHit_next hb1, show a = ((x + 1 : Nat) : Int) + g + 1 by omega])
            generalize dv (boxHit W H l w g ((x + 1 : Nat) : Int) ((0 : Nat) : Int) b ∨ rowHit W H l w g ((x + 1 : Nat) : Int) b a) = d1 at *
            repeat' (first
              | (conv => whnf)
                first
                | refine Br.t ?_
                | refine Br.f ?_
                | (refine Br.decT ?_ ?_; (focus first | assumption | omega))
                | (refine Br.decF ?_ ?_; (focus first | assumption | omega))
                | refine Br.dec (fun _ => ?_) (fun _ => ?_)
                | refine Br.not ?_
                | refine Br.and ?_
                | refine Br.or ?_
                | (refine Bnd.i64 ?_ ?_ ?_; (focus omega); (focus omega))
                | (refine Idx.nat ?_ ?_; (focus omega))
                | refine Idx.nat (le_big (by omega)) ?_
                | (refine Idx.int ?_ ?_ ?_; (focus omega); (focus omega))
                | (refine Idx.int ?_ ?_ ?_; (focus decide); (focus decide))
                | refine Ifz.zero ?_
                | (refine Ifz.pos ?_ ?_; (focus omega))
                | refine Get.mk _ rfl ?_
                | refine Leaves.of ?_
                | refine Ends.of ?_
                | refine Vw.bool ?_
                | refine Vw.int ?_
                | refine Vw.nil
                | refine Vw.sl
                | refine Vw.tup ?_
                | refine Vw.agg ?_
                | refine VwL.cons ?_ ?_
                | refine VwL.nil
                | refine LeavesF.of ?_
                | refine VwF.bool ?_
                | refine VwF.int ?_
                | refine VwF.nil
                | refine VwF.sl
                | refine VwF.tup ?_
                | refine VwF.agg ?_
                | refine VwLF.cons ?_ ?_
                | refine VwLF.nil
                | (refine Req.mk ?_ ?_; (focus first | rfl | decide | exact ⟨rfl, rfl⟩ | exact ⟨rfl, by decide⟩ | exact (fun _ => rfl) | exact (fun h => nomatch h) | (simp; done) | omega | (simp [big]; done) | exact le_big (by omega) | exact lt_big (by omega))))
            all_goals first | exact NextP.mk (b + 1) ⟨by omega, by omega⟩ (by omega) (by rw [hn]; rfl) | (exfalso; omega)
        · have hq := duAt_eq (H := H) (l := l) (w := w) (g := g) (y := 0) (x := (x + 1)) hxl
          rw [show ((0 : Nat) : Int) + g + 1 = b by omega] at hq
          generalize dv (boxHit W H l w g ((x + 1 : Nat) : Int) ((0 : Nat) : Int) b) = d0 at *
          repeat' (first
            | (conv => whnf)
              first
              | refine Br.t ?_
              | refine Br.f ?_
              | (refine Br.decT ?_ ?_; (focus first | assumption | omega))
              | (refine Br.decF ?_ ?_; (focus first | assumption | omega))
              | refine Br.dec (fun _ => ?_) (fun _ => ?_)
              | refine Br.not ?_
              | refine Br.and ?_
              | refine Br.or ?_
              | (refine Bnd.i64 ?_ ?_ ?_; (focus omega); (focus omega))
              | refine Req.mk ((ofBytes_length _).trans (genL_length _ _)) ?_
              | refine Req.mk ⟨by omega, app_room ((ofBytes_length _).trans (genL_length _ _)) (by omega)⟩ ?_
              | (refine Idx.nat ?_ ?_; (focus omega))
              | refine Idx.nat (le_big (by omega)) ?_
              | (refine Idx.int ?_ ?_ ?_; (focus omega); (focus omega))
              | (refine Idx.int ?_ ?_ ?_; (focus decide); (focus decide))
              | refine Ifz.zero ?_
              | (refine Ifz.pos ?_ ?_; (focus omega))
              | refine Get.mk _ rfl ?_
              | refine Leaves.of ?_
              | refine Ends.of ?_
              | refine Vw.bool ?_
              | refine Vw.int ?_
              | refine Vw.nil
              | refine Vw.sl
              | refine Vw.tup ?_
              | refine Vw.agg ?_
              | refine VwL.cons ?_ ?_
              | refine VwL.nil
              | refine LeavesF.of ?_
              | refine VwF.bool ?_
              | refine VwF.int ?_
              | refine VwF.nil
              | refine VwF.sl
              | refine VwF.tup ?_
              | refine VwF.agg ?_
              | refine VwLF.cons ?_ ?_
              | refine VwLF.nil
              | (refine Req.mk ?_ ?_; (focus first | rfl | decide | exact ⟨rfl, rfl⟩ | exact ⟨rfl, by decide⟩ | exact (fun _ => rfl) | exact (fun h => nomatch h) | (simp; done) | omega | (simp [big]; done) | exact le_big (by omega) | exact lt_big (by omega))))
          all_goals first | exact NextP.mk ((x + 1) + 1) (by omega) (by omega) (by rw [genL_snoc (k := x + 1) (by rw [hq, Nat.zero_mul, Nat.zero_add])]; rfl) | (exfalso; omega)
      · obtain rfl : W = x + 1 := by omega
        repeat' (first
          | (conv => whnf)
            first
            | refine Br.t ?_
            | refine Br.f ?_
            | (refine Br.decT ?_ ?_; (focus first | assumption | omega))
            | (refine Br.decF ?_ ?_; (focus first | assumption | omega))
            | refine Br.dec (fun _ => ?_) (fun _ => ?_)
            | refine Br.not ?_
            | refine Br.and ?_
            | refine Br.or ?_
            | (refine Bnd.i64 ?_ ?_ ?_; (focus omega); (focus omega))
            | (refine Idx.nat ?_ ?_; (focus omega))
            | refine Idx.nat (le_big (by omega)) ?_
            | (refine Idx.int ?_ ?_ ?_; (focus omega); (focus omega))
            | (refine Idx.int ?_ ?_ ?_; (focus decide); (focus decide))
            | refine Ifz.zero ?_
            | (refine Ifz.pos ?_ ?_; (focus omega))
            | refine Get.mk _ rfl ?_
            | refine Leaves.of ?_
            | refine Ends.of ?_
            | refine Vw.bool ?_
            | refine Vw.int ?_
            | refine Vw.nil
            | refine Vw.sl
            | refine Vw.tup ?_
            | refine Vw.agg ?_
            | refine VwL.cons ?_ ?_
            | refine VwL.nil
            | refine LeavesF.of ?_
            | refine VwF.bool ?_
            | refine VwF.int ?_
            | refine VwF.nil
            | refine VwF.sl
            | refine VwF.tup ?_
            | refine VwF.agg ?_
            | refine VwLF.cons ?_ ?_
            | refine VwLF.nil
            | (refine Req.mk ?_ ?_; (focus first | rfl | decide | exact ⟨rfl, rfl⟩ | exact ⟨rfl, by decide⟩ | exact (fun _ => rfl) | exact (fun h => nomatch h) | (simp; done) | omega | (simp [big]; done) | exact le_big (by omega) | exact lt_big (by omega))))
        all_goals first | exact NextP.mk 1 (by omega) (by omega) (by simp only [Nat.zero_add, Nat.one_mul]; rfl) | (exfalso; omega)
  | succ y =>
    have hyW : (y + 1) * W ≤ W * H := by rw [Nat.mul_comm W H]; exact Nat.mul_le_mul_right W hyH
    by_cases hyl : y + 1 < H
    · repeat' (first
        | (conv => whnf)
          first
          | refine Br.t ?_
          | refine Br.f ?_
          | (refine Br.decT ?_ ?_; (focus first | assumption | omega))
          | (refine Br.decF ?_ ?_; (focus first | assumption | omega))
          | refine Br.dec (fun _ => ?_) (fun _ => ?_)
          | refine Br.not ?_
          | refine Br.and ?_
          | refine Br.or ?_
          | (refine Bnd.i64 ?_ ?_ ?_; (focus omega); (focus omega))
          | (refine Idx.nat ?_ ?_; (focus omega))
          | refine Idx.nat (le_big (by omega)) ?_
          | (refine Idx.int ?_ ?_ ?_; (focus omega); (focus omega))
          | (refine Idx.int ?_ ?_ ?_; (focus decide); (focus decide))
          | refine Ifz.zero ?_
          | (refine Ifz.pos ?_ ?_; (focus omega))
          | refine Get.mk _ rfl ?_
          | refine Leaves.of ?_
          | refine Ends.of ?_
          | refine Vw.bool ?_
          | refine Vw.int ?_
          | refine Vw.nil
          | refine Vw.sl
          | refine Vw.tup ?_
          | refine Vw.agg ?_
          | refine VwL.cons ?_ ?_
          | refine VwL.nil
          | refine LeavesF.of ?_
          | refine VwF.bool ?_
          | refine VwF.int ?_
          | refine VwF.nil
          | refine VwF.sl
          | refine VwF.tup ?_
          | refine VwF.agg ?_
          | refine VwLF.cons ?_ ?_
          | refine VwLF.nil
          | (refine Req.mk ?_ ?_; (focus first | rfl | decide | exact ⟨rfl, rfl⟩ | exact ⟨rfl, by decide⟩ | exact (fun _ => rfl) | exact (fun h => nomatch h) | (simp; done) | omega | (simp [big]; done) | exact le_big (by omega) | exact lt_big (by omega))))
      all_goals try (exfalso; omega)
      refine LoopP.by (fun x : Nat => x ≤ W) (fun x => [(11, .int .i64 (x : Nat))]) (fun x =>
        [.blk [.int .i64 W, .int .i64 H, .sl c l.length (ofBytes l)] false, .blk [.int .i64 0, .int .i64 0, .nilsl] false, .blk [.int .i64 W, .int .i64 H, .ms 1 3 ((y + 1) * W + x) 0 ((y + 1) * W + x) false] false, .blk (ofBytes (genL (duAt W H l w g) ((y + 1) * W + x))) true]) (fun x => W - x) 0 (Nat.zero_le _) rfl ?_
      intro x hxW
      have hsum : (y + 1) * W + x ≤ 2400 := by omega
      by_cases hxl : x < W
      · repeat' (first
          | (conv => whnf)
            first
            | refine Br.t ?_
            | refine Br.f ?_
            | (refine Br.decT ?_ ?_; (focus first | assumption | omega))
            | (refine Br.decF ?_ ?_; (focus first | assumption | omega))
            | refine Br.dec (fun _ => ?_) (fun _ => ?_)
            | refine Br.not ?_
            | refine Br.and ?_
            | refine Br.or ?_
            | (refine Bnd.i64 ?_ ?_ ?_; (focus omega); (focus omega))
            | (refine Bnd.u8 ?_ ?_ ?_; (focus omega); (focus omega))
            | (refine Idx.nat ?_ ?_; (focus omega))
            | refine Idx.nat (le_big (by omega)) ?_
            | (refine Idx.int ?_ ?_ ?_; (focus omega); (focus omega))
            | (refine Idx.int ?_ ?_ ?_; (focus decide); (focus decide))
            | refine Ifz.zero ?_
            | (refine Ifz.pos ?_ ?_; (focus omega))
            | refine Get.mk _ rfl ?_
            | refine Leaves.of ?_
            | refine Ends.of ?_
            | refine Vw.bool ?_
            | refine Vw.int ?_
            | refine Vw.nil
            | refine Vw.sl
            | refine Vw.tup ?_
            | refine Vw.agg ?_
            | refine VwL.cons ?_ ?_
            | refine VwL.nil
            | refine LeavesF.of ?_
            | refine VwF.bool ?_
            | refine VwF.int ?_
            | refine VwF.nil
            | refine VwF.sl
            | refine VwF.tup ?_
            | refine VwF.agg ?_
            | refine VwLF.cons ?_ ?_
            | refine VwLF.nil
            | (refine Req.mk ?_ ?_; (focus first | rfl | decide | exact ⟨rfl, rfl⟩ | exact ⟨rfl, by decide⟩ | exact (fun _ => rfl) | exact (fun h => nomatch h) | (simp; done) | omega | (simp [big]; done) | exact le_big (by omega) | exact lt_big (by omega))))
        all_goals try (exfalso; omega)
        refine LoopP.by (fun b : Int => (((y + 1 : Nat) : Int) : Int) - g ≤ b ∧ b ≤ (((y + 1 : Nat) : Int) : Int) + g + 1) (fun b => [(12, .int .u8 (dv (boxHit W H l w g ((x : Nat) : Int) ((y + 1 : Nat) : Int) b))), (13, .int .i64 b)]) (fun _ => [.blk [.int .i64 W, .int .i64 H, .sl c l.length (ofBytes l)] false, .blk [.int .i64 0, .int .i64 0, .nilsl] false, .blk [.int .i64 W, .int .i64 H, .ms 1 3 ((y + 1) * W + x) 0 ((y + 1) * W + x) false] false, .blk (ofBytes (genL (duAt W H l w g) ((y + 1) * W + x))) true]) (fun b => (((y + 1 : Nat) : Int) + g + 1 - b).toNat) ((((y + 1 : Nat) : Int) : Int) - g) ⟨Int.le_refl _, by omega⟩ (by rw [dv_no (boxHit_none (Int.le_refl _))]; rfl) ?_
        intro b ⟨hb1, hb2⟩
        by_cases hbe : b ≤ ((y + 1 : Nat) : Int) + g
        · generalize hd0 : dv (boxHit W H l w g ((x : Nat) : Int) ((y + 1 : Nat) : Int) b) = d0 at *
          repeat' (first
            | (conv => whnf)
              first
              | refine Br.t ?_
              | refine Br.f ?_
              | (refine Br.decT ?_ ?_; (focus first | assumption | omega))
              | (refine Br.decF ?_ ?_; (focus first | assumption | omega))
              | refine Br.dec (fun _ => ?_) (fun _ => ?_)
              | refine Br.not ?_
              | refine Br.and ?_
              | refine Br.or ?_
              | (refine Bnd.i64 ?_ ?_ ?_; (focus omega); (focus omega))
              | (refine Idx.nat ?_ ?_; (focus omega))
              | refine Idx.nat (le_big (by omega)) ?_
              | (refine Idx.int ?_ ?_ ?_; (focus omega); (focus omega))
              | (refine Idx.int ?_ ?_ ?_; (focus decide); (focus decide))
              | refine Ifz.zero ?_
              | (refine Ifz.pos ?_ ?_; (focus omega))
              | refine Get.mk _ rfl ?_
              | refine Leaves.of ?_
              | refine Ends.of ?_
              | refine Vw.bool ?_
              | refine Vw.int ?_
              | refine Vw.nil
              | refine Vw.sl
              | refine Vw.tup ?_
              | refine Vw.agg ?_
              | refine VwL.cons ?_ ?_
              | refine VwL.nil
              | refine LeavesF.of ?_
              | refine VwF.bool ?_
              | refine VwF.int ?_
              | refine VwF.nil
              | refine VwF.sl
              | refine VwF.tup ?_
              | refine VwF.agg ?_
              | refine VwLF.cons ?_ ?_
              | refine VwLF.nil
              | (refine Req.mk ?_ ?_; (focus first | rfl | decide | exact ⟨rfl, rfl⟩ | exact ⟨rfl, by decide⟩ | exact (fun _ => rfl) | exact (fun h => nomatch h) | (simp; done) | omega | (simp [big]; done) | exact le_big (by omega) | exact lt_big (by omega))))
          all_goals try (exfalso; omega)
          refine LoopP.by (fun a : Int => (((x : Nat) : Int) : Int) - g ≤ a ∧ a ≤ (((x : Nat) : Int) : Int) + g + 1) (fun a => [(12, .int .u8 (dv (boxHit W H l w g ((x : Nat) : Int) ((y + 1 : Nat) : Int) b ∨ rowHit W H l w g ((x : Nat) : Int) b a))), (14, .int .i64 a)]) (fun _ => [.blk [.int .i64 W, .int .i64 H, .sl c l.length (ofBytes l)] false, .blk [.int .i64 0, .int .i64 0, .nilsl] false, .blk [.int .i64 W, .int .i64 H, .ms 1 3 ((y + 1) * W + x) 0 ((y + 1) * W + x) false] false, .blk (ofBytes (genL (duAt W H l w g) ((y + 1) * W + x))) true]) (fun a => (((x : Nat) : Int) + g + 1 - a).toNat) ((((x : Nat) : Int) : Int) - g) ⟨Int.le_refl _, by omega⟩ (by rw [show dv (boxHit W H l w g ((x : Nat) : Int) ((y + 1 : Nat) : Int) b ∨ rowHit W H l w g ((x : Nat) : Int) b (((x : Nat) : Int) - g)) = d0 by rw [← hd0]; exact dv_iff ⟨fun h => h.resolve_right (rowHit_none (Int.le_refl _)), .inl⟩]; rfl) ?_
          intro a ⟨ha1, ha2⟩
          by_cases hae : a ≤ ((x : Nat) : Int) + g
          · have hpx := pixel_any (c := c) h2 h4 hl a b
            by_cases hh : hitB W H l w a b
            · have hn : dv (boxHit W H l w g ((x : Nat) : Int) ((y + 1 : Nat) : Int) b ∨ rowHit W H l w g ((x : Nat) : Int) b (a + 1)) = 255 := dv_yes (.inr ((rowHit_next ha1).2 (.inr hh)))
              rw [decide_eq_true hh.1] at hpx
              have hh2 := hh.2
              generalize pixV W H l a b = px at *
              generalize dv (boxHit W H l w g ((x : Nat) : Int) ((y + 1 : Nat) : Int) b ∨ rowHit W H l w g ((x : Nat) : Int) b a) = d1 at *
              repeat' (first
                | (conv => whnf)
                  first
                  | refine Br.t ?_
                  | refine Br.f ?_
                  | (refine Br.decT ?_ ?_; (focus first | assumption | omega))
                  | (refine Br.decF ?_ ?_; (focus first | assumption | omega))
                  | refine Br.dec (fun _ => ?_) (fun _ => ?_)
                  | refine Br.not ?_
                  | refine Br.and ?_
                  | refine Br.or ?_
                  | (refine Bnd.i64 ?_ ?_ ?_; (focus omega); (focus omega))
                  | refine call_fun rfl rfl hpx (.inl rfl) ?_
                  | (refine Idx.nat ?_ ?_; (focus omega))
                  | refine Idx.nat (le_big (by omega)) ?_
                  | (refine Idx.int ?_ ?_ ?_; (focus omega); (focus omega))
                  | (refine Idx.int ?_ ?_ ?_; (focus decide); (focus decide))
                  | refine Ifz.zero ?_
                  | (refine Ifz.pos ?_ ?_; (focus omega))
                  | refine Get.mk _ rfl ?_
                  | refine Leaves.of ?_
                  | refine Ends.of ?_
                  | refine Vw.bool ?_
                  | refine Vw.int ?_
                  | refine Vw.nil
                  | refine Vw.sl
                  | refine Vw.tup ?_
                  | refine Vw.agg ?_
                  | refine VwL.cons ?_ ?_
                  | refine VwL.nil
                  | refine LeavesF.of ?_
                  | refine VwF.bool ?_
                  | refine VwF.int ?_
                  | refine VwF.nil
                  | refine VwF.sl
                  | refine VwF.tup ?_
                  | refine VwF.agg ?_
                  | refine VwLF.cons ?_ ?_
                  | refine VwLF.nil
                  | (refine Req.mk ?_ ?_; (focus first | rfl | decide | exact ⟨rfl, rfl⟩ | exact ⟨rfl, by decide⟩ | exact (fun _ => rfl) | exact (fun h => nomatch h) | (simp; done) | omega | (simp [big]; done) | exact le_big (by omega) | exact lt_big (by omega))))
              all_goals first | exact NextP.mk (a + 1) ⟨by omega, by omega⟩ (by omega) (by rw [hn]; rfl) | (exfalso; omega)
            · have hn : dv (boxHit W H l w g ((x : Nat) : Int) ((y + 1 : Nat) : Int) b ∨ rowHit W H l w g ((x : Nat) : Int) b (a + 1)) = dv (boxHit W H l w g ((x : Nat) : Int) ((y + 1 : Nat) : Int) b ∨ rowHit W H l w g ((x : Nat) : Int) b a) := dv_iff (by rw [rowHit_next ha1]; exact ⟨fun h => h.elim .inl fun h => h.elim .inr fun h => absurd h hh, fun h => h.elim .inl fun h => .inr (.inl h)⟩)
              by_cases hpb : pixB W H a b
              · have hh2 : ¬ pixV W H l a b < w := fun h => hh ⟨hpb, h⟩
                rw [decide_eq_true hpb] at hpx
                generalize pixV W H l a b = px at *
                generalize dv (boxHit W H l w g ((x : Nat) : Int) ((y + 1 : Nat) : Int) b ∨ rowHit W H l w g ((x : Nat) : Int) b a) = d1 at *
                repeat' (first
                  | (conv => whnf)
                    first
                    | refine Br.t ?_
                    | refine Br.f ?_
                    | (refine Br.decT ?_ ?_; (focus first | assumption | omega))
                    | (refine Br.decF ?_ ?_; (focus first | assumption | omega))
                    | refine Br.dec (fun _ => ?_) (fun _ => ?_)
                    | refine Br.not ?_
                    | refine Br.and ?_
                    | refine Br.or ?_
                    | (refine Bnd.i64 ?_ ?_ ?_; (focus omega); (focus omega))
                    | refine call_fun rfl rfl hpx (.inl rfl) ?_
                    | (refine Idx.nat ?_ ?_; (focus omega))
                    | refine Idx.nat (le_big (by omega)) ?_
                    | (refine Idx.int ?_ ?_ ?_; (focus omega); (focus omega))
                    | (refine Idx.int ?_ ?_ ?_; (focus decide); (focus decide))
                    | refine Ifz.zero ?_
                    | (refine Ifz.pos ?_ ?_; (focus omega))
                    | refine Get.mk _ rfl ?_
                    | refine Leaves.of ?_
                    | refine Ends.of ?_
                    | refine Vw.bool ?_
                    | refine Vw.int ?_
                    | refine Vw.nil
                    | refine Vw.sl
                    | refine Vw.tup ?_
                    | refine Vw.agg ?_
                    | refine VwL.cons ?_ ?_
                    | refine VwL.nil
                    | refine LeavesF.of ?_
                    | refine VwF.bool ?_
                    | refine VwF.int ?_
                    | refine VwF.nil
                    | refine VwF.sl
                    | refine VwF.tup ?_
                    | refine VwF.agg ?_
                    | refine VwLF.cons ?_ ?_
                    | refine VwLF.nil
                    | (refine Req.mk ?_ ?_; (focus first | rfl | decide | exact ⟨rfl, rfl⟩ | exact ⟨rfl, by decide⟩ | exact (fun _ => rfl) | exact (fun h => nomatch h) | (simp; done) | omega | (simp [big]; done) | exact le_big (by omega) | exact lt_big (by omega))))
                all_goals first | exact NextP.mk (a + 1) ⟨by omega, by omega⟩ (by omega) (by rw [hn]; rfl) | (exfalso; omega)
              · rw [decide_eq_false hpb] at hpx
                generalize pixV W H l a b = px at *
                generalize dv (boxHit W H l w g ((x : Nat) : Int) ((y + 1 : Nat) : Int) b ∨ rowHit W H l w g ((x : Nat) : Int) b a) = d1 at *
                repeat' (first
                  | (conv => whnf)
                    first
                    | refine Br.t ?_
                    | refine Br.f ?_
                    | (refine Br.decT ?_ ?_; (focus first | assumption | omega))
                    | (refine Br.decF ?_ ?_; (focus first | assumption | omega))
                    | refine Br.dec (fun _ => ?_) (fun _ => ?_)
                    | refine Br.not ?_
                    | refine Br.and ?_
                    | refine Br.or ?_
                    | (refine Bnd.i64 ?_ ?_ ?_; (focus omega); (focus omega))
                    | refine call_fun rfl rfl hpx (.inl rfl) ?_
                    | (refine Idx.nat ?_ ?_; (focus omega))
                    | refine Idx.nat (le_big (by omega)) ?_
                    | (refine Idx.int ?_ ?_ ?_; (focus omega); (focus omega))
                    | (refine Idx.int ?_ ?_ ?_; (focus decide); (focus decide))
                    | refine Ifz.zero ?_
                    | (refine Ifz.pos ?_ ?_; (focus omega))
                    | refine Get.mk _ rfl ?_
                    | refine Leaves.of ?_
                    | refine Ends.of ?_
                    | refine Vw.bool ?_
                    | refine Vw.int ?_
                    | refine Vw.nil
                    | refine Vw.sl
                    | refine Vw.tup ?_
                    | refine Vw.agg ?_
                    | refine VwL.cons ?_ ?_
                    | refine VwL.nil
                    | refine LeavesF.of ?_
                    | refine VwF.bool ?_
                    | refine VwF.int ?_
                    | refine VwF.nil
                    | refine VwF.sl
                    | refine VwF.tup ?_
                    | refine VwF.agg ?_
                    | refine VwLF.cons ?_ ?_
                    | refine VwLF.nil
                    | (refine Req.mk ?_ ?_; (focus first | rfl | decide | exact ⟨rfl, rfl⟩ | exact ⟨rfl, by decide⟩ | exact (fun _ => rfl) | exact (fun h => nomatch h) | (simp; done) | omega | (simp [big]; done) | exact le_big (by omega) | exact lt_big (by omega))))
                all_goals first | exact NextP.mk (a + 1) ⟨by omega, by omega⟩ (by omega) (by rw [hn]; rfl) | (exfalso; omega)
          · have hn : dv (boxHit W H l w g ((x : Nat) : Int) ((y + 1 : Nat) : Int) (b + 1)) = dv (boxHit W H l w g ((x : Nat) : Int) ((y + 1 : Nat) : Int) b ∨ rowHit W H l w g ((x : Nat) : Int) b a) := dv_iff (by rw [boxHit_next hb1, show a = ((x : Nat) : Int) + g + 1 by omega])
            generalize dv (boxHit W H l w g ((x : Nat) : Int) ((y + 1 : Nat) : Int) b ∨ rowHit W H l w g ((x : Nat) : Int) b a) = d1 at *
            repeat' (first
              | (conv => whnf)
                first
                | refine Br.t ?_
                | refine Br.f ?_
                | (refine Br.decT ?_ ?_; (focus first | assumption | omega))
                | (refine Br.decF ?_ ?_; (focus first | assumption | omega))
                | refine Br.dec (fun _ => ?_) (fun _ => ?_)
                | refine Br.not ?_
                | refine Br.and ?_
                | refine Br.or ?_
                | (refine Bnd.i64 ?_ ?_ ?_; (focus omega); (focus omega))
                | (refine Idx.nat ?_ ?_; (focus omega))
                | refine Idx.nat (le_big (by omega)) ?_
                | (refine Idx.int ?_ ?_ ?_; (focus omega); (focus omega))
                | (refine Idx.int ?_ ?_ ?_; (focus decide); (focus decide))
                | refine Ifz.zero ?_
                | (refine Ifz.pos ?_ ?_; (focus omega))
                | refine Get.mk _ rfl ?_
                | refine Leaves.of ?_
                | refine Ends.of ?_
                | refine Vw.bool ?_
                | refine Vw.int ?_
                | refine Vw.nil
                | refine Vw.sl
                | refine Vw.tup ?_
                | refine Vw.agg ?_
                | refine VwL.cons ?_ ?_
                | refine VwL.nil
                | refine LeavesF.of ?_
                | refine VwF.bool ?_
                | refine VwF.int ?_
                | refine VwF.nil
                | refine VwF.sl
                | refine VwF.tup ?_
                | refine VwF.agg ?_
                | refine VwLF.cons ?_ ?_
                | refine VwLF.nil
                | (refine Req.mk ?_ ?_; (focus first | rfl | decide | exact ⟨rfl, rfl⟩ | exact ⟨rfl, by decide⟩ | exact (fun _ => rfl) | exact (fun h => nomatch h) | (simp; done) | omega | (simp [big]; done) | exact le_big (by omega) | exact lt_big (by omega))))
            all_goals first | exact NextP.mk (b + 1) ⟨by omega, by omega⟩ (by omega) (by rw [hn]; rfl) | (exfalso; omega)
        · have hq := duAt_eq (H := H) (l := l) (w := w) (g := g) (y := (y + 1)) (x := x) hxl
          rw [show (((y + 1) : Nat) : Int) + g + 1 = b by omega] at hq
          generalize dv (boxHit W H l w g ((x : Nat) : Int) ((y + 1 : Nat) : Int) b) = d0 at *
          repeat' (first
            | (conv => whnf)
              first
              | refine Br.t ?_
              | refine Br.f ?_
              | (refine Br.decT ?_ ?_; (focus first | assumption | omega))
              | (refine Br.decF ?_ ?_; (focus first | assumption | omega))
              | refine Br.dec (fun _ => ?_) (fun _ => ?_)
              | refine Br.not ?_
              | refine Br.and ?_
              | refine Br.or ?_
              | (refine Bnd.i64 ?_ ?_ ?_; (focus omega); (focus omega))
              | refine Req.mk ((ofBytes_length _).trans (genL_length _ _)) ?_
              | refine Req.mk ⟨by omega, app_room ((ofBytes_length _).trans (genL_length _ _)) (by omega)⟩ ?_
              | (refine Idx.nat ?_ ?_; (focus omega))
              | refine Idx.nat (le_big (by omega)) ?_
              | (refine Idx.int ?_ ?_ ?_; (focus omega); (focus omega))
              | (refine Idx.int ?_ ?_ ?_; (focus decide); (focus decide))
              | refine Ifz.zero ?_
              | (refine Ifz.pos ?_ ?_; (focus omega))
              | refine Get.mk _ rfl ?_
              | refine Leaves.of ?_
              | refine Ends.of ?_
              | refine Vw.bool ?_
              | refine Vw.int ?_
              | refine Vw.nil
              | refine Vw.sl
              | refine Vw.tup ?_
              | refine Vw.agg ?_
              | refine VwL.cons ?_ ?_
              | refine VwL.nil
              | refine LeavesF.of ?_
              | refine VwF.bool ?_
              | refine VwF.int ?_
              | refine VwF.nil
              | refine VwF.sl
              | refine VwF.tup ?_
              | refine VwF.agg ?_
              | refine VwLF.cons ?_ ?_
              | refine VwLF.nil
              | (refine Req.mk ?_ ?_; (focus first | rfl | decide | exact ⟨rfl, rfl⟩ | exact ⟨rfl, by decide⟩ | exact (fun _ => rfl) | exact (fun h => nomatch h) | (simp; done) | omega | (simp [big]; done) | exact le_big (by omega) | exact lt_big (by omega))))
          all_goals first | exact NextP.mk (x + 1) (by omega) (by omega) (by rw [genL_snoc hq]; rfl) | (exfalso; omega)
      · obtain rfl : x = W := by omega
        repeat' (first
          | (conv => whnf)
            first
            | refine Br.t ?_
            | refine Br.f ?_
            | (refine Br.decT ?_ ?_; (focus first | assumption | omega))
            | (refine Br.decF ?_ ?_; (focus first | assumption | omega))
            | refine Br.dec (fun _ => ?_) (fun _ => ?_)
            | refine Br.not ?_
            | refine Br.and ?_
            | refine Br.or ?_
            | (refine Bnd.i64 ?_ ?_ ?_; (focus omega); (focus omega))
            | (refine Idx.nat ?_ ?_; (focus omega))
            | refine Idx.nat (le_big (by omega)) ?_
            | (refine Idx.int ?_ ?_ ?_; (focus omega); (focus omega))
            | (refine Idx.int ?_ ?_ ?_; (focus decide); (focus decide))
            | refine Ifz.zero ?_
            | (refine Ifz.pos ?_ ?_; (focus omega))
            | refine Get.mk _ rfl ?_
            | refine Leaves.of ?_
            | refine Ends.of ?_
            | refine Vw.bool ?_
            | refine Vw.int ?_
            | refine Vw.nil
            | refine Vw.sl
            | refine Vw.tup ?_
            | refine Vw.agg ?_
            | refine VwL.cons ?_ ?_
            | refine VwL.nil
            | refine LeavesF.of ?_
            | refine VwF.bool ?_
            | refine VwF.int ?_
            | refine VwF.nil
            | refine VwF.sl
            | refine VwF.tup ?_
            | refine VwF.agg ?_
            | refine VwLF.cons ?_ ?_
            | refine VwLF.nil
            | (refine Req.mk ?_ ?_; (focus first | rfl | decide | exact ⟨rfl, rfl⟩ | exact ⟨rfl, by decide⟩ | exact (fun _ => rfl) | exact (fun h => nomatch h) | (simp; done) | omega | (simp [big]; done) | exact le_big (by omega) | exact lt_big (by omega))))
        all_goals first | exact NextP.mk (y + 1 + 1) (by omega) (by omega) (by rw [show (y + 1) * x + x = (y + 1 + 1) * x by rw [Nat.add_mul (y + 1) 1, Nat.one_mul]]; rfl) | (exfalso; omega)
    · have e : (y + 1) * W = W * H := by rw [show y + 1 = H by omega, Nat.mul_comm]
      repeat' (first
        | (conv => whnf)
          first
          | refine Br.t ?_
          | refine Br.f ?_
          | (refine Br.decT ?_ ?_; (focus first | assumption | omega))
          | (refine Br.decF ?_ ?_; (focus first | assumption | omega))
          | refine Br.dec (fun _ => ?_) (fun _ => ?_)
          | refine Br.not ?_
          | refine Br.and ?_
          | refine Br.or ?_
          | (refine Bnd.i64 ?_ ?_ ?_; (focus omega); (focus omega))
          | (refine Vw.bytes rfl (genL_length _ _).symm (genL_length _ _).symm ?_ rfl; (focus rw [e]))
          | (refine Idx.nat ?_ ?_; (focus omega))
          | refine Idx.nat (le_big (by omega)) ?_
          | (refine Idx.int ?_ ?_ ?_; (focus omega); (focus omega))
          | (refine Idx.int ?_ ?_ ?_; (focus decide); (focus decide))
          | refine Ifz.zero ?_
          | (refine Ifz.pos ?_ ?_; (focus omega))
          | refine Get.mk _ rfl ?_
          | refine Leaves.of ?_
          | refine Ends.of ?_
          | refine Vw.bool ?_
          | refine Vw.int ?_
          | refine Vw.nil
          | refine Vw.sl
          | refine Vw.tup ?_
          | refine Vw.agg ?_
          | refine VwL.cons ?_ ?_
          | refine VwL.nil
          | refine LeavesF.of ?_
          | refine VwF.bool ?_
          | refine VwF.int ?_
          | refine VwF.nil
          | refine VwF.sl
          | refine VwF.tup ?_
          | refine VwF.agg ?_
          | refine VwLF.cons ?_ ?_
          | refine VwLF.nil
          | (refine Req.mk ?_ ?_; (focus first | rfl | decide | exact ⟨rfl, rfl⟩ | exact ⟨rfl, by decide⟩ | exact (fun _ => rfl) | exact (fun h => nomatch h) | (simp; done) | omega | (simp [big]; done) | exact le_big (by omega) | exact lt_big (by omega))))
      all_goals first | rfl | (exfalso; omega)

set_option maxRecDepth 100000 in
set_option maxHeartbeats 20000000 in
theorem dust_bad {w h : Int} {c : Bool} {l : List UInt8} (hck : ¬ checkL w h l.length = 0) (b g : Int) :
    Fun F md 33 [frV w h c l, .int .i64 b, .int .i64 g] (.tup [frV 0 0 true [], .int .i64 (checkL w h l.length)]) := by
  refine fun_of rfl rfl ?_
  repeat' (first
    | (conv => whnf)
      first
      | refine Br.t ?_
      | refine Br.f ?_
      | (refine Br.decT ?_ ?_; (focus first | assumption | omega))
      | (refine Br.decF ?_ ?_; (focus first | assumption | omega))
      | refine Br.dec (fun _ => ?_) (fun _ => ?_)
      | refine Br.not ?_
      | refine Br.and ?_
      | refine Br.or ?_
      | (refine Bnd.i64 ?_ ?_ ?_; (focus omega); (focus omega))
      | refine call_fun rfl rfl (out_any _ _ _) (.inl rfl) ?_
      | refine call_fun rfl rfl (check_any _ _ _ _) (.inl rfl) ?_
      | (refine Idx.nat ?_ ?_; (focus omega))
      | refine Idx.nat (le_big (by omega)) ?_
      | (refine Idx.int ?_ ?_ ?_; (focus omega); (focus omega))
      | (refine Idx.int ?_ ?_ ?_; (focus decide); (focus decide))
      | refine Ifz.zero ?_
      | (refine Ifz.pos ?_ ?_; (focus omega))
      | refine Get.mk _ rfl ?_
      | refine Leaves.of ?_
      | refine Ends.of ?_
      | refine Vw.bool ?_
      | refine Vw.int ?_
      | refine Vw.nil
      | refine Vw.sl
      | refine Vw.tup ?_
      | refine Vw.agg ?_
      | refine VwL.cons ?_ ?_
      | refine VwL.nil
      | refine LeavesF.of ?_
      | refine VwF.bool ?_
      | refine VwF.int ?_
      | refine VwF.nil
      | refine VwF.sl
      | refine VwF.tup ?_
      | refine VwF.agg ?_
      | refine VwLF.cons ?_ ?_
      | refine VwLF.nil
      | (refine Req.mk ?_ ?_; (focus first | rfl | decide | exact ⟨rfl, rfl⟩ | exact ⟨rfl, by decide⟩ | exact (fun _ => rfl) | exact (fun h => nomatch h) | (simp; done) | omega | (simp [big]; done) | exact le_big (by omega) | exact lt_big (by omega))))
  all_goals rfl
set_option maxRecDepth 100000 in
set_option maxHeartbeats 20000000 in
theorem dustR_bad {w h : Int} {c : Bool} {l : List UInt8} (hck : ¬ checkL w h l.length = 0) (b g : Int) :
    Fun F md 34 [frV w h c l, .int .i64 b, .int .i64 g] (.tup [frV 0 0 true [], .int .i64 (checkL w h l.length)]) := by
  refine fun_of rfl rfl ?_
  repeat' (first
    | (conv => whnf)
      first
      | refine Br.t ?_
      | refine Br.f ?_
      | (refine Br.decT ?_ ?_; (focus first | assumption | omega))
      | (refine Br.decF ?_ ?_; (focus first | assumption | omega))
      | refine Br.dec (fun _ => ?_) (fun _ => ?_)
      | refine Br.not ?_
      | refine Br.and ?_
      | refine Br.or ?_
      | (refine Bnd.i64 ?_ ?_ ?_; (focus omega); (focus omega))
      | refine call_fun rfl rfl (in_any _ _ _) (.inl rfl) ?_
      | refine call_fun rfl rfl (checkR_any _ _ _ _) (.inl rfl) ?_
      | (refine Idx.nat ?_ ?_; (focus omega))
      | refine Idx.nat (le_big (by omega)) ?_
      | (refine Idx.int ?_ ?_ ?_; (focus omega); (focus omega))
      | (refine Idx.int ?_ ?_ ?_; (focus decide); (focus decide))
      | refine Ifz.zero ?_
      | (refine Ifz.pos ?_ ?_; (focus omega))
      | refine Get.mk _ rfl ?_
      | refine Leaves.of ?_
      | refine Ends.of ?_
      | refine Vw.bool ?_
      | refine Vw.int ?_
      | refine Vw.nil
      | refine Vw.sl
      | refine Vw.tup ?_
      | refine Vw.agg ?_
      | refine VwL.cons ?_ ?_
      | refine VwL.nil
      | refine LeavesF.of ?_
      | refine VwF.bool ?_
      | refine VwF.int ?_
      | refine VwF.nil
      | refine VwF.sl
      | refine VwF.tup ?_
      | refine VwF.agg ?_
      | refine VwLF.cons ?_ ?_
      | refine VwLF.nil
      | (refine Req.mk ?_ ?_; (focus first | rfl | decide | exact ⟨rfl, rfl⟩ | exact ⟨rfl, by decide⟩ | exact (fun _ => rfl) | exact (fun h => nomatch h) | (simp; done) | omega | (simp [big]; done) | exact le_big (by omega) | exact lt_big (by omega))))
  all_goals rfl
set_option maxRecDepth 100000 in
set_option maxHeartbeats 20000000 in
theorem dust_far {w h : Int} {c : Bool} {l : List UInt8} (hck : checkL w h l.length = 0) {b g : Int} (hd : ¬ (0 ≤ b ∧ b ≤ 256 ∧ 0 ≤ g ∧ g ≤ 12)) :
    Fun F md 33 [frV w h c l, .int .i64 b, .int .i64 g] (.tup [frV 0 0 true [], .int .i64 7]) := by
  refine fun_of rfl rfl ?_
  repeat' (first
    | (conv => whnf)
      first
      | refine Br.t ?_
      | refine Br.f ?_
      | (refine Br.decT ?_ ?_; (focus first | assumption | omega))
      | (refine Br.decF ?_ ?_; (focus first | assumption | omega))
      | refine Br.dec (fun _ => ?_) (fun _ => ?_)
      | refine Br.not ?_
      | refine Br.and ?_
      | refine Br.or ?_
      | (refine Bnd.i64 ?_ ?_ ?_; (focus omega); (focus omega))
      | refine call_fun rfl rfl (out_any _ _ _) (.inl rfl) ?_
      | refine call_fun rfl rfl (check_any _ _ _ _) (.inl rfl) ?_
      | (refine Idx.nat ?_ ?_; (focus omega))
      | refine Idx.nat (le_big (by omega)) ?_
      | (refine Idx.int ?_ ?_ ?_; (focus omega); (focus omega))
      | (refine Idx.int ?_ ?_ ?_; (focus decide); (focus decide))
      | refine Ifz.zero ?_
      | (refine Ifz.pos ?_ ?_; (focus omega))
      | refine Get.mk _ rfl ?_
      | refine Leaves.of ?_
      | refine Ends.of ?_
      | refine Vw.bool ?_
      | refine Vw.int ?_
      | refine Vw.nil
      | refine Vw.sl
      | refine Vw.tup ?_
      | refine Vw.agg ?_
      | refine VwL.cons ?_ ?_
      | refine VwL.nil
      | refine LeavesF.of ?_
      | refine VwF.bool ?_
      | refine VwF.int ?_
      | refine VwF.nil
      | refine VwF.sl
      | refine VwF.tup ?_
      | refine VwF.agg ?_
      | refine VwLF.cons ?_ ?_
      | refine VwLF.nil
      | (refine Req.mk ?_ ?_; (focus first | rfl | decide | exact ⟨rfl, rfl⟩ | exact ⟨rfl, by decide⟩ | exact (fun _ => rfl) | exact (fun h => nomatch h) | (simp; done) | omega | (simp [big]; done) | exact le_big (by omega) | exact lt_big (by omega))))
  all_goals first | rfl | omega
set_option maxRecDepth 100000 in
set_option maxHeartbeats 20000000 in
theorem dustR_far {w h : Int} {c : Bool} {l : List UInt8} (hck : checkL w h l.length = 0) {b g : Int} (hd : ¬ (0 ≤ b ∧ b ≤ 256 ∧ 0 ≤ g ∧ g ≤ 12)) :
    Fun F md 34 [frV w h c l, .int .i64 b, .int .i64 g] (.tup [frV 0 0 true [], .int .i64 7]) := by
  refine fun_of rfl rfl ?_
  repeat' (first
    | (conv => whnf)
      first
      | refine Br.t ?_
      | refine Br.f ?_
      | (refine Br.decT ?_ ?_; (focus first | assumption | omega))
      | (refine Br.decF ?_ ?_; (focus first | assumption | omega))
      | refine Br.dec (fun _ => ?_) (fun _ => ?_)
      | refine Br.not ?_
      | refine Br.and ?_
      | refine Br.or ?_
      | (refine Bnd.i64 ?_ ?_ ?_; (focus omega); (focus omega))
      | refine call_fun rfl rfl (in_any _ _ _) (.inl rfl) ?_
      | refine call_fun rfl rfl (checkR_any _ _ _ _) (.inl rfl) ?_
      | (refine Idx.nat ?_ ?_; (focus omega))
      | refine Idx.nat (le_big (by omega)) ?_
      | (refine Idx.int ?_ ?_ ?_; (focus omega); (focus omega))
      | (refine Idx.int ?_ ?_ ?_; (focus decide); (focus decide))
      | refine Ifz.zero ?_
      | (refine Ifz.pos ?_ ?_; (focus omega))
      | refine Get.mk _ rfl ?_
      | refine Leaves.of ?_
      | refine Ends.of ?_
      | refine Vw.bool ?_
      | refine Vw.int ?_
      | refine Vw.nil
      | refine Vw.sl
      | refine Vw.tup ?_
      | refine Vw.agg ?_
      | refine VwL.cons ?_ ?_
      | refine VwL.nil
      | refine LeavesF.of ?_
      | refine VwF.bool ?_
      | refine VwF.int ?_
      | refine VwF.nil
      | refine VwF.sl
      | refine VwF.tup ?_
      | refine VwF.agg ?_
      | refine VwLF.cons ?_ ?_
      | refine VwLF.nil
      | (refine Req.mk ?_ ?_; (focus first | rfl | decide | exact ⟨rfl, rfl⟩ | exact ⟨rfl, by decide⟩ | exact (fun _ => rfl) | exact (fun h => nomatch h) | (simp; done) | omega | (simp [big]; done) | exact le_big (by omega) | exact lt_big (by omega))))
  all_goals first | rfl | omega

end Go.Dr.T
