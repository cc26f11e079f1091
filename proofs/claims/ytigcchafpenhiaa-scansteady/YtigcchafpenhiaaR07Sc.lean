/- Chapter 07: by how much a shift differs; the least of a list of shifts. -/
import Derived.Test.YtigcchafpenhiaaR07Sb
namespace Go.Dr.T


set_option maxRecDepth 100000 in
set_option maxHeartbeats 20000000 in
theorem differs_in {W H : Nat} {c c' : Bool} {l l' : List UInt8} (h2 : W ≤ 48) (h4 : H ≤ 48) (hl : l.length = W * H) (hl' : l'.length = W * H) {x0 y0 p q : Nat} (hx : x0 + p < W) (hy : y0 + q < H) {dx dy : Int} {px py : Nat → Int}
    (hpx : ∀ i ≤ p, IntKind.i64.wrap (((x0 + i : Nat) : Int) + dx) = px i) (hpy : ∀ j ≤ q, IntKind.i64.wrap (((y0 + j : Nat) : Int) + dy) = py j) (hall : ∀ i ≤ p, ∀ j ≤ q, pixB W H (px i) (py j)) :
    Fun F md 27 [frV W H c l, frV W H c' l', .agg [.int .i64 x0, .int .i64 ((x0 + p : Nat) : Int), .int .i64 y0, .int .i64 ((y0 + q : Nat) : Int)], .int .i64 dx, .int .i64 dy] (.tup [.int .i64 (allS (tS W H l l' x0 y0 px py) (p + 1) (q + 1)), .bool true]) := by
  have h27 := allS_bound (t := tS W H l l' x0 y0 px py) (w := p + 1) (by omega) (fun i j => tS_range W H l l' x0 y0 px py i j)
  have hrow := fun (j : Nat) => rowA_bound (t := fun i => tS W H l l' x0 y0 px py i j) (a := allS (tS W H l l' x0 y0 px py) (p + 1) j) (fun i => tS_range W H l l' x0 y0 px py i j)
  refine fun_of rfl rfl ?_
  repeat' (first
    | (conv => whnf)
      first
      | refine Br.t ?_
      | refine Br.f ?_
      | refine Br.decT (by first | assumption | omega) ?_
      | refine Br.decF (by first | assumption | omega) ?_
      | refine Br.dec (fun _ => ?_) (fun _ => ?_)
      | refine Br.not ?_
      | refine Br.and ?_
      | refine Br.or ?_
      | refine Bnd.i64 (by omega) (by omega) ?_
      | refine Req.mk (by first | rfl | decide | exact ⟨rfl, rfl⟩ | exact ⟨rfl, by decide⟩ | exact (fun _ => rfl) | exact (fun h => nomatch h) | (simp; done) | omega | (simp [big]; done) | exact le_big (by omega) | exact lt_big (by omega)) ?_
      | refine Idx.nat (by omega) ?_
      | refine Idx.nat (le_big (by omega)) ?_
      | refine Idx.int (by omega) (by omega) ?_
      | refine Ifz.zero ?_
      | refine Ifz.pos (by omega) ?_
      | refine Get.mk _ rfl ?_
      | refine Leaves.of ?_
      | refine Ends.of ?_
      | refine Vw.bool ?_
      | refine Vw.int ?_
      | refine Vw.nil
      | refine Vw.sl
      | refine Vw.tup ?_
      | refine Vw.agg ?_
      | refine VwL.cons ?_ ?_
      | refine VwL.nil
      | refine LeavesF.of ?_
      | refine VwF.bool ?_
      | refine VwF.int ?_
      | refine VwF.nil
      | refine VwF.sl
      | refine VwF.tup ?_
      | refine VwF.agg ?_
      | refine VwLF.cons ?_ ?_
      | refine VwLF.nil)
  refine LoopP.by (fun j : Nat => j ≤ q + 1) (fun j => [(12, .int .i64 (allS (tS W H l l' x0 y0 px py) (p + 1) j)), (13, .int .i64 ((y0 + j : Nat) : Int))]) (fun _ => [.blk [.int .i64 W, .int .i64 H, .sl c l.length (ofBytes l)] false, .blk [.int .i64 W, .int .i64 H, .sl c' l'.length (ofBytes l')] false, .blk [.int .i64 x0, .int .i64 ((x0 + p : Nat) : Int), .int .i64 y0, .int .i64 ((y0 + q : Nat) : Int)] false]) (fun j => q + 1 - j) 0 (Nat.zero_le _) rfl ?_
  intro j hj
  by_cases hjq : j ≤ q
  · repeat' (first
      | (conv => whnf)
        first
        | refine Br.t ?_
        | refine Br.f ?_
        | refine Br.decT (by first | assumption | omega) ?_
        | refine Br.decF (by first | assumption | omega) ?_
        | refine Br.dec (fun _ => ?_) (fun _ => ?_)
        | refine Br.not ?_
        | refine Br.and ?_
        | refine Br.or ?_
        | refine Bnd.i64 (by omega) (by omega) ?_
        | refine Req.mk (by first | rfl | decide | exact ⟨rfl, rfl⟩ | exact ⟨rfl, by decide⟩ | exact (fun _ => rfl) | exact (fun h => nomatch h) | (simp; done) | omega | (simp [big]; done) | exact le_big (by omega) | exact lt_big (by omega)) ?_
        | refine Idx.nat (by omega) ?_
        | refine Idx.nat (le_big (by omega)) ?_
        | refine Idx.int (by omega) (by omega) ?_
        | refine Ifz.zero ?_
        | refine Ifz.pos (by omega) ?_
        | refine Get.mk _ rfl ?_
        | refine Leaves.of ?_
        | refine Ends.of ?_
        | refine Vw.bool ?_
        | refine Vw.int ?_
        | refine Vw.nil
        | refine Vw.sl
        | refine Vw.tup ?_
        | refine Vw.agg ?_
        | refine VwL.cons ?_ ?_
        | refine VwL.nil
        | refine LeavesF.of ?_
        | refine VwF.bool ?_
        | refine VwF.int ?_
        | refine VwF.nil
        | refine VwF.sl
        | refine VwF.tup ?_
        | refine VwF.agg ?_
        | refine VwLF.cons ?_ ?_
        | refine VwLF.nil)
    refine LoopP.by (fun i : Nat => i ≤ p + 1) (fun i => [(12, .int .i64 (rowA (fun i => tS W H l l' x0 y0 px py i j) (allS (tS W H l l' x0 y0 px py) (p + 1) j) i)), (14, .int .i64 ((x0 + i : Nat) : Int))]) (fun _ => [.blk [.int .i64 W, .int .i64 H, .sl c l.length (ofBytes l)] false, .blk [.int .i64 W, .int .i64 H, .sl c' l'.length (ofBytes l')] false, .blk [.int .i64 x0, .int .i64 ((x0 + p : Nat) : Int), .int .i64 y0, .int .i64 ((y0 + q : Nat) : Int)] false]) (fun i => p + 1 - i) 0 (Nat.zero_le _) rfl ?_
    intro i hi
    by_cases hip : i ≤ p
    · have b1 := pixV_le W H l ((x0 + i : Nat) : Int) ((y0 + j : Nat) : Int)
      have b2 := pixV_le W H l' (px i) (py j)
      have b3 := h27 j
      have b4 := hrow j i
      have hb := hall i hip j hjq
      repeat' (first
        | (conv => whnf)
          first
          | refine Br.t ?_
          | refine Br.f ?_
          | refine Br.decT (by first | assumption | omega) ?_
          | refine Br.decF (by first | assumption | omega) ?_
          | refine Br.dec (fun _ => ?_) (fun _ => ?_)
          | refine Br.not ?_
          | refine Br.and ?_
          | refine Br.or ?_
          | refine Bnd.i64 (by omega) (by omega) ?_
          | refine call_fun rfl rfl (pixel_any h2 h4 hl _ _) (.inl rfl) ?_
          | refine call_fun rfl rfl (pixel_any h2 h4 hl' _ _) (.inl rfl) ?_
          | refine Bnd.eq (hpx i hip) ?_
          | refine Bnd.eq (hpy j hjq) ?_
          | refine call_fun rfl rfl (sizeR_any _ (by omega)) (.inl rfl) ?_
          | refine Req.mk (by first | rfl | decide | exact ⟨rfl, rfl⟩ | exact ⟨rfl, by decide⟩ | exact (fun _ => rfl) | exact (fun h => nomatch h) | (simp; done) | omega | (simp [big]; done) | exact le_big (by omega) | exact lt_big (by omega)) ?_
          | refine Idx.nat (by omega) ?_
          | refine Idx.nat (le_big (by omega)) ?_
          | refine Idx.int (by omega) (by omega) ?_
          | refine Ifz.zero ?_
          | refine Ifz.pos (by omega) ?_
          | refine Get.mk _ rfl ?_
          | refine Leaves.of ?_
          | refine Ends.of ?_
          | refine Vw.bool ?_
          | refine Vw.int ?_
          | refine Vw.nil
          | refine Vw.sl
          | refine Vw.tup ?_
          | refine Vw.agg ?_
          | refine VwL.cons ?_ ?_
          | refine VwL.nil
          | refine LeavesF.of ?_
          | refine VwF.bool ?_
          | refine VwF.int ?_
          | refine VwF.nil
          | refine VwF.sl
          | refine VwF.tup ?_
          | refine VwF.agg ?_
          | refine VwLF.cons ?_ ?_
          | refine VwLF.nil)
      exact NextP.mk (i + 1) (by omega) (by omega) rfl
    · obtain rfl : i = p + 1 := by omega
      repeat' (first
        | (conv => whnf)
          first
          | refine Br.t ?_
          | refine Br.f ?_
          | refine Br.decT (by first | assumption | omega) ?_
          | refine Br.decF (by first | assumption | omega) ?_
          | refine Br.dec (fun _ => ?_) (fun _ => ?_)
          | refine Br.not ?_
          | refine Br.and ?_
          | refine Br.or ?_
          | refine Bnd.i64 (by omega) (by omega) ?_
          | refine Req.mk (by first | rfl | decide | exact ⟨rfl, rfl⟩ | exact ⟨rfl, by decide⟩ | exact (fun _ => rfl) | exact (fun h => nomatch h) | (simp; done) | omega | (simp [big]; done) | exact le_big (by omega) | exact lt_big (by omega)) ?_
          | refine Idx.nat (by omega) ?_
          | refine Idx.nat (le_big (by omega)) ?_
          | refine Idx.int (by omega) (by omega) ?_
          | refine Ifz.zero ?_
          | refine Ifz.pos (by omega) ?_
          | refine Get.mk _ rfl ?_
          | refine Leaves.of ?_
          | refine Ends.of ?_
          | refine Vw.bool ?_
          | refine Vw.int ?_
          | refine Vw.nil
          | refine Vw.sl
          | refine Vw.tup ?_
          | refine Vw.agg ?_
          | refine VwL.cons ?_ ?_
          | refine VwL.nil
          | refine LeavesF.of ?_
          | refine VwF.bool ?_
          | refine VwF.int ?_
          | refine VwF.nil
          | refine VwF.sl
          | refine VwF.tup ?_
          | refine VwF.agg ?_
          | refine VwLF.cons ?_ ?_
          | refine VwLF.nil)
      exact NextP.mk (j + 1) (by omega) (by omega) rfl
  · obtain rfl : j = q + 1 := by omega
    repeat' (first
      | (conv => whnf)
        first
        | refine Br.t ?_
        | refine Br.f ?_
        | refine Br.decT (by first | assumption | omega) ?_
        | refine Br.decF (by first | assumption | omega) ?_
        | refine Br.dec (fun _ => ?_) (fun _ => ?_)
        | refine Br.not ?_
        | refine Br.and ?_
        | refine Br.or ?_
        | refine Bnd.i64 (by omega) (by omega) ?_
        | refine Req.mk (by first | rfl | decide | exact ⟨rfl, rfl⟩ | exact ⟨rfl, by decide⟩ | exact (fun _ => rfl) | exact (fun h => nomatch h) | (simp; done) | omega | (simp [big]; done) | exact le_big (by omega) | exact lt_big (by omega)) ?_
        | refine Idx.nat (by omega) ?_
        | refine Idx.nat (le_big (by omega)) ?_
        | refine Idx.int (by omega) (by omega) ?_
        | refine Ifz.zero ?_
        | refine Ifz.pos (by omega) ?_
        | refine Get.mk _ rfl ?_
        | refine Leaves.of ?_
        | refine Ends.of ?_
        | refine Vw.bool ?_
        | refine Vw.int ?_
        | refine Vw.nil
        | refine Vw.sl
        | refine Vw.tup ?_
        | refine Vw.agg ?_
        | refine VwL.cons ?_ ?_
        | refine VwL.nil
        | refine LeavesF.of ?_
        | refine VwF.bool ?_
        | refine VwF.int ?_
        | refine VwF.nil
        | refine VwF.sl
        | refine VwF.tup ?_
        | refine VwF.agg ?_
        | refine VwLF.cons ?_ ?_
        | refine VwLF.nil)
    all_goals rfl

set_option maxRecDepth 100000 in
set_option maxHeartbeats 20000000 in
theorem differs_out {W H : Nat} {c c' : Bool} {l l' : List UInt8} (h2 : W ≤ 48) (h4 : H ≤ 48) (hl : l.length = W * H) (hl' : l'.length = W * H) {x0 y0 p q : Nat} (hx : x0 + p < W) (hy : y0 + q < H) {dx dy : Int} {px py : Nat → Int}
    (hpx : ∀ i ≤ p, IntKind.i64.wrap (((x0 + i : Nat) : Int) + dx) = px i) (hpy : ∀ j ≤ q, IntKind.i64.wrap (((y0 + j : Nat) : Int) + dy) = py j) (hno : ¬ ∀ i ≤ p, ∀ j ≤ q, pixB W H (px i) (py j)) :
    Fun F md 27 [frV W H c l, frV W H c' l', .agg [.int .i64 x0, .int .i64 ((x0 + p : Nat) : Int), .int .i64 y0, .int .i64 ((y0 + q : Nat) : Int)], .int .i64 dx, .int .i64 dy] (.tup [.int .i64 0, .bool false]) := by
  have h27 := allS_bound (t := tS W H l l' x0 y0 px py) (w := p + 1) (by omega) (fun i j => tS_range W H l l' x0 y0 px py i j)
  have hrow := fun (j : Nat) => rowA_bound (t := fun i => tS W H l l' x0 y0 px py i j) (a := allS (tS W H l l' x0 y0 px py) (p + 1) j) (fun i => tS_range W H l l' x0 y0 px py i j)
  refine fun_of rfl rfl ?_
  repeat' (first
    | (conv => whnf)
      first
      | refine Br.t ?_
      | refine Br.f ?_
      | refine Br.decT (by first | assumption | omega) ?_
      | refine Br.decF (by first | assumption | omega) ?_
      | refine Br.dec (fun _ => ?_) (fun _ => ?_)
      | refine Br.not ?_
      | refine Br.and ?_
      | refine Br.or ?_
      | refine Bnd.i64 (by omega) (by omega) ?_
      | refine Req.mk (by first | rfl | decide | exact ⟨rfl, rfl⟩ | exact ⟨rfl, by decide⟩ | exact (fun _ => rfl) | exact (fun h => nomatch h) | (simp; done) | omega | (simp [big]; done) | exact le_big (by omega) | exact lt_big (by omega)) ?_
      | refine Idx.nat (by omega) ?_
      | refine Idx.nat (le_big (by omega)) ?_
      | refine Idx.int (by omega) (by omega) ?_
      | refine Ifz.zero ?_
      | refine Ifz.pos (by omega) ?_
      | refine Get.mk _ rfl ?_
      | refine Leaves.of ?_
      | refine Ends.of ?_
      | refine Vw.bool ?_
      | refine Vw.int ?_
      | refine Vw.nil
      | refine Vw.sl
      | refine Vw.tup ?_
      | refine Vw.agg ?_
      | refine VwL.cons ?_ ?_
      | refine VwL.nil
      | refine LeavesF.of ?_
      | refine VwF.bool ?_
      | refine VwF.int ?_
      | refine VwF.nil
      | refine VwF.sl
      | refine VwF.tup ?_
      | refine VwF.agg ?_
      | refine VwLF.cons ?_ ?_
      | refine VwLF.nil)
  refine LoopP.by (fun j : Nat => j ≤ q + 1 ∧ ∀ k < j, ∀ i ≤ p, pixB W H (px i) (py k)) (fun j => [(12, .int .i64 (allS (tS W H l l' x0 y0 px py) (p + 1) j)), (13, .int .i64 ((y0 + j : Nat) : Int))]) (fun _ => [.blk [.int .i64 W, .int .i64 H, .sl c l.length (ofBytes l)] false, .blk [.int .i64 W, .int .i64 H, .sl c' l'.length (ofBytes l')] false, .blk [.int .i64 x0, .int .i64 ((x0 + p : Nat) : Int), .int .i64 y0, .int .i64 ((y0 + q : Nat) : Int)] false]) (fun j => q + 1 - j) 0 ⟨Nat.zero_le _, fun k hk => absurd hk (Nat.not_lt_zero k)⟩ rfl ?_
  rintro j ⟨hj, hdone⟩
  by_cases hjq : j ≤ q
  · repeat' (first
      | (conv => whnf)
        first
        | refine Br.t ?_
        | refine Br.f ?_
        | refine Br.decT (by first | assumption | omega) ?_
        | refine Br.decF (by first | assumption | omega) ?_
        | refine Br.dec (fun _ => ?_) (fun _ => ?_)
        | refine Br.not ?_
        | refine Br.and ?_
        | refine Br.or ?_
        | refine Bnd.i64 (by omega) (by omega) ?_
        | refine Req.mk (by first | rfl | decide | exact ⟨rfl, rfl⟩ | exact ⟨rfl, by decide⟩ | exact (fun _ => rfl) | exact (fun h => nomatch h) | (simp; done) | omega | (simp [big]; done) | exact le_big (by omega) | exact lt_big (by omega)) ?_
        | refine Idx.nat (by omega) ?_
        | refine Idx.nat (le_big (by omega)) ?_
        | refine Idx.int (by omega) (by omega) ?_
        | refine Ifz.zero ?_
        | refine Ifz.pos (by omega) ?_
        | refine Get.mk _ rfl ?_
        | refine Leaves.of ?_
        | refine Ends.of ?_
        | refine Vw.bool ?_
        | refine Vw.int ?_
        | refine Vw.nil
        | refine Vw.sl
        | refine Vw.tup ?_
        | refine Vw.agg ?_
        | refine VwL.cons ?_ ?_
        | refine VwL.nil
        | refine LeavesF.of ?_
        | refine VwF.bool ?_
        | refine VwF.int ?_
        | refine VwF.nil
        | refine VwF.sl
        | refine VwF.tup ?_
        | refine VwF.agg ?_
        | refine VwLF.cons ?_ ?_
        | refine VwLF.nil)
    refine LoopP.by (fun i : Nat => i ≤ p + 1 ∧ ∀ k < i, pixB W H (px k) (py j)) (fun i => [(12, .int .i64 (rowA (fun i => tS W H l l' x0 y0 px py i j) (allS (tS W H l l' x0 y0 px py) (p + 1) j) i)), (14, .int .i64 ((x0 + i : Nat) : Int))]) (fun _ => [.blk [.int .i64 W, .int .i64 H, .sl c l.length (ofBytes l)] false, .blk [.int .i64 W, .int .i64 H, .sl c' l'.length (ofBytes l')] false, .blk [.int .i64 x0, .int .i64 ((x0 + p : Nat) : Int), .int .i64 y0, .int .i64 ((y0 + q : Nat) : Int)] false]) (fun i => p + 1 - i) 0 ⟨Nat.zero_le _, fun k hk => absurd hk (Nat.not_lt_zero k)⟩ rfl ?_
    rintro i ⟨hi, hrd⟩
    by_cases hip : i ≤ p
    · have b1 := pixV_le W H l ((x0 + i : Nat) : Int) ((y0 + j : Nat) : Int)
      have b2 := pixV_le W H l' (px i) (py j)
      have b3 := h27 j
      have b4 := hrow j i
      by_cases hb : pixB W H (px i) (py j)
      · repeat' (first
          | (conv => whnf)
            first
            | refine Br.t ?_
            | refine Br.f ?_
            | refine Br.decT (by first | assumption | omega) ?_
            | refine Br.decF (by first | assumption | omega) ?_
            | refine Br.dec (fun _ => ?_) (fun _ => ?_)
            | refine Br.not ?_
            | refine Br.and ?_
            | refine Br.or ?_
            | refine Bnd.i64 (by omega) (by omega) ?_
            | refine call_fun rfl rfl (pixel_any h2 h4 hl _ _) (.inl rfl) ?_
            | refine call_fun rfl rfl (pixel_any h2 h4 hl' _ _) (.inl rfl) ?_
            | refine Bnd.eq (hpx i hip) ?_
            | refine Bnd.eq (hpy j hjq) ?_
            | refine call_fun rfl rfl (sizeR_any _ (by omega)) (.inl rfl) ?_
            | refine Req.mk (by first | rfl | decide | exact ⟨rfl, rfl⟩ | exact ⟨rfl, by decide⟩ | exact (fun _ => rfl) | exact (fun h => nomatch h) | (simp; done) | omega | (simp [big]; done) | exact le_big (by omega) | exact lt_big (by omega)) ?_
            | refine Idx.nat (by omega) ?_
            | refine Idx.nat (le_big (by omega)) ?_
            | refine Idx.int (by omega) (by omega) ?_
            | refine Ifz.zero ?_
            | refine Ifz.pos (by omega) ?_
            | refine Get.mk _ rfl ?_
            | refine Leaves.of ?_
            | refine Ends.of ?_
            | refine Vw.bool ?_
            | refine Vw.int ?_
            | refine Vw.nil
            | refine Vw.sl
            | refine Vw.tup ?_
            | refine Vw.agg ?_
            | refine VwL.cons ?_ ?_
            | refine VwL.nil
            | refine LeavesF.of ?_
            | refine VwF.bool ?_
            | refine VwF.int ?_
            | refine VwF.nil
            | refine VwF.sl
            | refine VwF.tup ?_
            | refine VwF.agg ?_
            | refine VwLF.cons ?_ ?_
            | refine VwLF.nil)
        refine NextP.mk (i + 1) ⟨by omega, fun k hk => ?_⟩ (by omega) rfl
        by_cases e : k = i
        · subst e; exact hb
        · exact hrd k (by omega)
      · repeat' (first
          | (conv => whnf)
            first
            | refine Br.t ?_
            | refine Br.f ?_
            | refine Br.decT (by first | assumption | omega) ?_
            | refine Br.decF (by first | assumption | omega) ?_
            | refine Br.dec (fun _ => ?_) (fun _ => ?_)
            | refine Br.not ?_
            | refine Br.and ?_
            | refine Br.or ?_
            | refine Bnd.i64 (by omega) (by omega) ?_
            | refine call_fun rfl rfl (pixel_any h2 h4 hl _ _) (.inl rfl) ?_
            | refine call_fun rfl rfl (pixel_any h2 h4 hl' _ _) (.inl rfl) ?_
            | refine Bnd.eq (hpx i hip) ?_
            | refine Bnd.eq (hpy j hjq) ?_
            | refine call_fun rfl rfl (sizeR_any _ (by omega)) (.inl rfl) ?_
            | refine Req.mk (by first | rfl | decide | exact ⟨rfl, rfl⟩ | exact ⟨rfl, by decide⟩ | exact (fun _ => rfl) | exact (fun h => nomatch h) | (simp; done) | omega | (simp [big]; done) | exact le_big (by omega) | exact lt_big (by omega)) ?_
            | refine Idx.nat (by omega) ?_
            | refine Idx.nat (le_big (by omega)) ?_
            | refine Idx.int (by omega) (by omega) ?_
            | refine Ifz.zero ?_
            | refine Ifz.pos (by omega) ?_
            | refine Get.mk _ rfl ?_
            | refine Leaves.of ?_
            | refine Ends.of ?_
            | refine Vw.bool ?_
            | refine Vw.int ?_
            | refine Vw.nil
            | refine Vw.sl
            | refine Vw.tup ?_
            | refine Vw.agg ?_
            | refine VwL.cons ?_ ?_
            | refine VwL.nil
            | refine LeavesF.of ?_
            | refine VwF.bool ?_
            | refine VwF.int ?_
            | refine VwF.nil
            | refine VwF.sl
            | refine VwF.tup ?_
            | refine VwF.agg ?_
            | refine VwLF.cons ?_ ?_
            | refine VwLF.nil)
        all_goals rfl
    · obtain rfl : i = p + 1 := by omega
      repeat' (first
        | (conv => whnf)
          first
          | refine Br.t ?_
          | refine Br.f ?_
          | refine Br.decT (by first | assumption | omega) ?_
          | refine Br.decF (by first | assumption | omega) ?_
          | refine Br.dec (fun _ => ?_) (fun _ => ?_)
          | refine Br.not ?_
          | refine Br.and ?_
          | refine Br.or ?_
          | refine Bnd.i64 (by omega) (by omega) ?_
          | refine Req.mk (by first | rfl | decide | exact ⟨rfl, rfl⟩ | exact ⟨rfl, by decide⟩ | exact (fun _ => rfl) | exact (fun h => nomatch h) | (simp; done) | omega | (simp [big]; done) | exact le_big (by omega) | exact lt_big (by omega)) ?_
          | refine Idx.nat (by omega) ?_
          | refine Idx.nat (le_big (by omega)) ?_
          | refine Idx.int (by omega) (by omega) ?_
          | refine Ifz.zero ?_
          | refine Ifz.pos (by omega) ?_
          | refine Get.mk _ rfl ?_
          | refine Leaves.of ?_
          | refine Ends.of ?_
          | refine Vw.bool ?_
          | refine Vw.int ?_
          | refine Vw.nil
          | refine Vw.sl
          | refine Vw.tup ?_
          | refine Vw.agg ?_
          | refine VwL.cons ?_ ?_
          | refine VwL.nil
          | refine LeavesF.of ?_
          | refine VwF.bool ?_
          | refine VwF.int ?_
          | refine VwF.nil
          | refine VwF.sl
          | refine VwF.tup ?_
          | refine VwF.agg ?_
          | refine VwLF.cons ?_ ?_
          | refine VwLF.nil)
      refine NextP.mk (j + 1) ⟨by omega, fun k hk i hi => ?_⟩ (by omega) rfl
      by_cases e : k = j
      · subst e; exact hrd i (by omega)
      · exact hdone k (by omega) i hi
  · exact absurd (fun i hi k hk => hdone k (by omega) i hi) hno

/-! the least shift -/
theorem minF_snoc (m : Sh3) (l : List Sh3) (y : Sh3) : minF m (l ++ [y]) = if bet y (minF m l) then y else minF m l := by
  induction l generalizing m with
  | nil => rfl
  | cons z l ih => simp only [List.cons_append, minF]; exact ih _
theorem minF_step {s : Sh3} {l : List Sh3} {i : Nat} (h : i < l.length) : minF s (l.take (i + 1)) = if bet l[i] (minF s (l.take i)) then l[i] else minF s (l.take i) := by
  rw [List.take_succ_eq_append_getElem h, minF_snoc]
theorem minF_small {s : Sh3} {l : List Sh3} (h : ∀ x ∈ s :: l, smallS x) (i : Nat) : smallS (minF s (l.take i)) :=
  h _ (by
    have := minF_mem s (l.take i)
    rcases List.mem_cons.1 this with e | e
    · simp [e]
    · exact List.mem_cons_of_mem _ (List.mem_of_mem_take e))

set_option maxRecDepth 100000 in
set_option maxHeartbeats 20000000 in
theorem least_any {c : Bool} {s : Sh3} {l : List Sh3} (hs : ∀ x ∈ s :: l, smallS x) (hl : l.length ≤ 1000000) : Fun F md 65 [.sl c (s :: l).length (ofS3 (s :: l)), .fn 66 []] (sh3V (minF s l)) := by
  have h0 : (s :: l).length = l.length + 1 := rfl
  have hz : part (ofS3 (s :: l)) (0 * 3) 3 = some [.int .i64 s.1, .int .i64 s.2.1, .int .i64 s.2.2] := ofS3_part (l := s :: l) (i := 0) (by simp)
  have hst := fun i (h : i < l.length) => minF_step (s := s) h
  have hsm := fun i => minF_small hs i
  have hq : ∀ i (h : i < l.length), part (ofS3 (s :: l)) ((i + 1) * 3) 3 = some [.int .i64 l[i].1, .int .i64 l[i].2.1, .int .i64 l[i].2.2] := fun i h => ofS3_part (l := s :: l) (i := i + 1) (by simpa using h)
  have hme : ∀ i (h : i < l.length), smallS l[i] := fun i h => hs _ (List.mem_cons_of_mem _ (List.getElem_mem h))
  have hlen : ((s :: l).length : Int) = (l.length : Int) + 1 := by simp
  refine fun_of rfl rfl ?_
  repeat' (first
    | (conv => whnf)
      first
      | refine Br.t ?_
      | refine Br.f ?_
      | refine Br.decT (by first | assumption | omega) ?_
      | refine Br.decF (by first | assumption | omega) ?_
      | refine Br.dec (fun _ => ?_) (fun _ => ?_)
      | refine Br.not ?_
      | refine Br.and ?_
      | refine Br.or ?_
      | refine Bnd.i64 (by omega) (by omega) ?_
      | refine Get.mk _ hz ?_
      | refine Req.mk (by first | rfl | decide | exact ⟨rfl, rfl⟩ | exact ⟨rfl, by decide⟩ | exact (fun _ => rfl) | exact (fun h => nomatch h) | (simp; done) | omega | (simp [big]; done) | exact le_big (by omega) | exact lt_big (by omega)) ?_
      | refine Idx.nat (by omega) ?_
      | refine Idx.nat (le_big (by omega)) ?_
      | refine Idx.int (by omega) (by omega) ?_
      | refine Ifz.zero ?_
      | refine Ifz.pos (by omega) ?_
      | refine Get.mk _ rfl ?_
      | refine Leaves.of ?_
      | refine Ends.of ?_
      | refine Vw.bool ?_
      | refine Vw.int ?_
      | refine Vw.nil
      | refine Vw.sl
      | refine Vw.tup ?_
      | refine Vw.agg ?_
      | refine VwL.cons ?_ ?_
      | refine VwL.nil
      | refine LeavesF.of ?_
      | refine VwF.bool ?_
      | refine VwF.int ?_
      | refine VwF.nil
      | refine VwF.sl
      | refine VwF.tup ?_
      | refine VwF.agg ?_
      | refine VwLF.cons ?_ ?_
      | refine VwLF.nil)
  refine LoopP.by (fun i : Nat => i ≤ l.length) (fun i => [(6, .int .i64 ((i + 1 : Nat) : Int))]) (fun i => [.blk [.int .i64 0, .int .i64 0, .int .i64 0] false, .blk [.int .i64 (minF s (l.take i)).1, .int .i64 (minF s (l.take i)).2.1, .int .i64 (minF s (l.take i)).2.2] false]) (fun i => l.length - i) 0 (Nat.zero_le _) rfl ?_
  intro i hi
  by_cases hil : i < l.length
  · have e := hst i hil
    by_cases hb : bet l[i] (minF s (l.take i)) = true
    · rw [if_pos hb] at e
      have hn : ordI l[i] (minF s (l.take i)) < 0 := by rw [← decide_eq_true_eq (p := ordI _ _ < 0), ordI_neg]; exact hb
      repeat' (first
        | (conv => whnf)
          first
          | refine Br.t ?_
          | refine Br.f ?_
          | refine Br.decT (by first | assumption | omega) ?_
          | refine Br.decF (by first | assumption | omega) ?_
          | refine Br.dec (fun _ => ?_) (fun _ => ?_)
          | refine Br.not ?_
          | refine Br.and ?_
          | refine Br.or ?_
          | refine Bnd.i64 (by omega) (by omega) ?_
          | refine Get.mk _ (hq i hil) ?_
          | refine call_fun rfl rfl (order_any (hme i hil) (hsm i)) (.inl rfl) ?_
          | refine Req.mk (by first | rfl | decide | exact ⟨rfl, rfl⟩ | exact ⟨rfl, by decide⟩ | exact (fun _ => rfl) | exact (fun h => nomatch h) | (simp; done) | omega | (simp [big]; done) | exact le_big (by omega) | exact lt_big (by omega)) ?_
          | refine Idx.nat (by omega) ?_
          | refine Idx.nat (le_big (by omega)) ?_
          | refine Idx.int (by omega) (by omega) ?_
          | refine Ifz.zero ?_
          | refine Ifz.pos (by omega) ?_
          | refine Get.mk _ rfl ?_
          | refine Leaves.of ?_
          | refine Ends.of ?_
          | refine Vw.bool ?_
          | refine Vw.int ?_
          | refine Vw.nil
          | refine Vw.sl
          | refine Vw.tup ?_
          | refine Vw.agg ?_
          | refine VwL.cons ?_ ?_
          | refine VwL.nil
          | refine LeavesF.of ?_
          | refine VwF.bool ?_
          | refine VwF.int ?_
          | refine VwF.nil
          | refine VwF.sl
          | refine VwF.tup ?_
          | refine VwF.agg ?_
          | refine VwLF.cons ?_ ?_
          | refine VwLF.nil)
      refine NextP.mk (i + 1) hil (by omega) ?_
      rw [e]
      rfl
    · rw [if_neg hb] at e
      have hn : ¬ ordI l[i] (minF s (l.take i)) < 0 := by rw [← decide_eq_true_eq (p := ordI _ _ < 0), ordI_neg]; exact hb
      repeat' (first
        | (conv => whnf)
          first
          | refine Br.t ?_
          | refine Br.f ?_
          | refine Br.decT (by first | assumption | omega) ?_
          | refine Br.decF (by first | assumption | omega) ?_
          | refine Br.dec (fun _ => ?_) (fun _ => ?_)
          | refine Br.not ?_
          | refine Br.and ?_
          | refine Br.or ?_
          | refine Bnd.i64 (by omega) (by omega) ?_
          | refine Get.mk _ (hq i hil) ?_
          | refine call_fun rfl rfl (order_any (hme i hil) (hsm i)) (.inl rfl) ?_
          | refine Req.mk (by first | rfl | decide | exact ⟨rfl, rfl⟩ | exact ⟨rfl, by decide⟩ | exact (fun _ => rfl) | exact (fun h => nomatch h) | (simp; done) | omega | (simp [big]; done) | exact le_big (by omega) | exact lt_big (by omega)) ?_
          | refine Idx.nat (by omega) ?_
          | refine Idx.nat (le_big (by omega)) ?_
          | refine Idx.int (by omega) (by omega) ?_
          | refine Ifz.zero ?_
          | refine Ifz.pos (by omega) ?_
          | refine Get.mk _ rfl ?_
          | refine Leaves.of ?_
          | refine Ends.of ?_
          | refine Vw.bool ?_
          | refine Vw.int ?_
          | refine Vw.nil
          | refine Vw.sl
          | refine Vw.tup ?_
          | refine Vw.agg ?_
          | refine VwL.cons ?_ ?_
          | refine VwL.nil
          | refine LeavesF.of ?_
          | refine VwF.bool ?_
          | refine VwF.int ?_
          | refine VwF.nil
          | refine VwF.sl
          | refine VwF.tup ?_
          | refine VwF.agg ?_
          | refine VwLF.cons ?_ ?_
          | refine VwLF.nil)
      refine NextP.mk (i + 1) hil (by omega) ?_
      rw [e]
      rfl
  · obtain rfl : i = l.length := by omega
    rw [List.take_length]
    repeat' (first
      | (conv => whnf)
        first
        | refine Br.t ?_
        | refine Br.f ?_
        | refine Br.decT (by first | assumption | omega) ?_
        | refine Br.decF (by first | assumption | omega) ?_
        | refine Br.dec (fun _ => ?_) (fun _ => ?_)
        | refine Br.not ?_
        | refine Br.and ?_
        | refine Br.or ?_
        | refine Bnd.i64 (by omega) (by omega) ?_
        | refine Req.mk (by first | rfl | decide | exact ⟨rfl, rfl⟩ | exact ⟨rfl, by decide⟩ | exact (fun _ => rfl) | exact (fun h => nomatch h) | (simp; done) | omega | (simp [big]; done) | exact le_big (by omega) | exact lt_big (by omega)) ?_
        | refine Idx.nat (by omega) ?_
        | refine Idx.nat (le_big (by omega)) ?_
        | refine Idx.int (by omega) (by omega) ?_
        | refine Ifz.zero ?_
        | refine Ifz.pos (by omega) ?_
        | refine Get.mk _ rfl ?_
        | refine Leaves.of ?_
        | refine Ends.of ?_
        | refine Vw.bool ?_
        | refine Vw.int ?_
        | refine Vw.nil
        | refine Vw.sl
        | refine Vw.tup ?_
        | refine Vw.agg ?_
        | refine VwL.cons ?_ ?_
        | refine VwL.nil
        | refine LeavesF.of ?_
        | refine VwF.bool ?_
        | refine VwF.int ?_
        | refine VwF.nil
        | refine VwF.sl
        | refine VwF.tup ?_
        | refine VwF.agg ?_
        | refine VwLF.cons ?_ ?_
        | refine VwLF.nil)
    all_goals rfl

end Go.Dr.T
