/- Chapter 07: the law ScanBack. -/
import Derived.Test.YtigcchafpenhiaaR07L4
namespace Go.Dr.T

theorem mul_small {a b : Int} (ha : -12 ≤ a ∧ a ≤ 12) (hb : -12 ≤ b ∧ b ≤ 12) : -144 ≤ a * b ∧ a * b ≤ 144 := by
  have h : a = -12 ∨ a = -11 ∨ a = -10 ∨ a = -9 ∨ a = -8 ∨ a = -7 ∨ a = -6 ∨ a = -5 ∨ a = -4 ∨ a = -3 ∨ a = -2 ∨ a = -1 ∨ a = 0 ∨ a = 1 ∨ a = 2 ∨ a = 3 ∨ a = 4 ∨ a = 5 ∨ a = 6 ∨ a = 7 ∨ a = 8 ∨ a = 9 ∨ a = 10 ∨ a = 11 ∨ a = 12 := by omega
  rcases h with h | h | h | h | h | h | h | h | h | h | h | h | h | h | h | h | h | h | h | h | h | h | h | h | h <;> subst h <;> omega
theorem same_side {a c : Int} (h : ¬ a * c < 0) : (0 ≤ a ∧ 0 ≤ c) ∨ (a ≤ 0 ∧ c ≤ 0) := by
  by_cases h1 : 0 < a
  · by_cases h2 : 0 ≤ c
    · exact .inl ⟨by omega, h2⟩
    · exact absurd (Int.mul_neg_of_pos_of_neg h1 (by omega)) h
  · by_cases h3 : a = 0
    · subst h3; omega
    · by_cases h2 : c ≤ 0
      · exact .inr ⟨by omega, h2⟩
      · exact absurd (Int.mul_neg_of_neg_of_pos (by omega) (by omega)) h

attribute [local irreducible] pixV pixB moveL

set_option maxRecDepth 100000 in
set_option maxHeartbeats 20000000 in
theorem back_ok {W H : Nat} {c : Bool} {l : List UInt8} (h1 : 1 ≤ W) (h2 : W ≤ 48) (h3 : 1 ≤ H) (h4 : H ≤ 48) (hl : l.length = W * H) {dx dy : Int} (hx : -12 ≤ dx ∧ dx ≤ 12) (hy : -12 ≤ dy ∧ dy ≤ 12) (fill : UInt8) (ex ey : Int) (fill2 : UInt8) :
    Fun F md 5 [frV W H c l, .agg [.int .i64 dx, .int .i64 dy, .int .u8 fill.toNat], .agg [.int .i64 ex, .int .i64 ey, .int .u8 fill2.toNat]] (.bool true) := by
  have hm1 := move_ok h1 h2 h3 h4 hl (c := c) hx hy fill
  have hlA := moveL_length W H l dx dy fill (W * H)
  have hm2 := move_ok h1 h2 h3 h4 hlA (c := false) (dx := 0 - dx) (dy := 0 - dy) (by omega) (by omega) fill2
  have hlB := moveL_length W H (moveL W H l dx dy fill (W * H)) (0 - dx) (0 - dy) fill2 (W * H)
  have hA := fun (u v : Int) (hin : pixB W H u v) (hs : pixB W H (u + dx) (v + dy)) => back_q (l := l) (fill := fill) hin hs
  have hB := fun (u v : Int) (hin : pixB W H u v) => back_r (l := l) (dx := dx) (dy := dy) (fill := fill) (fill2 := fill2) hin
  have htw := fun (cx : (0 ≤ dx ∧ 0 ≤ ex) ∨ (dx ≤ 0 ∧ ex ≤ 0)) (cy : (0 ≤ dy ∧ 0 ≤ ey) ∨ (dy ≤ 0 ∧ ey ≤ 0)) => twice (W := W) (H := H) (l := l) (fill := fill) (by omega) cx cy
  simp only [← Int.zero_sub] at hB
  have hck := check_ok h1 h2 h3 h4 hl
  have hckA := check_ok h1 h2 h3 h4 hlA
  have hckB := check_ok h1 h2 h3 h4 hlB
  have hf2 := fill2.toNat_lt
  generalize moveL W H (moveL W H l dx dy fill (W * H)) (0 - dx) (0 - dy) fill2 (W * H) = B at *
  generalize moveL W H l dx dy fill (W * H) = A at *
  refine fun_of rfl rfl ?_
  repeat' (first
    | (conv => whnf)
      first
      | refine Br.t ?_
      | refine Br.f ?_
      | refine Br.decT (by first | assumption | omega) ?_
      | refine Br.decF (by first | assumption | omega) ?_
      | refine Br.dec (fun _ => ?_) (fun _ => ?_)
      | refine Br.not ?_
      | refine Br.and ?_
      | refine Br.or ?_
      | refine Bnd.i64 (by omega) (by omega) ?_
      | refine call_fun rfl rfl (checkR_any _ _ _ _) (.inl rfl) ?_
      | refine call_fun rfl rfl hm1 (.inl rfl) ?_
      | refine call_fun rfl rfl hm2 (.inl rfl) ?_
      | refine Req.mk (by first | rfl | decide | exact ⟨rfl, rfl⟩ | exact ⟨rfl, by decide⟩ | exact (fun _ => rfl) | exact (fun h => nomatch h) | (simp; done) | omega | (simp [big]; done) | exact le_big (by omega) | exact lt_big (by omega)) ?_
      | refine Idx.nat (by omega) ?_
      | refine Idx.nat (le_big (by omega)) ?_
      | refine Idx.int (by omega) (by omega) ?_
      | refine Ifz.zero ?_
      | refine Ifz.pos (by omega) ?_
      | refine Get.mk _ rfl ?_
      | refine Leaves.of ?_
      | refine Ends.of ?_
      | refine Vw.bool ?_
      | refine Vw.int ?_
      | refine Vw.nil
      | refine Vw.sl
      | refine Vw.tup ?_
      | refine Vw.agg ?_
      | refine VwL.cons ?_ ?_
      | refine VwL.nil)
  refine LoopP.by (fun v : Nat => v ≤ H) (fun v => [(10, .int .i64 (v : Nat))]) (fun _ => [.blk [.int .i64 W, .int .i64 H, .sl c l.length (ofBytes l)] false, .blk [.int .i64 dx, .int .i64 dy, .int .u8 fill.toNat] false, .blk [.int .i64 ex, .int .i64 ey, .int .u8 fill2.toNat] false, .blk [.int .i64 W, .int .i64 H, .sl false A.length (ofBytes A)] false, .blk [.int .i64 W, .int .i64 H, .sl false B.length (ofBytes B)] false]) (fun v => H - v) 0 (Nat.zero_le _) rfl ?_
  intro v hv
  by_cases hvH : v < H
  · repeat' (first
      | (conv => whnf)
        first
        | refine Br.t ?_
        | refine Br.f ?_
        | refine Br.decT (by first | assumption | omega) ?_
        | refine Br.decF (by first | assumption | omega) ?_
        | refine Br.dec (fun _ => ?_) (fun _ => ?_)
        | refine Br.not ?_
        | refine Br.and ?_
        | refine Br.or ?_
        | refine Bnd.i64 (by omega) (by omega) ?_
        | refine Req.mk (by first | rfl | decide | exact ⟨rfl, rfl⟩ | exact ⟨rfl, by decide⟩ | exact (fun _ => rfl) | exact (fun h => nomatch h) | (simp; done) | omega | (simp [big]; done) | exact le_big (by omega) | exact lt_big (by omega)) ?_
        | refine Idx.nat (by omega) ?_
        | refine Idx.nat (le_big (by omega)) ?_
        | refine Idx.int (by omega) (by omega) ?_
        | refine Ifz.zero ?_
        | refine Ifz.pos (by omega) ?_
        | refine Get.mk _ rfl ?_
        | refine Leaves.of ?_
        | refine Ends.of ?_
        | refine Vw.bool ?_
        | refine Vw.int ?_
        | refine Vw.nil
        | refine Vw.sl
        | refine Vw.tup ?_
        | refine Vw.agg ?_
        | refine VwL.cons ?_ ?_
        | refine VwL.nil)
    refine LoopP.by (fun u : Nat => u ≤ W) (fun u => [(11, .int .i64 (u : Nat))]) (fun _ => [.blk [.int .i64 W, .int .i64 H, .sl c l.length (ofBytes l)] false, .blk [.int .i64 dx, .int .i64 dy, .int .u8 fill.toNat] false, .blk [.int .i64 ex, .int .i64 ey, .int .u8 fill2.toNat] false, .blk [.int .i64 W, .int .i64 H, .sl false A.length (ofBytes A)] false, .blk [.int .i64 W, .int .i64 H, .sl false B.length (ofBytes B)] false]) (fun u => W - u) 0 (Nat.zero_le _) rfl ?_
    intro u hu
    by_cases huW : u < W
    · have hin : pixB W H u v := by unfold pixB; omega
      have hr := hB u v hin
      by_cases hs : pixB W H (u + dx) (v + dy)
      · have hq := hA u v hin hs
        rw [if_pos hs] at hr
        repeat' (first
          | (conv => whnf)
            first
            | refine Br.t ?_
            | refine Br.f ?_
            | refine Br.decT (by first | assumption | omega) ?_
            | refine Br.decF (by first | assumption | omega) ?_
            | refine Br.dec (fun _ => ?_) (fun _ => ?_)
            | refine Br.not ?_
            | refine Br.and ?_
            | refine Br.or ?_
            | refine Bnd.i64 (by omega) (by omega) ?_
            | refine call_fun rfl rfl (pixel_any h2 h4 hl _ _) (.inl rfl) ?_
            | refine call_fun rfl rfl (pixel_any h2 h4 hlA _ _) (.inl rfl) ?_
            | refine call_fun rfl rfl (pixel_any h2 h4 hlB _ _) (.inl rfl) ?_
            | refine Req.mk (by first | rfl | decide | exact ⟨rfl, rfl⟩ | exact ⟨rfl, by decide⟩ | exact (fun _ => rfl) | exact (fun h => nomatch h) | (simp; done) | omega | (simp [big]; done) | exact le_big (by omega) | exact lt_big (by omega)) ?_
            | refine Idx.nat (by omega) ?_
            | refine Idx.nat (le_big (by omega)) ?_
            | refine Idx.int (by omega) (by omega) ?_
            | refine Ifz.zero ?_
            | refine Ifz.pos (by omega) ?_
            | refine Get.mk _ rfl ?_
            | refine Leaves.of ?_
            | refine Ends.of ?_
            | refine Vw.bool ?_
            | refine Vw.int ?_
            | refine Vw.nil
            | refine Vw.sl
            | refine Vw.tup ?_
            | refine Vw.agg ?_
            | refine VwL.cons ?_ ?_
            | refine VwL.nil)
        exact NextP.mk (u + 1) huW (by omega) rfl
      · rw [if_neg hs] at hr
        repeat' (first
          | (conv => whnf)
            first
            | refine Br.t ?_
            | refine Br.f ?_
            | refine Br.decT (by first | assumption | omega) ?_
            | refine Br.decF (by first | assumption | omega) ?_
            | refine Br.dec (fun _ => ?_) (fun _ => ?_)
            | refine Br.not ?_
            | refine Br.and ?_
            | refine Br.or ?_
            | refine Bnd.i64 (by omega) (by omega) ?_
            | refine call_fun rfl rfl (pixel_any h2 h4 hl _ _) (.inl rfl) ?_
            | refine call_fun rfl rfl (pixel_any h2 h4 hlA _ _) (.inl rfl) ?_
            | refine call_fun rfl rfl (pixel_any h2 h4 hlB _ _) (.inl rfl) ?_
            | refine Req.mk (by first | rfl | decide | exact ⟨rfl, rfl⟩ | exact ⟨rfl, by decide⟩ | exact (fun _ => rfl) | exact (fun h => nomatch h) | (simp; done) | omega | (simp [big]; done) | exact le_big (by omega) | exact lt_big (by omega)) ?_
            | refine Idx.nat (by omega) ?_
            | refine Idx.nat (le_big (by omega)) ?_
            | refine Idx.int (by omega) (by omega) ?_
            | refine Ifz.zero ?_
            | refine Ifz.pos (by omega) ?_
            | refine Get.mk _ rfl ?_
            | refine Leaves.of ?_
            | refine Ends.of ?_
            | refine Vw.bool ?_
            | refine Vw.int ?_
            | refine Vw.nil
            | refine Vw.sl
            | refine Vw.tup ?_
            | refine Vw.agg ?_
            | refine VwL.cons ?_ ?_
            | refine VwL.nil)
        exact NextP.mk (u + 1) huW (by omega) rfl
    · repeat' (first
        | (conv => whnf)
          first
          | refine Br.t ?_
          | refine Br.f ?_
          | refine Br.decT (by first | assumption | omega) ?_
          | refine Br.decF (by first | assumption | omega) ?_
          | refine Br.dec (fun _ => ?_) (fun _ => ?_)
          | refine Br.not ?_
          | refine Br.and ?_
          | refine Br.or ?_
          | refine Bnd.i64 (by omega) (by omega) ?_
          | refine Req.mk (by first | rfl | decide | exact ⟨rfl, rfl⟩ | exact ⟨rfl, by decide⟩ | exact (fun _ => rfl) | exact (fun h => nomatch h) | (simp; done) | omega | (simp [big]; done) | exact le_big (by omega) | exact lt_big (by omega)) ?_
          | refine Idx.nat (by omega) ?_
          | refine Idx.nat (le_big (by omega)) ?_
          | refine Idx.int (by omega) (by omega) ?_
          | refine Ifz.zero ?_
          | refine Ifz.pos (by omega) ?_
          | refine Get.mk _ rfl ?_
          | refine Leaves.of ?_
          | refine Ends.of ?_
          | refine Vw.bool ?_
          | refine Vw.int ?_
          | refine Vw.nil
          | refine Vw.sl
          | refine Vw.tup ?_
          | refine Vw.agg ?_
          | refine VwL.cons ?_ ?_
          | refine VwL.nil)
      exact NextP.mk (v + 1) hvH (by omega) rfl
  · clear hA hB
    by_cases he : -12 ≤ ex ∧ ex ≤ 12 ∧ -12 ≤ ey ∧ ey ≤ 12
    · have hm3 := move_ok h1 h2 h3 h4 hlA (c := false) (dx := ex) (dy := ey) (by omega) (by omega) fill
      have p1 := mul_small hx (b := ex) (by omega)
      have p2 := mul_small hy (b := ey) (by omega)
      by_cases hs : ¬ dx * ex < 0 ∧ ¬ dy * ey < 0
      · have hs1 := same_side hs.1
        have hs2 := same_side hs.2
        obtain ⟨hs3, hs4⟩ := hs
        have e := htw hs1 hs2
        by_cases hd : -12 ≤ dx + ex ∧ dx + ex ≤ 12 ∧ -12 ≤ dy + ey ∧ dy + ey ≤ 12
        · have hm4 := move_ok h1 h2 h3 h4 hl (c := c) (dx := dx + ex) (dy := dy + ey) (by omega) (by omega) fill
          rw [← e] at hm4
          generalize moveL W H A ex ey fill (W * H) = C at *
          clear e htw
          repeat' (first
            | (conv => whnf)
              first
              | refine Br.t ?_
              | refine Br.f ?_
              | refine Br.decT (by first | assumption | omega) ?_
              | refine Br.decF (by first | assumption | omega) ?_
              | refine Br.dec (fun _ => ?_) (fun _ => ?_)
              | refine Br.not ?_
              | refine Br.and ?_
              | refine Br.or ?_
              | refine Bnd.i64 (by omega) (by omega) ?_
              | refine call_fun rfl rfl hm3 (.inl rfl) ?_
              | refine call_fun rfl rfl hm4 (.inl rfl) ?_
              | refine call_fun rfl rfl awake (.inl rfl) ?_
              | refine call_fun rfl rfl (sameR_any _ _ _ _ _ _ _ _) (.inl rfl) ?_
              | refine Br.yes (beq_self_eq_true _) ?_
              | refine Req.mk (by first | rfl | decide | exact ⟨rfl, rfl⟩ | exact ⟨rfl, by decide⟩ | exact (fun _ => rfl) | exact (fun h => nomatch h) | (simp; done) | omega | (simp [big]; done) | exact le_big (by omega) | exact lt_big (by omega)) ?_
              | refine Idx.nat (by omega) ?_
              | refine Idx.nat (le_big (by omega)) ?_
              | refine Idx.int (by omega) (by omega) ?_
              | refine Ifz.zero ?_
              | refine Ifz.pos (by omega) ?_
              | refine Get.mk _ rfl ?_
              | refine Leaves.of ?_
              | refine Ends.of ?_
              | refine Vw.bool ?_
              | refine Vw.int ?_
              | refine Vw.nil
              | refine Vw.sl
              | refine Vw.tup ?_
              | refine Vw.agg ?_
              | refine VwL.cons ?_ ?_
              | refine VwL.nil)
          all_goals rfl
        · have hm4 := move_far (c := c) hck (dx := dx + ex) (dy := dy + ey) (fun h => hd h) fill.toNat
          clear e htw
          repeat' (first
            | (conv => whnf)
              first
              | refine Br.t ?_
              | refine Br.f ?_
              | refine Br.decT (by first | assumption | omega) ?_
              | refine Br.decF (by first | assumption | omega) ?_
              | refine Br.dec (fun _ => ?_) (fun _ => ?_)
              | refine Br.not ?_
              | refine Br.and ?_
              | refine Br.or ?_
              | refine Bnd.i64 (by omega) (by omega) ?_
              | refine call_fun rfl rfl hm3 (.inl rfl) ?_
              | refine call_fun rfl rfl hm4 (.inl rfl) ?_
              | refine call_fun rfl rfl awake (.inl rfl) ?_
              | refine Req.mk (by first | rfl | decide | exact ⟨rfl, rfl⟩ | exact ⟨rfl, by decide⟩ | exact (fun _ => rfl) | exact (fun h => nomatch h) | (simp; done) | omega | (simp [big]; done) | exact le_big (by omega) | exact lt_big (by omega)) ?_
              | refine Idx.nat (by omega) ?_
              | refine Idx.nat (le_big (by omega)) ?_
              | refine Idx.int (by omega) (by omega) ?_
              | refine Ifz.zero ?_
              | refine Ifz.pos (by omega) ?_
              | refine Get.mk _ rfl ?_
              | refine Leaves.of ?_
              | refine Ends.of ?_
              | refine Vw.bool ?_
              | refine Vw.int ?_
              | refine Vw.nil
              | refine Vw.sl
              | refine Vw.tup ?_
              | refine Vw.agg ?_
              | refine VwL.cons ?_ ?_
              | refine VwL.nil)
          all_goals rfl
      · clear htw
        repeat' (first
          | (conv => whnf)
            first
            | refine Br.t ?_
            | refine Br.f ?_
            | refine Br.decT (by first | assumption | omega) ?_
            | refine Br.decF (by first | assumption | omega) ?_
            | refine Br.dec (fun _ => ?_) (fun _ => ?_)
            | refine Br.not ?_
            | refine Br.and ?_
            | refine Br.or ?_
            | refine Bnd.i64 (by omega) (by omega) ?_
            | refine call_fun rfl rfl awake (.inl rfl) ?_
            | refine Req.mk (by first | rfl | decide | exact ⟨rfl, rfl⟩ | exact ⟨rfl, by decide⟩ | exact (fun _ => rfl) | exact (fun h => nomatch h) | (simp; done) | omega | (simp [big]; done) | exact le_big (by omega) | exact lt_big (by omega)) ?_
            | refine Idx.nat (by omega) ?_
            | refine Idx.nat (le_big (by omega)) ?_
            | refine Idx.int (by omega) (by omega) ?_
            | refine Ifz.zero ?_
            | refine Ifz.pos (by omega) ?_
            | refine Get.mk _ rfl ?_
            | refine Leaves.of ?_
            | refine Ends.of ?_
            | refine Vw.bool ?_
            | refine Vw.int ?_
            | refine Vw.nil
            | refine Vw.sl
            | refine Vw.tup ?_
            | refine Vw.agg ?_
            | refine VwL.cons ?_ ?_
            | refine VwL.nil)
        all_goals first | rfl | (exfalso; omega)
    · have hm3 := move_far (c := false) hckA he fill.toNat
      clear htw
      repeat' (first
        | (conv => whnf)
          first
          | refine Br.t ?_
          | refine Br.f ?_
          | refine Br.decT (by first | assumption | omega) ?_
          | refine Br.decF (by first | assumption | omega) ?_
          | refine Br.dec (fun _ => ?_) (fun _ => ?_)
          | refine Br.not ?_
          | refine Br.and ?_
          | refine Br.or ?_
          | refine Bnd.i64 (by omega) (by omega) ?_
          | refine call_fun rfl rfl hm3 (.inl rfl) ?_
          | refine call_fun rfl rfl (move_any _ _ _ _ _ _ _) (.inl rfl) ?_
          | refine call_fun rfl rfl awake (.inl rfl) ?_
          | refine Bnd.any ?_
          | refine Req.mk (by first | rfl | decide | exact ⟨rfl, rfl⟩ | exact ⟨rfl, by decide⟩ | exact (fun _ => rfl) | exact (fun h => nomatch h) | (simp; done) | omega | (simp [big]; done) | exact le_big (by omega) | exact lt_big (by omega)) ?_
          | refine Idx.nat (by omega) ?_
          | refine Idx.nat (le_big (by omega)) ?_
          | refine Idx.int (by omega) (by omega) ?_
          | refine Ifz.zero ?_
          | refine Ifz.pos (by omega) ?_
          | refine Get.mk _ rfl ?_
          | refine Leaves.of ?_
          | refine Ends.of ?_
          | refine Vw.bool ?_
          | refine Vw.int ?_
          | refine Vw.nil
          | refine Vw.sl
          | refine Vw.tup ?_
          | refine Vw.agg ?_
          | refine VwL.cons ?_ ?_
          | refine VwL.nil)
      all_goals rfl

end Go.Dr.T
