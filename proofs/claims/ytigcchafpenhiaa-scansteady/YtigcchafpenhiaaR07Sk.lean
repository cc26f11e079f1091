/- Chapter 07: the law ScanSteady, walked. -/
import Derived.Test.YtigcchafpenhiaaR07Sj
import Derived.Test.YtigcchafpenhiaaDrG
namespace Go.Dr.T


abbrev soV (a b d e r x y : Int) (f : UInt8) : V := .agg [.int .i64 a, .int .i64 b, .int .i64 d, .int .i64 e, .int .i64 r, .int .i64 x, .int .i64 y, .int .u8 f.toNat]
set_option maxRecDepth 100000 in
set_option maxHeartbeats 20000000 in
theorem law_steady_bad {w h : Int} {c : Bool} {l : List UInt8} {w' h' : Int} {c' : Bool} {l' : List UInt8} {a b d e r x y : Int} {f : UInt8} {k : Int} (hk : k ≠ 0) (hA : Fun F md 24 [frV w h c l, frV w' h' c' l', winV a b d e, .int .i64 r] (noS k)) (hh : Second w h c l a b d e r x y f) :
    Fun F md 6 [frV w h c l, frV w' h' c' l', soV a b d e r x y f] (.bool true) := by
  refine fun_ends rfl rfl ?_
  conv => whnf
  refine EndsC.seq ?_
  repeat' (first
    | (conv => whnf)
      first
      | refine Br.t ?_
      | refine Br.f ?_
      | refine Br.decT (by first | assumption | omega) ?_
      | refine Br.decF (by first | assumption | omega) ?_
      | refine Br.dec (fun _ => ?_) (fun _ => ?_)
      | refine Br.not ?_
      | refine Br.and ?_
      | refine Br.or ?_
      | refine Bnd.i64 (by omega) (by omega) ?_
      | refine Req.mk (by first | rfl | decide | exact ⟨rfl, rfl⟩ | exact ⟨rfl, by decide⟩ | exact (fun _ => rfl) | exact (fun h => nomatch h) | (simp; done) | omega | (simp [big]; done) | exact le_big (by omega) | exact lt_big (by omega)) ?_
      | refine Idx.nat (by omega) ?_
      | refine Idx.nat (le_big (by omega)) ?_
      | refine Idx.int (by omega) (by omega) ?_
      | refine Ifz.zero ?_
      | refine Ifz.pos (by omega) ?_
      | refine Get.mk _ rfl ?_
      | refine Leaves.of ?_
      | refine Ends.of ?_
      | refine Vw.bool ?_
      | refine Vw.int ?_
      | refine Vw.nil
      | refine Vw.sl
      | refine Vw.tup ?_
      | refine Vw.agg ?_
      | refine VwL.cons ?_ ?_
      | refine VwL.nil
      | refine LeavesF.of ?_
      | refine VwF.bool ?_
      | refine VwF.int ?_
      | refine VwF.nil
      | refine VwF.sl
      | refine VwF.tup ?_
      | refine VwF.agg ?_
      | refine VwLF.cons ?_ ?_
      | refine VwLF.nil)
  refine EndsC.cut 276 [3, 4, 5, 6, 7, 8] [(3, .ref 0 3 0), (4, .ref 1 3 0), (5, .ref 2 8 0), (6, .bool false), (7, .ref 3 3 0), (8, .int .i64 k)] [.blk [.int .i64 w, .int .i64 h, .sl c l.length (ofBytes l)] false, .blk [.int .i64 w', .int .i64 h', .sl c' l'.length (ofBytes l')] false, .blk [.int .i64 a, .int .i64 b, .int .i64 d, .int .i64 e, .int .i64 r, .int .i64 x, .int .i64 y, .int .u8 f.toNat] false, .blk [.int .i64 0, .int .i64 0, .int .i64 0] false] rfl (by decide +kernel) (by decide +kernel) (by decide +kernel) ?_ ?_
  · repeat' (first
      | (conv => whnf)
        first
        | refine Br.t ?_
        | refine Br.f ?_
        | refine Br.decT (by first | assumption | omega) ?_
        | refine Br.decF (by first | assumption | omega) ?_
        | refine Br.dec (fun _ => ?_) (fun _ => ?_)
        | refine Br.not ?_
        | refine Br.and ?_
        | refine Br.or ?_
        | refine Bnd.i64 (by omega) (by omega) ?_
        | refine call_fun rfl rfl hA (.inl rfl) ?_
        | refine Req.mk (by first | rfl | decide | exact ⟨rfl, rfl⟩ | exact ⟨rfl, by decide⟩ | exact (fun _ => rfl) | exact (fun h => nomatch h) | (simp; done) | omega | (simp [big]; done) | exact le_big (by omega) | exact lt_big (by omega)) ?_
        | refine Idx.nat (by omega) ?_
        | refine Idx.nat (le_big (by omega)) ?_
        | refine Idx.int (by omega) (by omega) ?_
        | refine Ifz.zero ?_
        | refine Ifz.pos (by omega) ?_
        | refine Get.mk _ rfl ?_
        | refine Leaves.of ?_
        | refine Ends.of ?_
        | refine Vw.bool ?_
        | refine Vw.int ?_
        | refine Vw.nil
        | refine Vw.sl
        | refine Vw.tup ?_
        | refine Vw.agg ?_
        | refine VwL.cons ?_ ?_
        | refine VwL.nil
        | refine LeavesF.of ?_
        | refine VwF.bool ?_
        | refine VwF.int ?_
        | refine VwF.nil
        | refine VwF.sl
        | refine VwF.tup ?_
        | refine VwF.agg ?_
        | refine VwLF.cons ?_ ?_
        | refine VwLF.nil)
    exact ⟨rfl, by repeat (first | exact trivial | refine ⟨rfl, ?_⟩), rfl⟩
  conv => whnf
  refine EndsC.cut 276 [3, 4, 5, 6, 7] [(3, .ref 0 3 0), (4, .ref 1 3 0), (5, .ref 2 8 0), (6, .bool false), (7, .ref 3 3 0)] [.blk [.int .i64 w, .int .i64 h, .sl c l.length (ofBytes l)] false, .blk [.int .i64 w', .int .i64 h', .sl c' l'.length (ofBytes l')] false, .blk [.int .i64 a, .int .i64 b, .int .i64 d, .int .i64 e, .int .i64 r, .int .i64 x, .int .i64 y, .int .u8 f.toNat] false, .blk [.int .i64 0, .int .i64 0, .int .i64 0] false] rfl (by decide +kernel) (by decide +kernel) (by decide +kernel) ?_ ?_
  · repeat' (first
      | (conv => whnf)
        first
        | refine Br.t ?_
        | refine Br.f ?_
        | refine Br.decT (by first | assumption | omega) ?_
        | refine Br.decF (by first | assumption | omega) ?_
        | refine Br.dec (fun _ => ?_) (fun _ => ?_)
        | refine Br.not ?_
        | refine Br.and ?_
        | refine Br.or ?_
        | refine Bnd.i64 (by omega) (by omega) ?_
        | refine Req.mk (by first | rfl | decide | exact ⟨rfl, rfl⟩ | exact ⟨rfl, by decide⟩ | exact (fun _ => rfl) | exact (fun h => nomatch h) | (simp; done) | omega | (simp [big]; done) | exact le_big (by omega) | exact lt_big (by omega)) ?_
        | refine Idx.nat (by omega) ?_
        | refine Idx.nat (le_big (by omega)) ?_
        | refine Idx.int (by omega) (by omega) ?_
        | refine Ifz.zero ?_
        | refine Ifz.pos (by omega) ?_
        | refine Get.mk _ rfl ?_
        | refine Leaves.of ?_
        | refine Ends.of ?_
        | refine Vw.bool ?_
        | refine Vw.int ?_
        | refine Vw.nil
        | refine Vw.sl
        | refine Vw.tup ?_
        | refine Vw.agg ?_
        | refine VwL.cons ?_ ?_
        | refine VwL.nil
        | refine LeavesF.of ?_
        | refine VwF.bool ?_
        | refine VwF.int ?_
        | refine VwF.nil
        | refine VwF.sl
        | refine VwF.tup ?_
        | refine VwF.agg ?_
        | refine VwLF.cons ?_ ?_
        | refine VwLF.nil)
    exact ⟨rfl, by repeat (first | exact trivial | refine ⟨rfl, ?_⟩), rfl⟩
  conv => whnf
  rcases hh with ⟨k2, hk2, hM⟩ | ⟨A, k2, hk2, hC, hM, hS⟩ | ⟨A, B, ⟨mx, my, ms⟩, w1, w2, h1, h2, a1, a2, a3, d1, d2, d3, r1, r2, x1, x2, y1, y2, m1, m2, m3, m4, hz, hC, hCB, hM, hS, hBk⟩
  · refine EndsC.wp ?_
    repeat' (first
      | (conv => whnf)
        first
        | refine Br.t ?_
        | refine Br.f ?_
        | refine Br.decT (by first | assumption | omega) ?_
        | refine Br.decF (by first | assumption | omega) ?_
        | refine Br.dec (fun _ => ?_) (fun _ => ?_)
        | refine Br.not ?_
        | refine Br.and ?_
        | refine Br.or ?_
        | refine Bnd.i64 (by omega) (by omega) ?_
        | refine call_fun rfl rfl hM (.inl rfl) ?_
        | refine call_fun rfl rfl awake (.inl rfl) ?_
        | refine Req.mk (by first | rfl | decide | exact ⟨rfl, rfl⟩ | exact ⟨rfl, by decide⟩ | exact (fun _ => rfl) | exact (fun h => nomatch h) | (simp; done) | omega | (simp [big]; done) | exact le_big (by omega) | exact lt_big (by omega)) ?_
        | refine Idx.nat (by omega) ?_
        | refine Idx.nat (le_big (by omega)) ?_
        | refine Idx.int (by omega) (by omega) ?_
        | refine Ifz.zero ?_
        | refine Ifz.pos (by omega) ?_
        | refine Get.mk _ rfl ?_
        | refine Leaves.of ?_
        | refine Ends.of ?_
        | refine Vw.bool ?_
        | refine Vw.int ?_
        | refine Vw.nil
        | refine Vw.sl
        | refine Vw.tup ?_
        | refine Vw.agg ?_
        | refine VwL.cons ?_ ?_
        | refine VwL.nil
        | refine LeavesF.of ?_
        | refine VwF.bool ?_
        | refine VwF.int ?_
        | refine VwF.nil
        | refine VwF.sl
        | refine VwF.tup ?_
        | refine VwF.agg ?_
        | refine VwLF.cons ?_ ?_
        | refine VwLF.nil)
    all_goals first | rfl | (exfalso; omega)
  · refine EndsC.wp ?_
    repeat' (first
      | (conv => whnf)
        first
        | refine Br.t ?_
        | refine Br.f ?_
        | refine Br.decT (by first | assumption | omega) ?_
        | refine Br.decF (by first | assumption | omega) ?_
        | refine Br.dec (fun _ => ?_) (fun _ => ?_)
        | refine Br.not ?_
        | refine Br.and ?_
        | refine Br.or ?_
        | refine Bnd.i64 (by omega) (by omega) ?_
        | refine call_fun rfl rfl hM (.inl rfl) ?_
        | refine call_fun rfl rfl hC (.inl rfl) ?_
        | refine call_fun rfl rfl hS (.inl rfl) ?_
        | refine call_fun rfl rfl awake (.inl rfl) ?_
        | refine Req.mk (by first | rfl | decide | exact ⟨rfl, rfl⟩ | exact ⟨rfl, by decide⟩ | exact (fun _ => rfl) | exact (fun h => nomatch h) | (simp; done) | omega | (simp [big]; done) | exact le_big (by omega) | exact lt_big (by omega)) ?_
        | refine Idx.nat (by omega) ?_
        | refine Idx.nat (le_big (by omega)) ?_
        | refine Idx.int (by omega) (by omega) ?_
        | refine Ifz.zero ?_
        | refine Ifz.pos (by omega) ?_
        | refine Get.mk _ rfl ?_
        | refine Leaves.of ?_
        | refine Ends.of ?_
        | refine Vw.bool ?_
        | refine Vw.int ?_
        | refine Vw.nil
        | refine Vw.sl
        | refine Vw.tup ?_
        | refine Vw.agg ?_
        | refine VwL.cons ?_ ?_
        | refine VwL.nil
        | refine LeavesF.of ?_
        | refine VwF.bool ?_
        | refine VwF.int ?_
        | refine VwF.nil
        | refine VwF.sl
        | refine VwF.tup ?_
        | refine VwF.agg ?_
        | refine VwLF.cons ?_ ?_
        | refine VwLF.nil)
    all_goals first | rfl | (exfalso; omega)
  · simp only at m1 m2 m3 m4 hz hBk
    replace hS := show Fun F md 24 [frV w h c l, frV w h false A, winV a b d e, .int .i64 r] (.tup [.agg [.int .i64 mx, .int .i64 my, .int .i64 ms], .int .i64 0]) from hS
    by_cases hin : 0 ≤ a + x ∧ b + x < w ∧ 0 ≤ d + y ∧ e + y < h
    · by_cases hwi : 0 - r ≤ x ∧ x ≤ r ∧ 0 - r ≤ y ∧ y ≤ r
      · obtain ⟨rfl, hD⟩ := hz hin hwi
        clear hz
        refine EndsC.wp ?_
        repeat' (first
          | (conv => whnf)
            first
            | refine Br.t ?_
            | refine Br.f ?_
            | refine Br.decT (by first | assumption | omega) ?_
            | refine Br.decF (by first | assumption | omega) ?_
            | refine Br.dec (fun _ => ?_) (fun _ => ?_)
            | refine Br.not ?_
            | refine Br.and ?_
            | refine Br.or ?_
            | refine Bnd.i64 (by omega) (by omega) ?_
            | refine call_fun rfl rfl hM (.inl rfl) ?_
            | refine call_fun rfl rfl hC (.inl rfl) ?_
            | refine call_fun rfl rfl hS (.inl rfl) ?_
            | refine call_fun rfl rfl hBk (.inl rfl) ?_
            | refine call_fun rfl rfl hCB (.inl rfl) ?_
            | refine call_fun rfl rfl hD (.inl rfl) ?_
            | refine call_fun rfl rfl awake (.inl rfl) ?_
            | refine Bnd.any ?_
            | refine Req.mk (by first | rfl | decide | exact ⟨rfl, rfl⟩ | exact ⟨rfl, by decide⟩ | exact (fun _ => rfl) | exact (fun h => nomatch h) | (simp; done) | omega | (simp [big]; done) | exact le_big (by omega) | exact lt_big (by omega)) ?_
            | refine Idx.nat (by omega) ?_
            | refine Idx.nat (le_big (by omega)) ?_
            | refine Idx.int (by omega) (by omega) ?_
            | refine Ifz.zero ?_
            | refine Ifz.pos (by omega) ?_
            | refine Get.mk _ rfl ?_
            | refine Leaves.of ?_
            | refine Ends.of ?_
            | refine Vw.bool ?_
            | refine Vw.int ?_
            | refine Vw.nil
            | refine Vw.sl
            | refine Vw.tup ?_
            | refine Vw.agg ?_
            | refine VwL.cons ?_ ?_
            | refine VwL.nil
            | refine LeavesF.of ?_
            | refine VwF.bool ?_
            | refine VwF.int ?_
            | refine VwF.nil
            | refine VwF.sl
            | refine VwF.tup ?_
            | refine VwF.agg ?_
            | refine VwLF.cons ?_ ?_
            | refine VwLF.nil)
        all_goals first | rfl | (exfalso; omega)
      · clear hz
        refine EndsC.wp ?_
        repeat' (first
          | (conv => whnf)
            first
            | refine Br.t ?_
            | refine Br.f ?_
            | refine Br.decT (by first | assumption | omega) ?_
            | refine Br.decF (by first | assumption | omega) ?_
            | refine Br.dec (fun _ => ?_) (fun _ => ?_)
            | refine Br.not ?_
            | refine Br.and ?_
            | refine Br.or ?_
            | refine Bnd.i64 (by omega) (by omega) ?_
            | refine call_fun rfl rfl hM (.inl rfl) ?_
            | refine call_fun rfl rfl hC (.inl rfl) ?_
            | refine call_fun rfl rfl hS (.inl rfl) ?_
            | refine call_fun rfl rfl awake (.inl rfl) ?_
            | refine Bnd.any ?_
            | refine Req.mk (by first | rfl | decide | exact ⟨rfl, rfl⟩ | exact ⟨rfl, by decide⟩ | exact (fun _ => rfl) | exact (fun h => nomatch h) | (simp; done) | omega | (simp [big]; done) | exact le_big (by omega) | exact lt_big (by omega)) ?_
            | refine Idx.nat (by omega) ?_
            | refine Idx.nat (le_big (by omega)) ?_
            | refine Idx.int (by omega) (by omega) ?_
            | refine Ifz.zero ?_
            | refine Ifz.pos (by omega) ?_
            | refine Get.mk _ rfl ?_
            | refine Leaves.of ?_
            | refine Ends.of ?_
            | refine Vw.bool ?_
            | refine Vw.int ?_
            | refine Vw.nil
            | refine Vw.sl
            | refine Vw.tup ?_
            | refine Vw.agg ?_
            | refine VwL.cons ?_ ?_
            | refine VwL.nil
            | refine LeavesF.of ?_
            | refine VwF.bool ?_
            | refine VwF.int ?_
            | refine VwF.nil
            | refine VwF.sl
            | refine VwF.tup ?_
            | refine VwF.agg ?_
            | refine VwLF.cons ?_ ?_
            | refine VwLF.nil)
        all_goals first | rfl | (exfalso; omega)
    · clear hz
      refine EndsC.wp ?_
      repeat' (first
        | (conv => whnf)
          first
          | refine Br.t ?_
          | refine Br.f ?_
          | refine Br.decT (by first | assumption | omega) ?_
          | refine Br.decF (by first | assumption | omega) ?_
          | refine Br.dec (fun _ => ?_) (fun _ => ?_)
          | refine Br.not ?_
          | refine Br.and ?_
          | refine Br.or ?_
          | refine Bnd.i64 (by omega) (by omega) ?_
          | refine call_fun rfl rfl hM (.inl rfl) ?_
          | refine call_fun rfl rfl hC (.inl rfl) ?_
          | refine call_fun rfl rfl hS (.inl rfl) ?_
          | refine call_fun rfl rfl awake (.inl rfl) ?_
          | refine Bnd.any ?_
          | refine Req.mk (by first | rfl | decide | exact ⟨rfl, rfl⟩ | exact ⟨rfl, by decide⟩ | exact (fun _ => rfl) | exact (fun h => nomatch h) | (simp; done) | omega | (simp [big]; done) | exact le_big (by omega) | exact lt_big (by omega)) ?_
          | refine Idx.nat (by omega) ?_
          | refine Idx.nat (le_big (by omega)) ?_
          | refine Idx.int (by omega) (by omega) ?_
          | refine Ifz.zero ?_
          | refine Ifz.pos (by omega) ?_
          | refine Get.mk _ rfl ?_
          | refine Leaves.of ?_
          | refine Ends.of ?_
          | refine Vw.bool ?_
          | refine Vw.int ?_
          | refine Vw.nil
          | refine Vw.sl
          | refine Vw.tup ?_
          | refine Vw.agg ?_
          | refine VwL.cons ?_ ?_
          | refine VwL.nil
          | refine LeavesF.of ?_
          | refine VwF.bool ?_
          | refine VwF.int ?_
          | refine VwF.nil
          | refine VwF.sl
          | refine VwF.tup ?_
          | refine VwF.agg ?_
          | refine VwLF.cons ?_ ?_
          | refine VwLF.nil)
      all_goals first | rfl | (exfalso; omega)

end Go.Dr.T
