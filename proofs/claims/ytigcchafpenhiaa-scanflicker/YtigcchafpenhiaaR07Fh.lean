/- Chapter 07: Flicker of the reference. -/
import Derived.Test.YtigcchafpenhiaaR07Fg
namespace Go.Dr.T



set_option maxRecDepth 100000 in
set_option maxHeartbeats 20000000 in
theorem flickerR_ok {W H : Nat} {c0 : Bool} {l : List Fr} {b0 : List UInt8} {rb : Nat → List UInt8} {a b d e nx ny n : Nat} {cA cW : Bool} (h1 : 1 ≤ W) (h2 : W ≤ 48) (h3 : 1 ≤ H) (h4 : H ≤ 48) (hst : strangeL l = 0) (hn : l.length = n + 1) (hn2 : n ≤ 23) 
    (hp0 : part (ofFr l) (0 * 3) 3 = some [.int .i64 (W : Nat), .int .i64 (H : Nat), .sl false b0.length (ofBytes b0)]) 
    (hp : ∀ k < n, part (ofFr l) ((k + 1) * 3) 3 = some [.int .i64 (W : Nat), .int .i64 (H : Nat), .sl false (rb k).length (ofBytes (rb k))]) (hb0 : b0.length = W * H) (hlen : ∀ k < n, (rb k).length = W * H)
    (hnx : a + nx = b + 1) (hny : d + ny = e + 1) (hbW : b < W) (heH : e < H) (hab : a ≤ b) (hde : d ≤ e)
    (hcA : cA = decide (n = 0)) (hcW : cW = decide ((wrsF W H b0 rb a d nx ny n).length = 0)) :
    Fun F md 40 [.sl c0 l.length (ofFr l), .agg [.int .i64 (a : Nat), .int .i64 (b : Nat), .int .i64 (d : Nat), .int .i64 (e : Nat)]] (.tup [.sl cA (allF W H b0 rb a d nx ny n).length (ofSh (allF W H b0 rb a d nx ny n)), .sl cW (wrsF W H b0 rb a d nx ny n).length ((wrsF W H b0 rb a d nx ny n).map (V.int .i64)), .int .i64 0]) := by
  have hS := list_any c0 l
  rw [hst] at hS
  have hout : outA W H a b d e = false := by unfold outA; simp; omega
  have hO := area_any (c0 := false) (l := b0) h2 h4 a b d e
  rw [hout] at hO
  generalize l.length = L at *
  refine fun_of rfl rfl ?_
  repeat' (first
    | (conv => whnf)
      first
      | refine Br.t ?_
      | refine Br.f ?_
      | (refine Br.decT ?_ ?_; (focus first | assumption | omega))
      | (refine Br.decF ?_ ?_; (focus first | assumption | omega))
      | refine Br.dec (fun _ => ?_) (fun _ => ?_)
      | refine Br.not ?_
      | refine Br.and ?_
      | refine Br.or ?_
      | (refine Bnd.i64 ?_ ?_ ?_; (focus omega); (focus omega))
      | refine call_fun rfl rfl hS (.inl rfl) ?_
      | refine Get.mk _ hp0 ?_
      | refine call_fun rfl rfl hO (.inl rfl) ?_
      | (refine Idx.int ?_ ?_ ?_; (focus omega); (focus omega))
      | (refine Idx.nat ?_ ?_; (focus omega))
      | refine Idx.nat (le_big (by omega)) ?_
      | (refine Idx.int ?_ ?_ ?_; (focus omega); (focus omega))
      | (refine Idx.int ?_ ?_ ?_; (focus decide); (focus decide))
      | refine Ifz.zero ?_
      | (refine Ifz.pos ?_ ?_; (focus omega))
      | refine Get.mk _ rfl ?_
      | refine Leaves.of ?_
      | refine Ends.of ?_
      | refine Vw.bool ?_
      | refine Vw.int ?_
      | refine Vw.nil
      | refine Vw.sl
      | refine Vw.tup ?_
      | refine Vw.agg ?_
      | refine VwL.cons ?_ ?_
      | refine VwL.nil
      | refine LeavesF.of ?_
      | refine VwF.bool ?_
      | refine VwF.int ?_
      | refine VwF.nil
      | refine VwF.sl
      | refine VwF.tup ?_
      | refine VwF.agg ?_
      | refine VwLF.cons ?_ ?_
      | refine VwLF.nil
      | (refine Req.mk ?_ ?_; (focus first | rfl | decide | exact ⟨rfl, rfl⟩ | exact ⟨rfl, by decide⟩ | exact (fun _ => rfl) | exact (fun h => nomatch h) | (simp; done) | omega | (simp [big]; done) | exact le_big (by omega) | exact lt_big (by omega))))
  refine LoopP.by (fun s : FS => fsK s ≤ n ∧ match s with
      | .a => True
      | .b k => wrsF W H b0 rb a d nx ny (k + 1) = []
      | .c k m => m = (wrsF W H b0 rb a d nx ny (k + 1)).length ∧ 0 < m
      | .d k m q => m = (wrsF W H b0 rb a d nx ny (k + 1)).length ∧ 0 < m)
    (fun s => match s with
      | .a => [(8, .sl true 1 [.int .i64 1000, .int .i64 1000]), (9, .nilsl), (10, .int .i64 1)]
      | .b k => [(8, .ms 2 2 (2 * (k + 1 + 1)) 0 (k + 1 + 1) false), (9, .nilsl), (10, .int .i64 ((k + 1 + 1 : Nat) : Int))]
      | .c k m => [(8, .ms 2 3 (2 * (k + 1 + 1)) 0 (k + 1 + 1) false), (9, .ms 1 2 m 0 m false), (10, .int .i64 ((k + 1 + 1 : Nat) : Int))]
      | .d k m q => [(8, .ms 2 2 (2 * (k + 1 + 1)) 0 (k + 1 + 1) false), (9, .ms 1 4 m 0 m false), (10, .int .i64 ((k + 1 + 1 : Nat) : Int))])
    (fun s => match s with
      | .a => [np a b d e]
      | .b k => [np a b d e, ns (resF W H b0 rb a d nx ny 0).1 (resF W H b0 rb a d nx ny 0).2, na (allF W H b0 rb a d nx ny (k + 1))]
      | .c k m => [np a b d e, ns 0 0, nw (wrsF W H b0 rb a d nx ny (k + 1)), na (allF W H b0 rb a d nx ny (k + 1))]
      | .d k m q => [np a b d e, ns (resF W H b0 rb a d nx ny 0).1 (resF W H b0 rb a d nx ny 0).2, na (allF W H b0 rb a d nx ny (k + 1)), ns 0 0, nw (wrsF W H b0 rb a d nx ny (k + 1))]) (fun s => n - fsK s) .a ⟨Nat.zero_le _, trivial⟩ rfl ?_
  rintro s hss
  cases s with
  | a =>
    have hsn : 0 ≤ n := hss.1
    clear hss
    dsimp only
    by_cases hkn : 0 < n
    · have hpK := hp (0) (by omega)
      have hlK := hlen (0) (by omega)
      repeat' (first
        | (conv => whnf)
          first
          | refine Br.t ?_
          | refine Br.f ?_
          | (refine Br.decT ?_ ?_; (focus first | assumption | omega))
          | (refine Br.decF ?_ ?_; (focus first | assumption | omega))
          | refine Br.dec (fun _ => ?_) (fun _ => ?_)
          | refine Br.not ?_
          | refine Br.and ?_
          | refine Br.or ?_
          | (refine Bnd.i64 ?_ ?_ ?_; (focus omega); (focus omega))
          | (refine Idx.nat ?_ ?_; (focus omega))
          | refine Idx.nat (le_big (by omega)) ?_
          | (refine Idx.int ?_ ?_ ?_; (focus omega); (focus omega))
          | (refine Idx.int ?_ ?_ ?_; (focus decide); (focus decide))
          | refine Ifz.zero ?_
          | (refine Ifz.pos ?_ ?_; (focus omega))
          | refine Get.mk _ rfl ?_
          | refine Leaves.of ?_
          | refine Ends.of ?_
          | refine Vw.bool ?_
          | refine Vw.int ?_
          | refine Vw.nil
          | refine Vw.sl
          | refine Vw.tup ?_
          | refine Vw.agg ?_
          | refine VwL.cons ?_ ?_
          | refine VwL.nil
          | refine LeavesF.of ?_
          | refine VwF.bool ?_
          | refine VwF.int ?_
          | refine VwF.nil
          | refine VwF.sl
          | refine VwF.tup ?_
          | refine VwF.agg ?_
          | refine VwLF.cons ?_ ?_
          | refine VwLF.nil
          | (refine Req.mk ?_ ?_; (focus first | rfl | decide | exact ⟨rfl, rfl⟩ | exact ⟨rfl, by decide⟩ | exact (fun _ => rfl) | exact (fun h => nomatch h) | (simp; done) | omega | (simp [big]; done) | exact le_big (by omega) | exact lt_big (by omega))))
      refine LoopP.by (fun s : Nat × Int × Int => s.1 ≤ ny ∧ foldAll (rT W H b0 rb a d (0)) (1, 100000) nx s.1 = s.2) (fun s => [(12, .int .i64 ((d + s.1 : Nat) : Int))]) (fun s => [np a b d e, ns s.2.1 s.2.2]) (fun s => ny - s.1) (0, 1, 100000) ⟨Nat.zero_le _, rfl⟩ rfl ?_
      rintro ⟨j, lo, hi⟩ ⟨hj, hS⟩
      simp only at hj hS
      dsimp only
      by_cases hjn : j < ny
      · repeat' (first
          | (conv => whnf)
            first
            | refine Br.t ?_
            | refine Br.f ?_
            | (refine Br.decT ?_ ?_; (focus first | assumption | omega))
            | (refine Br.decF ?_ ?_; (focus first | assumption | omega))
            | refine Br.dec (fun _ => ?_) (fun _ => ?_)
            | refine Br.not ?_
            | refine Br.and ?_
            | refine Br.or ?_
            | (refine Bnd.i64 ?_ ?_ ?_; (focus omega); (focus omega))
            | (refine Idx.nat ?_ ?_; (focus omega))
            | refine Idx.nat (le_big (by omega)) ?_
            | (refine Idx.int ?_ ?_ ?_; (focus omega); (focus omega))
            | (refine Idx.int ?_ ?_ ?_; (focus decide); (focus decide))
            | refine Ifz.zero ?_
            | (refine Ifz.pos ?_ ?_; (focus omega))
            | refine Get.mk _ rfl ?_
            | refine Leaves.of ?_
            | refine Ends.of ?_
            | refine Vw.bool ?_
            | refine Vw.int ?_
            | refine Vw.nil
            | refine Vw.sl
            | refine Vw.tup ?_
            | refine Vw.agg ?_
            | refine VwL.cons ?_ ?_
            | refine VwL.nil
            | refine LeavesF.of ?_
            | refine VwF.bool ?_
            | refine VwF.int ?_
            | refine VwF.nil
            | refine VwF.sl
            | refine VwF.tup ?_
            | refine VwF.agg ?_
            | refine VwLF.cons ?_ ?_
            | refine VwLF.nil
            | (refine Req.mk ?_ ?_; (focus first | rfl | decide | exact ⟨rfl, rfl⟩ | exact ⟨rfl, by decide⟩ | exact (fun _ => rfl) | exact (fun h => nomatch h) | (simp; done) | omega | (simp [big]; done) | exact le_big (by omega) | exact lt_big (by omega))))
        refine LoopP.by (fun s : Nat × Int × Int => s.1 ≤ nx ∧ foldRow (fun z i => rT W H b0 rb a d (0) z i j) (lo, hi) s.1 = s.2) (fun s => [(13, .int .i64 ((a + s.1 : Nat) : Int))]) (fun s => [np a b d e, ns s.2.1 s.2.2]) (fun s => nx - s.1) (0, lo, hi) ⟨Nat.zero_le _, rfl⟩ rfl ?_
        rintro ⟨i, lo', hi'⟩ ⟨hi_, hR⟩
        simp only at hi_ hR
        dsimp only
        by_cases hin : i < nx
        · have hA0 := pixel_any (c := false) h2 h4 hb0 ((a + i : Nat) : Int) ((d + j : Nat) : Int)
          have hA1 := pixel_any (c := false) h2 h4 hlK ((a + i : Nat) : Int) ((d + j : Nat) : Int)
          have hE := expR_at (pixV_le W H b0 ((a + i : Nat) : Int) ((d + j : Nat) : Int)) (pixV_le W H (rb (0)) ((a + i : Nat) : Int) ((d + j : Nat) : Int))
          have hN := rrow_next hR
          generalize pixV W H b0 ((a + i : Nat) : Int) ((d + j : Nat) : Int) = p at *
          generalize pixV W H (rb (0)) ((a + i : Nat) : Int) ((d + j : Nat) : Int) = q at *
          repeat' (first
            | (conv => whnf)
              first
              | refine Br.t ?_
              | refine Br.f ?_
              | (refine Br.decT ?_ ?_; (focus first | assumption | omega))
              | (refine Br.decF ?_ ?_; (focus first | assumption | omega))
              | refine Br.dec (fun _ => ?_) (fun _ => ?_)
              | refine Br.not ?_
              | refine Br.and ?_
              | refine Br.or ?_
              | (refine Bnd.i64 ?_ ?_ ?_; (focus omega); (focus omega))
              | refine Get.mk _ hp0 ?_
              | refine Get.mk _ hpK ?_
              | refine call_fun rfl rfl hA0 (.inl rfl) ?_
              | refine call_fun rfl rfl hA1 (.inl rfl) ?_
              | refine call_fun rfl rfl hE (.inl rfl) ?_
              | (refine Idx.int ?_ ?_ ?_; (focus omega); (focus omega))
              | refine Bnd.any ?_
              | (refine Idx.nat ?_ ?_; (focus omega))
              | refine Idx.nat (le_big (by omega)) ?_
              | (refine Idx.int ?_ ?_ ?_; (focus omega); (focus omega))
              | (refine Idx.int ?_ ?_ ?_; (focus decide); (focus decide))
              | refine Ifz.zero ?_
              | (refine Ifz.pos ?_ ?_; (focus omega))
              | refine Get.mk _ rfl ?_
              | refine Leaves.of ?_
              | refine Ends.of ?_
              | refine Vw.bool ?_
              | refine Vw.int ?_
              | refine Vw.nil
              | refine Vw.sl
              | refine Vw.tup ?_
              | refine Vw.agg ?_
              | refine VwL.cons ?_ ?_
              | refine VwL.nil
              | refine LeavesF.of ?_
              | refine VwF.bool ?_
              | refine VwF.int ?_
              | refine VwF.nil
              | refine VwF.sl
              | refine VwF.tup ?_
              | refine VwF.agg ?_
              | refine VwLF.cons ?_ ?_
              | refine VwLF.nil
              | (refine Req.mk ?_ ?_; (focus first | rfl | decide | exact ⟨rfl, rfl⟩ | exact ⟨rfl, by decide⟩ | exact (fun _ => rfl) | exact (fun h => nomatch h) | (simp; done) | omega | (simp [big]; done) | exact le_big (by omega) | exact lt_big (by omega))))
          all_goals exact NextP.mk (i + 1, _, _) ⟨hin, hN⟩ (by simp only; omega) rfl
        · obtain rfl : i = nx := by omega
          repeat' (first
            | (conv => whnf)
              first
              | refine Br.t ?_
              | refine Br.f ?_
              | (refine Br.decT ?_ ?_; (focus first | assumption | omega))
              | (refine Br.decF ?_ ?_; (focus first | assumption | omega))
              | refine Br.dec (fun _ => ?_) (fun _ => ?_)
              | refine Br.not ?_
              | refine Br.and ?_
              | refine Br.or ?_
              | (refine Bnd.i64 ?_ ?_ ?_; (focus omega); (focus omega))
              | (refine Idx.nat ?_ ?_; (focus omega))
              | refine Idx.nat (le_big (by omega)) ?_
              | (refine Idx.int ?_ ?_ ?_; (focus omega); (focus omega))
              | (refine Idx.int ?_ ?_ ?_; (focus decide); (focus decide))
              | refine Ifz.zero ?_
              | (refine Ifz.pos ?_ ?_; (focus omega))
              | refine Get.mk _ rfl ?_
              | refine Leaves.of ?_
              | refine Ends.of ?_
              | refine Vw.bool ?_
              | refine Vw.int ?_
              | refine Vw.nil
              | refine Vw.sl
              | refine Vw.tup ?_
              | refine Vw.agg ?_
              | refine VwL.cons ?_ ?_
              | refine VwL.nil
              | refine LeavesF.of ?_
              | refine VwF.bool ?_
              | refine VwF.int ?_
              | refine VwF.nil
              | refine VwF.sl
              | refine VwF.tup ?_
              | refine VwF.agg ?_
              | refine VwLF.cons ?_ ?_
              | refine VwLF.nil
              | (refine Req.mk ?_ ?_; (focus first | rfl | decide | exact ⟨rfl, rfl⟩ | exact ⟨rfl, by decide⟩ | exact (fun _ => rfl) | exact (fun h => nomatch h) | (simp; done) | omega | (simp [big]; done) | exact le_big (by omega) | exact lt_big (by omega))))
          all_goals exact NextP.mk (j + 1, lo', hi') ⟨hjn, all_row hS hR⟩ (by simp only; omega) rfl
      · obtain rfl : j = ny := by omega
        have hfin : rF W H b0 rb a d nx j (0) = (lo, hi) := hS
        clear hS
        by_cases hlh : lo ≤ hi
        · obtain ⟨hres, hwr⟩ := rF_true hfin hlh
          repeat' (first
            | (conv => whnf)
              first
              | refine Br.t ?_
              | refine Br.f ?_
              | (refine Br.decT ?_ ?_; (focus first | assumption | omega))
              | (refine Br.decF ?_ ?_; (focus first | assumption | omega))
              | refine Br.dec (fun _ => ?_) (fun _ => ?_)
              | refine Br.not ?_
              | refine Br.and ?_
              | refine Br.or ?_
              | (refine Bnd.i64 ?_ ?_ ?_; (focus omega); (focus omega))
              | refine Req.mk (blosK (by kernel_rfl)) ?_
              | refine Req.mk (onesK rfl (by kernel_rfl)) ?_
              | refine Req.mk (allF_cells _) ?_
              | refine Req.mk ⟨by omega, by rw [allF_cells]; show (2 * (_ + 1) + 2) * 17 < 68719476736; omega⟩ ?_
              | refine Req.mk hwl ?_
              | refine Req.mk ⟨by omega, by rw [hwl]; show (_ + 1) * 9 < 68719476736; omega⟩ ?_
              | (refine Idx.nat ?_ ?_; (focus omega))
              | refine Idx.nat (le_big (by omega)) ?_
              | (refine Idx.int ?_ ?_ ?_; (focus omega); (focus omega))
              | (refine Idx.int ?_ ?_ ?_; (focus decide); (focus decide))
              | refine Ifz.zero ?_
              | (refine Ifz.pos ?_ ?_; (focus omega))
              | refine Get.mk _ rfl ?_
              | refine Leaves.of ?_
              | refine Ends.of ?_
              | refine Vw.bool ?_
              | refine Vw.int ?_
              | refine Vw.nil
              | refine Vw.sl
              | refine Vw.tup ?_
              | refine Vw.agg ?_
              | refine VwL.cons ?_ ?_
              | refine VwL.nil
              | refine LeavesF.of ?_
              | refine VwF.bool ?_
              | refine VwF.int ?_
              | refine VwF.nil
              | refine VwF.sl
              | refine VwF.tup ?_
              | refine VwF.agg ?_
              | refine VwLF.cons ?_ ?_
              | refine VwLF.nil
              | (refine Req.mk ?_ ?_; (focus first | rfl | decide | exact ⟨rfl, rfl⟩ | exact ⟨rfl, by decide⟩ | exact (fun _ => rfl) | exact (fun h => nomatch h) | (simp; done) | omega | (simp [big]; done) | exact le_big (by omega) | exact lt_big (by omega))))
          all_goals refine NextP.mk (.b 0) ⟨by simp only [fsK]; omega, wrsF_keep hwr⟩ (by simp only [fsK]; omega) ?_
          all_goals rw [allF_one hres]
          all_goals simp only [hres]
          all_goals kernel_rfl
        · obtain ⟨hres, hwr⟩ := rF_false hfin hlh
          repeat' (first
            | (conv => whnf)
              first
              | refine Br.t ?_
              | refine Br.f ?_
              | (refine Br.decT ?_ ?_; (focus first | assumption | omega))
              | (refine Br.decF ?_ ?_; (focus first | assumption | omega))
              | refine Br.dec (fun _ => ?_) (fun _ => ?_)
              | refine Br.not ?_
              | refine Br.and ?_
              | refine Br.or ?_
              | (refine Bnd.i64 ?_ ?_ ?_; (focus omega); (focus omega))
              | refine Req.mk (blosK (by kernel_rfl)) ?_
              | refine Req.mk (onesK rfl (by kernel_rfl)) ?_
              | refine Req.mk (allF_cells _) ?_
              | refine Req.mk ⟨by omega, by rw [allF_cells]; show (2 * (_ + 1) + 2) * 17 < 68719476736; omega⟩ ?_
              | refine Req.mk hwl ?_
              | refine Req.mk ⟨by omega, by rw [hwl]; show (_ + 1) * 9 < 68719476736; omega⟩ ?_
              | (refine Idx.nat ?_ ?_; (focus omega))
              | refine Idx.nat (le_big (by omega)) ?_
              | (refine Idx.int ?_ ?_ ?_; (focus omega); (focus omega))
              | (refine Idx.int ?_ ?_ ?_; (focus decide); (focus decide))
              | refine Ifz.zero ?_
              | (refine Ifz.pos ?_ ?_; (focus omega))
              | refine Get.mk _ rfl ?_
              | refine Leaves.of ?_
              | refine Ends.of ?_
              | refine Vw.bool ?_
              | refine Vw.int ?_
              | refine Vw.nil
              | refine Vw.sl
              | refine Vw.tup ?_
              | refine Vw.agg ?_
              | refine VwL.cons ?_ ?_
              | refine VwL.nil
              | refine LeavesF.of ?_
              | refine VwF.bool ?_
              | refine VwF.int ?_
              | refine VwF.nil
              | refine VwF.sl
              | refine VwF.tup ?_
              | refine VwF.agg ?_
              | refine VwLF.cons ?_ ?_
              | refine VwLF.nil
              | (refine Req.mk ?_ ?_; (focus first | rfl | decide | exact ⟨rfl, rfl⟩ | exact ⟨rfl, by decide⟩ | exact (fun _ => rfl) | exact (fun h => nomatch h) | (simp; done) | omega | (simp [big]; done) | exact le_big (by omega) | exact lt_big (by omega))))
          all_goals refine NextP.mk (.c 0 1) ⟨by simp only [fsK]; omega, wrs_len hwr rfl, by omega⟩ (by simp only [fsK]; omega) ?_
          all_goals rw [allF_one hres, wrs_first (v := 1) rfl hwr rfl]
          all_goals kernel_rfl
    · obtain rfl : n = 0 := by omega
      repeat' (first
        | (conv => whnf)
          first
          | refine Br.t ?_
          | refine Br.f ?_
          | (refine Br.decT ?_ ?_; (focus first | assumption | omega))
          | (refine Br.decF ?_ ?_; (focus first | assumption | omega))
          | refine Br.dec (fun _ => ?_) (fun _ => ?_)
          | refine Br.not ?_
          | refine Br.and ?_
          | refine Br.or ?_
          | (refine Bnd.i64 ?_ ?_ ?_; (focus omega); (focus omega))
          | (refine Idx.nat ?_ ?_; (focus omega))
          | refine Idx.nat (le_big (by omega)) ?_
          | (refine Idx.int ?_ ?_ ?_; (focus omega); (focus omega))
          | (refine Idx.int ?_ ?_ ?_; (focus decide); (focus decide))
          | refine Ifz.zero ?_
          | (refine Ifz.pos ?_ ?_; (focus omega))
          | refine Get.mk _ rfl ?_
          | refine Leaves.of ?_
          | refine Ends.of ?_
          | refine Vw.bool ?_
          | refine Vw.int ?_
          | refine Vw.nil
          | refine Vw.sl
          | refine Vw.tup ?_
          | refine Vw.agg ?_
          | refine VwL.cons ?_ ?_
          | refine VwL.nil
          | refine LeavesF.of ?_
          | refine VwF.bool ?_
          | refine VwF.int ?_
          | refine VwF.nil
          | refine VwF.sl
          | refine VwF.tup ?_
          | refine VwF.agg ?_
          | refine VwLF.cons ?_ ?_
          | refine VwLF.nil
          | (refine Req.mk ?_ ?_; (focus first | rfl | decide | exact ⟨rfl, rfl⟩ | exact ⟨rfl, by decide⟩ | exact (fun _ => rfl) | exact (fun h => nomatch h) | (simp; done) | omega | (simp [big]; done) | exact le_big (by omega) | exact lt_big (by omega))))
      · rw [hcA]; exact Vw.sl
      · rw [hcW]; exact Vw.nil
      all_goals rfl
  | b k =>
    have hsn : k + 1 ≤ n := hss.1
    have hw0 : wrsF W H b0 rb a d nx ny (k + 1) = [] := hss.2
    clear hss
    dsimp only
    by_cases hkn : k + 1 < n
    · have hpK := hp (k + 1) (by omega)
      have hlK := hlen (k + 1) (by omega)
      repeat' (first
        | (conv => whnf)
          first
          | refine Br.t ?_
          | refine Br.f ?_
          | (refine Br.decT ?_ ?_; (focus first | assumption | omega))
          | (refine Br.decF ?_ ?_; (focus first | assumption | omega))
          | refine Br.dec (fun _ => ?_) (fun _ => ?_)
          | refine Br.not ?_
          | refine Br.and ?_
          | refine Br.or ?_
          | (refine Bnd.i64 ?_ ?_ ?_; (focus omega); (focus omega))
          | (refine Idx.nat ?_ ?_; (focus omega))
          | refine Idx.nat (le_big (by omega)) ?_
          | (refine Idx.int ?_ ?_ ?_; (focus omega); (focus omega))
          | (refine Idx.int ?_ ?_ ?_; (focus decide); (focus decide))
          | refine Ifz.zero ?_
          | (refine Ifz.pos ?_ ?_; (focus omega))
          | refine Get.mk _ rfl ?_
          | refine Leaves.of ?_
          | refine Ends.of ?_
          | refine Vw.bool ?_
          | refine Vw.int ?_
          | refine Vw.nil
          | refine Vw.sl
          | refine Vw.tup ?_
          | refine Vw.agg ?_
          | refine VwL.cons ?_ ?_
          | refine VwL.nil
          | refine LeavesF.of ?_
          | refine VwF.bool ?_
          | refine VwF.int ?_
          | refine VwF.nil
          | refine VwF.sl
          | refine VwF.tup ?_
          | refine VwF.agg ?_
          | refine VwLF.cons ?_ ?_
          | refine VwLF.nil
          | (refine Req.mk ?_ ?_; (focus first | rfl | decide | exact ⟨rfl, rfl⟩ | exact ⟨rfl, by decide⟩ | exact (fun _ => rfl) | exact (fun h => nomatch h) | (simp; done) | omega | (simp [big]; done) | exact le_big (by omega) | exact lt_big (by omega))))
      refine LoopP.by (fun s : Nat × Int × Int => s.1 ≤ ny ∧ foldAll (rT W H b0 rb a d (k + 1)) (1, 100000) nx s.1 = s.2) (fun s => [(12, .int .i64 ((d + s.1 : Nat) : Int))]) (fun s => [np a b d e, ns (resF W H b0 rb a d nx ny 0).1 (resF W H b0 rb a d nx ny 0).2, na (allF W H b0 rb a d nx ny (k + 1)), ns s.2.1 s.2.2]) (fun s => ny - s.1) (0, 1, 100000) ⟨Nat.zero_le _, rfl⟩ rfl ?_
      rintro ⟨j, lo, hi⟩ ⟨hj, hS⟩
      simp only at hj hS
      dsimp only
      by_cases hjn : j < ny
      · repeat' (first
          | (conv => whnf)
            first
            | refine Br.t ?_
            | refine Br.f ?_
            | (refine Br.decT ?_ ?_; (focus first | assumption | omega))
            | (refine Br.decF ?_ ?_; (focus first | assumption | omega))
            | refine Br.dec (fun _ => ?_) (fun _ => ?_)
            | refine Br.not ?_
            | refine Br.and ?_
            | refine Br.or ?_
            | (refine Bnd.i64 ?_ ?_ ?_; (focus omega); (focus omega))
            | (refine Idx.nat ?_ ?_; (focus omega))
            | refine Idx.nat (le_big (by omega)) ?_
            | (refine Idx.int ?_ ?_ ?_; (focus omega); (focus omega))
            | (refine Idx.int ?_ ?_ ?_; (focus decide); (focus decide))
            | refine Ifz.zero ?_
            | (refine Ifz.pos ?_ ?_; (focus omega))
            | refine Get.mk _ rfl ?_
            | refine Leaves.of ?_
            | refine Ends.of ?_
            | refine Vw.bool ?_
            | refine Vw.int ?_
            | refine Vw.nil
            | refine Vw.sl
            | refine Vw.tup ?_
            | refine Vw.agg ?_
            | refine VwL.cons ?_ ?_
            | refine VwL.nil
            | refine LeavesF.of ?_
            | refine VwF.bool ?_
            | refine VwF.int ?_
            | refine VwF.nil
            | refine VwF.sl
            | refine VwF.tup ?_
            | refine VwF.agg ?_
            | refine VwLF.cons ?_ ?_
            | refine VwLF.nil
            | (refine Req.mk ?_ ?_; (focus first | rfl | decide | exact ⟨rfl, rfl⟩ | exact ⟨rfl, by decide⟩ | exact (fun _ => rfl) | exact (fun h => nomatch h) | (simp; done) | omega | (simp [big]; done) | exact le_big (by omega) | exact lt_big (by omega))))
        refine LoopP.by (fun s : Nat × Int × Int => s.1 ≤ nx ∧ foldRow (fun z i => rT W H b0 rb a d (k + 1) z i j) (lo, hi) s.1 = s.2) (fun s => [(13, .int .i64 ((a + s.1 : Nat) : Int))]) (fun s => [np a b d e, ns (resF W H b0 rb a d nx ny 0).1 (resF W H b0 rb a d nx ny 0).2, na (allF W H b0 rb a d nx ny (k + 1)), ns s.2.1 s.2.2]) (fun s => nx - s.1) (0, lo, hi) ⟨Nat.zero_le _, rfl⟩ rfl ?_
        rintro ⟨i, lo', hi'⟩ ⟨hi_, hR⟩
        simp only at hi_ hR
        dsimp only
        by_cases hin : i < nx
        · have hA0 := pixel_any (c := false) h2 h4 hb0 ((a + i : Nat) : Int) ((d + j : Nat) : Int)
          have hA1 := pixel_any (c := false) h2 h4 hlK ((a + i : Nat) : Int) ((d + j : Nat) : Int)
          have hE := expR_at (pixV_le W H b0 ((a + i : Nat) : Int) ((d + j : Nat) : Int)) (pixV_le W H (rb (k + 1)) ((a + i : Nat) : Int) ((d + j : Nat) : Int))
          have hN := rrow_next hR
          generalize pixV W H b0 ((a + i : Nat) : Int) ((d + j : Nat) : Int) = p at *
          generalize pixV W H (rb (k + 1)) ((a + i : Nat) : Int) ((d + j : Nat) : Int) = q at *
          repeat' (first
            | (conv => whnf)
              first
              | refine Br.t ?_
              | refine Br.f ?_
              | (refine Br.decT ?_ ?_; (focus first | assumption | omega))
              | (refine Br.decF ?_ ?_; (focus first | assumption | omega))
              | refine Br.dec (fun _ => ?_) (fun _ => ?_)
              | refine Br.not ?_
              | refine Br.and ?_
              | refine Br.or ?_
              | (refine Bnd.i64 ?_ ?_ ?_; (focus omega); (focus omega))
              | refine Get.mk _ hp0 ?_
              | refine Get.mk _ hpK ?_
              | refine call_fun rfl rfl hA0 (.inl rfl) ?_
              | refine call_fun rfl rfl hA1 (.inl rfl) ?_
              | refine call_fun rfl rfl hE (.inl rfl) ?_
              | (refine Idx.int ?_ ?_ ?_; (focus omega); (focus omega))
              | refine Bnd.any ?_
              | (refine Idx.nat ?_ ?_; (focus omega))
              | refine Idx.nat (le_big (by omega)) ?_
              | (refine Idx.int ?_ ?_ ?_; (focus omega); (focus omega))
              | (refine Idx.int ?_ ?_ ?_; (focus decide); (focus decide))
              | refine Ifz.zero ?_
              | (refine Ifz.pos ?_ ?_; (focus omega))
              | refine Get.mk _ rfl ?_
              | refine Leaves.of ?_
              | refine Ends.of ?_
              | refine Vw.bool ?_
              | refine Vw.int ?_
              | refine Vw.nil
              | refine Vw.sl
              | refine Vw.tup ?_
              | refine Vw.agg ?_
              | refine VwL.cons ?_ ?_
              | refine VwL.nil
              | refine LeavesF.of ?_
              | refine VwF.bool ?_
              | refine VwF.int ?_
              | refine VwF.nil
              | refine VwF.sl
              | refine VwF.tup ?_
              | refine VwF.agg ?_
              | refine VwLF.cons ?_ ?_
              | refine VwLF.nil
              | (refine Req.mk ?_ ?_; (focus first | rfl | decide | exact ⟨rfl, rfl⟩ | exact ⟨rfl, by decide⟩ | exact (fun _ => rfl) | exact (fun h => nomatch h) | (simp; done) | omega | (simp [big]; done) | exact le_big (by omega) | exact lt_big (by omega))))
          all_goals exact NextP.mk (i + 1, _, _) ⟨hin, hN⟩ (by simp only; omega) rfl
        · obtain rfl : i = nx := by omega
          repeat' (first
            | (conv => whnf)
              first
              | refine Br.t ?_
              | refine Br.f ?_
              | (refine Br.decT ?_ ?_; (focus first | assumption | omega))
              | (refine Br.decF ?_ ?_; (focus first | assumption | omega))
              | refine Br.dec (fun _ => ?_) (fun _ => ?_)
              | refine Br.not ?_
              | refine Br.and ?_
              | refine Br.or ?_
              | (refine Bnd.i64 ?_ ?_ ?_; (focus omega); (focus omega))
              | (refine Idx.nat ?_ ?_; (focus omega))
              | refine Idx.nat (le_big (by omega)) ?_
              | (refine Idx.int ?_ ?_ ?_; (focus omega); (focus omega))
              | (refine Idx.int ?_ ?_ ?_; (focus decide); (focus decide))
              | refine Ifz.zero ?_
              | (refine Ifz.pos ?_ ?_; (focus omega))
              | refine Get.mk _ rfl ?_
              | refine Leaves.of ?_
              | refine Ends.of ?_
              | refine Vw.bool ?_
              | refine Vw.int ?_
              | refine Vw.nil
              | refine Vw.sl
              | refine Vw.tup ?_
              | refine Vw.agg ?_
              | refine VwL.cons ?_ ?_
              | refine VwL.nil
              | refine LeavesF.of ?_
              | refine VwF.bool ?_
              | refine VwF.int ?_
              | refine VwF.nil
              | refine VwF.sl
              | refine VwF.tup ?_
              | refine VwF.agg ?_
              | refine VwLF.cons ?_ ?_
              | refine VwLF.nil
              | (refine Req.mk ?_ ?_; (focus first | rfl | decide | exact ⟨rfl, rfl⟩ | exact ⟨rfl, by decide⟩ | exact (fun _ => rfl) | exact (fun h => nomatch h) | (simp; done) | omega | (simp [big]; done) | exact le_big (by omega) | exact lt_big (by omega))))
          all_goals exact NextP.mk (j + 1, lo', hi') ⟨hjn, all_row hS hR⟩ (by simp only; omega) rfl
      · obtain rfl : j = ny := by omega
        have hfin : rF W H b0 rb a d nx j (k + 1) = (lo, hi) := hS
        clear hS
        by_cases hlh : lo ≤ hi
        · obtain ⟨hres, hwr⟩ := rF_true hfin hlh
          repeat' (first
            | (conv => whnf)
              first
              | refine Br.t ?_
              | refine Br.f ?_
              | (refine Br.decT ?_ ?_; (focus first | assumption | omega))
              | (refine Br.decF ?_ ?_; (focus first | assumption | omega))
              | refine Br.dec (fun _ => ?_) (fun _ => ?_)
              | refine Br.not ?_
              | refine Br.and ?_
              | refine Br.or ?_
              | (refine Bnd.i64 ?_ ?_ ?_; (focus omega); (focus omega))
              | refine Req.mk (blosK (by kernel_rfl)) ?_
              | refine Req.mk (onesK rfl (by kernel_rfl)) ?_
              | refine Req.mk (allF_cells _) ?_
              | refine Req.mk ⟨by omega, by rw [allF_cells]; show (2 * (_ + 1) + 2) * 17 < 68719476736; omega⟩ ?_
              | refine Req.mk hwl ?_
              | refine Req.mk ⟨by omega, by rw [hwl]; show (_ + 1) * 9 < 68719476736; omega⟩ ?_
              | (refine Idx.nat ?_ ?_; (focus omega))
              | refine Idx.nat (le_big (by omega)) ?_
              | (refine Idx.int ?_ ?_ ?_; (focus omega); (focus omega))
              | (refine Idx.int ?_ ?_ ?_; (focus decide); (focus decide))
              | refine Ifz.zero ?_
              | (refine Ifz.pos ?_ ?_; (focus omega))
              | refine Get.mk _ rfl ?_
              | refine Leaves.of ?_
              | refine Ends.of ?_
              | refine Vw.bool ?_
              | refine Vw.int ?_
              | refine Vw.nil
              | refine Vw.sl
              | refine Vw.tup ?_
              | refine Vw.agg ?_
              | refine VwL.cons ?_ ?_
              | refine VwL.nil
              | refine LeavesF.of ?_
              | refine VwF.bool ?_
              | refine VwF.int ?_
              | refine VwF.nil
              | refine VwF.sl
              | refine VwF.tup ?_
              | refine VwF.agg ?_
              | refine VwLF.cons ?_ ?_
              | refine VwLF.nil
              | (refine Req.mk ?_ ?_; (focus first | rfl | decide | exact ⟨rfl, rfl⟩ | exact ⟨rfl, by decide⟩ | exact (fun _ => rfl) | exact (fun h => nomatch h) | (simp; done) | omega | (simp [big]; done) | exact le_big (by omega) | exact lt_big (by omega))))
          all_goals refine NextP.mk (.b (k + 1)) ⟨by simp only [fsK]; omega, (wrsF_keep hwr).trans hw0⟩ (by simp only [fsK]; omega) ?_
          all_goals rw [allF_snoc hres]
          all_goals kernel_rfl
        · obtain ⟨hres, hwr⟩ := rF_false hfin hlh
          repeat' (first
            | (conv => whnf)
              first
              | refine Br.t ?_
              | refine Br.f ?_
              | (refine Br.decT ?_ ?_; (focus first | assumption | omega))
              | (refine Br.decF ?_ ?_; (focus first | assumption | omega))
              | refine Br.dec (fun _ => ?_) (fun _ => ?_)
              | refine Br.not ?_
              | refine Br.and ?_
              | refine Br.or ?_
              | (refine Bnd.i64 ?_ ?_ ?_; (focus omega); (focus omega))
              | refine Req.mk (blosK (by kernel_rfl)) ?_
              | refine Req.mk (onesK rfl (by kernel_rfl)) ?_
              | refine Req.mk (allF_cells _) ?_
              | refine Req.mk ⟨by omega, by rw [allF_cells]; show (2 * (_ + 1) + 2) * 17 < 68719476736; omega⟩ ?_
              | refine Req.mk hwl ?_
              | refine Req.mk ⟨by omega, by rw [hwl]; show (_ + 1) * 9 < 68719476736; omega⟩ ?_
              | (refine Idx.nat ?_ ?_; (focus omega))
              | refine Idx.nat (le_big (by omega)) ?_
              | (refine Idx.int ?_ ?_ ?_; (focus omega); (focus omega))
              | (refine Idx.int ?_ ?_ ?_; (focus decide); (focus decide))
              | refine Ifz.zero ?_
              | (refine Ifz.pos ?_ ?_; (focus omega))
              | refine Get.mk _ rfl ?_
              | refine Leaves.of ?_
              | refine Ends.of ?_
              | refine Vw.bool ?_
              | refine Vw.int ?_
              | refine Vw.nil
              | refine Vw.sl
              | refine Vw.tup ?_
              | refine Vw.agg ?_
              | refine VwL.cons ?_ ?_
              | refine VwL.nil
              | refine LeavesF.of ?_
              | refine VwF.bool ?_
              | refine VwF.int ?_
              | refine VwF.nil
              | refine VwF.sl
              | refine VwF.tup ?_
              | refine VwF.agg ?_
              | refine VwLF.cons ?_ ?_
              | refine VwLF.nil
              | (refine Req.mk ?_ ?_; (focus first | rfl | decide | exact ⟨rfl, rfl⟩ | exact ⟨rfl, by decide⟩ | exact (fun _ => rfl) | exact (fun h => nomatch h) | (simp; done) | omega | (simp [big]; done) | exact le_big (by omega) | exact lt_big (by omega))))
          all_goals refine NextP.mk (.d (k + 1) 1 (k + 1)) ⟨by simp only [fsK]; omega, by rw [← wrs_len hwr rfl, hw0]; rfl, by omega⟩ (by simp only [fsK]; omega) ?_
          all_goals rw [allF_snoc hres, wrs_first (v := ((k + 1 + 1 : Nat) : Int)) hw0 hwr rfl]
          all_goals kernel_rfl
    · obtain rfl : n = k + 1 := by omega
      repeat' (first
        | (conv => whnf)
          first
          | refine Br.t ?_
          | refine Br.f ?_
          | (refine Br.decT ?_ ?_; (focus first | assumption | omega))
          | (refine Br.decF ?_ ?_; (focus first | assumption | omega))
          | refine Br.dec (fun _ => ?_) (fun _ => ?_)
          | refine Br.not ?_
          | refine Br.and ?_
          | refine Br.or ?_
          | (refine Bnd.i64 ?_ ?_ ?_; (focus omega); (focus omega))
          | (refine Idx.nat ?_ ?_; (focus omega))
          | refine Idx.nat (le_big (by omega)) ?_
          | (refine Idx.int ?_ ?_ ?_; (focus omega); (focus omega))
          | (refine Idx.int ?_ ?_ ?_; (focus decide); (focus decide))
          | refine Ifz.zero ?_
          | (refine Ifz.pos ?_ ?_; (focus omega))
          | refine Get.mk _ rfl ?_
          | refine Leaves.of ?_
          | refine Ends.of ?_
          | refine Vw.bool ?_
          | refine Vw.int ?_
          | refine Vw.nil
          | refine Vw.sl
          | refine Vw.tup ?_
          | refine Vw.agg ?_
          | refine VwL.cons ?_ ?_
          | refine VwL.nil
          | refine LeavesF.of ?_
          | refine VwF.bool ?_
          | refine VwF.int ?_
          | refine VwF.nil
          | refine VwF.sl
          | refine VwF.tup ?_
          | refine VwF.agg ?_
          | refine VwLF.cons ?_ ?_
          | refine VwLF.nil
          | (refine Req.mk ?_ ?_; (focus first | rfl | decide | exact ⟨rfl, rfl⟩ | exact ⟨rfl, by decide⟩ | exact (fun _ => rfl) | exact (fun h => nomatch h) | (simp; done) | omega | (simp [big]; done) | exact le_big (by omega) | exact lt_big (by omega))))
      · rw [hcA, decide_eq_false (show ¬ (k + 1 = 0) by omega)]
        refine Vw.fl rfl rfl (by rw [allF_length]) (by rw [allF_length]) rfl
      · rw [hcW, hw0]
        exact Vw.nil
      all_goals rfl
  | c k m =>
    have hsn : k + 1 ≤ n := hss.1
    obtain ⟨hm, hm0⟩ : m = (wrsF W H b0 rb a d nx ny (k + 1)).length ∧ 0 < m := hss.2
    clear hss
    have hwl : ((wrsF W H b0 rb a d nx ny (k + 1)).map (V.int .i64)).length = m := by rw [List.length_map, hm]
    have hwm : m ≤ k + 1 := by rw [hm]; exact wrsF_le _
    dsimp only
    by_cases hkn : k + 1 < n
    · have hpK := hp (k + 1) (by omega)
      have hlK := hlen (k + 1) (by omega)
      repeat' (first
        | (conv => whnf)
          first
          | refine Br.t ?_
          | refine Br.f ?_
          | (refine Br.decT ?_ ?_; (focus first | assumption | omega))
          | (refine Br.decF ?_ ?_; (focus first | assumption | omega))
          | refine Br.dec (fun _ => ?_) (fun _ => ?_)
          | refine Br.not ?_
          | refine Br.and ?_
          | refine Br.or ?_
          | (refine Bnd.i64 ?_ ?_ ?_; (focus omega); (focus omega))
          | (refine Idx.nat ?_ ?_; (focus omega))
          | refine Idx.nat (le_big (by omega)) ?_
          | (refine Idx.int ?_ ?_ ?_; (focus omega); (focus omega))
          | (refine Idx.int ?_ ?_ ?_; (focus decide); (focus decide))
          | refine Ifz.zero ?_
          | (refine Ifz.pos ?_ ?_; (focus omega))
          | refine Get.mk _ rfl ?_
          | refine Leaves.of ?_
          | refine Ends.of ?_
          | refine Vw.bool ?_
          | refine Vw.int ?_
          | refine Vw.nil
          | refine Vw.sl
          | refine Vw.tup ?_
          | refine Vw.agg ?_
          | refine VwL.cons ?_ ?_
          | refine VwL.nil
          | refine LeavesF.of ?_
          | refine VwF.bool ?_
          | refine VwF.int ?_
          | refine VwF.nil
          | refine VwF.sl
          | refine VwF.tup ?_
          | refine VwF.agg ?_
          | refine VwLF.cons ?_ ?_
          | refine VwLF.nil
          | (refine Req.mk ?_ ?_; (focus first | rfl | decide | exact ⟨rfl, rfl⟩ | exact ⟨rfl, by decide⟩ | exact (fun _ => rfl) | exact (fun h => nomatch h) | (simp; done) | omega | (simp [big]; done) | exact le_big (by omega) | exact lt_big (by omega))))
      refine LoopP.by (fun s : Nat × Int × Int => s.1 ≤ ny ∧ foldAll (rT W H b0 rb a d (k + 1)) (1, 100000) nx s.1 = s.2) (fun s => [(12, .int .i64 ((d + s.1 : Nat) : Int))]) (fun s => [np a b d e, ns 0 0, nw (wrsF W H b0 rb a d nx ny (k + 1)), na (allF W H b0 rb a d nx ny (k + 1)), ns s.2.1 s.2.2]) (fun s => ny - s.1) (0, 1, 100000) ⟨Nat.zero_le _, rfl⟩ rfl ?_
      rintro ⟨j, lo, hi⟩ ⟨hj, hS⟩
      simp only at hj hS
      dsimp only
      by_cases hjn : j < ny
      · repeat' (first
          | (conv => whnf)
            first
            | refine Br.t ?_
            | refine Br.f ?_
            | (refine Br.decT ?_ ?_; (focus first | assumption | omega))
            | (refine Br.decF ?_ ?_; (focus first | assumption | omega))
            | refine Br.dec (fun _ => ?_) (fun _ => ?_)
            | refine Br.not ?_
            | refine Br.and ?_
            | refine Br.or ?_
            | (refine Bnd.i64 ?_ ?_ ?_; (focus omega); (focus omega))
            | (refine Idx.nat ?_ ?_; (focus omega))
            | refine Idx.nat (le_big (by omega)) ?_
            | (refine Idx.int ?_ ?_ ?_; (focus omega); (focus omega))
            | (refine Idx.int ?_ ?_ ?_; (focus decide); (focus decide))
            | refine Ifz.zero ?_
            | (refine Ifz.pos ?_ ?_; (focus omega))
            | refine Get.mk _ rfl ?_
            | refine Leaves.of ?_
            | refine Ends.of ?_
            | refine Vw.bool ?_
            | refine Vw.int ?_
            | refine Vw.nil
            | refine Vw.sl
            | refine Vw.tup ?_
            | refine Vw.agg ?_
            | refine VwL.cons ?_ ?_
            | refine VwL.nil
            | refine LeavesF.of ?_
            | refine VwF.bool ?_
            | refine VwF.int ?_
            | refine VwF.nil
            | refine VwF.sl
            | refine VwF.tup ?_
            | refine VwF.agg ?_
            | refine VwLF.cons ?_ ?_
            | refine VwLF.nil
            | (refine Req.mk ?_ ?_; (focus first | rfl | decide | exact ⟨rfl, rfl⟩ | exact ⟨rfl, by decide⟩ | exact (fun _ => rfl) | exact (fun h => nomatch h) | (simp; done) | omega | (simp [big]; done) | exact le_big (by omega) | exact lt_big (by omega))))
        refine LoopP.by (fun s : Nat × Int × Int => s.1 ≤ nx ∧ foldRow (fun z i => rT W H b0 rb a d (k + 1) z i j) (lo, hi) s.1 = s.2) (fun s => [(13, .int .i64 ((a + s.1 : Nat) : Int))]) (fun s => [np a b d e, ns 0 0, nw (wrsF W H b0 rb a d nx ny (k + 1)), na (allF W H b0 rb a d nx ny (k + 1)), ns s.2.1 s.2.2]) (fun s => nx - s.1) (0, lo, hi) ⟨Nat.zero_le _, rfl⟩ rfl ?_
        rintro ⟨i, lo', hi'⟩ ⟨hi_, hR⟩
        simp only at hi_ hR
        dsimp only
        by_cases hin : i < nx
        · have hA0 := pixel_any (c := false) h2 h4 hb0 ((a + i : Nat) : Int) ((d + j : Nat) : Int)
          have hA1 := pixel_any (c := false) h2 h4 hlK ((a + i : Nat) : Int) ((d + j : Nat) : Int)
          have hE := expR_at (pixV_le W H b0 ((a + i : Nat) : Int) ((d + j : Nat) : Int)) (pixV_le W H (rb (k + 1)) ((a + i : Nat) : Int) ((d + j : Nat) : Int))
          have hN := rrow_next hR
          generalize pixV W H b0 ((a + i : Nat) : Int) ((d + j : Nat) : Int) = p at *
          generalize pixV W H (rb (k + 1)) ((a + i : Nat) : Int) ((d + j : Nat) : Int) = q at *
          repeat' (first
            | (conv => whnf)
              first
              | refine Br.t ?_
              | refine Br.f ?_
              | (refine Br.decT ?_ ?_; (focus first | assumption | omega))
              | (refine Br.decF ?_ ?_; (focus first | assumption | omega))
              | refine Br.dec (fun _ => ?_) (fun _ => ?_)
              | refine Br.not ?_
              | refine Br.and ?_
              | refine Br.or ?_
              | (refine Bnd.i64 ?_ ?_ ?_; (focus omega); (focus omega))
              | refine Get.mk _ hp0 ?_
              | refine Get.mk _ hpK ?_
              | refine call_fun rfl rfl hA0 (.inl rfl) ?_
              | refine call_fun rfl rfl hA1 (.inl rfl) ?_
              | refine call_fun rfl rfl hE (.inl rfl) ?_
              | (refine Idx.int ?_ ?_ ?_; (focus omega); (focus omega))
              | refine Bnd.any ?_
              | (refine Idx.nat ?_ ?_; (focus omega))
              | refine Idx.nat (le_big (by omega)) ?_
              | (refine Idx.int ?_ ?_ ?_; (focus omega); (focus omega))
              | (refine Idx.int ?_ ?_ ?_; (focus decide); (focus decide))
              | refine Ifz.zero ?_
              | (refine Ifz.pos ?_ ?_; (focus omega))
              | refine Get.mk _ rfl ?_
              | refine Leaves.of ?_
              | refine Ends.of ?_
              | refine Vw.bool ?_
              | refine Vw.int ?_
              | refine Vw.nil
              | refine Vw.sl
              | refine Vw.tup ?_
              | refine Vw.agg ?_
              | refine VwL.cons ?_ ?_
              | refine VwL.nil
              | refine LeavesF.of ?_
              | refine VwF.bool ?_
              | refine VwF.int ?_
              | refine VwF.nil
              | refine VwF.sl
              | refine VwF.tup ?_
              | refine VwF.agg ?_
              | refine VwLF.cons ?_ ?_
              | refine VwLF.nil
              | (refine Req.mk ?_ ?_; (focus first | rfl | decide | exact ⟨rfl, rfl⟩ | exact ⟨rfl, by decide⟩ | exact (fun _ => rfl) | exact (fun h => nomatch h) | (simp; done) | omega | (simp [big]; done) | exact le_big (by omega) | exact lt_big (by omega))))
          all_goals exact NextP.mk (i + 1, _, _) ⟨hin, hN⟩ (by simp only; omega) rfl
        · obtain rfl : i = nx := by omega
          repeat' (first
            | (conv => whnf)
              first
              | refine Br.t ?_
              | refine Br.f ?_
              | (refine Br.decT ?_ ?_; (focus first | assumption | omega))
              | (refine Br.decF ?_ ?_; (focus first | assumption | omega))
              | refine Br.dec (fun _ => ?_) (fun _ => ?_)
              | refine Br.not ?_
              | refine Br.and ?_
              | refine Br.or ?_
              | (refine Bnd.i64 ?_ ?_ ?_; (focus omega); (focus omega))
              | (refine Idx.nat ?_ ?_; (focus omega))
              | refine Idx.nat (le_big (by omega)) ?_
              | (refine Idx.int ?_ ?_ ?_; (focus omega); (focus omega))
              | (refine Idx.int ?_ ?_ ?_; (focus decide); (focus decide))
              | refine Ifz.zero ?_
              | (refine Ifz.pos ?_ ?_; (focus omega))
              | refine Get.mk _ rfl ?_
              | refine Leaves.of ?_
              | refine Ends.of ?_
              | refine Vw.bool ?_
              | refine Vw.int ?_
              | refine Vw.nil
              | refine Vw.sl
              | refine Vw.tup ?_
              | refine Vw.agg ?_
              | refine VwL.cons ?_ ?_
              | refine VwL.nil
              | refine LeavesF.of ?_
              | refine VwF.bool ?_
              | refine VwF.int ?_
              | refine VwF.nil
              | refine VwF.sl
              | refine VwF.tup ?_
              | refine VwF.agg ?_
              | refine VwLF.cons ?_ ?_
              | refine VwLF.nil
              | (refine Req.mk ?_ ?_; (focus first | rfl | decide | exact ⟨rfl, rfl⟩ | exact ⟨rfl, by decide⟩ | exact (fun _ => rfl) | exact (fun h => nomatch h) | (simp; done) | omega | (simp [big]; done) | exact le_big (by omega) | exact lt_big (by omega))))
          all_goals exact NextP.mk (j + 1, lo', hi') ⟨hjn, all_row hS hR⟩ (by simp only; omega) rfl
      · obtain rfl : j = ny := by omega
        have hfin : rF W H b0 rb a d nx j (k + 1) = (lo, hi) := hS
        clear hS
        by_cases hlh : lo ≤ hi
        · obtain ⟨hres, hwr⟩ := rF_true hfin hlh
          repeat' (first
            | (conv => whnf)
              first
              | refine Br.t ?_
              | refine Br.f ?_
              | (refine Br.decT ?_ ?_; (focus first | assumption | omega))
              | (refine Br.decF ?_ ?_; (focus first | assumption | omega))
              | refine Br.dec (fun _ => ?_) (fun _ => ?_)
              | refine Br.not ?_
              | refine Br.and ?_
              | refine Br.or ?_
              | (refine Bnd.i64 ?_ ?_ ?_; (focus omega); (focus omega))
              | refine Req.mk (blosK (by kernel_rfl)) ?_
              | refine Req.mk (onesK rfl (by kernel_rfl)) ?_
              | refine Req.mk (allF_cells _) ?_
              | refine Req.mk ⟨by omega, by rw [allF_cells]; show (2 * (_ + 1) + 2) * 17 < 68719476736; omega⟩ ?_
              | refine Req.mk hwl ?_
              | refine Req.mk ⟨by omega, by rw [hwl]; show (_ + 1) * 9 < 68719476736; omega⟩ ?_
              | (refine Idx.nat ?_ ?_; (focus omega))
              | refine Idx.nat (le_big (by omega)) ?_
              | (refine Idx.int ?_ ?_ ?_; (focus omega); (focus omega))
              | (refine Idx.int ?_ ?_ ?_; (focus decide); (focus decide))
              | refine Ifz.zero ?_
              | (refine Ifz.pos ?_ ?_; (focus omega))
              | refine Get.mk _ rfl ?_
              | refine Leaves.of ?_
              | refine Ends.of ?_
              | refine Vw.bool ?_
              | refine Vw.int ?_
              | refine Vw.nil
              | refine Vw.sl
              | refine Vw.tup ?_
              | refine Vw.agg ?_
              | refine VwL.cons ?_ ?_
              | refine VwL.nil
              | refine LeavesF.of ?_
              | refine VwF.bool ?_
              | refine VwF.int ?_
              | refine VwF.nil
              | refine VwF.sl
              | refine VwF.tup ?_
              | refine VwF.agg ?_
              | refine VwLF.cons ?_ ?_
              | refine VwLF.nil
              | (refine Req.mk ?_ ?_; (focus first | rfl | decide | exact ⟨rfl, rfl⟩ | exact ⟨rfl, by decide⟩ | exact (fun _ => rfl) | exact (fun h => nomatch h) | (simp; done) | omega | (simp [big]; done) | exact le_big (by omega) | exact lt_big (by omega))))
          all_goals refine NextP.mk (.c (k + 1) m) ⟨by simp only [fsK]; omega, by rw [wrsF_keep hwr]; exact hm, hm0⟩ (by simp only [fsK]; omega) ?_
          all_goals rw [allF_snoc hres]
          all_goals simp only [wrsF_keep hwr]
          all_goals kernel_rfl
        · obtain ⟨hres, hwr⟩ := rF_false hfin hlh
          repeat' (first
            | (conv => whnf)
              first
              | refine Br.t ?_
              | refine Br.f ?_
              | (refine Br.decT ?_ ?_; (focus first | assumption | omega))
              | (refine Br.decF ?_ ?_; (focus first | assumption | omega))
              | refine Br.dec (fun _ => ?_) (fun _ => ?_)
              | refine Br.not ?_
              | refine Br.and ?_
              | refine Br.or ?_
              | (refine Bnd.i64 ?_ ?_ ?_; (focus omega); (focus omega))
              | refine Req.mk (blosK (by kernel_rfl)) ?_
              | refine Req.mk (onesK rfl (by kernel_rfl)) ?_
              | refine Req.mk (allF_cells _) ?_
              | refine Req.mk ⟨by omega, by rw [allF_cells]; show (2 * (_ + 1) + 2) * 17 < 68719476736; omega⟩ ?_
              | refine Req.mk hwl ?_
              | refine Req.mk ⟨by omega, by rw [hwl]; show (_ + 1) * 9 < 68719476736; omega⟩ ?_
              | (refine Idx.nat ?_ ?_; (focus omega))
              | refine Idx.nat (le_big (by omega)) ?_
              | (refine Idx.int ?_ ?_ ?_; (focus omega); (focus omega))
              | (refine Idx.int ?_ ?_ ?_; (focus decide); (focus decide))
              | refine Ifz.zero ?_
              | (refine Ifz.pos ?_ ?_; (focus omega))
              | refine Get.mk _ rfl ?_
              | refine Leaves.of ?_
              | refine Ends.of ?_
              | refine Vw.bool ?_
              | refine Vw.int ?_
              | refine Vw.nil
              | refine Vw.sl
              | refine Vw.tup ?_
              | refine Vw.agg ?_
              | refine VwL.cons ?_ ?_
              | refine VwL.nil
              | refine LeavesF.of ?_
              | refine VwF.bool ?_
              | refine VwF.int ?_
              | refine VwF.nil
              | refine VwF.sl
              | refine VwF.tup ?_
              | refine VwF.agg ?_
              | refine VwLF.cons ?_ ?_
              | refine VwLF.nil
              | (refine Req.mk ?_ ?_; (focus first | rfl | decide | exact ⟨rfl, rfl⟩ | exact ⟨rfl, by decide⟩ | exact (fun _ => rfl) | exact (fun h => nomatch h) | (simp; done) | omega | (simp [big]; done) | exact le_big (by omega) | exact lt_big (by omega))))
          all_goals refine NextP.mk (.c (k + 1) (m + 1)) ⟨by simp only [fsK]; omega, wrs_len hwr hm, by omega⟩ (by simp only [fsK]; omega) ?_
          all_goals rw [allF_snoc hres, wrs_cells (v := ((k + 1 + 1 : Nat) : Int)) hwr rfl]
          all_goals kernel_rfl
    · obtain rfl : n = k + 1 := by omega
      repeat' (first
        | (conv => whnf)
          first
          | refine Br.t ?_
          | refine Br.f ?_
          | (refine Br.decT ?_ ?_; (focus first | assumption | omega))
          | (refine Br.decF ?_ ?_; (focus first | assumption | omega))
          | refine Br.dec (fun _ => ?_) (fun _ => ?_)
          | refine Br.not ?_
          | refine Br.and ?_
          | refine Br.or ?_
          | (refine Bnd.i64 ?_ ?_ ?_; (focus omega); (focus omega))
          | (refine Idx.nat ?_ ?_; (focus omega))
          | refine Idx.nat (le_big (by omega)) ?_
          | (refine Idx.int ?_ ?_ ?_; (focus omega); (focus omega))
          | (refine Idx.int ?_ ?_ ?_; (focus decide); (focus decide))
          | refine Ifz.zero ?_
          | (refine Ifz.pos ?_ ?_; (focus omega))
          | refine Get.mk _ rfl ?_
          | refine Leaves.of ?_
          | refine Ends.of ?_
          | refine Vw.bool ?_
          | refine Vw.int ?_
          | refine Vw.nil
          | refine Vw.sl
          | refine Vw.tup ?_
          | refine Vw.agg ?_
          | refine VwL.cons ?_ ?_
          | refine VwL.nil
          | refine LeavesF.of ?_
          | refine VwF.bool ?_
          | refine VwF.int ?_
          | refine VwF.nil
          | refine VwF.sl
          | refine VwF.tup ?_
          | refine VwF.agg ?_
          | refine VwLF.cons ?_ ?_
          | refine VwLF.nil
          | (refine Req.mk ?_ ?_; (focus first | rfl | decide | exact ⟨rfl, rfl⟩ | exact ⟨rfl, by decide⟩ | exact (fun _ => rfl) | exact (fun h => nomatch h) | (simp; done) | omega | (simp [big]; done) | exact le_big (by omega) | exact lt_big (by omega))))
      · rw [hcA, decide_eq_false (show ¬ (k + 1 = 0) by omega)]
        refine Vw.fl rfl rfl (by rw [allF_length]) (by rw [allF_length]) rfl
      · rw [hcW, decide_eq_false (show ¬ ((wrsF W H b0 rb a d nx ny (k + 1)).length = 0) by omega)]
        exact Vw.fi rfl rfl hm hm rfl
      all_goals rfl
  | d k m q =>
    have hsn : k + 1 ≤ n := hss.1
    obtain ⟨hm, hm0⟩ : m = (wrsF W H b0 rb a d nx ny (k + 1)).length ∧ 0 < m := hss.2
    clear hss
    have hwl : ((wrsF W H b0 rb a d nx ny (k + 1)).map (V.int .i64)).length = m := by rw [List.length_map, hm]
    have hwm : m ≤ k + 1 := by rw [hm]; exact wrsF_le _
    dsimp only
    by_cases hkn : k + 1 < n
    · have hpK := hp (k + 1) (by omega)
      have hlK := hlen (k + 1) (by omega)
      repeat' (first
        | (conv => whnf)
          first
          | refine Br.t ?_
          | refine Br.f ?_
          | (refine Br.decT ?_ ?_; (focus first | assumption | omega))
          | (refine Br.decF ?_ ?_; (focus first | assumption | omega))
          | refine Br.dec (fun _ => ?_) (fun _ => ?_)
          | refine Br.not ?_
          | refine Br.and ?_
          | refine Br.or ?_
          | (refine Bnd.i64 ?_ ?_ ?_; (focus omega); (focus omega))
          | (refine Idx.nat ?_ ?_; (focus omega))
          | refine Idx.nat (le_big (by omega)) ?_
          | (refine Idx.int ?_ ?_ ?_; (focus omega); (focus omega))
          | (refine Idx.int ?_ ?_ ?_; (focus decide); (focus decide))
          | refine Ifz.zero ?_
          | (refine Ifz.pos ?_ ?_; (focus omega))
          | refine Get.mk _ rfl ?_
          | refine Leaves.of ?_
          | refine Ends.of ?_
          | refine Vw.bool ?_
          | refine Vw.int ?_
          | refine Vw.nil
          | refine Vw.sl
          | refine Vw.tup ?_
          | refine Vw.agg ?_
          | refine VwL.cons ?_ ?_
          | refine VwL.nil
          | refine LeavesF.of ?_
          | refine VwF.bool ?_
          | refine VwF.int ?_
          | refine VwF.nil
          | refine VwF.sl
          | refine VwF.tup ?_
          | refine VwF.agg ?_
          | refine VwLF.cons ?_ ?_
          | refine VwLF.nil
          | (refine Req.mk ?_ ?_; (focus first | rfl | decide | exact ⟨rfl, rfl⟩ | exact ⟨rfl, by decide⟩ | exact (fun _ => rfl) | exact (fun h => nomatch h) | (simp; done) | omega | (simp [big]; done) | exact le_big (by omega) | exact lt_big (by omega))))
      refine LoopP.by (fun s : Nat × Int × Int => s.1 ≤ ny ∧ foldAll (rT W H b0 rb a d (k + 1)) (1, 100000) nx s.1 = s.2) (fun s => [(12, .int .i64 ((d + s.1 : Nat) : Int))]) (fun s => [np a b d e, ns (resF W H b0 rb a d nx ny 0).1 (resF W H b0 rb a d nx ny 0).2, na (allF W H b0 rb a d nx ny (k + 1)), ns 0 0, nw (wrsF W H b0 rb a d nx ny (k + 1)), ns s.2.1 s.2.2]) (fun s => ny - s.1) (0, 1, 100000) ⟨Nat.zero_le _, rfl⟩ rfl ?_
      rintro ⟨j, lo, hi⟩ ⟨hj, hS⟩
      simp only at hj hS
      dsimp only
      by_cases hjn : j < ny
      · repeat' (first
          | (conv => whnf)
            first
            | refine Br.t ?_
            | refine Br.f ?_
            | (refine Br.decT ?_ ?_; (focus first | assumption | omega))
            | (refine Br.decF ?_ ?_; (focus first | assumption | omega))
            | refine Br.dec (fun _ => ?_) (fun _ => ?_)
            | refine Br.not ?_
            | refine Br.and ?_
            | refine Br.or ?_
            | (refine Bnd.i64 ?_ ?_ ?_; (focus omega); (focus omega))
            | (refine Idx.nat ?_ ?_; (focus omega))
            | refine Idx.nat (le_big (by omega)) ?_
            | (refine Idx.int ?_ ?_ ?_; (focus omega); (focus omega))
            | (refine Idx.int ?_ ?_ ?_; (focus decide); (focus decide))
            | refine Ifz.zero ?_
            | (refine Ifz.pos ?_ ?_; (focus omega))
            | refine Get.mk _ rfl ?_
            | refine Leaves.of ?_
            | refine Ends.of ?_
            | refine Vw.bool ?_
            | refine Vw.int ?_
            | refine Vw.nil
            | refine Vw.sl
            | refine Vw.tup ?_
            | refine Vw.agg ?_
            | refine VwL.cons ?_ ?_
            | refine VwL.nil
            | refine LeavesF.of ?_
            | refine VwF.bool ?_
            | refine VwF.int ?_
            | refine VwF.nil
            | refine VwF.sl
            | refine VwF.tup ?_
            | refine VwF.agg ?_
            | refine VwLF.cons ?_ ?_
            | refine VwLF.nil
            | (refine Req.mk ?_ ?_; (focus first | rfl | decide | exact ⟨rfl, rfl⟩ | exact ⟨rfl, by decide⟩ | exact (fun _ => rfl) | exact (fun h => nomatch h) | (simp; done) | omega | (simp [big]; done) | exact le_big (by omega) | exact lt_big (by omega))))
        refine LoopP.by (fun s : Nat × Int × Int => s.1 ≤ nx ∧ foldRow (fun z i => rT W H b0 rb a d (k + 1) z i j) (lo, hi) s.1 = s.2) (fun s => [(13, .int .i64 ((a + s.1 : Nat) : Int))]) (fun s => [np a b d e, ns (resF W H b0 rb a d nx ny 0).1 (resF W H b0 rb a d nx ny 0).2, na (allF W H b0 rb a d nx ny (k + 1)), ns 0 0, nw (wrsF W H b0 rb a d nx ny (k + 1)), ns s.2.1 s.2.2]) (fun s => nx - s.1) (0, lo, hi) ⟨Nat.zero_le _, rfl⟩ rfl ?_
        rintro ⟨i, lo', hi'⟩ ⟨hi_, hR⟩
        simp only at hi_ hR
        dsimp only
        by_cases hin : i < nx
        · have hA0 := pixel_any (c := false) h2 h4 hb0 ((a + i : Nat) : Int) ((d + j : Nat) : Int)
          have hA1 := pixel_any (c := false) h2 h4 hlK ((a + i : Nat) : Int) ((d + j : Nat) : Int)
          have hE := expR_at (pixV_le W H b0 ((a + i : Nat) : Int) ((d + j : Nat) : Int)) (pixV_le W H (rb (k + 1)) ((a + i : Nat) : Int) ((d + j : Nat) : Int))
          have hN := rrow_next hR
          generalize pixV W H b0 ((a + i : Nat) : Int) ((d + j : Nat) : Int) = p at *
          generalize pixV W H (rb (k + 1)) ((a + i : Nat) : Int) ((d + j : Nat) : Int) = q at *
          repeat' (first
            | (conv => whnf)
              first
              | refine Br.t ?_
              | refine Br.f ?_
              | (refine Br.decT ?_ ?_; (focus first | assumption | omega))
              | (refine Br.decF ?_ ?_; (focus first | assumption | omega))
              | refine Br.dec (fun _ => ?_) (fun _ => ?_)
              | refine Br.not ?_
              | refine Br.and ?_
              | refine Br.or ?_
              | (refine Bnd.i64 ?_ ?_ ?_; (focus omega); (focus omega))
              | refine Get.mk _ hp0 ?_
              | refine Get.mk _ hpK ?_
              | refine call_fun rfl rfl hA0 (.inl rfl) ?_
              | refine call_fun rfl rfl hA1 (.inl rfl) ?_
              | refine call_fun rfl rfl hE (.inl rfl) ?_
              | (refine Idx.int ?_ ?_ ?_; (focus omega); (focus omega))
              | refine Bnd.any ?_
              | (refine Idx.nat ?_ ?_; (focus omega))
              | refine Idx.nat (le_big (by omega)) ?_
              | (refine Idx.int ?_ ?_ ?_; (focus omega); (focus omega))
              | (refine Idx.int ?_ ?_ ?_; (focus decide); (focus decide))
              | refine Ifz.zero ?_
              | (refine Ifz.pos ?_ ?_; (focus omega))
              | refine Get.mk _ rfl ?_
              | refine Leaves.of ?_
              | refine Ends.of ?_
              | refine Vw.bool ?_
              | refine Vw.int ?_
              | refine Vw.nil
              | refine Vw.sl
              | refine Vw.tup ?_
              | refine Vw.agg ?_
              | refine VwL.cons ?_ ?_
              | refine VwL.nil
              | refine LeavesF.of ?_
              | refine VwF.bool ?_
              | refine VwF.int ?_
              | refine VwF.nil
              | refine VwF.sl
              | refine VwF.tup ?_
              | refine VwF.agg ?_
              | refine VwLF.cons ?_ ?_
              | refine VwLF.nil
              | (refine Req.mk ?_ ?_; (focus first | rfl | decide | exact ⟨rfl, rfl⟩ | exact ⟨rfl, by decide⟩ | exact (fun _ => rfl) | exact (fun h => nomatch h) | (simp; done) | omega | (simp [big]; done) | exact le_big (by omega) | exact lt_big (by omega))))
          all_goals exact NextP.mk (i + 1, _, _) ⟨hin, hN⟩ (by simp only; omega) rfl
        · obtain rfl : i = nx := by omega
          repeat' (first
            | (conv => whnf)
              first
              | refine Br.t ?_
              | refine Br.f ?_
              | (refine Br.decT ?_ ?_; (focus first | assumption | omega))
              | (refine Br.decF ?_ ?_; (focus first | assumption | omega))
              | refine Br.dec (fun _ => ?_) (fun _ => ?_)
              | refine Br.not ?_
              | refine Br.and ?_
              | refine Br.or ?_
              | (refine Bnd.i64 ?_ ?_ ?_; (focus omega); (focus omega))
              | (refine Idx.nat ?_ ?_; (focus omega))
              | refine Idx.nat (le_big (by omega)) ?_
              | (refine Idx.int ?_ ?_ ?_; (focus omega); (focus omega))
              | (refine Idx.int ?_ ?_ ?_; (focus decide); (focus decide))
              | refine Ifz.zero ?_
              | (refine Ifz.pos ?_ ?_; (focus omega))
              | refine Get.mk _ rfl ?_
              | refine Leaves.of ?_
              | refine Ends.of ?_
              | refine Vw.bool ?_
              | refine Vw.int ?_
              | refine Vw.nil
              | refine Vw.sl
              | refine Vw.tup ?_
              | refine Vw.agg ?_
              | refine VwL.cons ?_ ?_
              | refine VwL.nil
              | refine LeavesF.of ?_
              | refine VwF.bool ?_
              | refine VwF.int ?_
              | refine VwF.nil
              | refine VwF.sl
              | refine VwF.tup ?_
              | refine VwF.agg ?_
              | refine VwLF.cons ?_ ?_
              | refine VwLF.nil
              | (refine Req.mk ?_ ?_; (focus first | rfl | decide | exact ⟨rfl, rfl⟩ | exact ⟨rfl, by decide⟩ | exact (fun _ => rfl) | exact (fun h => nomatch h) | (simp; done) | omega | (simp [big]; done) | exact le_big (by omega) | exact lt_big (by omega))))
          all_goals exact NextP.mk (j + 1, lo', hi') ⟨hjn, all_row hS hR⟩ (by simp only; omega) rfl
      · obtain rfl : j = ny := by omega
        have hfin : rF W H b0 rb a d nx j (k + 1) = (lo, hi) := hS
        clear hS
        by_cases hlh : lo ≤ hi
        · obtain ⟨hres, hwr⟩ := rF_true hfin hlh
          repeat' (first
            | (conv => whnf)
              first
              | refine Br.t ?_
              | refine Br.f ?_
              | (refine Br.decT ?_ ?_; (focus first | assumption | omega))
              | (refine Br.decF ?_ ?_; (focus first | assumption | omega))
              | refine Br.dec (fun _ => ?_) (fun _ => ?_)
              | refine Br.not ?_
              | refine Br.and ?_
              | refine Br.or ?_
              | (refine Bnd.i64 ?_ ?_ ?_; (focus omega); (focus omega))
              | refine Req.mk (blosK (by kernel_rfl)) ?_
              | refine Req.mk (onesK rfl (by kernel_rfl)) ?_
              | refine Req.mk (allF_cells _) ?_
              | refine Req.mk ⟨by omega, by rw [allF_cells]; show (2 * (_ + 1) + 2) * 17 < 68719476736; omega⟩ ?_
              | refine Req.mk hwl ?_
              | refine Req.mk ⟨by omega, by rw [hwl]; show (_ + 1) * 9 < 68719476736; omega⟩ ?_
              | (refine Idx.nat ?_ ?_; (focus omega))
              | refine Idx.nat (le_big (by omega)) ?_
              | (refine Idx.int ?_ ?_ ?_; (focus omega); (focus omega))
              | (refine Idx.int ?_ ?_ ?_; (focus decide); (focus decide))
              | refine Ifz.zero ?_
              | (refine Ifz.pos ?_ ?_; (focus omega))
              | refine Get.mk _ rfl ?_
              | refine Leaves.of ?_
              | refine Ends.of ?_
              | refine Vw.bool ?_
              | refine Vw.int ?_
              | refine Vw.nil
              | refine Vw.sl
              | refine Vw.tup ?_
              | refine Vw.agg ?_
              | refine VwL.cons ?_ ?_
              | refine VwL.nil
              | refine LeavesF.of ?_
              | refine VwF.bool ?_
              | refine VwF.int ?_
              | refine VwF.nil
              | refine VwF.sl
              | refine VwF.tup ?_
              | refine VwF.agg ?_
              | refine VwLF.cons ?_ ?_
              | refine VwLF.nil
              | (refine Req.mk ?_ ?_; (focus first | rfl | decide | exact ⟨rfl, rfl⟩ | exact ⟨rfl, by decide⟩ | exact (fun _ => rfl) | exact (fun h => nomatch h) | (simp; done) | omega | (simp [big]; done) | exact le_big (by omega) | exact lt_big (by omega))))
          all_goals refine NextP.mk (.d (k + 1) m q) ⟨by simp only [fsK]; omega, by rw [wrsF_keep hwr]; exact hm, hm0⟩ (by simp only [fsK]; omega) ?_
          all_goals rw [allF_snoc hres]
          all_goals simp only [wrsF_keep hwr]
          all_goals kernel_rfl
        · obtain ⟨hres, hwr⟩ := rF_false hfin hlh
          repeat' (first
            | (conv => whnf)
              first
              | refine Br.t ?_
              | refine Br.f ?_
              | (refine Br.decT ?_ ?_; (focus first | assumption | omega))
              | (refine Br.decF ?_ ?_; (focus first | assumption | omega))
              | refine Br.dec (fun _ => ?_) (fun _ => ?_)
              | refine Br.not ?_
              | refine Br.and ?_
              | refine Br.or ?_
              | (refine Bnd.i64 ?_ ?_ ?_; (focus omega); (focus omega))
              | refine Req.mk (blosK (by kernel_rfl)) ?_
              | refine Req.mk (onesK rfl (by kernel_rfl)) ?_
              | refine Req.mk (allF_cells _) ?_
              | refine Req.mk ⟨by omega, by rw [allF_cells]; show (2 * (_ + 1) + 2) * 17 < 68719476736; omega⟩ ?_
              | refine Req.mk hwl ?_
              | refine Req.mk ⟨by omega, by rw [hwl]; show (_ + 1) * 9 < 68719476736; omega⟩ ?_
              | (refine Idx.nat ?_ ?_; (focus omega))
              | refine Idx.nat (le_big (by omega)) ?_
              | (refine Idx.int ?_ ?_ ?_; (focus omega); (focus omega))
              | (refine Idx.int ?_ ?_ ?_; (focus decide); (focus decide))
              | refine Ifz.zero ?_
              | (refine Ifz.pos ?_ ?_; (focus omega))
              | refine Get.mk _ rfl ?_
              | refine Leaves.of ?_
              | refine Ends.of ?_
              | refine Vw.bool ?_
              | refine Vw.int ?_
              | refine Vw.nil
              | refine Vw.sl
              | refine Vw.tup ?_
              | refine Vw.agg ?_
              | refine VwL.cons ?_ ?_
              | refine VwL.nil
              | refine LeavesF.of ?_
              | refine VwF.bool ?_
              | refine VwF.int ?_
              | refine VwF.nil
              | refine VwF.sl
              | refine VwF.tup ?_
              | refine VwF.agg ?_
              | refine VwLF.cons ?_ ?_
              | refine VwLF.nil
              | (refine Req.mk ?_ ?_; (focus first | rfl | decide | exact ⟨rfl, rfl⟩ | exact ⟨rfl, by decide⟩ | exact (fun _ => rfl) | exact (fun h => nomatch h) | (simp; done) | omega | (simp [big]; done) | exact le_big (by omega) | exact lt_big (by omega))))
          all_goals refine NextP.mk (.d (k + 1) (m + 1) q) ⟨by simp only [fsK]; omega, wrs_len hwr hm, by omega⟩ (by simp only [fsK]; omega) ?_
          all_goals rw [allF_snoc hres, wrs_cells (v := ((k + 1 + 1 : Nat) : Int)) hwr rfl]
          all_goals kernel_rfl
    · obtain rfl : n = k + 1 := by omega
      repeat' (first
        | (conv => whnf)
          first
          | refine Br.t ?_
          | refine Br.f ?_
          | (refine Br.decT ?_ ?_; (focus first | assumption | omega))
          | (refine Br.decF ?_ ?_; (focus first | assumption | omega))
          | refine Br.dec (fun _ => ?_) (fun _ => ?_)
          | refine Br.not ?_
          | refine Br.and ?_
          | refine Br.or ?_
          | (refine Bnd.i64 ?_ ?_ ?_; (focus omega); (focus omega))
          | (refine Idx.nat ?_ ?_; (focus omega))
          | refine Idx.nat (le_big (by omega)) ?_
          | (refine Idx.int ?_ ?_ ?_; (focus omega); (focus omega))
          | (refine Idx.int ?_ ?_ ?_; (focus decide); (focus decide))
          | refine Ifz.zero ?_
          | (refine Ifz.pos ?_ ?_; (focus omega))
          | refine Get.mk _ rfl ?_
          | refine Leaves.of ?_
          | refine Ends.of ?_
          | refine Vw.bool ?_
          | refine Vw.int ?_
          | refine Vw.nil
          | refine Vw.sl
          | refine Vw.tup ?_
          | refine Vw.agg ?_
          | refine VwL.cons ?_ ?_
          | refine VwL.nil
          | refine LeavesF.of ?_
          | refine VwF.bool ?_
          | refine VwF.int ?_
          | refine VwF.nil
          | refine VwF.sl
          | refine VwF.tup ?_
          | refine VwF.agg ?_
          | refine VwLF.cons ?_ ?_
          | refine VwLF.nil
          | (refine Req.mk ?_ ?_; (focus first | rfl | decide | exact ⟨rfl, rfl⟩ | exact ⟨rfl, by decide⟩ | exact (fun _ => rfl) | exact (fun h => nomatch h) | (simp; done) | omega | (simp [big]; done) | exact le_big (by omega) | exact lt_big (by omega))))
      · rw [hcA, decide_eq_false (show ¬ (k + 1 = 0) by omega)]
        refine Vw.fl rfl rfl (by rw [allF_length]) (by rw [allF_length]) rfl
      · rw [hcW, decide_eq_false (show ¬ ((wrsF W H b0 rb a d nx ny (k + 1)).length = 0) by omega)]
        exact Vw.fi rfl rfl hm hm rfl
      all_goals rfl

end Go.Dr.T
