/- Chapter 07: Flicker of frames without a contradiction: what it gives is of blocks of its own. -/
import Derived.Test.YtigcchafpenhiaaR07Fk
import Derived.Test.YtigcchafpenhiaaR07Fi
namespace Go.Dr.T

theorem VwLF.fl {h : List B} {d : Nat} (l : List (Int × Int)) : VwLF h (d + 1) (ofSh l) (ofSh l) := by
  induction l with
  | nil => exact VwLF.nil
  | cons x l ih => exact VwLF.cons (VwF.int rfl) (VwLF.cons (VwF.int rfl) ih)
theorem VwF.fl {h : List B} {d id g len n : Nat} {clip dat : Bool} {cs : List V} {l : List (Int × Int)} (h1 : bget h id = some (.blk cs dat)) (h0 : cs = ofSh l) (h2 : g = 2 * l.length) (h3 : len = l.length) (hn : n = l.length) :
    VwF h (d + 1 + 1) (.ms 2 id g 0 len clip) (.sl clip n (ofSh l)) := by
  subst h0 h2 h3 hn
  have e : (ofSh l).length = 2 * l.length := by rw [ofSh_length]; omega
  exact VwF.ms h1 e (part_all (by rw [e, Nat.mul_comm])) (VwLF.fl l)


set_option maxRecDepth 100000 in
set_option maxHeartbeats 20000000 in
theorem flicker_fresh {W H : Nat} {c0 : Bool} {l r : List Fr} {b0 : List UInt8} {rb : Nat → List UInt8} {a b d e nx ny n : Nat} (h1 : 1 ≤ W) (h2 : W ≤ 48) (h3 : 1 ≤ H) (h4 : H ≤ 48) (hst : strangeL l = 0) (hn : l.length = n + 1) (hn2 : n ≤ 23) (hrn : r.length = n)
    (hp0 : part (ofFr l) (0 * 3) 3 = some [.int .i64 (W : Nat), .int .i64 (H : Nat), .sl false b0.length (ofBytes b0)]) (hpr : part (ofFr l) (1 * 3) ((l.length - 1) * 3) = some (ofFr r))
    (hp : ∀ k < n, part (ofFr r) (k * 3) 3 = some [.int .i64 (W : Nat), .int .i64 (H : Nat), .sl false (rb k).length (ofBytes (rb k))]) (hb0 : b0.length = W * H) (hlen : ∀ k < n, (rb k).length = W * H)
    (hnx : a + nx = b + 1) (hny : d + ny = e + 1) (hbW : b < W) (heH : e < H) (hab : a ≤ b) (hde : d ≤ e) (hn0 : 0 < n) (hgood : ∀ k < n, wrF W H b0 rb a d nx ny k = false) :
    FunF F md 39 [.sl c0 l.length (ofFr l), .agg [.int .i64 (a : Nat), .int .i64 (b : Nat), .int .i64 (d : Nat), .int .i64 (e : Nat)]] (.tup [.sl false (allF W H b0 rb a d nx ny n).length (ofSh (allF W H b0 rb a d nx ny n)), .sl true 0 [], .int .i64 0]) := by
  have hS := strange_any c0 l
  rw [hst] at hS
  have hout : outA W H a b d e = false := by unfold outA; simp; omega
  have hO := outside_any (c0 := false) (l := b0) h2 h4 a b d e
  rw [hout] at hO
  generalize l.length = L at *
  refine funF_of rfl rfl ?_
  repeat' (first
    | (conv => whnf)
      first
      | refine Br.t ?_
      | refine Br.f ?_
      | (refine Br.decT ?_ ?_; (focus first | assumption | omega))
      | (refine Br.decF ?_ ?_; (focus first | assumption | omega))
      | refine Br.dec (fun _ => ?_) (fun _ => ?_)
      | refine Br.not ?_
      | refine Br.and ?_
      | refine Br.or ?_
      | (refine Bnd.i64 ?_ ?_ ?_; (focus omega); (focus omega))
      | refine call_fun rfl rfl hS (.inl rfl) ?_
      | refine Get.mk _ hp0 ?_
      | refine call_fun rfl rfl hO (.inl rfl) ?_
      | (refine Idx.int ?_ ?_ ?_; (focus omega); (focus omega))
      | refine Get.mk _ hpr ?_
      | (refine Idx.nat ?_ ?_; (focus omega))
      | refine Idx.nat (le_big (by omega)) ?_
      | (refine Idx.int ?_ ?_ ?_; (focus omega); (focus omega))
      | (refine Idx.int ?_ ?_ ?_; (focus decide); (focus decide))
      | refine Ifz.zero ?_
      | (refine Ifz.pos ?_ ?_; (focus omega))
      | refine Get.mk _ rfl ?_
      | refine Leaves.of ?_
      | refine Ends.of ?_
      | refine Vw.bool ?_
      | refine Vw.int ?_
      | refine Vw.nil
      | refine Vw.sl
      | refine Vw.tup ?_
      | refine Vw.agg ?_
      | refine VwL.cons ?_ ?_
      | refine VwL.nil
      | refine LeavesF.of ?_
      | refine VwF.bool ?_
      | refine VwF.int ?_
      | refine VwF.nil
      | refine VwF.sl
      | refine VwF.tup ?_
      | refine VwF.agg ?_
      | refine VwLF.cons ?_ ?_
      | refine VwLF.nil
      | (refine Req.mk ?_ ?_; (focus first | rfl | decide | exact ⟨rfl, rfl⟩ | exact ⟨rfl, by decide⟩ | exact (fun _ => rfl) | exact (fun h => nomatch h) | (simp; done) | omega | (simp [big]; done) | exact le_big (by omega) | exact lt_big (by omega))))
  refine LoopP.by (fun s : FS => fsK s ≤ n ∧ match s with
      | .a => True
      | .b k => wrsF W H b0 rb a d nx ny (k + 1) = []
      | _ => False)
    (fun s => match s with
      | .b k => [(4, .ms 2 5 (2 * (k + 1 + 1)) 0 (k + 1 + 1) false), (5, .nilsl), (32, .int .i64 ((k + 1 : Nat) : Int))]
      | _ => [(4, .sl true 1 [.int .i64 1000, .int .i64 1000]), (5, .nilsl), (32, .int .i64 0)])
    (fun s => match s with
      | .b k => [np a b d e, nf W H b0, nf W H (rb 0), nf W H (rb 0), ns (resF W H b0 rb a d nx ny 0).1 (resF W H b0 rb a d nx ny 0).2, na (allF W H b0 rb a d nx ny (k + 1))]
      | _ => [np a b d e, nf W H b0]) (fun s => n - fsK s) .a ⟨Nat.zero_le _, trivial⟩ rfl ?_
  rintro s hss
  cases s with
  | a =>
    have hsn : 0 ≤ n := hss.1
    have hnb := hgood 0 hn0
    clear hss
    dsimp only
    have hkn := hn0
    have hpK := hp (0) (by omega)
    have hlK := hlen (0) (by omega)
    repeat' (first
      | (conv => whnf)
        first
        | refine Br.t ?_
        | refine Br.f ?_
        | (refine Br.decT ?_ ?_; (focus first | assumption | omega))
        | (refine Br.decF ?_ ?_; (focus first | assumption | omega))
        | refine Br.dec (fun _ => ?_) (fun _ => ?_)
        | refine Br.not ?_
        | refine Br.and ?_
        | refine Br.or ?_
        | (refine Bnd.i64 ?_ ?_ ?_; (focus omega); (focus omega))
        | refine Get.mk _ hpK ?_
        | (refine Idx.nat ?_ ?_; (focus omega))
        | refine Idx.nat (le_big (by omega)) ?_
        | (refine Idx.int ?_ ?_ ?_; (focus omega); (focus omega))
        | (refine Idx.int ?_ ?_ ?_; (focus decide); (focus decide))
        | refine Ifz.zero ?_
        | (refine Ifz.pos ?_ ?_; (focus omega))
        | refine Get.mk _ rfl ?_
        | refine Leaves.of ?_
        | refine Ends.of ?_
        | refine Vw.bool ?_
        | refine Vw.int ?_
        | refine Vw.nil
        | refine Vw.sl
        | refine Vw.tup ?_
        | refine Vw.agg ?_
        | refine VwL.cons ?_ ?_
        | refine VwL.nil
        | refine LeavesF.of ?_
        | refine VwF.bool ?_
        | refine VwF.int ?_
        | refine VwF.nil
        | refine VwF.sl
        | refine VwF.tup ?_
        | refine VwF.agg ?_
        | refine VwLF.cons ?_ ?_
        | refine VwLF.nil
        | (refine Req.mk ?_ ?_; (focus first | rfl | decide | exact ⟨rfl, rfl⟩ | exact ⟨rfl, by decide⟩ | exact (fun _ => rfl) | exact (fun h => nomatch h) | (simp; done) | omega | (simp [big]; done) | exact le_big (by omega) | exact lt_big (by omega))))
    refine LoopP.by (fun s : Nat × St3 => s.1 ≤ ny ∧ foldAll (pT W H b0 rb a d (0)) (1, 100000, true) nx s.1 = s.2) (fun s => [(11, .bool s.2.2.2), (13, .int .i64 ((d + s.1 : Nat) : Int))]) (fun s => [np a b d e, nf W H b0, nf W H (rb (0)), nf W H (rb (0)), ns s.2.1 s.2.2.1]) (fun s => ny - s.1) (0, 1, 100000, true) ⟨Nat.zero_le _, rfl⟩ rfl ?_
    rintro ⟨j, lo, hi, is⟩ ⟨hj, hS⟩
    simp only at hj hS
    dsimp only
    by_cases hjn : j < ny
    · cases is with
      | false =>
        repeat' (first
          | (conv => whnf)
            first
            | refine Br.t ?_
            | refine Br.f ?_
            | (refine Br.decT ?_ ?_; (focus first | assumption | omega))
            | (refine Br.decF ?_ ?_; (focus first | assumption | omega))
            | refine Br.dec (fun _ => ?_) (fun _ => ?_)
            | refine Br.not ?_
            | refine Br.and ?_
            | refine Br.or ?_
            | (refine Bnd.i64 ?_ ?_ ?_; (focus omega); (focus omega))
            | (refine Idx.nat ?_ ?_; (focus omega))
            | refine Idx.nat (le_big (by omega)) ?_
            | (refine Idx.int ?_ ?_ ?_; (focus omega); (focus omega))
            | (refine Idx.int ?_ ?_ ?_; (focus decide); (focus decide))
            | refine Ifz.zero ?_
            | (refine Ifz.pos ?_ ?_; (focus omega))
            | refine Get.mk _ rfl ?_
            | refine Leaves.of ?_
            | refine Ends.of ?_
            | refine Vw.bool ?_
            | refine Vw.int ?_
            | refine Vw.nil
            | refine Vw.sl
            | refine Vw.tup ?_
            | refine Vw.agg ?_
            | refine VwL.cons ?_ ?_
            | refine VwL.nil
            | refine LeavesF.of ?_
            | refine VwF.bool ?_
            | refine VwF.int ?_
            | refine VwF.nil
            | refine VwF.sl
            | refine VwF.tup ?_
            | refine VwF.agg ?_
            | refine VwLF.cons ?_ ?_
            | refine VwLF.nil
            | (refine Req.mk ?_ ?_; (focus first | rfl | decide | exact ⟨rfl, rfl⟩ | exact ⟨rfl, by decide⟩ | exact (fun _ => rfl) | exact (fun h => nomatch h) | (simp; done) | omega | (simp [big]; done) | exact le_big (by omega) | exact lt_big (by omega))))
        refine LoopP.by (fun _ : Unit => True) (fun _ => [(11, .bool false), (14, .int .i64 (a : Nat))]) (fun _ => [np a b d e, nf W H b0, nf W H (rb (0)), nf W H (rb (0)), ns lo hi]) (fun _ => 0) () trivial rfl ?_
        intro _ _
        repeat' (first
          | (conv => whnf)
            first
            | refine Br.t ?_
            | refine Br.f ?_
            | (refine Br.decT ?_ ?_; (focus first | assumption | omega))
            | (refine Br.decF ?_ ?_; (focus first | assumption | omega))
            | refine Br.dec (fun _ => ?_) (fun _ => ?_)
            | refine Br.not ?_
            | refine Br.and ?_
            | refine Br.or ?_
            | (refine Bnd.i64 ?_ ?_ ?_; (focus omega); (focus omega))
            | (refine Idx.nat ?_ ?_; (focus omega))
            | refine Idx.nat (le_big (by omega)) ?_
            | (refine Idx.int ?_ ?_ ?_; (focus omega); (focus omega))
            | (refine Idx.int ?_ ?_ ?_; (focus decide); (focus decide))
            | refine Ifz.zero ?_
            | (refine Ifz.pos ?_ ?_; (focus omega))
            | refine Get.mk _ rfl ?_
            | refine Leaves.of ?_
            | refine Ends.of ?_
            | refine Vw.bool ?_
            | refine Vw.int ?_
            | refine Vw.nil
            | refine Vw.sl
            | refine Vw.tup ?_
            | refine Vw.agg ?_
            | refine VwL.cons ?_ ?_
            | refine VwL.nil
            | refine LeavesF.of ?_
            | refine VwF.bool ?_
            | refine VwF.int ?_
            | refine VwF.nil
            | refine VwF.sl
            | refine VwF.tup ?_
            | refine VwF.agg ?_
            | refine VwLF.cons ?_ ?_
            | refine VwLF.nil
            | (refine Req.mk ?_ ?_; (focus first | rfl | decide | exact ⟨rfl, rfl⟩ | exact ⟨rfl, by decide⟩ | exact (fun _ => rfl) | exact (fun h => nomatch h) | (simp; done) | omega | (simp [big]; done) | exact le_big (by omega) | exact lt_big (by omega))))
        all_goals exact NextP.mk (j + 1, lo, hi, false) ⟨hjn, all_stop hS⟩ (by simp only; omega) rfl
      | true =>
        repeat' (first
          | (conv => whnf)
            first
            | refine Br.t ?_
            | refine Br.f ?_
            | (refine Br.decT ?_ ?_; (focus first | assumption | omega))
            | (refine Br.decF ?_ ?_; (focus first | assumption | omega))
            | refine Br.dec (fun _ => ?_) (fun _ => ?_)
            | refine Br.not ?_
            | refine Br.and ?_
            | refine Br.or ?_
            | (refine Bnd.i64 ?_ ?_ ?_; (focus omega); (focus omega))
            | (refine Idx.nat ?_ ?_; (focus omega))
            | refine Idx.nat (le_big (by omega)) ?_
            | (refine Idx.int ?_ ?_ ?_; (focus omega); (focus omega))
            | (refine Idx.int ?_ ?_ ?_; (focus decide); (focus decide))
            | refine Ifz.zero ?_
            | (refine Ifz.pos ?_ ?_; (focus omega))
            | refine Get.mk _ rfl ?_
            | refine Leaves.of ?_
            | refine Ends.of ?_
            | refine Vw.bool ?_
            | refine Vw.int ?_
            | refine Vw.nil
            | refine Vw.sl
            | refine Vw.tup ?_
            | refine Vw.agg ?_
            | refine VwL.cons ?_ ?_
            | refine VwL.nil
            | refine LeavesF.of ?_
            | refine VwF.bool ?_
            | refine VwF.int ?_
            | refine VwF.nil
            | refine VwF.sl
            | refine VwF.tup ?_
            | refine VwF.agg ?_
            | refine VwLF.cons ?_ ?_
            | refine VwLF.nil
            | (refine Req.mk ?_ ?_; (focus first | rfl | decide | exact ⟨rfl, rfl⟩ | exact ⟨rfl, by decide⟩ | exact (fun _ => rfl) | exact (fun h => nomatch h) | (simp; done) | omega | (simp [big]; done) | exact le_big (by omega) | exact lt_big (by omega))))
        refine LoopP.by (fun s : Nat × St3 => s.1 ≤ nx ∧ foldRow (fun z i => pT W H b0 rb a d (0) z i j) (lo, hi, true) s.1 = s.2) (fun s => [(11, .bool s.2.2.2), (14, .int .i64 ((a + s.1 : Nat) : Int))]) (fun s => [np a b d e, nf W H b0, nf W H (rb (0)), nf W H (rb (0)), ns s.2.1 s.2.2.1]) (fun s => nx - s.1) (0, lo, hi, true) ⟨Nat.zero_le _, rfl⟩ rfl ?_
        rintro ⟨i, lo', hi', is'⟩ ⟨hi_, hR⟩
        simp only at hi_ hR
        dsimp only
        cases is' with
        | false =>
          repeat' (first
            | (conv => whnf)
              first
              | refine Br.t ?_
              | refine Br.f ?_
              | (refine Br.decT ?_ ?_; (focus first | assumption | omega))
              | (refine Br.decF ?_ ?_; (focus first | assumption | omega))
              | refine Br.dec (fun _ => ?_) (fun _ => ?_)
              | refine Br.not ?_
              | refine Br.and ?_
              | refine Br.or ?_
              | (refine Bnd.i64 ?_ ?_ ?_; (focus omega); (focus omega))
              | (refine Idx.nat ?_ ?_; (focus omega))
              | refine Idx.nat (le_big (by omega)) ?_
              | (refine Idx.int ?_ ?_ ?_; (focus omega); (focus omega))
              | (refine Idx.int ?_ ?_ ?_; (focus decide); (focus decide))
              | refine Ifz.zero ?_
              | (refine Ifz.pos ?_ ?_; (focus omega))
              | refine Get.mk _ rfl ?_
              | refine Leaves.of ?_
              | refine Ends.of ?_
              | refine Vw.bool ?_
              | refine Vw.int ?_
              | refine Vw.nil
              | refine Vw.sl
              | refine Vw.tup ?_
              | refine Vw.agg ?_
              | refine VwL.cons ?_ ?_
              | refine VwL.nil
              | refine LeavesF.of ?_
              | refine VwF.bool ?_
              | refine VwF.int ?_
              | refine VwF.nil
              | refine VwF.sl
              | refine VwF.tup ?_
              | refine VwF.agg ?_
              | refine VwLF.cons ?_ ?_
              | refine VwLF.nil
              | (refine Req.mk ?_ ?_; (focus first | rfl | decide | exact ⟨rfl, rfl⟩ | exact ⟨rfl, by decide⟩ | exact (fun _ => rfl) | exact (fun h => nomatch h) | (simp; done) | omega | (simp [big]; done) | exact le_big (by omega) | exact lt_big (by omega))))
          all_goals exact NextP.mk (j + 1, lo', hi', false) ⟨hjn, all_row hS (row_end hR hi_)⟩ (by simp only; omega) rfl
        | true =>
          by_cases hin : i < nx
          · have hpx : pixB W H ((a + i : Nat) : Int) ((d + j : Nat) : Int) := by unfold pixB; omega
            have hA0 := at_pix (c := false) h2 h4 hb0 hpx
            have hA1 := at_pix (c := false) h2 h4 hlK hpx
            have hE := exp_at (pixV_le W H b0 ((a + i : Nat) : Int) ((d + j : Nat) : Int)) (pixV_le W H (rb (0)) ((a + i : Nat) : Int) ((d + j : Nat) : Int))
            have hN := row_next hR
            generalize pixV W H b0 ((a + i : Nat) : Int) ((d + j : Nat) : Int) = p at *
            generalize pixV W H (rb (0)) ((a + i : Nat) : Int) ((d + j : Nat) : Int) = q at *
            repeat' (first
              | (conv => whnf)
                first
                | refine Br.t ?_
                | refine Br.f ?_
                | (refine Br.decT ?_ ?_; (focus first | assumption | omega))
                | (refine Br.decF ?_ ?_; (focus first | assumption | omega))
                | refine Br.dec (fun _ => ?_) (fun _ => ?_)
                | refine Br.not ?_
                | refine Br.and ?_
                | refine Br.or ?_
                | (refine Bnd.i64 ?_ ?_ ?_; (focus omega); (focus omega))
                | refine call_fun rfl rfl hA0 (.inl rfl) ?_
                | refine call_fun rfl rfl hA1 (.inl rfl) ?_
                | refine call_fun rfl rfl hE (.inl rfl) ?_
                | refine call_fun rfl rfl (common_any _ _ _ _) (.inl rfl) ?_
                | (refine Idx.nat ?_ ?_; (focus omega))
                | refine Idx.nat (le_big (by omega)) ?_
                | (refine Idx.int ?_ ?_ ?_; (focus omega); (focus omega))
                | (refine Idx.int ?_ ?_ ?_; (focus decide); (focus decide))
                | refine Ifz.zero ?_
                | (refine Ifz.pos ?_ ?_; (focus omega))
                | refine Get.mk _ rfl ?_
                | refine Leaves.of ?_
                | refine Ends.of ?_
                | refine Vw.bool ?_
                | refine Vw.int ?_
                | refine Vw.nil
                | refine Vw.sl
                | refine Vw.tup ?_
                | refine Vw.agg ?_
                | refine VwL.cons ?_ ?_
                | refine VwL.nil
                | refine LeavesF.of ?_
                | refine VwF.bool ?_
                | refine VwF.int ?_
                | refine VwF.nil
                | refine VwF.sl
                | refine VwF.tup ?_
                | refine VwF.agg ?_
                | refine VwLF.cons ?_ ?_
                | refine VwLF.nil
                | (refine Req.mk ?_ ?_; (focus first | rfl | decide | exact ⟨rfl, rfl⟩ | exact ⟨rfl, by decide⟩ | exact (fun _ => rfl) | exact (fun h => nomatch h) | (simp; done) | omega | (simp [big]; done) | exact le_big (by omega) | exact lt_big (by omega))))
            all_goals exact NextP.mk (i + 1, _, _, _) ⟨hin, hN⟩ (by simp only; omega) rfl
          · obtain rfl : i = nx := by omega
            repeat' (first
              | (conv => whnf)
                first
                | refine Br.t ?_
                | refine Br.f ?_
                | (refine Br.decT ?_ ?_; (focus first | assumption | omega))
                | (refine Br.decF ?_ ?_; (focus first | assumption | omega))
                | refine Br.dec (fun _ => ?_) (fun _ => ?_)
                | refine Br.not ?_
                | refine Br.and ?_
                | refine Br.or ?_
                | (refine Bnd.i64 ?_ ?_ ?_; (focus omega); (focus omega))
                | (refine Idx.nat ?_ ?_; (focus omega))
                | refine Idx.nat (le_big (by omega)) ?_
                | (refine Idx.int ?_ ?_ ?_; (focus omega); (focus omega))
                | (refine Idx.int ?_ ?_ ?_; (focus decide); (focus decide))
                | refine Ifz.zero ?_
                | (refine Ifz.pos ?_ ?_; (focus omega))
                | refine Get.mk _ rfl ?_
                | refine Leaves.of ?_
                | refine Ends.of ?_
                | refine Vw.bool ?_
                | refine Vw.int ?_
                | refine Vw.nil
                | refine Vw.sl
                | refine Vw.tup ?_
                | refine Vw.agg ?_
                | refine VwL.cons ?_ ?_
                | refine VwL.nil
                | refine LeavesF.of ?_
                | refine VwF.bool ?_
                | refine VwF.int ?_
                | refine VwF.nil
                | refine VwF.sl
                | refine VwF.tup ?_
                | refine VwF.agg ?_
                | refine VwLF.cons ?_ ?_
                | refine VwLF.nil
                | (refine Req.mk ?_ ?_; (focus first | rfl | decide | exact ⟨rfl, rfl⟩ | exact ⟨rfl, by decide⟩ | exact (fun _ => rfl) | exact (fun h => nomatch h) | (simp; done) | omega | (simp [big]; done) | exact le_big (by omega) | exact lt_big (by omega))))
            all_goals exact NextP.mk (j + 1, lo', hi', true) ⟨hjn, all_row hS hR⟩ (by simp only; omega) rfl
    · obtain rfl : j = ny := by omega
      have hfin : pF W H b0 rb a d nx j (0) = (lo, hi, is) := hS
      clear hS
      cases is with
      | false =>
        obtain ⟨hres, hwr⟩ := pF_false hfin
        exact absurd (hnb.symm.trans hwr) (by simp)
      | true =>
        obtain ⟨hres, hwr⟩ := pF_true hfin
        repeat' (first
          | (conv => whnf)
            first
            | refine Br.t ?_
            | refine Br.f ?_
            | (refine Br.decT ?_ ?_; (focus first | assumption | omega))
            | (refine Br.decF ?_ ?_; (focus first | assumption | omega))
            | refine Br.dec (fun _ => ?_) (fun _ => ?_)
            | refine Br.not ?_
            | refine Br.and ?_
            | refine Br.or ?_
            | (refine Bnd.i64 ?_ ?_ ?_; (focus omega); (focus omega))
            | refine Req.mk (blosK (by kernel_rfl)) ?_
            | refine Req.mk (onesK rfl (by kernel_rfl)) ?_
            | refine Req.mk (allF_cells _) ?_
            | refine Req.mk ⟨by omega, by rw [allF_cells]; show (2 * (_ + 1) + 2) * 17 < 68719476736; omega⟩ ?_
            | refine Req.mk hwl ?_
            | refine Req.mk ⟨by omega, by rw [hwl]; show (_ + 1) * 9 < 68719476736; omega⟩ ?_
            | (refine Idx.nat ?_ ?_; (focus omega))
            | refine Idx.nat (le_big (by omega)) ?_
            | (refine Idx.int ?_ ?_ ?_; (focus omega); (focus omega))
            | (refine Idx.int ?_ ?_ ?_; (focus decide); (focus decide))
            | refine Ifz.zero ?_
            | (refine Ifz.pos ?_ ?_; (focus omega))
            | refine Get.mk _ rfl ?_
            | refine Leaves.of ?_
            | refine Ends.of ?_
            | refine Vw.bool ?_
            | refine Vw.int ?_
            | refine Vw.nil
            | refine Vw.sl
            | refine Vw.tup ?_
            | refine Vw.agg ?_
            | refine VwL.cons ?_ ?_
            | refine VwL.nil
            | refine LeavesF.of ?_
            | refine VwF.bool ?_
            | refine VwF.int ?_
            | refine VwF.nil
            | refine VwF.sl
            | refine VwF.tup ?_
            | refine VwF.agg ?_
            | refine VwLF.cons ?_ ?_
            | refine VwLF.nil
            | (refine Req.mk ?_ ?_; (focus first | rfl | decide | exact ⟨rfl, rfl⟩ | exact ⟨rfl, by decide⟩ | exact (fun _ => rfl) | exact (fun h => nomatch h) | (simp; done) | omega | (simp [big]; done) | exact le_big (by omega) | exact lt_big (by omega))))
        all_goals refine NextP.mk (.b 0) ⟨by simp only [fsK]; omega, wrsF_keep hwr⟩ (by simp only [fsK]; omega) ?_
        all_goals rw [allF_one hres]
        all_goals simp only [hres]
        all_goals kernel_rfl
  | b k =>
    have hsn : k + 1 ≤ n := hss.1
    have hw0 : wrsF W H b0 rb a d nx ny (k + 1) = [] := hss.2
    clear hss
    dsimp only
    by_cases hkn : k + 1 < n
    · have hnb := hgood (k + 1) hkn
      have hpK := hp (k + 1) (by omega)
      have hlK := hlen (k + 1) (by omega)
      repeat' (first
        | (conv => whnf)
          first
          | refine Br.t ?_
          | refine Br.f ?_
          | (refine Br.decT ?_ ?_; (focus first | assumption | omega))
          | (refine Br.decF ?_ ?_; (focus first | assumption | omega))
          | refine Br.dec (fun _ => ?_) (fun _ => ?_)
          | refine Br.not ?_
          | refine Br.and ?_
          | refine Br.or ?_
          | (refine Bnd.i64 ?_ ?_ ?_; (focus omega); (focus omega))
          | refine Get.mk _ hpK ?_
          | (refine Idx.nat ?_ ?_; (focus omega))
          | refine Idx.nat (le_big (by omega)) ?_
          | (refine Idx.int ?_ ?_ ?_; (focus omega); (focus omega))
          | (refine Idx.int ?_ ?_ ?_; (focus decide); (focus decide))
          | refine Ifz.zero ?_
          | (refine Ifz.pos ?_ ?_; (focus omega))
          | refine Get.mk _ rfl ?_
          | refine Leaves.of ?_
          | refine Ends.of ?_
          | refine Vw.bool ?_
          | refine Vw.int ?_
          | refine Vw.nil
          | refine Vw.sl
          | refine Vw.tup ?_
          | refine Vw.agg ?_
          | refine VwL.cons ?_ ?_
          | refine VwL.nil
          | refine LeavesF.of ?_
          | refine VwF.bool ?_
          | refine VwF.int ?_
          | refine VwF.nil
          | refine VwF.sl
          | refine VwF.tup ?_
          | refine VwF.agg ?_
          | refine VwLF.cons ?_ ?_
          | refine VwLF.nil
          | (refine Req.mk ?_ ?_; (focus first | rfl | decide | exact ⟨rfl, rfl⟩ | exact ⟨rfl, by decide⟩ | exact (fun _ => rfl) | exact (fun h => nomatch h) | (simp; done) | omega | (simp [big]; done) | exact le_big (by omega) | exact lt_big (by omega))))
      refine LoopP.by (fun s : Nat × St3 => s.1 ≤ ny ∧ foldAll (pT W H b0 rb a d (k + 1)) (1, 100000, true) nx s.1 = s.2) (fun s => [(11, .bool s.2.2.2), (13, .int .i64 ((d + s.1 : Nat) : Int))]) (fun s => [np a b d e, nf W H b0, nf W H (rb 0), nf W H (rb 0), ns (resF W H b0 rb a d nx ny 0).1 (resF W H b0 rb a d nx ny 0).2, na (allF W H b0 rb a d nx ny (k + 1)), nf W H (rb (k + 1)), nf W H (rb (k + 1)), ns s.2.1 s.2.2.1]) (fun s => ny - s.1) (0, 1, 100000, true) ⟨Nat.zero_le _, rfl⟩ rfl ?_
      rintro ⟨j, lo, hi, is⟩ ⟨hj, hS⟩
      simp only at hj hS
      dsimp only
      by_cases hjn : j < ny
      · cases is with
        | false =>
          repeat' (first
            | (conv => whnf)
              first
              | refine Br.t ?_
              | refine Br.f ?_
              | (refine Br.decT ?_ ?_; (focus first | assumption | omega))
              | (refine Br.decF ?_ ?_; (focus first | assumption | omega))
              | refine Br.dec (fun _ => ?_) (fun _ => ?_)
              | refine Br.not ?_
              | refine Br.and ?_
              | refine Br.or ?_
              | (refine Bnd.i64 ?_ ?_ ?_; (focus omega); (focus omega))
              | (refine Idx.nat ?_ ?_; (focus omega))
              | refine Idx.nat (le_big (by omega)) ?_
              | (refine Idx.int ?_ ?_ ?_; (focus omega); (focus omega))
              | (refine Idx.int ?_ ?_ ?_; (focus decide); (focus decide))
              | refine Ifz.zero ?_
              | (refine Ifz.pos ?_ ?_; (focus omega))
              | refine Get.mk _ rfl ?_
              | refine Leaves.of ?_
              | refine Ends.of ?_
              | refine Vw.bool ?_
              | refine Vw.int ?_
              | refine Vw.nil
              | refine Vw.sl
              | refine Vw.tup ?_
              | refine Vw.agg ?_
              | refine VwL.cons ?_ ?_
              | refine VwL.nil
              | refine LeavesF.of ?_
              | refine VwF.bool ?_
              | refine VwF.int ?_
              | refine VwF.nil
              | refine VwF.sl
              | refine VwF.tup ?_
              | refine VwF.agg ?_
              | refine VwLF.cons ?_ ?_
              | refine VwLF.nil
              | (refine Req.mk ?_ ?_; (focus first | rfl | decide | exact ⟨rfl, rfl⟩ | exact ⟨rfl, by decide⟩ | exact (fun _ => rfl) | exact (fun h => nomatch h) | (simp; done) | omega | (simp [big]; done) | exact le_big (by omega) | exact lt_big (by omega))))
          refine LoopP.by (fun _ : Unit => True) (fun _ => [(11, .bool false), (14, .int .i64 (a : Nat))]) (fun _ => [np a b d e, nf W H b0, nf W H (rb 0), nf W H (rb 0), ns (resF W H b0 rb a d nx ny 0).1 (resF W H b0 rb a d nx ny 0).2, na (allF W H b0 rb a d nx ny (k + 1)), nf W H (rb (k + 1)), nf W H (rb (k + 1)), ns lo hi]) (fun _ => 0) () trivial rfl ?_
          intro _ _
          repeat' (first
            | (conv => whnf)
              first
              | refine Br.t ?_
              | refine Br.f ?_
              | (refine Br.decT ?_ ?_; (focus first | assumption | omega))
              | (refine Br.decF ?_ ?_; (focus first | assumption | omega))
              | refine Br.dec (fun _ => ?_) (fun _ => ?_)
              | refine Br.not ?_
              | refine Br.and ?_
              | refine Br.or ?_
              | (refine Bnd.i64 ?_ ?_ ?_; (focus omega); (focus omega))
              | (refine Idx.nat ?_ ?_; (focus omega))
              | refine Idx.nat (le_big (by omega)) ?_
              | (refine Idx.int ?_ ?_ ?_; (focus omega); (focus omega))
              | (refine Idx.int ?_ ?_ ?_; (focus decide); (focus decide))
              | refine Ifz.zero ?_
              | (refine Ifz.pos ?_ ?_; (focus omega))
              | refine Get.mk _ rfl ?_
              | refine Leaves.of ?_
              | refine Ends.of ?_
              | refine Vw.bool ?_
              | refine Vw.int ?_
              | refine Vw.nil
              | refine Vw.sl
              | refine Vw.tup ?_
              | refine Vw.agg ?_
              | refine VwL.cons ?_ ?_
              | refine VwL.nil
              | refine LeavesF.of ?_
              | refine VwF.bool ?_
              | refine VwF.int ?_
              | refine VwF.nil
              | refine VwF.sl
              | refine VwF.tup ?_
              | refine VwF.agg ?_
              | refine VwLF.cons ?_ ?_
              | refine VwLF.nil
              | (refine Req.mk ?_ ?_; (focus first | rfl | decide | exact ⟨rfl, rfl⟩ | exact ⟨rfl, by decide⟩ | exact (fun _ => rfl) | exact (fun h => nomatch h) | (simp; done) | omega | (simp [big]; done) | exact le_big (by omega) | exact lt_big (by omega))))
          all_goals exact NextP.mk (j + 1, lo, hi, false) ⟨hjn, all_stop hS⟩ (by simp only; omega) rfl
        | true =>
          repeat' (first
            | (conv => whnf)
              first
              | refine Br.t ?_
              | refine Br.f ?_
              | (refine Br.decT ?_ ?_; (focus first | assumption | omega))
              | (refine Br.decF ?_ ?_; (focus first | assumption | omega))
              | refine Br.dec (fun _ => ?_) (fun _ => ?_)
              | refine Br.not ?_
              | refine Br.and ?_
              | refine Br.or ?_
              | (refine Bnd.i64 ?_ ?_ ?_; (focus omega); (focus omega))
              | (refine Idx.nat ?_ ?_; (focus omega))
              | refine Idx.nat (le_big (by omega)) ?_
              | (refine Idx.int ?_ ?_ ?_; (focus omega); (focus omega))
              | (refine Idx.int ?_ ?_ ?_; (focus decide); (focus decide))
              | refine Ifz.zero ?_
              | (refine Ifz.pos ?_ ?_; (focus omega))
              | refine Get.mk _ rfl ?_
              | refine Leaves.of ?_
              | refine Ends.of ?_
              | refine Vw.bool ?_
              | refine Vw.int ?_
              | refine Vw.nil
              | refine Vw.sl
              | refine Vw.tup ?_
              | refine Vw.agg ?_
              | refine VwL.cons ?_ ?_
              | refine VwL.nil
              | refine LeavesF.of ?_
              | refine VwF.bool ?_
              | refine VwF.int ?_
              | refine VwF.nil
              | refine VwF.sl
              | refine VwF.tup ?_
              | refine VwF.agg ?_
              | refine VwLF.cons ?_ ?_
              | refine VwLF.nil
              | (refine Req.mk ?_ ?_; (focus first | rfl | decide | exact ⟨rfl, rfl⟩ | exact ⟨rfl, by decide⟩ | exact (fun _ => rfl) | exact (fun h => nomatch h) | (simp; done) | omega | (simp [big]; done) | exact le_big (by omega) | exact lt_big (by omega))))
          refine LoopP.by (fun s : Nat × St3 => s.1 ≤ nx ∧ foldRow (fun z i => pT W H b0 rb a d (k + 1) z i j) (lo, hi, true) s.1 = s.2) (fun s => [(11, .bool s.2.2.2), (14, .int .i64 ((a + s.1 : Nat) : Int))]) (fun s => [np a b d e, nf W H b0, nf W H (rb 0), nf W H (rb 0), ns (resF W H b0 rb a d nx ny 0).1 (resF W H b0 rb a d nx ny 0).2, na (allF W H b0 rb a d nx ny (k + 1)), nf W H (rb (k + 1)), nf W H (rb (k + 1)), ns s.2.1 s.2.2.1]) (fun s => nx - s.1) (0, lo, hi, true) ⟨Nat.zero_le _, rfl⟩ rfl ?_
          rintro ⟨i, lo', hi', is'⟩ ⟨hi_, hR⟩
          simp only at hi_ hR
          dsimp only
          cases is' with
          | false =>
            repeat' (first
              | (conv => whnf)
                first
                | refine Br.t ?_
                | refine Br.f ?_
                | (refine Br.decT ?_ ?_; (focus first | assumption | omega))
                | (refine Br.decF ?_ ?_; (focus first | assumption | omega))
                | refine Br.dec (fun _ => ?_) (fun _ => ?_)
                | refine Br.not ?_
                | refine Br.and ?_
                | refine Br.or ?_
                | (refine Bnd.i64 ?_ ?_ ?_; (focus omega); (focus omega))
                | (refine Idx.nat ?_ ?_; (focus omega))
                | refine Idx.nat (le_big (by omega)) ?_
                | (refine Idx.int ?_ ?_ ?_; (focus omega); (focus omega))
                | (refine Idx.int ?_ ?_ ?_; (focus decide); (focus decide))
                | refine Ifz.zero ?_
                | (refine Ifz.pos ?_ ?_; (focus omega))
                | refine Get.mk _ rfl ?_
                | refine Leaves.of ?_
                | refine Ends.of ?_
                | refine Vw.bool ?_
                | refine Vw.int ?_
                | refine Vw.nil
                | refine Vw.sl
                | refine Vw.tup ?_
                | refine Vw.agg ?_
                | refine VwL.cons ?_ ?_
                | refine VwL.nil
                | refine LeavesF.of ?_
                | refine VwF.bool ?_
                | refine VwF.int ?_
                | refine VwF.nil
                | refine VwF.sl
                | refine VwF.tup ?_
                | refine VwF.agg ?_
                | refine VwLF.cons ?_ ?_
                | refine VwLF.nil
                | (refine Req.mk ?_ ?_; (focus first | rfl | decide | exact ⟨rfl, rfl⟩ | exact ⟨rfl, by decide⟩ | exact (fun _ => rfl) | exact (fun h => nomatch h) | (simp; done) | omega | (simp [big]; done) | exact le_big (by omega) | exact lt_big (by omega))))
            all_goals exact NextP.mk (j + 1, lo', hi', false) ⟨hjn, all_row hS (row_end hR hi_)⟩ (by simp only; omega) rfl
          | true =>
            by_cases hin : i < nx
            · have hpx : pixB W H ((a + i : Nat) : Int) ((d + j : Nat) : Int) := by unfold pixB; omega
              have hA0 := at_pix (c := false) h2 h4 hb0 hpx
              have hA1 := at_pix (c := false) h2 h4 hlK hpx
              have hE := exp_at (pixV_le W H b0 ((a + i : Nat) : Int) ((d + j : Nat) : Int)) (pixV_le W H (rb (k + 1)) ((a + i : Nat) : Int) ((d + j : Nat) : Int))
              have hN := row_next hR
              generalize pixV W H b0 ((a + i : Nat) : Int) ((d + j : Nat) : Int) = p at *
              generalize pixV W H (rb (k + 1)) ((a + i : Nat) : Int) ((d + j : Nat) : Int) = q at *
              repeat' (first
                | (conv => whnf)
                  first
                  | refine Br.t ?_
                  | refine Br.f ?_
                  | (refine Br.decT ?_ ?_; (focus first | assumption | omega))
                  | (refine Br.decF ?_ ?_; (focus first | assumption | omega))
                  | refine Br.dec (fun _ => ?_) (fun _ => ?_)
                  | refine Br.not ?_
                  | refine Br.and ?_
                  | refine Br.or ?_
                  | (refine Bnd.i64 ?_ ?_ ?_; (focus omega); (focus omega))
                  | refine call_fun rfl rfl hA0 (.inl rfl) ?_
                  | refine call_fun rfl rfl hA1 (.inl rfl) ?_
                  | refine call_fun rfl rfl hE (.inl rfl) ?_
                  | refine call_fun rfl rfl (common_any _ _ _ _) (.inl rfl) ?_
                  | (refine Idx.nat ?_ ?_; (focus omega))
                  | refine Idx.nat (le_big (by omega)) ?_
                  | (refine Idx.int ?_ ?_ ?_; (focus omega); (focus omega))
                  | (refine Idx.int ?_ ?_ ?_; (focus decide); (focus decide))
                  | refine Ifz.zero ?_
                  | (refine Ifz.pos ?_ ?_; (focus omega))
                  | refine Get.mk _ rfl ?_
                  | refine Leaves.of ?_
                  | refine Ends.of ?_
                  | refine Vw.bool ?_
                  | refine Vw.int ?_
                  | refine Vw.nil
                  | refine Vw.sl
                  | refine Vw.tup ?_
                  | refine Vw.agg ?_
                  | refine VwL.cons ?_ ?_
                  | refine VwL.nil
                  | refine LeavesF.of ?_
                  | refine VwF.bool ?_
                  | refine VwF.int ?_
                  | refine VwF.nil
                  | refine VwF.sl
                  | refine VwF.tup ?_
                  | refine VwF.agg ?_
                  | refine VwLF.cons ?_ ?_
                  | refine VwLF.nil
                  | (refine Req.mk ?_ ?_; (focus first | rfl | decide | exact ⟨rfl, rfl⟩ | exact ⟨rfl, by decide⟩ | exact (fun _ => rfl) | exact (fun h => nomatch h) | (simp; done) | omega | (simp [big]; done) | exact le_big (by omega) | exact lt_big (by omega))))
              all_goals exact NextP.mk (i + 1, _, _, _) ⟨hin, hN⟩ (by simp only; omega) rfl
            · obtain rfl : i = nx := by omega
              repeat' (first
                | (conv => whnf)
                  first
                  | refine Br.t ?_
                  | refine Br.f ?_
                  | (refine Br.decT ?_ ?_; (focus first | assumption | omega))
                  | (refine Br.decF ?_ ?_; (focus first | assumption | omega))
                  | refine Br.dec (fun _ => ?_) (fun _ => ?_)
                  | refine Br.not ?_
                  | refine Br.and ?_
                  | refine Br.or ?_
                  | (refine Bnd.i64 ?_ ?_ ?_; (focus omega); (focus omega))
                  | (refine Idx.nat ?_ ?_; (focus omega))
                  | refine Idx.nat (le_big (by omega)) ?_
                  | (refine Idx.int ?_ ?_ ?_; (focus omega); (focus omega))
                  | (refine Idx.int ?_ ?_ ?_; (focus decide); (focus decide))
                  | refine Ifz.zero ?_
                  | (refine Ifz.pos ?_ ?_; (focus omega))
                  | refine Get.mk _ rfl ?_
                  | refine Leaves.of ?_
                  | refine Ends.of ?_
                  | refine Vw.bool ?_
                  | refine Vw.int ?_
                  | refine Vw.nil
                  | refine Vw.sl
                  | refine Vw.tup ?_
                  | refine Vw.agg ?_
                  | refine VwL.cons ?_ ?_
                  | refine VwL.nil
                  | refine LeavesF.of ?_
                  | refine VwF.bool ?_
                  | refine VwF.int ?_
                  | refine VwF.nil
                  | refine VwF.sl
                  | refine VwF.tup ?_
                  | refine VwF.agg ?_
                  | refine VwLF.cons ?_ ?_
                  | refine VwLF.nil
                  | (refine Req.mk ?_ ?_; (focus first | rfl | decide | exact ⟨rfl, rfl⟩ | exact ⟨rfl, by decide⟩ | exact (fun _ => rfl) | exact (fun h => nomatch h) | (simp; done) | omega | (simp [big]; done) | exact le_big (by omega) | exact lt_big (by omega))))
              all_goals exact NextP.mk (j + 1, lo', hi', true) ⟨hjn, all_row hS hR⟩ (by simp only; omega) rfl
      · obtain rfl : j = ny := by omega
        have hfin : pF W H b0 rb a d nx j (k + 1) = (lo, hi, is) := hS
        clear hS
        cases is with
        | false =>
          obtain ⟨hres, hwr⟩ := pF_false hfin
          exact absurd (hnb.symm.trans hwr) (by simp)
        | true =>
          obtain ⟨hres, hwr⟩ := pF_true hfin
          repeat' (first
            | (conv => whnf)
              first
              | refine Br.t ?_
              | refine Br.f ?_
              | (refine Br.decT ?_ ?_; (focus first | assumption | omega))
              | (refine Br.decF ?_ ?_; (focus first | assumption | omega))
              | refine Br.dec (fun _ => ?_) (fun _ => ?_)
              | refine Br.not ?_
              | refine Br.and ?_
              | refine Br.or ?_
              | (refine Bnd.i64 ?_ ?_ ?_; (focus omega); (focus omega))
              | refine Req.mk (blosK (by kernel_rfl)) ?_
              | refine Req.mk (onesK rfl (by kernel_rfl)) ?_
              | refine Req.mk (allF_cells _) ?_
              | refine Req.mk ⟨by omega, by rw [allF_cells]; show (2 * (_ + 1) + 2) * 17 < 68719476736; omega⟩ ?_
              | refine Req.mk hwl ?_
              | refine Req.mk ⟨by omega, by rw [hwl]; show (_ + 1) * 9 < 68719476736; omega⟩ ?_
              | (refine Idx.nat ?_ ?_; (focus omega))
              | refine Idx.nat (le_big (by omega)) ?_
              | (refine Idx.int ?_ ?_ ?_; (focus omega); (focus omega))
              | (refine Idx.int ?_ ?_ ?_; (focus decide); (focus decide))
              | refine Ifz.zero ?_
              | (refine Ifz.pos ?_ ?_; (focus omega))
              | refine Get.mk _ rfl ?_
              | refine Leaves.of ?_
              | refine Ends.of ?_
              | refine Vw.bool ?_
              | refine Vw.int ?_
              | refine Vw.nil
              | refine Vw.sl
              | refine Vw.tup ?_
              | refine Vw.agg ?_
              | refine VwL.cons ?_ ?_
              | refine VwL.nil
              | refine LeavesF.of ?_
              | refine VwF.bool ?_
              | refine VwF.int ?_
              | refine VwF.nil
              | refine VwF.sl
              | refine VwF.tup ?_
              | refine VwF.agg ?_
              | refine VwLF.cons ?_ ?_
              | refine VwLF.nil
              | (refine Req.mk ?_ ?_; (focus first | rfl | decide | exact ⟨rfl, rfl⟩ | exact ⟨rfl, by decide⟩ | exact (fun _ => rfl) | exact (fun h => nomatch h) | (simp; done) | omega | (simp [big]; done) | exact le_big (by omega) | exact lt_big (by omega))))
          all_goals refine NextP.mk (.b (k + 1)) ⟨by simp only [fsK]; omega, (wrsF_keep hwr).trans hw0⟩ (by simp only [fsK]; omega) ?_
          all_goals rw [allF_snoc hres]
          all_goals kernel_rfl
    · obtain rfl : n = k + 1 := by omega
      repeat' (first
        | (conv => whnf)
          first
          | refine Br.t ?_
          | refine Br.f ?_
          | (refine Br.decT ?_ ?_; (focus first | assumption | omega))
          | (refine Br.decF ?_ ?_; (focus first | assumption | omega))
          | refine Br.dec (fun _ => ?_) (fun _ => ?_)
          | refine Br.not ?_
          | refine Br.and ?_
          | refine Br.or ?_
          | (refine Bnd.i64 ?_ ?_ ?_; (focus omega); (focus omega))
          | (refine Idx.nat ?_ ?_; (focus omega))
          | refine Idx.nat (le_big (by omega)) ?_
          | (refine Idx.int ?_ ?_ ?_; (focus omega); (focus omega))
          | (refine Idx.int ?_ ?_ ?_; (focus decide); (focus decide))
          | refine Ifz.zero ?_
          | (refine Ifz.pos ?_ ?_; (focus omega))
          | refine Get.mk _ rfl ?_
          | refine Leaves.of ?_
          | refine Ends.of ?_
          | refine Vw.bool ?_
          | refine Vw.int ?_
          | refine Vw.nil
          | refine Vw.sl
          | refine Vw.tup ?_
          | refine Vw.agg ?_
          | refine VwL.cons ?_ ?_
          | refine VwL.nil
          | refine LeavesF.of ?_
          | refine VwF.bool ?_
          | refine VwF.int ?_
          | refine VwF.nil
          | refine VwF.sl
          | refine VwF.tup ?_
          | refine VwF.agg ?_
          | refine VwLF.cons ?_ ?_
          | refine VwLF.nil
          | (refine Req.mk ?_ ?_; (focus first | rfl | decide | exact ⟨rfl, rfl⟩ | exact ⟨rfl, by decide⟩ | exact (fun _ => rfl) | exact (fun h => nomatch h) | (simp; done) | omega | (simp [big]; done) | exact le_big (by omega) | exact lt_big (by omega))))
      · refine VwF.fl rfl rfl (by rw [allF_length]) (by rw [allF_length]) rfl
      all_goals rfl
  | c k m => exact hss.2.elim
  | d k m q => exact hss.2.elim

set_option maxRecDepth 100000 in
set_option maxHeartbeats 20000000 in
theorem flicker_outF {W H : Nat} {c : Bool} {l : List Fr} {b0 : List UInt8} (h2 : W ≤ 48) (h4 : H ≤ 48) (hS : strangeL l = 0) (hn : 0 < l.length) (hp0 : part (ofFr l) (0 * 3) 3 = some [.int .i64 (W : Nat), .int .i64 (H : Nat), .sl false b0.length (ofBytes b0)]) {a b d e : Int} (hout : outA W H a b d e = true) : FunF F md 39 [.sl c l.length (ofFr l), ptV a b d e] (flV true true [] [] 2) := by
  have h := strange_any c l
  rw [hS] at h
  have hO := outside_any (c0 := false) (l := b0) h2 h4 a b d e
  rw [hout] at hO
  generalize l.length = L at *
  refine funF_of rfl rfl ?_
  repeat' (first
    | (conv => whnf)
      first
      | refine Br.t ?_
      | refine Br.f ?_
      | (refine Br.decT ?_ ?_; (focus first | assumption | omega))
      | (refine Br.decF ?_ ?_; (focus first | assumption | omega))
      | refine Br.dec (fun _ => ?_) (fun _ => ?_)
      | refine Br.not ?_
      | refine Br.and ?_
      | refine Br.or ?_
      | (refine Bnd.i64 ?_ ?_ ?_; (focus omega); (focus omega))
      | refine call_fun rfl rfl h (.inl rfl) ?_
      | refine Get.mk _ hp0 ?_
      | refine call_fun rfl rfl hO (.inl rfl) ?_
      | (refine Idx.int ?_ ?_ ?_; (focus omega); (focus omega))
      | (refine Idx.nat ?_ ?_; (focus omega))
      | refine Idx.nat (le_big (by omega)) ?_
      | (refine Idx.int ?_ ?_ ?_; (focus omega); (focus omega))
      | (refine Idx.int ?_ ?_ ?_; (focus decide); (focus decide))
      | refine Ifz.zero ?_
      | (refine Ifz.pos ?_ ?_; (focus omega))
      | refine Get.mk _ rfl ?_
      | refine Leaves.of ?_
      | refine Ends.of ?_
      | refine Vw.bool ?_
      | refine Vw.int ?_
      | refine Vw.nil
      | refine Vw.sl
      | refine Vw.tup ?_
      | refine Vw.agg ?_
      | refine VwL.cons ?_ ?_
      | refine VwL.nil
      | refine LeavesF.of ?_
      | refine VwF.bool ?_
      | refine VwF.int ?_
      | refine VwF.nil
      | refine VwF.sl
      | refine VwF.tup ?_
      | refine VwF.agg ?_
      | refine VwLF.cons ?_ ?_
      | refine VwLF.nil
      | (refine Req.mk ?_ ?_; (focus first | rfl | decide | exact ⟨rfl, rfl⟩ | exact ⟨rfl, by decide⟩ | exact (fun _ => rfl) | exact (fun h => nomatch h) | (simp; done) | omega | (simp [big]; done) | exact le_big (by omega) | exact lt_big (by omega))))
  all_goals rfl

end Go.Dr.T
