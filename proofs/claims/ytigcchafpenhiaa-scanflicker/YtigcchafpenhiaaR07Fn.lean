/- Chapter 07: the law ScanFlicker. -/
import Derived.Test.YtigcchafpenhiaaR07Fo
import Derived.KernelRfl
namespace Go.Dr.T

set_option maxRecDepth 100000 in
set_option maxHeartbeats 20000000 in
theorem flick_early {c cl ce : Bool} {l : List Fr} {a b d e : Int} {L E : List Int} (h : ¬ (1 ≤ l.length ∧ l.length ≤ 24 ∧ 0 < L.length ∧ 0 < E.length)) : Fun F md 13 [.sl c l.length (ofFr l), ptV a b d e, .agg [.sl cl L.length (L.map (V.int .i64)), .sl ce E.length (E.map (V.int .u16))]] (.bool true) := by
  refine fun_of rfl rfl ?_
  repeat' (first
    | (conv => whnf)
      first
      | refine Br.t ?_
      | refine Br.f ?_
      | (refine Br.decT ?_ ?_; (focus first | assumption | omega))
      | (refine Br.decF ?_ ?_; (focus first | assumption | omega))
      | refine Br.dec (fun _ => ?_) (fun _ => ?_)
      | refine Br.not ?_
      | refine Br.and ?_
      | refine Br.or ?_
      | (refine Bnd.i64 ?_ ?_ ?_; (focus omega); (focus omega))
      | refine call_fun rfl rfl awake (.inl rfl) ?_
      | (refine Idx.nat ?_ ?_; (focus omega))
      | refine Idx.nat (le_big (by omega)) ?_
      | (refine Idx.int ?_ ?_ ?_; (focus omega); (focus omega))
      | (refine Idx.int ?_ ?_ ?_; (focus decide); (focus decide))
      | refine Ifz.zero ?_
      | (refine Ifz.pos ?_ ?_; (focus omega))
      | refine Get.mk _ rfl ?_
      | refine Leaves.of ?_
      | refine Ends.of ?_
      | refine Vw.bool ?_
      | refine Vw.int ?_
      | refine Vw.nil
      | refine Vw.sl
      | refine Vw.tup ?_
      | refine Vw.agg ?_
      | refine VwL.cons ?_ ?_
      | refine VwL.nil
      | refine LeavesF.of ?_
      | refine VwF.bool ?_
      | refine VwF.int ?_
      | refine VwF.nil
      | refine VwF.sl
      | refine VwF.tup ?_
      | refine VwF.agg ?_
      | refine VwLF.cons ?_ ?_
      | refine VwLF.nil
      | (refine Req.mk ?_ ?_; (focus first | rfl | decide | exact ⟨rfl, rfl⟩ | exact ⟨rfl, by decide⟩ | exact (fun _ => rfl) | exact (fun h => nomatch h) | (simp; done) | omega | (simp [big]; done) | exact le_big (by omega) | exact lt_big (by omega))))
  all_goals first | rfl | (exfalso; omega)


set_option maxRecDepth 100000 in
set_option maxHeartbeats 20000000 in
theorem flick_bad0 {c cl ce : Bool} {l : List Fr} {a b d e : Int} {L E : List Int} (h1 : 1 ≤ l.length) (h2 : l.length ≤ 24) (h3 : 0 < L.length) (h4 : 0 < E.length) {k : Int} (hk : k ≠ 0) (hS : checkL l[0].1 l[0].2.1 l[0].2.2.length = k) : Fun F md 13 [.sl c l.length (ofFr l), ptV a b d e, .agg [.sl cl L.length (L.map (V.int .i64)), .sl ce E.length (E.map (V.int .u16))]] (.bool true) := by
  have hc3 := ofFr_part h1
  have hck := checkR_any l[0].1 l[0].2.1 false l[0].2.2
  rw [hS] at hck
  have hcw := ofFr_cell0 h1
  have hch := ofFr_cell1 h1
  have hcp := ofFr_cell2 h1
  have hcw0 := hcw
  have hch0 := hch
  refine fun_of rfl rfl ?_
  repeat' (first
    | (conv => whnf)
      first
      | refine Br.t ?_
      | refine Br.f ?_
      | (refine Br.decT ?_ ?_; (focus first | assumption | omega))
      | (refine Br.decF ?_ ?_; (focus first | assumption | omega))
      | refine Br.dec (fun _ => ?_) (fun _ => ?_)
      | refine Br.not ?_
      | refine Br.and ?_
      | refine Br.or ?_
      | (refine Bnd.i64 ?_ ?_ ?_; (focus omega); (focus omega))
      | (refine Idx.nat ?_ ?_; (focus omega))
      | refine Idx.nat (le_big (by omega)) ?_
      | (refine Idx.int ?_ ?_ ?_; (focus omega); (focus omega))
      | (refine Idx.int ?_ ?_ ?_; (focus decide); (focus decide))
      | refine Ifz.zero ?_
      | (refine Ifz.pos ?_ ?_; (focus omega))
      | refine Get.mk _ rfl ?_
      | refine Leaves.of ?_
      | refine Ends.of ?_
      | refine Vw.bool ?_
      | refine Vw.int ?_
      | refine Vw.nil
      | refine Vw.sl
      | refine Vw.tup ?_
      | refine Vw.agg ?_
      | refine VwL.cons ?_ ?_
      | refine VwL.nil
      | refine LeavesF.of ?_
      | refine VwF.bool ?_
      | refine VwF.int ?_
      | refine VwF.nil
      | refine VwF.sl
      | refine VwF.tup ?_
      | refine VwF.agg ?_
      | refine VwLF.cons ?_ ?_
      | refine VwLF.nil
      | (refine Req.mk ?_ ?_; (focus first | rfl | decide | exact ⟨rfl, rfl⟩ | exact ⟨rfl, by decide⟩ | exact (fun _ => rfl) | exact (fun h => nomatch h) | (simp; done) | omega | (simp [big]; done) | exact le_big (by omega) | exact lt_big (by omega))))
  all_goals try (exfalso; omega)
  refine LoopP.by (fun _ : Unit => True) (fun _ => [(7, .nilsl), (8, .nilsl), (9, .int .i64 0)]) (fun _ => [bP a b d e, bX cl ce L E]) (fun _ => 0) () trivial rfl ?_
  intro _ _
  repeat' (first
    | (conv => whnf)
      first
      | refine Br.t ?_
      | refine Br.f ?_
      | (refine Br.decT ?_ ?_; (focus first | assumption | omega))
      | (refine Br.decF ?_ ?_; (focus first | assumption | omega))
      | refine Br.dec (fun _ => ?_) (fun _ => ?_)
      | refine Br.not ?_
      | refine Br.and ?_
      | refine Br.or ?_
      | (refine Bnd.i64 ?_ ?_ ?_; (focus omega); (focus omega))
      | refine call_fun rfl rfl awake (.inl rfl) ?_
      | refine call_fun rfl rfl hck (.inl rfl) ?_
      | refine Get.mk _ hc3 ?_
      | refine Get.mk _ hcw ?_
      | refine Get.mk _ hch ?_
      | refine Get.mk _ hcp ?_
      | refine Get.mk _ hcw0 ?_
      | refine Get.mk _ hch0 ?_
      | refine Br.t ?_
      | (refine mBool ?_ ?_; (focus repeat' (first | exact freeNil | refine freeCons rfl ?_ | refine freeCons (freeNew (by omega)) ?_)))
      | (refine Idx.nat ?_ ?_; (focus omega))
      | refine Idx.nat (le_big (by omega)) ?_
      | (refine Idx.int ?_ ?_ ?_; (focus omega); (focus omega))
      | (refine Idx.int ?_ ?_ ?_; (focus decide); (focus decide))
      | refine Ifz.zero ?_
      | (refine Ifz.pos ?_ ?_; (focus omega))
      | refine Get.mk _ rfl ?_
      | refine Leaves.of ?_
      | refine Ends.of ?_
      | refine Vw.bool ?_
      | refine Vw.int ?_
      | refine Vw.nil
      | refine Vw.sl
      | refine Vw.tup ?_
      | refine Vw.agg ?_
      | refine VwL.cons ?_ ?_
      | refine VwL.nil
      | refine LeavesF.of ?_
      | refine VwF.bool ?_
      | refine VwF.int ?_
      | refine VwF.nil
      | refine VwF.sl
      | refine VwF.tup ?_
      | refine VwF.agg ?_
      | refine VwLF.cons ?_ ?_
      | refine VwLF.nil
      | (refine Req.mk ?_ ?_; (focus first | rfl | decide | exact ⟨rfl, rfl⟩ | exact ⟨rfl, by decide⟩ | exact (fun _ => rfl) | exact (fun h => nomatch h) | (simp; done) | omega | (simp [big]; done) | exact le_big (by omega) | exact lt_big (by omega))))
  all_goals first | rfl | (exfalso; omega)

theorem fr_good {l : List Fr} {i W H : Nat} (hi : i < l.length) (hg : checkL l[i].1 l[i].2.1 l[i].2.2.length = 0 ∧ l[i].1 = (W : Int) ∧ l[i].2.1 = (H : Int)) : ∃ px, frAt l i = px ∧ px.length = W * H ∧ part (ofFr l) (i * 3) 3 = some [.int .i64 W, .int .i64 H, .sl false (W * H) (ofBytes px)] ∧ cellAt (ofFr l) (i * 3) = some (.int .i64 W) ∧ cellAt (ofFr l) (i * 3 + 1) = some (.int .i64 H) ∧ cellAt (ofFr l) (i * 3 + 2) = some (.sl false (W * H) (ofBytes px)) ∧ Fun F md 18 [.agg [.int .i64 W, .int .i64 H, .sl false (W * H) (ofBytes px)]] (.int .i64 0) := by
  have hc3 := ofFr_part hi
  have hck := checkR_any l[i].1 l[i].2.1 false l[i].2.2
  have hcw := ofFr_cell0 hi
  have hch := ofFr_cell1 hi
  have hcp := ofFr_cell2 hi
  have hfr := frAt_eq hi
  generalize l[i] = x at *
  obtain ⟨w, h, px⟩ := x
  obtain ⟨g1, g2, g3⟩ := hg
  dsimp only at *
  subst g2 g3
  obtain ⟨W', H', q1, q2, q3, q4, q5, q6, q7⟩ := checkL_good g1
  obtain rfl : W = W' := by omega
  obtain rfl : H = H' := by omega
  rw [g1] at hck
  rw [q7] at hc3 hcp
  unfold frV at hck
  rw [q7] at hck
  exact ⟨px, hfr.symm, q7, hc3, hcw, hch, hcp, hck⟩

theorem tmod_nat (a b : Nat) : ((a : Nat) : Int).tmod (b : Int) = ((a % b : Nat) : Int) := rfl


set_option maxRecDepth 100000 in
set_option maxHeartbeats 20000000 in
theorem flick_good {c cl ce : Bool} {l : List Fr} {a b d e : Int} {L E : List Int} (hE : ∀ x ∈ E, 0 ≤ x ∧ x ≤ 65535) (h1 : 1 ≤ l.length) (h2 : l.length ≤ 24) (h3 : 0 < L.length) (h4 : 0 < E.length) {W H A D nx ny : Nat} (hW1 : 1 ≤ W) (hW2 : W ≤ 48) (hH1 : 1 ≤ H) (hH2 : H ≤ 48)
    (hc0 : checkL l[0].1 l[0].2.1 l[0].2.2.length = 0) (hw0 : l[0].1 = (W : Int)) (hh0 : l[0].2.1 = (H : Int)) (hA : max 0 a = (A : Int)) (hD : max 0 d = (D : Int)) (hnx : (nx : Int) = max 0 (min ((W : Int) - 1) b + 1 - A)) (hny : (ny : Int) = max 0 (min ((H : Int) - 1) e + 1 - D)) : Fun F md 13 [.sl c l.length (ofFr l), ptV a b d e, .agg [.sl cl L.length (L.map (V.int .i64)), .sl ce E.length (E.map (V.int .u16))]] (.bool true) := by
  have hWH1 : 1 ≤ W * H := Nat.mul_le_mul hW1 hH1
  have hWH2 : W * H ≤ 2304 := Nat.mul_le_mul hW2 hH2
  have hcw0 := ofFr_cell0 h1
  have hch0 := ofFr_cell1 h1
  rw [hw0] at hcw0
  rw [hh0] at hch0
  refine fun_of rfl rfl ?_
  repeat' (first
    | (conv => whnf)
      first
      | refine Br.t ?_
      | refine Br.f ?_
      | (refine Br.decT ?_ ?_; (focus first | assumption | omega))
      | (refine Br.decF ?_ ?_; (focus first | assumption | omega))
      | refine Br.dec (fun _ => ?_) (fun _ => ?_)
      | refine Br.not ?_
      | refine Br.and ?_
      | refine Br.or ?_
      | (refine Bnd.i64 ?_ ?_ ?_; (focus omega); (focus omega))
      | (refine Idx.nat ?_ ?_; (focus omega))
      | refine Idx.nat (le_big (by omega)) ?_
      | (refine Idx.int ?_ ?_ ?_; (focus omega); (focus omega))
      | (refine Idx.int ?_ ?_ ?_; (focus decide); (focus decide))
      | refine Ifz.zero ?_
      | (refine Ifz.pos ?_ ?_; (focus omega))
      | refine Get.mk _ rfl ?_
      | refine Leaves.of ?_
      | refine Ends.of ?_
      | refine Vw.bool ?_
      | refine Vw.int ?_
      | refine Vw.nil
      | refine Vw.sl
      | refine Vw.tup ?_
      | refine Vw.agg ?_
      | refine VwL.cons ?_ ?_
      | refine VwL.nil
      | refine LeavesF.of ?_
      | refine VwF.bool ?_
      | refine VwF.int ?_
      | refine VwF.nil
      | refine VwF.sl
      | refine VwF.tup ?_
      | refine VwF.agg ?_
      | refine VwLF.cons ?_ ?_
      | refine VwLF.nil
      | (refine Req.mk ?_ ?_; (focus first | rfl | decide | exact ⟨rfl, rfl⟩ | exact ⟨rfl, by decide⟩ | exact (fun _ => rfl) | exact (fun h => nomatch h) | (simp; done) | omega | (simp [big]; done) | exact le_big (by omega) | exact lt_big (by omega))))
  all_goals try (exfalso; omega)
  refine LoopP.by (FlP a b d e cl ce l L E W H A D nx ny) (fun s => match s.i with
      | 0 => [(7, .nilsl), (8, .nilsl), (9, .int .i64 0)]
      | i + 1 => [(7, .ms 3 5 (3 * (i + 1)) 0 (i + 1) false), (8, .ms 1 6 (i + 1) 0 (i + 1) false), (9, .int .i64 ((i + 1 : Nat) : Int))])
    (fun s => s.H) (fun s => l.length - s.i) ⟨0, [bP a b d e, bX cl ce L E], []⟩ ⟨Nat.zero_le _, (fun k hk => absurd hk (Nat.not_lt_zero k)), fun _ => rfl, fun hx => absurd hx (by simp), fun hx => absurd hx (by simp)⟩ rfl ?_
  rintro ⟨i, HH, ids⟩ ⟨hi, hall, hP0, hP1, hP2⟩
  dsimp only at hi hall hP0 hP1 hP2 ⊢
  cases i with
  | zero =>
    have e0 := hP0 rfl
    simp only [FlS.mk.injEq, true_and] at e0
    obtain ⟨rfl, rfl⟩ := e0
    clear hP0 hP1 hP2
    obtain ⟨px, hfr, hpl, hc3, hcw, hch, hcp, hck⟩ := fr_good h1 ⟨hc0, hw0, hh0⟩
    subst hfr
    have hsz : (([] : List V).length + (ofBytes (frAt l 0)).length) * (1 + 1) < big := by rw [ofBytes_length, hpl]; simp [big]; omega
    have hsc : true = true → scalars (([] : List V) ++ ofBytes (frAt l 0)) = true := fun _ => scalars_ofBytes _
    have hslen : (ofBytes (frAt l 0)).length = W * H * 1 := by rw [ofBytes_length, hpl, Nat.mul_one]
    have hsz2 : ([] : List V).length + (ofBytes (frAt l 0)).length = W * H := by rw [ofBytes_length, hpl]; simp
    repeat' (first
      | (conv => whnf)
        first
        | refine Br.t ?_
        | refine Br.f ?_
        | (refine Br.decT ?_ ?_; (focus first | assumption | omega))
        | (refine Br.decF ?_ ?_; (focus first | assumption | omega))
        | refine Br.dec (fun _ => ?_) (fun _ => ?_)
        | refine Br.not ?_
        | refine Br.and ?_
        | refine Br.or ?_
        | (refine Bnd.i64 ?_ ?_ ?_; (focus omega); (focus omega))
        | refine call_fun rfl rfl awake (.inl rfl) ?_
        | refine call_fun rfl rfl hck (.inl rfl) ?_
        | refine Get.mk _ hc3 ?_
        | refine Get.mk _ hcw ?_
        | refine Get.mk _ hch ?_
        | refine Get.mk _ hcp ?_
        | refine Get.mk _ hcw0 ?_
        | refine Get.mk _ hch0 ?_
        | refine Req.mk hsz ?_
        | refine Req.mk hsc ?_
        | refine Req.mk hslen ?_
        | refine Bnd.eq hD ?_
        | (refine mBool ?_ ?_; (focus repeat' (first | exact freeNil | refine freeCons rfl ?_ | refine freeCons (freeNew (by omega)) ?_)))
        | (refine Idx.nat ?_ ?_; (focus omega))
        | refine Idx.nat (le_big (by omega)) ?_
        | (refine Idx.int ?_ ?_ ?_; (focus omega); (focus omega))
        | (refine Idx.int ?_ ?_ ?_; (focus decide); (focus decide))
        | refine Ifz.zero ?_
        | (refine Ifz.pos ?_ ?_; (focus omega))
        | refine Get.mk _ rfl ?_
        | refine Leaves.of ?_
        | refine Ends.of ?_
        | refine Vw.bool ?_
        | refine Vw.int ?_
        | refine Vw.nil
        | refine Vw.sl
        | refine Vw.tup ?_
        | refine Vw.agg ?_
        | refine VwL.cons ?_ ?_
        | refine VwL.nil
        | refine LeavesF.of ?_
        | refine VwF.bool ?_
        | refine VwF.int ?_
        | refine VwF.nil
        | refine VwF.sl
        | refine VwF.tup ?_
        | refine VwF.agg ?_
        | refine VwLF.cons ?_ ?_
        | refine VwLF.nil
        | (refine Req.mk ?_ ?_; (focus first | rfl | decide | exact ⟨rfl, rfl⟩ | exact ⟨rfl, by decide⟩ | exact (fun _ => rfl) | exact (fun h => nomatch h) | (simp; done) | omega | (simp [big]; done) | exact le_big (by omega) | exact lt_big (by omega))))
    refine LoopP.by (fun j : Nat => j ≤ ny) (fun j => [(12, .int .i64 ((nx * j : Nat) : Int)), (13, .int .i64 ((D + j : Nat) : Int))]) (fun j => [bP a b d e, bX cl ce L E] ++ [.blk (ofBytes (pnt W A D (gF L (1000)) (frAt l 0) nx j)) true, .blk [.int .i64 W, .int .i64 H, .ms 1 (2) (W * H) 0 (W * H) false] false]) (fun j => ny - j) 0 (Nat.zero_le _) (by rw [hsz2, Nat.zero_add (W * H)]; rfl) ?_
    intro j hj
    by_cases hjn : j < ny
    · have hbase : (D + j) * W + W ≤ W * H := by
        have := Nat.mul_le_mul_right W (show D + j + 1 ≤ H by omega)
        rw [Nat.add_mul, Nat.one_mul, Nat.mul_comm H W] at this; exact this
      have hnb : nx * j + nx ≤ 48 * 48 := by
        rw [← Nat.mul_succ]; exact Nat.mul_le_mul (by omega) (by omega)
      repeat' (first
        | (conv => whnf)
          first
          | refine Br.t ?_
          | refine Br.f ?_
          | (refine Br.decT ?_ ?_; (focus first | assumption | omega))
          | (refine Br.decF ?_ ?_; (focus first | assumption | omega))
          | refine Br.dec (fun _ => ?_) (fun _ => ?_)
          | refine Br.not ?_
          | refine Br.and ?_
          | refine Br.or ?_
          | (refine Bnd.i64 ?_ ?_ ?_; (focus omega); (focus omega))
          | refine Br.t ?_
          | refine Bnd.eq hA ?_
          | refine Bnd.any ?_
          | (refine Idx.nat ?_ ?_; (focus omega))
          | refine Idx.nat (le_big (by omega)) ?_
          | (refine Idx.int ?_ ?_ ?_; (focus omega); (focus omega))
          | (refine Idx.int ?_ ?_ ?_; (focus decide); (focus decide))
          | refine Ifz.zero ?_
          | (refine Ifz.pos ?_ ?_; (focus omega))
          | refine Get.mk _ rfl ?_
          | refine Leaves.of ?_
          | refine Ends.of ?_
          | refine Vw.bool ?_
          | refine Vw.int ?_
          | refine Vw.nil
          | refine Vw.sl
          | refine Vw.tup ?_
          | refine Vw.agg ?_
          | refine VwL.cons ?_ ?_
          | refine VwL.nil
          | refine LeavesF.of ?_
          | refine VwF.bool ?_
          | refine VwF.int ?_
          | refine VwF.nil
          | refine VwF.sl
          | refine VwF.tup ?_
          | refine VwF.agg ?_
          | refine VwLF.cons ?_ ?_
          | refine VwLF.nil
          | (refine Req.mk ?_ ?_; (focus first | rfl | decide | exact ⟨rfl, rfl⟩ | exact ⟨rfl, by decide⟩ | exact (fun _ => rfl) | exact (fun h => nomatch h) | (simp; done) | omega | (simp [big]; done) | exact le_big (by omega) | exact lt_big (by omega))))
      refine LoopP.by (fun i : Nat => i ≤ nx) (fun i => [(12, .int .i64 ((nx * j + i : Nat) : Int)), (14, .int .i64 ((A + i : Nat) : Int))]) (fun i => [bP a b d e, bX cl ce L E] ++ [.blk (ofBytes (pntRow W A D nx (gF L (1000)) (pnt W A D (gF L (1000)) (frAt l 0) nx j) j i)) true, .blk [.int .i64 W, .int .i64 H, .ms 1 (2) (W * H) 0 (W * H) false] false]) (fun i => nx - i) 0 (Nat.zero_le _) (by kernel_rfl) ?_
      intro i hi
      by_cases hin : i < nx
      · have hlt : (D + j) * W + (A + i) < W * H := by omega
        have hcl : (pntRow W A D nx (gF L (1000)) (pnt W A D (gF L (1000)) (frAt l 0) nx j) j i).length = W * H := by rw [pntRow_length, pnt_length, hpl]
        have hmw : IntKind.i64.wrap (((D + j : Nat) : Int) * (W : Int)) = (((D + j) * W : Nat) : Int) := by rw [← Int.natCast_mul, wrap_i64 (by omega) (by omega)]
        have haw : IntKind.i64.wrap ((((D + j) * W : Nat) : Int) + ((A + i : Nat) : Int)) = (((D + j) * W + (A + i) : Nat) : Int) := by rw [← Int.natCast_add, wrap_i64 (by omega) (by omega)]
        have hmod := tmod_nat (nx * j + i) L.length
        have hml := Nat.mod_lt (nx * j + i) h3
        have hlc := cellAt_ints hml
        rw [at9_eq hml] at hlc
        have hrg := lvL_range (cl9_range (at9 L ((nx * j + i) % L.length))) (show (1 : Int) ≤ 1000 ∧ (1000 : Int) ≤ 100000 by omega)
        have hlv := level_any (x := cl9 (at9 L ((nx * j + i) % L.length))) (cl9_range _) (show (1 : Int) ≤ 1000 ∧ (1000 : Int) ≤ 100000 by omega)
        have hput := putF (l := pntRow W A D nx (gF L (1000)) (pnt W A D (gF L (1000)) (frAt l 0) nx j) j i) (i := (D + j) * W + (A + i)) (b := gF L (1000) (j * nx + i)) (v := lvL (cl9 (at9 L ((nx * j + i) % L.length))) (1000)) (by rw [hcl]; exact hlt) (by rw [Nat.mul_comm nx j]; exact gE_eq (show (1 : Int) ≤ 1000 ∧ (1000 : Int) ≤ 100000 by omega) _)
        have hcl2 := (ofBytes_length _).trans hcl
        have hcl3 : (ofBytes (pntRow W A D nx (gF L (1000)) (pnt W A D (gF L (1000)) (frAt l 0) nx j) j i)).length = W * H ∧ 0 + ((D + j) * W + (A + i)) * 1 + 1 ≤ (ofBytes (pntRow W A D nx (gF L (1000)) (pnt W A D (gF L (1000)) (frAt l 0) nx j) j i)).length := ⟨hcl2, by rw [hcl2]; omega⟩
        have hL0 : (L.length : Int) ≠ 0 := by omega
        have hWHp : 0 < W * H := hWH1
        have hml2 : (nx * j + i) % L.length ≤ L.length - 1 := by omega
        have hlt2 : (D + j) * W + (A + i) ≤ W * H - 1 := by omega
        repeat' (first
          | (conv => whnf)
            first
            | refine Req.mk hL0 ?_
            | refine Req.mk h3 ?_
            | refine Req.mk hWHp ?_
            | refine Br.t ?_
            | refine Br.f ?_
            | (refine Br.decT ?_ ?_; (focus first | assumption | omega))
            | (refine Br.decF ?_ ?_; (focus first | assumption | omega))
            | refine Br.dec (fun _ => ?_) (fun _ => ?_)
            | refine Br.not ?_
            | refine Br.and ?_
            | refine Br.or ?_
            | (refine Bnd.i64 ?_ ?_ ?_; (focus omega); (focus omega))
            | refine Br.t ?_
            | refine Bnd.eq hmw ?_
            | refine Bnd.eq haw ?_
            | refine Bnd.eq hmod ?_
            | refine Get.mk _ hlc ?_
            | refine call_fun rfl rfl hlv (.inl rfl) ?_
            | refine Bnd.u8 hrg.1 hrg.2 ?_
            | refine Idx.nat hml2 ?_
            | refine Idx.nat hlt2 ?_
            | refine Req.mk hcl3 ?_
            | refine fVf hput ?_
            | refine Bnd.any ?_
            | (refine mBool ?_ ?_; (focus repeat' (first | exact freeNil | refine freeCons rfl ?_ | refine freeCons (freeNew (by omega)) ?_ | refine freeCons (freeRW (by omega)) ?_)))
            | (refine Idx.nat ?_ ?_; (focus omega))
            | refine Idx.nat (le_big (by omega)) ?_
            | (refine Idx.int ?_ ?_ ?_; (focus omega); (focus omega))
            | (refine Idx.int ?_ ?_ ?_; (focus decide); (focus decide))
            | refine Ifz.zero ?_
            | (refine Ifz.pos ?_ ?_; (focus omega))
            | refine Get.mk _ rfl ?_
            | refine Leaves.of ?_
            | refine Ends.of ?_
            | refine Vw.bool ?_
            | refine Vw.int ?_
            | refine Vw.nil
            | refine Vw.sl
            | refine Vw.tup ?_
            | refine Vw.agg ?_
            | refine VwL.cons ?_ ?_
            | refine VwL.nil
            | refine LeavesF.of ?_
            | refine VwF.bool ?_
            | refine VwF.int ?_
            | refine VwF.nil
            | refine VwF.sl
            | refine VwF.tup ?_
            | refine VwF.agg ?_
            | refine VwLF.cons ?_ ?_
            | refine VwLF.nil
            | (refine Req.mk ?_ ?_; (focus first | rfl | decide | exact ⟨rfl, rfl⟩ | exact ⟨rfl, by decide⟩ | exact (fun _ => rfl) | exact (fun h => nomatch h) | (simp; done) | omega | (simp [big]; done) | exact le_big (by omega) | exact lt_big (by omega))))
        all_goals first | exact NextP.mk (i + 1) hin (by omega) (by kernel_rfl) | (exfalso; omega)
      · obtain rfl : i = nx := by omega
        repeat' (first
          | (conv => whnf)
            first
            | refine Br.t ?_
            | refine Br.f ?_
            | (refine Br.decT ?_ ?_; (focus first | assumption | omega))
            | (refine Br.decF ?_ ?_; (focus first | assumption | omega))
            | refine Br.dec (fun _ => ?_) (fun _ => ?_)
            | refine Br.not ?_
            | refine Br.and ?_
            | refine Br.or ?_
            | (refine Bnd.i64 ?_ ?_ ?_; (focus omega); (focus omega))
            | refine Br.t ?_
            | refine Bnd.any ?_
            | (refine Idx.nat ?_ ?_; (focus omega))
            | refine Idx.nat (le_big (by omega)) ?_
            | (refine Idx.int ?_ ?_ ?_; (focus omega); (focus omega))
            | (refine Idx.int ?_ ?_ ?_; (focus decide); (focus decide))
            | refine Ifz.zero ?_
            | (refine Ifz.pos ?_ ?_; (focus omega))
            | refine Get.mk _ rfl ?_
            | refine Leaves.of ?_
            | refine Ends.of ?_
            | refine Vw.bool ?_
            | refine Vw.int ?_
            | refine Vw.nil
            | refine Vw.sl
            | refine Vw.tup ?_
            | refine Vw.agg ?_
            | refine VwL.cons ?_ ?_
            | refine VwL.nil
            | refine LeavesF.of ?_
            | refine VwF.bool ?_
            | refine VwF.int ?_
            | refine VwF.nil
            | refine VwF.sl
            | refine VwF.tup ?_
            | refine VwF.agg ?_
            | refine VwLF.cons ?_ ?_
            | refine VwLF.nil
            | (refine Req.mk ?_ ?_; (focus first | rfl | decide | exact ⟨rfl, rfl⟩ | exact ⟨rfl, by decide⟩ | exact (fun _ => rfl) | exact (fun h => nomatch h) | (simp; done) | omega | (simp [big]; done) | exact le_big (by omega) | exact lt_big (by omega))))
        all_goals first | exact NextP.mk (j + 1) hjn (by omega) (by kernel_rfl) | (exfalso; omega)
    · obtain rfl : j = ny := by omega
      repeat' (first
        | (conv => whnf)
          first
          | (refine Req.mk ?_ ?_; (focus first | exact rfl | exact ⟨rfl, rfl⟩ | exact (fun _ => rfl) | (simp [big, take', drop']; done)))
          | refine Br.t ?_
          | refine Br.f ?_
          | (refine Br.decT ?_ ?_; (focus first | assumption | omega))
          | (refine Br.decF ?_ ?_; (focus first | assumption | omega))
          | refine Br.dec (fun _ => ?_) (fun _ => ?_)
          | refine Br.not ?_
          | refine Br.and ?_
          | refine Br.or ?_
          | (refine Bnd.i64 ?_ ?_ ?_; (focus omega); (focus omega))
          | refine Bnd.any ?_
          | (refine Idx.nat ?_ ?_; (focus omega))
          | refine Idx.nat (le_big (by omega)) ?_
          | (refine Idx.int ?_ ?_ ?_; (focus omega); (focus omega))
          | (refine Idx.int ?_ ?_ ?_; (focus decide); (focus decide))
          | refine Ifz.zero ?_
          | (refine Ifz.pos ?_ ?_; (focus omega))
          | refine Get.mk _ rfl ?_
          | refine Leaves.of ?_
          | refine Ends.of ?_
          | refine Vw.bool ?_
          | refine Vw.int ?_
          | refine Vw.nil
          | refine Vw.sl
          | refine Vw.tup ?_
          | refine Vw.agg ?_
          | refine VwL.cons ?_ ?_
          | refine VwL.nil
          | refine LeavesF.of ?_
          | refine VwF.bool ?_
          | refine VwF.int ?_
          | refine VwF.nil
          | refine VwF.sl
          | refine VwF.tup ?_
          | refine VwF.agg ?_
          | refine VwLF.cons ?_ ?_
          | refine VwLF.nil
          | (refine Req.mk ?_ ?_; (focus first | rfl | decide | exact ⟨rfl, rfl⟩ | exact ⟨rfl, by decide⟩ | exact (fun _ => rfl) | exact (fun h => nomatch h) | (simp; done) | omega | (simp [big]; done) | exact le_big (by omega) | exact lt_big (by omega))))
      refine NextP.mk ⟨1, hOne a b d e cl ce L E W H (qq l L E W A D nx j 0), [2]⟩ ⟨h1, (fun k hk => ?_), (fun hx => absurd hx (by simp)), (fun _ => rfl), (fun _ => flOk_one _ _ _ _ _ _ _ _ _ _ _ _ _ _ _)⟩ (by dsimp only; omega) (by kernel_rfl)
      · obtain rfl : k = 0 := by simpa using hk
        exact hpl
  | succ r =>
    obtain ⟨f1, f2, f3, f4, f5, f6, f7, f8⟩ := hP2 (by omega)
    dsimp only at f1 f2 f3 f4 f5 f6 f7 f8
    by_cases hil : r + 1 < l.length
    · clear hP0 hP1 hP2
      by_cases hg : checkL l[r + 1].1 l[r + 1].2.1 l[r + 1].2.2.length = 0 ∧ l[r + 1].1 = (W : Int) ∧ l[r + 1].2.1 = (H : Int)
      · obtain ⟨px, hfr, hpl, hc3, hcw, hch, hcp, hck⟩ := fr_good hil hg
        subst hfr
        have hsz : (([] : List V).length + (ofBytes (frAt l (r + 1))).length) * (1 + 1) < big := by rw [ofBytes_length, hpl]; simp [big]; omega
        have hsc : true = true → scalars (([] : List V) ++ ofBytes (frAt l (r + 1))) = true := fun _ => scalars_ofBytes _
        have hslen : (ofBytes (frAt l (r + 1))).length = W * H * 1 := by rw [ofBytes_length, hpl, Nat.mul_one]
        have hsz2 : ([] : List V).length + (ofBytes (frAt l (r + 1))).length = W * H := by rw [ofBytes_length, hpl]; simp
        have hmodE := tmod_nat (r + 1) E.length
        have hmE := Nat.mod_lt (r + 1) h4
        have hecell := cellAt_u16 hmE
        have hex := eX_range hE h4 (r + 1)
        have hxr := hE _ (List.getElem_mem hmE)
        rw [at9_eq hmE] at hecell hxr
        have hex2 : eX E (r + 1) = 1 + at9 E ((r + 1) % E.length) := rfl
        have hmE2 : (r + 1) % E.length ≤ E.length - 1 := by omega
        have hE0 : (E.length : Int) ≠ 0 := by omega
        rw [hex2] at hex
        have hpart : part [V.int .i64 (W : Nat), .int .i64 (H : Nat), .ms 1 (HH.length + 0) (W * H) 0 (W * H) false] 0 (1 * 3) = some [V.int .i64 (W : Nat), .int .i64 (H : Nat), .ms 1 (HH.length + 0) (W * H) 0 (W * H) false] := rfl
        have hmC : (mC W H ids).length = 3 * (r + 1) := by rw [mC_length, f6]; omega
        have hmS : 0 + (r + 1) * 3 = 3 * (r + 1) ∧ ((mC W H ids).length + [V.int .i64 (W : Nat), .int .i64 (H : Nat), .ms 1 (HH.length + 0) (W * H) 0 (W * H) false].length) * (40 + 1) < big := ⟨by omega, by rw [hmC]; simp [big]; omega⟩
        have hdt : false = true → scalars [V.int .i64 (W : Nat), .int .i64 (H : Nat), .ms 1 (HH.length + 0) (W * H) 0 (W * H) false] = true := by simp
        have heC := exs_length E (r + 1)
        have heS : 0 + (r + 1) * 1 = r + 1 ∧ ((exs E (r + 1)).length + [V.int .i64 (1 + at9 E ((r + 1) % E.length))].length) * (8 + 1) < big := ⟨by omega, by rw [heC]; simp [big]; omega⟩
        have hun : bget (HH ++ unborns 2) (HH.length + 0) = some .unborn := bget_new
        have hr1 : ([] : List V).length = 0 * 1 ∧ bget (HH ++ unborns 2) (HH.length + 0) = some .unborn := ⟨rfl, hun⟩
        repeat' (first
          | (conv => whnf)
            first
            | refine Req.mk h4 ?_
            | refine Req.mk hr1 ?_
            | refine Br.t ?_
            | refine Br.f ?_
            | (refine Br.decT ?_ ?_; (focus first | assumption | omega))
            | (refine Br.decF ?_ ?_; (focus first | assumption | omega))
            | refine Br.dec (fun _ => ?_) (fun _ => ?_)
            | refine Br.not ?_
            | refine Br.and ?_
            | refine Br.or ?_
            | (refine Bnd.i64 ?_ ?_ ?_; (focus omega); (focus omega))
            | refine call_fun rfl rfl awake (.inl rfl) ?_
            | refine call_fun rfl rfl hck (.inl rfl) ?_
            | refine Get.mk _ hc3 ?_
            | refine Get.mk _ hcw ?_
            | refine Get.mk _ hch ?_
            | refine Get.mk _ hcp ?_
            | refine Get.mk _ hcw0 ?_
            | refine Get.mk _ hch0 ?_
            | refine Req.mk hsz ?_
            | refine Req.mk hsc ?_
            | refine Req.mk hslen ?_
            | refine Bnd.eq hD ?_
            | refine Req.mk hE0 ?_
            | refine Bnd.eq hmodE ?_
            | refine Idx.nat hmE2 ?_
            | refine Get.mk _ hecell ?_
            | refine fLen_mk ?_
            | refine fBn ?_
            | refine fB1 (n := 1) ?_
            | refine fB0 ?_
            | refine Get.mk _ (bget_app f2) ?_
            | refine Get.mk _ (bget_app f3) ?_
            | refine Get.mk _ f2 ?_
            | refine Get.mk _ f3 ?_
            | refine Get.mk _ (bget_new.trans rfl) ?_
            | (refine mBool ?_ ?_; (focus repeat' (first | exact freeNil | refine freeCons rfl ?_ | refine freeCons (freeNew (by omega)) ?_)))
            | (refine Idx.nat ?_ ?_; (focus omega))
            | refine Idx.nat (le_big (by omega)) ?_
            | (refine Idx.int ?_ ?_ ?_; (focus omega); (focus omega))
            | (refine Idx.int ?_ ?_ ?_; (focus decide); (focus decide))
            | refine Ifz.zero ?_
            | (refine Ifz.pos ?_ ?_; (focus omega))
            | refine Get.mk _ rfl ?_
            | refine Leaves.of ?_
            | refine Ends.of ?_
            | refine Vw.bool ?_
            | refine Vw.int ?_
            | refine Vw.nil
            | refine Vw.sl
            | refine Vw.tup ?_
            | refine Vw.agg ?_
            | refine VwL.cons ?_ ?_
            | refine VwL.nil
            | refine LeavesF.of ?_
            | refine VwF.bool ?_
            | refine VwF.int ?_
            | refine VwF.nil
            | refine VwF.sl
            | refine VwF.tup ?_
            | refine VwF.agg ?_
            | refine VwLF.cons ?_ ?_
            | refine VwLF.nil
            | (refine Req.mk ?_ ?_; (focus first | rfl | decide | exact ⟨rfl, rfl⟩ | exact ⟨rfl, by decide⟩ | exact (fun _ => rfl) | exact (fun h => nomatch h) | (simp; done) | omega | (simp [big]; done) | exact le_big (by omega) | exact lt_big (by omega))))
        refine LoopP.by (fun j : Nat => j ≤ ny) (fun j => [(12, .int .i64 ((nx * j : Nat) : Int)), (13, .int .i64 ((D + j : Nat) : Int))]) (fun j => HH ++ [.blk (ofBytes (pnt W A D (gF L (1 + at9 E ((r + 1) % E.length))) (frAt l (r + 1)) nx j)) true, .blk [.int .i64 W, .int .i64 H, .ms 1 (HH.length + 0) (W * H) 0 (W * H) false] false]) (fun j => ny - j) 0 (Nat.zero_le _) (by rw [hsz2, Nat.zero_add (W * H)]; rfl) ?_
        intro j hj
        by_cases hjn : j < ny
        · have hbase : (D + j) * W + W ≤ W * H := by
            have := Nat.mul_le_mul_right W (show D + j + 1 ≤ H by omega)
            rw [Nat.add_mul, Nat.one_mul, Nat.mul_comm H W] at this; exact this
          have hnb : nx * j + nx ≤ 48 * 48 := by
            rw [← Nat.mul_succ]; exact Nat.mul_le_mul (by omega) (by omega)
          repeat' (first
            | (conv => whnf)
              first
              | refine Br.t ?_
              | refine Br.f ?_
              | (refine Br.decT ?_ ?_; (focus first | assumption | omega))
              | (refine Br.decF ?_ ?_; (focus first | assumption | omega))
              | refine Br.dec (fun _ => ?_) (fun _ => ?_)
              | refine Br.not ?_
              | refine Br.and ?_
              | refine Br.or ?_
              | (refine Bnd.i64 ?_ ?_ ?_; (focus omega); (focus omega))
              | refine fLen_mk ?_
              | refine fBn ?_
              | refine fB1 (n := 2) ?_
              | refine fB0 ?_
              | refine Get.mk _ hpart ?_
              | refine Get.mk _ (bget_app f2) ?_
              | refine Get.mk _ (bget_app f3) ?_
              | refine Get.mk _ (bget_app (bget_app f2)) ?_
              | refine Get.mk _ (bget_app (bget_app f3)) ?_
              | refine Get.mk _ (bget_app (bget_app f4)) ?_
              | refine Get.mk _ (bget_new.trans rfl) ?_
              | refine Get.mk _ (bget_app (bget_new.trans rfl)) ?_
              | refine Get.mk _ ((bset_other (by omega)).trans (bget_app (bget_app f5))) ?_
              | refine Bnd.eq hA ?_
              | refine Bnd.any ?_
              | (refine Idx.nat ?_ ?_; (focus omega))
              | refine Idx.nat (le_big (by omega)) ?_
              | (refine Idx.int ?_ ?_ ?_; (focus omega); (focus omega))
              | (refine Idx.int ?_ ?_ ?_; (focus decide); (focus decide))
              | refine Ifz.zero ?_
              | (refine Ifz.pos ?_ ?_; (focus omega))
              | refine Get.mk _ rfl ?_
              | refine Leaves.of ?_
              | refine Ends.of ?_
              | refine Vw.bool ?_
              | refine Vw.int ?_
              | refine Vw.nil
              | refine Vw.sl
              | refine Vw.tup ?_
              | refine Vw.agg ?_
              | refine VwL.cons ?_ ?_
              | refine VwL.nil
              | refine LeavesF.of ?_
              | refine VwF.bool ?_
              | refine VwF.int ?_
              | refine VwF.nil
              | refine VwF.sl
              | refine VwF.tup ?_
              | refine VwF.agg ?_
              | refine VwLF.cons ?_ ?_
              | refine VwLF.nil
              | (refine Req.mk ?_ ?_; (focus first | rfl | decide | exact ⟨rfl, rfl⟩ | exact ⟨rfl, by decide⟩ | exact (fun _ => rfl) | exact (fun h => nomatch h) | (simp; done) | omega | (simp [big]; done) | exact le_big (by omega) | exact lt_big (by omega))))
          refine LoopP.by (fun i : Nat => i ≤ nx) (fun i => [(12, .int .i64 ((nx * j + i : Nat) : Int)), (14, .int .i64 ((A + i : Nat) : Int))]) (fun i => HH ++ [.blk (ofBytes (pntRow W A D nx (gF L (1 + at9 E ((r + 1) % E.length))) (pnt W A D (gF L (1 + at9 E ((r + 1) % E.length))) (frAt l (r + 1)) nx j) j i)) true, .blk [.int .i64 W, .int .i64 H, .ms 1 (HH.length + 0) (W * H) 0 (W * H) false] false]) (fun i => nx - i) 0 (Nat.zero_le _) (by kernel_rfl) ?_
          intro i hi
          by_cases hin : i < nx
          · have hlt : (D + j) * W + (A + i) < W * H := by omega
            have hcl : (pntRow W A D nx (gF L (1 + at9 E ((r + 1) % E.length))) (pnt W A D (gF L (1 + at9 E ((r + 1) % E.length))) (frAt l (r + 1)) nx j) j i).length = W * H := by rw [pntRow_length, pnt_length, hpl]
            have hmw : IntKind.i64.wrap (((D + j : Nat) : Int) * (W : Int)) = (((D + j) * W : Nat) : Int) := by rw [← Int.natCast_mul, wrap_i64 (by omega) (by omega)]
            have haw : IntKind.i64.wrap ((((D + j) * W : Nat) : Int) + ((A + i : Nat) : Int)) = (((D + j) * W + (A + i) : Nat) : Int) := by rw [← Int.natCast_add, wrap_i64 (by omega) (by omega)]
            have hmod := tmod_nat (nx * j + i) L.length
            have hml := Nat.mod_lt (nx * j + i) h3
            have hlc := cellAt_ints hml
            rw [at9_eq hml] at hlc
            have hrg := lvL_range (cl9_range (at9 L ((nx * j + i) % L.length))) hex
            have hlv := level_any (x := cl9 (at9 L ((nx * j + i) % L.length))) (cl9_range _) hex
            have hput := putF (l := pntRow W A D nx (gF L (1 + at9 E ((r + 1) % E.length))) (pnt W A D (gF L (1 + at9 E ((r + 1) % E.length))) (frAt l (r + 1)) nx j) j i) (i := (D + j) * W + (A + i)) (b := gF L (1 + at9 E ((r + 1) % E.length)) (j * nx + i)) (v := lvL (cl9 (at9 L ((nx * j + i) % L.length))) (1 + at9 E ((r + 1) % E.length))) (by rw [hcl]; exact hlt) (by rw [Nat.mul_comm nx j]; exact gE_eq hex _)
            have hcl2 := (ofBytes_length _).trans hcl
            have hcl3 : (ofBytes (pntRow W A D nx (gF L (1 + at9 E ((r + 1) % E.length))) (pnt W A D (gF L (1 + at9 E ((r + 1) % E.length))) (frAt l (r + 1)) nx j) j i)).length = W * H ∧ 0 + ((D + j) * W + (A + i)) * 1 + 1 ≤ (ofBytes (pntRow W A D nx (gF L (1 + at9 E ((r + 1) % E.length))) (pnt W A D (gF L (1 + at9 E ((r + 1) % E.length))) (frAt l (r + 1)) nx j) j i)).length := ⟨hcl2, by rw [hcl2]; omega⟩
            have hL0 : (L.length : Int) ≠ 0 := by omega
            have hWHp : 0 < W * H := hWH1
            have hml2 : (nx * j + i) % L.length ≤ L.length - 1 := by omega
            have hlt2 : (D + j) * W + (A + i) ≤ W * H - 1 := by omega
            repeat' (first
              | (conv => whnf)
                first
                | refine Req.mk hL0 ?_
                | refine Req.mk h3 ?_
                | refine Req.mk hWHp ?_
                | refine Br.t ?_
                | refine Br.f ?_
                | (refine Br.decT ?_ ?_; (focus first | assumption | omega))
                | (refine Br.decF ?_ ?_; (focus first | assumption | omega))
                | refine Br.dec (fun _ => ?_) (fun _ => ?_)
                | refine Br.not ?_
                | refine Br.and ?_
                | refine Br.or ?_
                | (refine Bnd.i64 ?_ ?_ ?_; (focus omega); (focus omega))
                | refine fLen_mk ?_
                | refine fBn ?_
                | refine fB1 (n := 2) ?_
                | refine fB0 ?_
                | refine Get.mk _ hpart ?_
                | refine Get.mk _ (bget_app f2) ?_
                | refine Get.mk _ (bget_app f3) ?_
                | refine Get.mk _ (bget_app (bget_app f2)) ?_
                | refine Get.mk _ (bget_app (bget_app f3)) ?_
                | refine Get.mk _ (bget_app (bget_app f4)) ?_
                | refine Get.mk _ (bget_new.trans rfl) ?_
                | refine Get.mk _ (bget_app (bget_new.trans rfl)) ?_
                | refine Get.mk _ ((bset_other (by omega)).trans (bget_app (bget_app f5))) ?_
                | refine Bnd.eq hmw ?_
                | refine Bnd.eq haw ?_
                | refine Bnd.eq hmod ?_
                | refine Get.mk _ hlc ?_
                | refine call_fun rfl rfl hlv (.inl rfl) ?_
                | refine Bnd.u8 hrg.1 hrg.2 ?_
                | refine Idx.nat hml2 ?_
                | refine Idx.nat hlt2 ?_
                | refine Req.mk hcl3 ?_
                | refine fVf hput ?_
                | refine Bnd.any ?_
                | (refine mBool ?_ ?_; (focus repeat' (first | exact freeNil | refine freeCons rfl ?_ | refine freeCons (freeNew (by omega)) ?_ | refine freeCons (freeRW (by omega)) ?_)))
                | (refine Idx.nat ?_ ?_; (focus omega))
                | refine Idx.nat (le_big (by omega)) ?_
                | (refine Idx.int ?_ ?_ ?_; (focus omega); (focus omega))
                | (refine Idx.int ?_ ?_ ?_; (focus decide); (focus decide))
                | refine Ifz.zero ?_
                | (refine Ifz.pos ?_ ?_; (focus omega))
                | refine Get.mk _ rfl ?_
                | refine Leaves.of ?_
                | refine Ends.of ?_
                | refine Vw.bool ?_
                | refine Vw.int ?_
                | refine Vw.nil
                | refine Vw.sl
                | refine Vw.tup ?_
                | refine Vw.agg ?_
                | refine VwL.cons ?_ ?_
                | refine VwL.nil
                | refine LeavesF.of ?_
                | refine VwF.bool ?_
                | refine VwF.int ?_
                | refine VwF.nil
                | refine VwF.sl
                | refine VwF.tup ?_
                | refine VwF.agg ?_
                | refine VwLF.cons ?_ ?_
                | refine VwLF.nil
                | (refine Req.mk ?_ ?_; (focus first | rfl | decide | exact ⟨rfl, rfl⟩ | exact ⟨rfl, by decide⟩ | exact (fun _ => rfl) | exact (fun h => nomatch h) | (simp; done) | omega | (simp [big]; done) | exact le_big (by omega) | exact lt_big (by omega))))
            all_goals first | exact NextP.mk (i + 1) hin (by omega) ((norm_len2 (by simp [bset_length, unborns])).trans (by kernel_rfl)) | (exfalso; omega)
          · obtain rfl : i = nx := by omega
            repeat' (first
              | (conv => whnf)
                first
                | refine Br.t ?_
                | refine Br.f ?_
                | (refine Br.decT ?_ ?_; (focus first | assumption | omega))
                | (refine Br.decF ?_ ?_; (focus first | assumption | omega))
                | refine Br.dec (fun _ => ?_) (fun _ => ?_)
                | refine Br.not ?_
                | refine Br.and ?_
                | refine Br.or ?_
                | (refine Bnd.i64 ?_ ?_ ?_; (focus omega); (focus omega))
                | refine fLen_mk ?_
                | refine fBn ?_
                | refine fB1 (n := 2) ?_
                | refine fB0 ?_
                | refine Get.mk _ hpart ?_
                | refine Get.mk _ (bget_app f2) ?_
                | refine Get.mk _ (bget_app f3) ?_
                | refine Get.mk _ (bget_app (bget_app f2)) ?_
                | refine Get.mk _ (bget_app (bget_app f3)) ?_
                | refine Get.mk _ (bget_app (bget_app f4)) ?_
                | refine Get.mk _ (bget_new.trans rfl) ?_
                | refine Get.mk _ (bget_app (bget_new.trans rfl)) ?_
                | refine Get.mk _ ((bset_other (by omega)).trans (bget_app (bget_app f5))) ?_
                | refine Bnd.any ?_
                | (refine Idx.nat ?_ ?_; (focus omega))
                | refine Idx.nat (le_big (by omega)) ?_
                | (refine Idx.int ?_ ?_ ?_; (focus omega); (focus omega))
                | (refine Idx.int ?_ ?_ ?_; (focus decide); (focus decide))
                | refine Ifz.zero ?_
                | (refine Ifz.pos ?_ ?_; (focus omega))
                | refine Get.mk _ rfl ?_
                | refine Leaves.of ?_
                | refine Ends.of ?_
                | refine Vw.bool ?_
                | refine Vw.int ?_
                | refine Vw.nil
                | refine Vw.sl
                | refine Vw.tup ?_
                | refine Vw.agg ?_
                | refine VwL.cons ?_ ?_
                | refine VwL.nil
                | refine LeavesF.of ?_
                | refine VwF.bool ?_
                | refine VwF.int ?_
                | refine VwF.nil
                | refine VwF.sl
                | refine VwF.tup ?_
                | refine VwF.agg ?_
                | refine VwLF.cons ?_ ?_
                | refine VwLF.nil
                | (refine Req.mk ?_ ?_; (focus first | rfl | decide | exact ⟨rfl, rfl⟩ | exact ⟨rfl, by decide⟩ | exact (fun _ => rfl) | exact (fun h => nomatch h) | (simp; done) | omega | (simp [big]; done) | exact le_big (by omega) | exact lt_big (by omega))))
            all_goals first | exact NextP.mk (j + 1) hjn (by omega) ((norm_len2 (by simp [bset_length, unborns])).trans (by kernel_rfl)) | (exfalso; omega)
        · obtain rfl : j = ny := by omega
          repeat' (first
            | (conv => whnf)
              first
              | refine Req.mk hmC ?_
              | refine Req.mk hmS ?_
              | refine Req.mk hdt ?_
              | refine Req.mk heC ?_
              | refine Req.mk heS ?_
              | refine Br.t ?_
              | refine Br.f ?_
              | (refine Br.decT ?_ ?_; (focus first | assumption | omega))
              | (refine Br.decF ?_ ?_; (focus first | assumption | omega))
              | refine Br.dec (fun _ => ?_) (fun _ => ?_)
              | refine Br.not ?_
              | refine Br.and ?_
              | refine Br.or ?_
              | (refine Bnd.i64 ?_ ?_ ?_; (focus omega); (focus omega))
              | refine fLen_mk ?_
              | refine fBn ?_
              | refine fB1 (n := 2) ?_
              | refine fB0 ?_
              | refine Get.mk _ hpart ?_
              | refine Get.mk _ (bget_app f2) ?_
              | refine Get.mk _ (bget_app f3) ?_
              | refine Get.mk _ (bget_app (bget_app f2)) ?_
              | refine Get.mk _ (bget_app (bget_app f3)) ?_
              | refine Get.mk _ (bget_app (bget_app f4)) ?_
              | refine Get.mk _ (bget_new.trans rfl) ?_
              | refine Get.mk _ (bget_app (bget_new.trans rfl)) ?_
              | refine Get.mk _ ((bset_other (by omega)).trans (bget_app (bget_app f5))) ?_
              | refine fB.mk ?_
              | refine Bnd.any ?_
              | (refine Idx.nat ?_ ?_; (focus omega))
              | refine Idx.nat (le_big (by omega)) ?_
              | (refine Idx.int ?_ ?_ ?_; (focus omega); (focus omega))
              | (refine Idx.int ?_ ?_ ?_; (focus decide); (focus decide))
              | refine Ifz.zero ?_
              | (refine Ifz.pos ?_ ?_; (focus omega))
              | refine Get.mk _ rfl ?_
              | refine Leaves.of ?_
              | refine Ends.of ?_
              | refine Vw.bool ?_
              | refine Vw.int ?_
              | refine Vw.nil
              | refine Vw.sl
              | refine Vw.tup ?_
              | refine Vw.agg ?_
              | refine VwL.cons ?_ ?_
              | refine VwL.nil
              | refine LeavesF.of ?_
              | refine VwF.bool ?_
              | refine VwF.int ?_
              | refine VwF.nil
              | refine VwF.sl
              | refine VwF.tup ?_
              | refine VwF.agg ?_
              | refine VwLF.cons ?_ ?_
              | refine VwLF.nil
              | (refine Req.mk ?_ ?_; (focus first | rfl | decide | exact ⟨rfl, rfl⟩ | exact ⟨rfl, by decide⟩ | exact (fun _ => rfl) | exact (fun h => nomatch h) | (simp; done) | omega | (simp [big]; done) | exact le_big (by omega) | exact lt_big (by omega))))
          all_goals refine NextP.of (fun h => ⟨r + 1 + 1, h, ids ++ [HH.length + 0]⟩) ⟨hil, (fun k hk => ?_), (fun hx => absurd hx (by simp)), (fun hx => absurd hx (by simp)), fun _ => ?_⟩ (by dsimp only; omega) (by kernel_rfl)
          · have hk' : k < r + 1 + 1 := hk
            by_cases hkr : k < r + 1
            · exact hall k hkr
            · obtain rfl : k = r + 1 := by omega
              exact hpl
          · exact flOk_keep (flOk_next (i := r + 1) ⟨f1, f2, f3, f4, f5, f6, f7, f8⟩ rfl rfl) (fun k hk => of_decide_eq_true hk) (fun k hk => of_decide_eq_true hk) (fun k hk => of_decide_eq_true hk) (fun k hk => of_decide_eq_true hk)
      · have hc3 := ofFr_part hil
        have hck := checkR_any l[r + 1].1 l[r + 1].2.1 false l[r + 1].2.2
        have hcw := ofFr_cell0 hil
        have hch := ofFr_cell1 hil
        have hcp := ofFr_cell2 hil
        generalize l[r + 1] = x at *
        obtain ⟨w, h, px⟩ := x
        dsimp only at *
        repeat' (first
          | (conv => whnf)
            first
            | refine Br.t ?_
            | refine Br.f ?_
            | (refine Br.decT ?_ ?_; (focus first | assumption | omega))
            | (refine Br.decF ?_ ?_; (focus first | assumption | omega))
            | refine Br.dec (fun _ => ?_) (fun _ => ?_)
            | refine Br.not ?_
            | refine Br.and ?_
            | refine Br.or ?_
            | (refine Bnd.i64 ?_ ?_ ?_; (focus omega); (focus omega))
            | refine call_fun rfl rfl awake (.inl rfl) ?_
            | refine call_fun rfl rfl hck (.inl rfl) ?_
            | refine Get.mk _ hc3 ?_
            | refine Get.mk _ hcw ?_
            | refine Get.mk _ hch ?_
            | refine Get.mk _ hcp ?_
            | refine Get.mk _ hcw0 ?_
            | refine Get.mk _ hch0 ?_
            | refine fLen_mk ?_
            | refine fB0 ?_
            | (refine mBool ?_ ?_; (focus repeat' (first | exact freeNil | refine freeCons rfl ?_ | refine freeCons (freeNew (by omega)) ?_)))
            | (refine Idx.nat ?_ ?_; (focus omega))
            | refine Idx.nat (le_big (by omega)) ?_
            | (refine Idx.int ?_ ?_ ?_; (focus omega); (focus omega))
            | (refine Idx.int ?_ ?_ ?_; (focus decide); (focus decide))
            | refine Ifz.zero ?_
            | (refine Ifz.pos ?_ ?_; (focus omega))
            | refine Get.mk _ rfl ?_
            | refine Leaves.of ?_
            | refine Ends.of ?_
            | refine Vw.bool ?_
            | refine Vw.int ?_
            | refine Vw.nil
            | refine Vw.sl
            | refine Vw.tup ?_
            | refine Vw.agg ?_
            | refine VwL.cons ?_ ?_
            | refine VwL.nil
            | refine LeavesF.of ?_
            | refine VwF.bool ?_
            | refine VwF.int ?_
            | refine VwF.nil
            | refine VwF.sl
            | refine VwF.tup ?_
            | refine VwF.agg ?_
            | refine VwLF.cons ?_ ?_
            | refine VwLF.nil
            | (refine Req.mk ?_ ?_; (focus first | rfl | decide | exact ⟨rfl, rfl⟩ | exact ⟨rfl, by decide⟩ | exact (fun _ => rfl) | exact (fun h => nomatch h) | (simp; done) | omega | (simp [big]; done) | exact le_big (by omega) | exact lt_big (by omega))))
        all_goals first | rfl | (exfalso; omega)
    · obtain hlr : l.length = r + 1 := by omega
      cases r with
      | zero =>
        have e1 := hP1 rfl
        simp only [FlS.mk.injEq, true_and] at e1
        obtain ⟨rfl, rfl⟩ := e1
        clear hP0 hP1 hP2 f1 f2 f3 f4 f5 f6 f7 f8
        have hS := strange_any false (pF_ l L E W H A D nx ny 0)
        rw [pF_strange hW1 hW2 hH1 hH2 (by omega) hall, pF_length] at hS
        have hql : (qq l L E W A D nx ny 0).length = W * H := by rw [qq_length]; exact hall 0 (by omega)
        have hO := outside_any (c0 := false) (l := qq l L E W A D nx ny 0) hW2 hH2 a b d e
        have hvS : ∀ h : List B, bget h 5 = some (.blk (mC W H [2]) false) → bget h 2 = some (.blk (ofBytes (qq l L E W A D nx ny 0)) true) → views h depth ([.ms 3 5 (3 * (0 + 1)) 0 (0 + 1) false] ++ []) = some [.sl false (0 + 1) (ofFr (pF_ l L E W H A D nx ny 0))] := fun h h5 h2 =>
          (VwL.cons (view_m (a := a) (b := b) (d := d) (e := e) (n := 0) h5 rfl (by rintro (_ | k) hk <;> first | exact h2 | (simp at hk)) hall) VwL.nil : VwL h 64 _ _).1
        have hvO : ∀ h : List B, bget h 2 = some (.blk (ofBytes (qq l L E W A D nx ny 0)) true) → views h depth ([.agg [.int .i64 (W : Nat), .int .i64 (H : Nat), .ms 1 2 (W * H) 0 (W * H) false], ptV a b d e] ++ []) = some [frV W H false (qq l L E W A D nx ny 0), ptV a b d e] := fun h h2 =>
          (VwL.cons (Vw.agg (VwL.cons (Vw.int rfl) (VwL.cons (Vw.int rfl) (VwL.cons (Vw.bytes h2 hql.symm hql.symm rfl rfl) VwL.nil)))) (VwL.cons (Vw.agg (VwL.cons (Vw.int rfl) (VwL.cons (Vw.int rfl) (VwL.cons (Vw.int rfl) (VwL.cons (Vw.int rfl) VwL.nil))))) VwL.nil) : VwL h 64 _ _).1
        generalize qq l L E W A D nx ny 0 = q0 at *
        cases ho : outA W H a b d e with
        | true =>
          rw [ho] at hO
          repeat' (first
            | (conv => whnf)
              first
              | refine Br.t ?_
              | refine Br.f ?_
              | (refine Br.decT ?_ ?_; (focus first | assumption | omega))
              | (refine Br.decF ?_ ?_; (focus first | assumption | omega))
              | refine Br.dec (fun _ => ?_) (fun _ => ?_)
              | refine Br.not ?_
              | refine Br.and ?_
              | refine Br.or ?_
              | (refine Bnd.i64 ?_ ?_ ?_; (focus omega); (focus omega))
              | refine call_one rfl rfl rfl ?_
              | refine call_fun rfl (hvS _ rfl rfl) hS (.inr rfl) ?_
              | refine call_fun rfl (hvO _ rfl) hO (.inr rfl) ?_
              | refine call_fun rfl rfl awake (.inl rfl) ?_
              | (refine Idx.nat ?_ ?_; (focus omega))
              | refine Idx.nat (le_big (by omega)) ?_
              | (refine Idx.int ?_ ?_ ?_; (focus omega); (focus omega))
              | (refine Idx.int ?_ ?_ ?_; (focus decide); (focus decide))
              | refine Ifz.zero ?_
              | (refine Ifz.pos ?_ ?_; (focus omega))
              | refine Get.mk _ rfl ?_
              | refine Leaves.of ?_
              | refine Ends.of ?_
              | refine Vw.bool ?_
              | refine Vw.int ?_
              | refine Vw.nil
              | refine Vw.sl
              | refine Vw.tup ?_
              | refine Vw.agg ?_
              | refine VwL.cons ?_ ?_
              | refine VwL.nil
              | refine LeavesF.of ?_
              | refine VwF.bool ?_
              | refine VwF.int ?_
              | refine VwF.nil
              | refine VwF.sl
              | refine VwF.tup ?_
              | refine VwF.agg ?_
              | refine VwLF.cons ?_ ?_
              | refine VwLF.nil
              | (refine Req.mk ?_ ?_; (focus first | rfl | decide | exact ⟨rfl, rfl⟩ | exact ⟨rfl, by decide⟩ | exact (fun _ => rfl) | exact (fun h => nomatch h) | (simp; done) | omega | (simp [big]; done) | exact le_big (by omega) | exact lt_big (by omega))))
          all_goals first | rfl | (exfalso; omega)
        | false =>
          rw [ho] at hO
          repeat' (first
            | (conv => whnf)
              first
              | refine Br.t ?_
              | refine Br.f ?_
              | (refine Br.decT ?_ ?_; (focus first | assumption | omega))
              | (refine Br.decF ?_ ?_; (focus first | assumption | omega))
              | refine Br.dec (fun _ => ?_) (fun _ => ?_)
              | refine Br.not ?_
              | refine Br.and ?_
              | refine Br.or ?_
              | (refine Bnd.i64 ?_ ?_ ?_; (focus omega); (focus omega))
              | refine call_one rfl rfl rfl ?_
              | refine call_fun rfl (hvS _ rfl rfl) hS (.inr rfl) ?_
              | refine call_fun rfl (hvO _ rfl) hO (.inr rfl) ?_
              | refine call_fun rfl rfl awake (.inl rfl) ?_
              | (refine Idx.nat ?_ ?_; (focus omega))
              | refine Idx.nat (le_big (by omega)) ?_
              | (refine Idx.int ?_ ?_ ?_; (focus omega); (focus omega))
              | (refine Idx.int ?_ ?_ ?_; (focus decide); (focus decide))
              | refine Ifz.zero ?_
              | (refine Ifz.pos ?_ ?_; (focus omega))
              | refine Get.mk _ rfl ?_
              | refine Leaves.of ?_
              | refine Ends.of ?_
              | refine Vw.bool ?_
              | refine Vw.int ?_
              | refine Vw.nil
              | refine Vw.sl
              | refine Vw.tup ?_
              | refine Vw.agg ?_
              | refine VwL.cons ?_ ?_
              | refine VwL.nil
              | refine LeavesF.of ?_
              | refine VwF.bool ?_
              | refine VwF.int ?_
              | refine VwF.nil
              | refine VwF.sl
              | refine VwF.tup ?_
              | refine VwF.agg ?_
              | refine VwLF.cons ?_ ?_
              | refine VwLF.nil
              | (refine Req.mk ?_ ?_; (focus first | rfl | decide | exact ⟨rfl, rfl⟩ | exact ⟨rfl, by decide⟩ | exact (fun _ => rfl) | exact (fun h => nomatch h) | (simp; done) | omega | (simp [big]; done) | exact le_big (by omega) | exact lt_big (by omega))))
          refine LoopP.by (fun _ : Unit => True) (fun _ => []) (fun _ => hOne a b d e cl ce L E W H q0 ++ [bP a b d e, .blk [.int .i64 W, .int .i64 H, .ms 1 2 (W * H) 0 (W * H) false] false]) (fun _ => 0) () trivial (by kernel_rfl) ?_
          intro _ _
          repeat' (first
            | (conv => whnf)
              first
              | refine Br.t ?_
              | refine Br.f ?_
              | (refine Br.decT ?_ ?_; (focus first | assumption | omega))
              | (refine Br.decF ?_ ?_; (focus first | assumption | omega))
              | refine Br.dec (fun _ => ?_) (fun _ => ?_)
              | refine Br.not ?_
              | refine Br.and ?_
              | refine Br.or ?_
              | (refine Bnd.i64 ?_ ?_ ?_; (focus omega); (focus omega))
              | (refine Idx.nat ?_ ?_; (focus omega))
              | refine Idx.nat (le_big (by omega)) ?_
              | (refine Idx.int ?_ ?_ ?_; (focus omega); (focus omega))
              | (refine Idx.int ?_ ?_ ?_; (focus decide); (focus decide))
              | refine Ifz.zero ?_
              | (refine Ifz.pos ?_ ?_; (focus omega))
              | refine Get.mk _ rfl ?_
              | refine Leaves.of ?_
              | refine Ends.of ?_
              | refine Vw.bool ?_
              | refine Vw.int ?_
              | refine Vw.nil
              | refine Vw.sl
              | refine Vw.tup ?_
              | refine Vw.agg ?_
              | refine VwL.cons ?_ ?_
              | refine VwL.nil
              | refine LeavesF.of ?_
              | refine VwF.bool ?_
              | refine VwF.int ?_
              | refine VwF.nil
              | refine VwF.sl
              | refine VwF.tup ?_
              | refine VwF.agg ?_
              | refine VwLF.cons ?_ ?_
              | refine VwLF.nil
              | (refine Req.mk ?_ ?_; (focus first | rfl | decide | exact ⟨rfl, rfl⟩ | exact ⟨rfl, by decide⟩ | exact (fun _ => rfl) | exact (fun h => nomatch h) | (simp; done) | omega | (simp [big]; done) | exact le_big (by omega) | exact lt_big (by omega))))
          refine LoopP.by (fun j : Nat => j ≤ 1) (fun j => [(18, .int .i64 (j : Nat))]) (fun _ => hOne a b d e cl ce L E W H q0) (fun j => 1 - j) 0 (Nat.zero_le _) (by kernel_rfl) ?_
          intro j hj
          by_cases hjn : j < 1
          · obtain rfl : j = 0 := by omega
            repeat' (first
              | (conv => whnf)
                first
                | refine Br.t ?_
                | refine Br.f ?_
                | (refine Br.decT ?_ ?_; (focus first | assumption | omega))
                | (refine Br.decF ?_ ?_; (focus first | assumption | omega))
                | refine Br.dec (fun _ => ?_) (fun _ => ?_)
                | refine Br.not ?_
                | refine Br.and ?_
                | refine Br.or ?_
                | (refine Bnd.i64 ?_ ?_ ?_; (focus omega); (focus omega))
                | (refine Idx.nat ?_ ?_; (focus omega))
                | refine Idx.nat (le_big (by omega)) ?_
                | (refine Idx.int ?_ ?_ ?_; (focus omega); (focus omega))
                | (refine Idx.int ?_ ?_ ?_; (focus decide); (focus decide))
                | refine Ifz.zero ?_
                | (refine Ifz.pos ?_ ?_; (focus omega))
                | refine Get.mk _ rfl ?_
                | refine Leaves.of ?_
                | refine Ends.of ?_
                | refine Vw.bool ?_
                | refine Vw.int ?_
                | refine Vw.nil
                | refine Vw.sl
                | refine Vw.tup ?_
                | refine Vw.agg ?_
                | refine VwL.cons ?_ ?_
                | refine VwL.nil
                | refine LeavesF.of ?_
                | refine VwF.bool ?_
                | refine VwF.int ?_
                | refine VwF.nil
                | refine VwF.sl
                | refine VwF.tup ?_
                | refine VwF.agg ?_
                | refine VwLF.cons ?_ ?_
                | refine VwLF.nil
                | (refine Req.mk ?_ ?_; (focus first | rfl | decide | exact ⟨rfl, rfl⟩ | exact ⟨rfl, by decide⟩ | exact (fun _ => rfl) | exact (fun h => nomatch h) | (simp; done) | omega | (simp [big]; done) | exact le_big (by omega) | exact lt_big (by omega))))
            all_goals first | exact NextP.mk 1 (Nat.le_refl _) (by omega) (by kernel_rfl) | (exfalso; omega)
          · obtain rfl : j = 1 := by omega
            repeat' (first
              | (conv => whnf)
                first
                | refine Br.t ?_
                | refine Br.f ?_
                | (refine Br.decT ?_ ?_; (focus first | assumption | omega))
                | (refine Br.decF ?_ ?_; (focus first | assumption | omega))
                | refine Br.dec (fun _ => ?_) (fun _ => ?_)
                | refine Br.not ?_
                | refine Br.and ?_
                | refine Br.or ?_
                | (refine Bnd.i64 ?_ ?_ ?_; (focus omega); (focus omega))
                | refine call_fun rfl rfl awake (.inl rfl) ?_
                | (refine Idx.nat ?_ ?_; (focus omega))
                | refine Idx.nat (le_big (by omega)) ?_
                | (refine Idx.int ?_ ?_ ?_; (focus omega); (focus omega))
                | (refine Idx.int ?_ ?_ ?_; (focus decide); (focus decide))
                | refine Ifz.zero ?_
                | (refine Ifz.pos ?_ ?_; (focus omega))
                | refine Get.mk _ rfl ?_
                | refine Leaves.of ?_
                | refine Ends.of ?_
                | refine Vw.bool ?_
                | refine Vw.int ?_
                | refine Vw.nil
                | refine Vw.sl
                | refine Vw.tup ?_
                | refine Vw.agg ?_
                | refine VwL.cons ?_ ?_
                | refine VwL.nil
                | refine LeavesF.of ?_
                | refine VwF.bool ?_
                | refine VwF.int ?_
                | refine VwF.nil
                | refine VwF.sl
                | refine VwF.tup ?_
                | refine VwF.agg ?_
                | refine VwLF.cons ?_ ?_
                | refine VwLF.nil
                | (refine Req.mk ?_ ?_; (focus first | rfl | decide | exact ⟨rfl, rfl⟩ | exact ⟨rfl, by decide⟩ | exact (fun _ => rfl) | exact (fun h => nomatch h) | (simp; done) | omega | (simp [big]; done) | exact le_big (by omega) | exact lt_big (by omega))))
            all_goals first | rfl | (exfalso; omega)
      | succ r =>
        clear hP0 hP1 hP2
        have hv := fun (a b d e : Int) => views_m (a := a) (b := b) (d := d) (e := e) f4 f6 f8 hall
        cases ho : outA W H a b d e with
        | true =>
          have hF := flick_callO (L := L) (E := E) (A := A) (D := D) (nx := nx) (ny := ny) (n := r + 1) hW1 hW2 hH1 hH2 (by omega) hall ho
          repeat' (first
            | (conv => whnf)
              first
              | refine Br.t ?_
              | refine Br.f ?_
              | (refine Br.decT ?_ ?_; (focus first | assumption | omega))
              | (refine Br.decF ?_ ?_; (focus first | assumption | omega))
              | refine Br.dec (fun _ => ?_) (fun _ => ?_)
              | refine Br.not ?_
              | refine Br.and ?_
              | refine Br.or ?_
              | (refine Bnd.i64 ?_ ?_ ?_; (focus omega); (focus omega))
              | refine fLen_mk ?_
              | refine fB0 ?_
              | refine Get.mk _ f2 ?_
              | refine call_fresh rfl (hv a b d e) hF ?_
              | refine call_fun rfl rfl awake (.inl rfl) ?_
              | (refine Idx.nat ?_ ?_; (focus omega))
              | refine Idx.nat (le_big (by omega)) ?_
              | (refine Idx.int ?_ ?_ ?_; (focus omega); (focus omega))
              | (refine Idx.int ?_ ?_ ?_; (focus decide); (focus decide))
              | refine Ifz.zero ?_
              | (refine Ifz.pos ?_ ?_; (focus omega))
              | refine Get.mk _ rfl ?_
              | refine Leaves.of ?_
              | refine Ends.of ?_
              | refine Vw.bool ?_
              | refine Vw.int ?_
              | refine Vw.nil
              | refine Vw.sl
              | refine Vw.tup ?_
              | refine Vw.agg ?_
              | refine VwL.cons ?_ ?_
              | refine VwL.nil
              | refine LeavesF.of ?_
              | refine VwF.bool ?_
              | refine VwF.int ?_
              | refine VwF.nil
              | refine VwF.sl
              | refine VwF.tup ?_
              | refine VwF.agg ?_
              | refine VwLF.cons ?_ ?_
              | refine VwLF.nil
              | (refine Req.mk ?_ ?_; (focus first | rfl | decide | exact ⟨rfl, rfl⟩ | exact ⟨rfl, by decide⟩ | exact (fun _ => rfl) | exact (fun h => nomatch h) | (simp; done) | omega | (simp [big]; done) | exact le_big (by omega) | exact lt_big (by omega))))
          all_goals first | rfl | (exfalso; omega)
        | false =>
          obtain ⟨al, hal, hbd, hF⟩ := flick_call (l := l) (L := L) hE h4 hW1 hW2 hH1 hH2 (n := r + 1) (by omega) (by omega) hall hA hD hnx hny ho
          repeat' (first
            | (conv => whnf)
              first
              | refine Br.t ?_
              | refine Br.f ?_
              | (refine Br.decT ?_ ?_; (focus first | assumption | omega))
              | (refine Br.decF ?_ ?_; (focus first | assumption | omega))
              | refine Br.dec (fun _ => ?_) (fun _ => ?_)
              | refine Br.not ?_
              | refine Br.and ?_
              | refine Br.or ?_
              | (refine Bnd.i64 ?_ ?_ ?_; (focus omega); (focus omega))
              | refine fLen_mk ?_
              | refine fB0 ?_
              | refine Get.mk _ f2 ?_
              | refine call_fresh rfl (hv a b d e) hF ?_
              | refine call_fun rfl rfl awake (.inl rfl) ?_
              | (refine Idx.nat ?_ ?_; (focus omega))
              | refine Idx.nat (le_big (by omega)) ?_
              | (refine Idx.int ?_ ?_ ?_; (focus omega); (focus omega))
              | (refine Idx.int ?_ ?_ ?_; (focus decide); (focus decide))
              | refine Ifz.zero ?_
              | (refine Ifz.pos ?_ ?_; (focus omega))
              | refine Get.mk _ rfl ?_
              | refine Leaves.of ?_
              | refine Ends.of ?_
              | refine Vw.bool ?_
              | refine Vw.int ?_
              | refine Vw.nil
              | refine Vw.sl
              | refine Vw.tup ?_
              | refine Vw.agg ?_
              | refine VwL.cons ?_ ?_
              | refine VwL.nil
              | refine LeavesF.of ?_
              | refine VwF.bool ?_
              | refine VwF.int ?_
              | refine VwF.nil
              | refine VwF.sl
              | refine VwF.tup ?_
              | refine VwF.agg ?_
              | refine VwLF.cons ?_ ?_
              | refine VwLF.nil
              | (refine Req.mk ?_ ?_; (focus first | rfl | decide | exact ⟨rfl, rfl⟩ | exact ⟨rfl, by decide⟩ | exact (fun _ => rfl) | exact (fun h => nomatch h) | (simp; done) | omega | (simp [big]; done) | exact le_big (by omega) | exact lt_big (by omega))))
          refine LoopP.by (fun j : Nat => j ≤ r + 1 + 1) (fun j => [(18, .int .i64 (j : Nat))]) (fun _ => HH) (fun j => r + 1 + 1 - j) 0 (Nat.zero_le _) (by kernel_rfl) ?_
          intro j hj
          by_cases hjn : j < r + 1 + 1
          · have hc0 := ofSh_cell0 (l := al) (i := j) (by omega)
            have hc1 := ofSh_cell1 (l := al) (i := j) (by omega)
            obtain ⟨hb1, hb2⟩ := hbd j (by omega)
            have hce := exs_cell (E := E) hjn
            have heC := exs_length E (r + 1 + 1)
            have hjp : 0 < r + 1 + 1 := by omega
            have hjl : j ≤ r + 1 + 1 - 1 := by omega
            repeat' (first
              | (conv => whnf)
                first
                | refine Req.mk heC ?_
                | refine Req.mk hjp ?_
                | refine Br.t ?_
                | refine Br.f ?_
                | (refine Br.decT ?_ ?_; (focus first | assumption | omega))
                | (refine Br.decF ?_ ?_; (focus first | assumption | omega))
                | refine Br.dec (fun _ => ?_) (fun _ => ?_)
                | refine Br.not ?_
                | refine Br.and ?_
                | refine Br.or ?_
                | (refine Bnd.i64 ?_ ?_ ?_; (focus omega); (focus omega))
                | refine Idx.nat hjl ?_
                | refine fLen_mk ?_
                | refine fB0 ?_
                | refine Get.mk _ f5 ?_
                | refine Get.mk _ hce ?_
                | refine Get.mk _ hc0 ?_
                | refine Get.mk _ hc1 ?_
                | (refine Idx.nat ?_ ?_; (focus omega))
                | refine Idx.nat (le_big (by omega)) ?_
                | (refine Idx.int ?_ ?_ ?_; (focus omega); (focus omega))
                | (refine Idx.int ?_ ?_ ?_; (focus decide); (focus decide))
                | refine Ifz.zero ?_
                | (refine Ifz.pos ?_ ?_; (focus omega))
                | refine Get.mk _ rfl ?_
                | refine Leaves.of ?_
                | refine Ends.of ?_
                | refine Vw.bool ?_
                | refine Vw.int ?_
                | refine Vw.nil
                | refine Vw.sl
                | refine Vw.tup ?_
                | refine Vw.agg ?_
                | refine VwL.cons ?_ ?_
                | refine VwL.nil
                | refine LeavesF.of ?_
                | refine VwF.bool ?_
                | refine VwF.int ?_
                | refine VwF.nil
                | refine VwF.sl
                | refine VwF.tup ?_
                | refine VwF.agg ?_
                | refine VwLF.cons ?_ ?_
                | refine VwLF.nil
                | (refine Req.mk ?_ ?_; (focus first | rfl | decide | exact ⟨rfl, rfl⟩ | exact ⟨rfl, by decide⟩ | exact (fun _ => rfl) | exact (fun h => nomatch h) | (simp; done) | omega | (simp [big]; done) | exact le_big (by omega) | exact lt_big (by omega))))
            all_goals first | exact NextP.mk (j + 1) hjn (by omega) ((norm_len2 rfl).trans (by kernel_rfl)) | (exfalso; omega)
          · obtain rfl : j = r + 1 + 1 := by omega
            repeat' (first
              | (conv => whnf)
                first
                | refine Br.t ?_
                | refine Br.f ?_
                | (refine Br.decT ?_ ?_; (focus first | assumption | omega))
                | (refine Br.decF ?_ ?_; (focus first | assumption | omega))
                | refine Br.dec (fun _ => ?_) (fun _ => ?_)
                | refine Br.not ?_
                | refine Br.and ?_
                | refine Br.or ?_
                | (refine Bnd.i64 ?_ ?_ ?_; (focus omega); (focus omega))
                | refine fLen_mk ?_
                | refine fB0 ?_
                | refine call_fun rfl rfl awake (.inl rfl) ?_
                | (refine Idx.nat ?_ ?_; (focus omega))
                | refine Idx.nat (le_big (by omega)) ?_
                | (refine Idx.int ?_ ?_ ?_; (focus omega); (focus omega))
                | (refine Idx.int ?_ ?_ ?_; (focus decide); (focus decide))
                | refine Ifz.zero ?_
                | (refine Ifz.pos ?_ ?_; (focus omega))
                | refine Get.mk _ rfl ?_
                | refine Leaves.of ?_
                | refine Ends.of ?_
                | refine Vw.bool ?_
                | refine Vw.int ?_
                | refine Vw.nil
                | refine Vw.sl
                | refine Vw.tup ?_
                | refine Vw.agg ?_
                | refine VwL.cons ?_ ?_
                | refine VwL.nil
                | refine LeavesF.of ?_
                | refine VwF.bool ?_
                | refine VwF.int ?_
                | refine VwF.nil
                | refine VwF.sl
                | refine VwF.tup ?_
                | refine VwF.agg ?_
                | refine VwLF.cons ?_ ?_
                | refine VwLF.nil
                | (refine Req.mk ?_ ?_; (focus first | rfl | decide | exact ⟨rfl, rfl⟩ | exact ⟨rfl, by decide⟩ | exact (fun _ => rfl) | exact (fun h => nomatch h) | (simp; done) | omega | (simp [big]; done) | exact le_big (by omega) | exact lt_big (by omega))))
            all_goals first | rfl | (exfalso; omega)

theorem law_flicker {c cl ce : Bool} {l : List Fr} {a b d e : Int} {L E : List Int} (hE : ∀ x ∈ E, 0 ≤ x ∧ x ≤ 65535) : Fun F md 13 [.sl c l.length (ofFr l), ptV a b d e, .agg [.sl cl L.length (L.map (V.int .i64)), .sl ce E.length (E.map (V.int .u16))]] (.bool true) := by
  by_cases h : 1 ≤ l.length ∧ l.length ≤ 24 ∧ 0 < L.length ∧ 0 < E.length
  · obtain ⟨h1, h2, h3, h4⟩ := h
    by_cases hc : checkL l[0].1 l[0].2.1 l[0].2.2.length = 0
    · obtain ⟨W, H, q1, q2, q3, q4, q5, q6, _⟩ := checkL_good hc
      exact flick_good (A := (max 0 a).toNat) (D := (max 0 d).toNat) (nx := (max 0 (min ((W : Int) - 1) b + 1 - (max 0 a).toNat)).toNat) (ny := (max 0 (min ((H : Int) - 1) e + 1 - (max 0 d).toNat)).toNat) hE h1 h2 h3 h4 q3 q4 q5 q6 hc q1 q2 (by omega) (by omega) (by omega) (by omega)
    · exact flick_bad0 h1 h2 h3 h4 hc rfl
  · exact flick_early h

end Go.Dr.T
