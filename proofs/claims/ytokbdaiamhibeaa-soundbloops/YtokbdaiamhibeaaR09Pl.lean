/- Chapter 09: Pull, both; the law SoundPulls. -/
import Derived.Test.YtokbdaiamhibeaaR09Sp
import Derived.Test.YtokbdaiamhibeaaR09Awk
namespace Go.Dr.T

theorem mul_bd {d r : Int} {A B : Int} (hd : -A ≤ d ∧ d ≤ A) (hr : 0 ≤ r ∧ r ≤ B) : -(A * B) ≤ d * r ∧ d * r ≤ A * B := by
  have hA : 0 ≤ A := by omega
  have h3 : A * r ≤ A * B := Int.mul_le_mul_of_nonneg_left hr.2 hA
  have h1 := Int.mul_le_mul_of_nonneg_right hd.1 hr.1
  have h2 := Int.mul_le_mul_of_nonneg_right hd.2 hr.1
  have h4 : -A * r = -(A * r) := Int.neg_mul _ _
  omega
/-- the place of a sample that is heard. -/
def pullX (l : List Int) (b s : Int) (i : Nat) : Int :=
  let x := (b + (i : Int) * s).toNat
  if l.length ≤ x / 1000 + 1 then gI l (l.length - 1) else gI l (x / 1000) + ((gI l (x / 1000 + 1) - gI l (x / 1000)) * ((x % 1000 : Nat) : Int)) / 1000
theorem pull_at {l : List Int} {b s : Int} {i X : Nat} (h : b + (i : Int) * s = (X : Int)) : pullX l b s i = if l.length ≤ X / 1000 + 1 then gI l (l.length - 1) else gI l (X / 1000) + ((gI l (X / 1000 + 1) - gI l (X / 1000)) * ((X % 1000 : Nat) : Int)) / 1000 := by
  unfold pullX; rw [h]; rfl
set_option maxRecDepth 100000 in
set_option maxHeartbeats 20000000 in
theorem pull_okF {c : Bool} {l : List Int} {b s : Int} {n : Nat} (hE : smpE l 1000000 = 0) (h0 : 0 < l.length) (hb : 0 ≤ b ∧ b ≤ 4000000) (hs : 0 ≤ s ∧ s ≤ 4000000) (hn : n ≤ 4000) :
    FunF F md 39 [.sl c l.length (ofI l), .int .i64 b, .int .i64 s, .int .i64 n] (.tup [.sl (decide (n = n)) n (ofI (acc (pullX l b s) n)), .int .i64 0]) := by
  have hst := strange_any (c := c) (l := l) (m := 1000000) (by omega)
  rw [hE] at hst
  obtain ⟨hL, hin⟩ := smp_ok hE
  have hg := gI_in (m := 1000000) (by omega) hin
  refine funF_of rfl rfl ?_
  repeat' (first
    | (conv => whnf)
      first
      | refine Br.t ?_
      | refine Br.f ?_
      | (refine Br.decT ?_ ?_; (focus first | assumption | omega))
      | (refine Br.decF ?_ ?_; (focus first | assumption | omega))
      | refine Br.dec (fun _ => ?_) (fun _ => ?_)
      | refine Br.not ?_
      | refine Br.and ?_
      | refine Br.or ?_
      | (refine Bnd.i64 ?_ ?_ ?_; (focus omega); (focus omega))
      | refine call_fun rfl rfl hst (.inl rfl) ?_
      | refine call_fun rfl rfl (out_any _ _ _) (.inl rfl) ?_
      | (refine Idx.nat ?_ ?_; (focus omega))
      | refine Idx.nat (le_big (by omega)) ?_
      | (refine Idx.int ?_ ?_ ?_; (focus omega); (focus omega))
      | (refine Idx.int ?_ ?_ ?_; (focus decide); (focus decide))
      | refine Ifz.zero ?_
      | (refine Ifz.pos ?_ ?_; (focus omega))
      | refine Get.mk _ rfl ?_
      | refine Leaves.of ?_
      | refine Ends.of ?_
      | refine Vw.bool ?_
      | refine Vw.int ?_
      | refine Vw.nil
      | refine Vw.sl
      | refine Vw.tup ?_
      | refine Vw.agg ?_
      | refine VwL.cons ?_ ?_
      | refine VwL.nil
      | refine LeavesF.of ?_
      | refine VwF.bool ?_
      | refine VwF.int ?_
      | refine VwF.nil
      | refine VwF.sl
      | refine VwF.tup ?_
      | refine VwF.agg ?_
      | refine VwLF.cons ?_ ?_
      | refine VwLF.nil
      | (refine Req.mk ?_ ?_; (focus first | rfl | decide | exact ⟨rfl, rfl⟩ | exact ⟨rfl, by decide⟩ | exact (fun _ => rfl) | exact (fun h => nomatch h) | (simp; done) | omega | (simp [big]; done) | exact le_big (by omega) | exact lt_big (by omega))))
  all_goals try (exfalso; omega)
  refine LoopP.by (fun i : Nat => i ≤ n) (fun i => [(39, .int .i64 (i : Nat))]) (fun i => [.blk (ofI (pfx (pullX l b s) n i)) true]) (fun i => n - i) 0 (Nat.zero_le _) ?_ ?_
  · rw [← pfx_zero, ← reps_int]; rfl
  intro i hi
  by_cases hin' : i < n
  · have hl0 : (ofI (pfx (pullX l b s) n i)).length = n * 1 := by rw [ofI_length, pfx_length, Nat.mul_one]
    have hl1 : ∀ a, (ofI ((pfx (pullX l b s) n i).set i a)).length = n * 1 := fun a => by rw [ofI_length, List.length_set, pfx_length, Nat.mul_one]
    have hp0 : ∀ a, over (ofI (pfx (pullX l b s) n i)) (0 + i * 1) [.int .i64 a] = ofI ((pfx (pullX l b s) n i).set i a) := fun a => ofI_put0 (by rw [pfx_length]; exact hin')
    have hc1 : ∀ a, cellAt (ofI ((pfx (pullX l b s) n i).set i a)) (0 + i * 1) = some (.int .i64 a) := fun a => by
      rw [gI_cell0 (by rw [List.length_set, pfx_length]; exact hin'), gI_get (by rw [List.length_set, pfx_length]; exact hin')]; simp
    have hp1 : ∀ a a', over (ofI ((pfx (pullX l b s) n i).set i a)) (0 + i * 1) [.int .i64 a'] = ofI ((pfx (pullX l b s) n i).set i a') := fun a a' => by
      rw [ofI_put0 (by rw [List.length_set, pfx_length]; exact hin'), List.set_set]
    have hnx := pfx_set (f := pullX l b s) hin'
    generalize hC2 : ofI (pfx (pullX l b s) n (i + 1)) = C2 at *
    rw [← hnx] at hC2
    generalize pfx (pullX l b s) n i = L at *
    have hs2 := mul_bd (d := s) (r := ((i : Nat) : Int)) (A := 4000000) (B := 4000) (by omega) (by omega)
    rw [Int.mul_comm s] at hs2
    have hs1 : 0 ≤ ((i : Nat) : Int) * s := Int.mul_nonneg (by omega) (by omega)
    obtain ⟨X, hX⟩ := Int.eq_ofNat_of_zero_le (show 0 ≤ b + ((i : Nat) : Int) * s by omega)
    have hXb : X ≤ 20000000000 := by omega
    have hat := pull_at (l := l) hX
    have hMul : IntKind.i64.wrap (((i : Nat) : Int) * s) = ((i : Nat) : Int) * s := wrap_i64 (by omega) (by omega)
    have hAdd : IntKind.i64.wrap (b + ((i : Nat) : Int) * s) = (X : Int) := by rw [hX]; exact wrap_i64 (by omega) (by omega)
    have hQ : IntKind.i64.wrap ((X : Int).tdiv 1000) = ((X / 1000 : Nat) : Int) := by
      rw [show (X : Int).tdiv 1000 = ((X / 1000 : Nat) : Int) from Int.ofNat_tdiv X 1000]
      exact wrap_i64 (by omega) (by omega)
    have hR : (X : Int).tmod 1000 = ((X % 1000 : Nat) : Int) := Int.ofNat_tmod X 1000
    have hRb : X % 1000 < 1000 := Nat.mod_lt _ (by omega)
    generalize X % 1000 = R at *
    generalize X / 1000 = K at *
    clear hX hs1 hs2 hXb
    generalize hV : pullX l b s i = v at *
    generalize hC0 : ofI L = C0 at *
    have hlast := gI_cell (l := l) (i := l.length - 1) (by omega)
    by_cases hk : l.length ≤ K + 1
    · rw [if_pos hk] at hat
      rw [hat] at hC2
      have hp := hp0 (gI l (l.length - 1))
      rw [hC2] at hp
      have hmin : min (K : Int) ((l.length : Int) - 1) = ((l.length - 1 : Nat) : Int) := by omega
      repeat' (first
        | (conv => whnf)
          first
          | refine Bnd.eq hMul ?_
          | refine Bnd.eq hAdd ?_
          | refine Bnd.eq hQ ?_
          | refine Bnd.eq hmin ?_
          | refine Br.t ?_
          | refine Br.f ?_
          | (refine Br.decT ?_ ?_; (focus first | assumption | omega))
          | (refine Br.decF ?_ ?_; (focus first | assumption | omega))
          | refine Br.dec (fun _ => ?_) (fun _ => ?_)
          | refine Br.not ?_
          | refine Br.and ?_
          | refine Br.or ?_
          | (refine Bnd.i64 ?_ ?_ ?_; (focus omega); (focus omega))
          | refine Get.mk _ hlast ?_
          | refine fVe hp ?_
          | refine Req.mk hl0 ?_
          | refine Req.mk ⟨hl0, by omega⟩ ?_
          | (refine Idx.nat ?_ ?_; (focus omega))
          | refine Idx.nat (le_big (by omega)) ?_
          | (refine Idx.int ?_ ?_ ?_; (focus omega); (focus omega))
          | (refine Idx.int ?_ ?_ ?_; (focus decide); (focus decide))
          | refine Ifz.zero ?_
          | (refine Ifz.pos ?_ ?_; (focus omega))
          | refine Get.mk _ rfl ?_
          | refine Leaves.of ?_
          | refine Ends.of ?_
          | refine Vw.bool ?_
          | refine Vw.int ?_
          | refine Vw.nil
          | refine Vw.sl
          | refine Vw.tup ?_
          | refine Vw.agg ?_
          | refine VwL.cons ?_ ?_
          | refine VwL.nil
          | refine LeavesF.of ?_
          | refine VwF.bool ?_
          | refine VwF.int ?_
          | refine VwF.nil
          | refine VwF.sl
          | refine VwF.tup ?_
          | refine VwF.agg ?_
          | refine VwLF.cons ?_ ?_
          | refine VwLF.nil
          | (refine Req.mk ?_ ?_; (focus first | rfl | decide | exact ⟨rfl, rfl⟩ | exact ⟨rfl, by decide⟩ | exact (fun _ => rfl) | exact (fun h => nomatch h) | (simp; done) | omega | (simp [big]; done) | exact le_big (by omega) | exact lt_big (by omega))))
      all_goals first | exact NextP.mk (i + 1) (by omega) (by omega) (by rw [← hnx, hat, hC2]; rfl) | (exfalso; omega)
    · rw [if_neg hk] at hat
      have hcK := gI_cell (l := l) (i := K) (by omega)
      have hcK1 := gI_cell (l := l) (i := K + 1) (by omega)
      have hmin : min (K : Int) ((l.length : Int) - 1) = (K : Int) := by omega
      have hm := mul_bd (d := gI l (K + 1) - gI l K) (r := (R : Int)) (A := 2000000) (B := 1000) (by have := hg K; have := hg (K + 1); omega) (by omega)
      obtain ⟨pr, hpr⟩ : ∃ pr, (gI l (K + 1) - gI l K) * (R : Int) = pr := ⟨_, rfl⟩
      rw [hpr] at hm hat
      have hMul2 : IntKind.i64.wrap ((gI l (K + 1) - gI l K) * (R : Int)) = pr := by rw [hpr]; exact wrap_i64 (by omega) (by omega)
      have hdv : -2000000000 ≤ pr / 1000 ∧ pr / 1000 ≤ 2000000000 := by omega
      have hgK := hg K
      have hgK1 := hg (K + 1)
      have hD := down_any (a := pr) (b := 1000) (by unfold mid; omega) (by omega)  
      clear hpr
      generalize pr / 1000 = dv at *
      generalize gI l K = a at *
      have hpa := hp0 a
      have hca := hc1 a
      have hpb := hp1 a v
      have hla := hl1 a
      generalize ofI (L.set i a) = C1 at *
      rw [hC2] at hpb
      subst hat
      repeat' (first
        | (conv => whnf)
          first
          | refine Bnd.eq hMul ?_
          | refine Bnd.eq hAdd ?_
          | refine Bnd.eq hQ ?_
          | refine Bnd.eq hmin ?_
          | refine Bnd.eq hMul2 ?_
          | refine Bnd.eq hR ?_
          | refine Br.t ?_
          | refine Br.f ?_
          | (refine Br.decT ?_ ?_; (focus first | assumption | omega))
          | (refine Br.decF ?_ ?_; (focus first | assumption | omega))
          | refine Br.dec (fun _ => ?_) (fun _ => ?_)
          | refine Br.not ?_
          | refine Br.and ?_
          | refine Br.or ?_
          | (refine Bnd.i64 ?_ ?_ ?_; (focus omega); (focus omega))
          | refine Get.mk _ hcK ?_
          | refine Get.mk _ hcK1 ?_
          | refine Get.mk _ hca ?_
          | refine fVe hpa ?_
          | refine fVe hpb ?_
          | refine Req.mk hl0 ?_
          | refine Req.mk hla ?_
          | refine Req.mk ⟨hl0, by omega⟩ ?_
          | refine Req.mk ⟨hla, by omega⟩ ?_
          | refine call_fun rfl rfl hD (.inl rfl) ?_
          | (refine Idx.nat ?_ ?_; (focus omega))
          | refine Idx.nat (le_big (by omega)) ?_
          | (refine Idx.int ?_ ?_ ?_; (focus omega); (focus omega))
          | (refine Idx.int ?_ ?_ ?_; (focus decide); (focus decide))
          | refine Ifz.zero ?_
          | (refine Ifz.pos ?_ ?_; (focus omega))
          | refine Get.mk _ rfl ?_
          | refine Leaves.of ?_
          | refine Ends.of ?_
          | refine Vw.bool ?_
          | refine Vw.int ?_
          | refine Vw.nil
          | refine Vw.sl
          | refine Vw.tup ?_
          | refine Vw.agg ?_
          | refine VwL.cons ?_ ?_
          | refine VwL.nil
          | refine LeavesF.of ?_
          | refine VwF.bool ?_
          | refine VwF.int ?_
          | refine VwF.nil
          | refine VwF.sl
          | refine VwF.tup ?_
          | refine VwF.agg ?_
          | refine VwLF.cons ?_ ?_
          | refine VwLF.nil
          | (refine Req.mk ?_ ?_; (focus first | rfl | decide | exact ⟨rfl, rfl⟩ | exact ⟨rfl, by decide⟩ | exact (fun _ => rfl) | exact (fun h => nomatch h) | (simp; done) | omega | (simp [big]; done) | exact le_big (by omega) | exact lt_big (by omega))))
      all_goals first | exact NextP.mk (i + 1) (by omega) (by omega) (by rw [← hnx, hC2]; rfl) | (exfalso; omega)
  · obtain rfl : i = n := by omega
    have hfull := pfx_full (pullX l b s) i
    repeat' (first
      | (conv => whnf)
        first
        | refine Br.t ?_
        | refine Br.f ?_
        | (refine Br.decT ?_ ?_; (focus first | assumption | omega))
        | (refine Br.decF ?_ ?_; (focus first | assumption | omega))
        | refine Br.dec (fun _ => ?_) (fun _ => ?_)
        | refine Br.not ?_
        | refine Br.and ?_
        | refine Br.or ?_
        | (refine Bnd.i64 ?_ ?_ ?_; (focus omega); (focus omega))
        | (refine Idx.nat ?_ ?_; (focus omega))
        | refine Idx.nat (le_big (by omega)) ?_
        | (refine Idx.int ?_ ?_ ?_; (focus omega); (focus omega))
        | (refine Idx.int ?_ ?_ ?_; (focus decide); (focus decide))
        | refine Ifz.zero ?_
        | (refine Ifz.pos ?_ ?_; (focus omega))
        | refine Get.mk _ rfl ?_
        | refine Leaves.of ?_
        | refine Ends.of ?_
        | refine Vw.bool ?_
        | refine Vw.int ?_
        | refine Vw.nil
        | refine Vw.sl
        | refine Vw.tup ?_
        | refine Vw.agg ?_
        | refine VwL.cons ?_ ?_
        | refine VwL.nil
        | refine LeavesF.of ?_
        | refine VwF.bool ?_
        | refine VwF.int ?_
        | refine VwF.nil
        | refine VwF.sl
        | refine VwF.tup ?_
        | refine VwF.agg ?_
        | refine VwLF.cons ?_ ?_
        | refine VwLF.nil
        | (refine Req.mk ?_ ?_; (focus first | rfl | decide | exact ⟨rfl, rfl⟩ | exact ⟨rfl, by decide⟩ | exact (fun _ => rfl) | exact (fun h => nomatch h) | (simp; done) | omega | (simp [big]; done) | exact le_big (by omega) | exact lt_big (by omega))))
    · refine VwF.ints rfl (by rw [hfull]; rfl) (by rw [acc_length, Nat.mul_one]) (by rw [acc_length]) (by rw [acc_length])
    all_goals rfl

theorem pull_ok {c : Bool} {l : List Int} {b s : Int} {n : Nat} (hE : smpE l 1000000 = 0) (h0 : 0 < l.length) (hb : 0 ≤ b ∧ b ≤ 4000000) (hs : 0 ≤ s ∧ s ≤ 4000000) (hn : n ≤ 4000) :
    Fun F md 39 [.sl c l.length (ofI l), .int .i64 b, .int .i64 s, .int .i64 n] (.tup [.sl (decide (n = n)) n (ofI (acc (pullX l b s) n)), .int .i64 0]) := (pull_okF hE h0 hb hs hn).any

set_option maxRecDepth 100000 in
set_option maxHeartbeats 20000000 in
theorem pullR_ok {c : Bool} {l : List Int} {b s : Int} {n : Nat} (hE : smpE l 1000000 = 0) (h0 : 0 < l.length) (hb : 0 ≤ b ∧ b ≤ 4000000) (hs : 0 ≤ s ∧ s ≤ 4000000) (hn : n ≤ 4000) :
    ∃ c', Fun F md 40 [.sl c l.length (ofI l), .int .i64 b, .int .i64 s, .int .i64 n] (.tup [.sl c' n (ofI (acc (pullX l b s) n)), .int .i64 0]) := by
  have hst := samples_any (c := c) (l := l) (m := 1000000) (by omega)
  rw [hE] at hst
  obtain ⟨hL, hin⟩ := smp_ok hE
  have hg := gI_in (m := 1000000) (by omega) hin
  refine ⟨decide (n = 0), ?_⟩
  refine fun_of rfl rfl ?_
  repeat' (first
    | (conv => whnf)
      first
      | refine Br.t ?_
      | refine Br.f ?_
      | (refine Br.decT ?_ ?_; (focus first | assumption | omega))
      | (refine Br.decF ?_ ?_; (focus first | assumption | omega))
      | refine Br.dec (fun _ => ?_) (fun _ => ?_)
      | refine Br.not ?_
      | refine Br.and ?_
      | refine Br.or ?_
      | (refine Bnd.i64 ?_ ?_ ?_; (focus omega); (focus omega))
      | refine call_fun rfl rfl hst (.inl rfl) ?_
      | refine call_fun rfl rfl (in_any _ _ _) (.inl rfl) ?_
      | (refine Idx.nat ?_ ?_; (focus omega))
      | refine Idx.nat (le_big (by omega)) ?_
      | (refine Idx.int ?_ ?_ ?_; (focus omega); (focus omega))
      | (refine Idx.int ?_ ?_ ?_; (focus decide); (focus decide))
      | refine Ifz.zero ?_
      | (refine Ifz.pos ?_ ?_; (focus omega))
      | refine Get.mk _ rfl ?_
      | refine Leaves.of ?_
      | refine Ends.of ?_
      | refine Vw.bool ?_
      | refine Vw.int ?_
      | refine Vw.nil
      | refine Vw.sl
      | refine Vw.tup ?_
      | refine Vw.agg ?_
      | refine VwL.cons ?_ ?_
      | refine VwL.nil
      | refine LeavesF.of ?_
      | refine VwF.bool ?_
      | refine VwF.int ?_
      | refine VwF.nil
      | refine VwF.sl
      | refine VwF.tup ?_
      | refine VwF.agg ?_
      | refine VwLF.cons ?_ ?_
      | refine VwLF.nil
      | (refine Req.mk ?_ ?_; (focus first | rfl | decide | exact ⟨rfl, rfl⟩ | exact ⟨rfl, by decide⟩ | exact (fun _ => rfl) | exact (fun h => nomatch h) | (simp; done) | omega | (simp [big]; done) | exact le_big (by omega) | exact lt_big (by omega))))
  all_goals try (exfalso; omega)
  refine LoopP.by (fun i : Nat => i ≤ n) (fun i => match i with
      | 0 => [(11, .nilsl), (12, .int .i64 ((0 : Nat) : Int))]
      | i + 1 => [(11, .ms 1 0 (i + 1) 0 (i + 1) false), (12, .int .i64 ((i + 1 : Nat) : Int))])
    (fun i => match i with
      | 0 => []
      | i + 1 => [.blk (ofI (acc (pullX l b s) (i + 1))) true]) (fun i => n - i) 0 (Nat.zero_le _) rfl ?_
  intro i hi
  cases i with
  | zero =>
    dsimp only
    by_cases hin' : 0 < n
    · have hnx := acc_one (pullX l b s)
      generalize hC2 : ofI (acc (pullX l b s) 1) = C2 at *
      have hs2 := mul_bd (d := s) (r := ((0 : Nat) : Int)) (A := 4000000) (B := 4000) (by omega) (by omega)
      rw [Int.mul_comm s] at hs2
      have hs1 : 0 ≤ ((0 : Nat) : Int) * s := Int.mul_nonneg (by omega) (by omega)
      obtain ⟨X, hX⟩ := Int.eq_ofNat_of_zero_le (show 0 ≤ b + ((0 : Nat) : Int) * s by omega)
      have hXb : X ≤ 20000000000 := by omega
      have hat := pull_at (l := l) hX
      have hMul : IntKind.i64.wrap (((0 : Nat) : Int) * s) = ((0 : Nat) : Int) * s := wrap_i64 (by omega) (by omega)
      have hAdd : IntKind.i64.wrap (b + ((0 : Nat) : Int) * s) = (X : Int) := by rw [hX]; exact wrap_i64 (by omega) (by omega)
      have hQ : IntKind.i64.wrap ((X : Int).tdiv 1000) = ((X / 1000 : Nat) : Int) := by
        rw [show (X : Int).tdiv 1000 = ((X / 1000 : Nat) : Int) from Int.ofNat_tdiv X 1000]
        exact wrap_i64 (by omega) (by omega)
      have hR : (X : Int).tmod 1000 = ((X % 1000 : Nat) : Int) := Int.ofNat_tmod X 1000
      have hRb : X % 1000 < 1000 := Nat.mod_lt _ (by omega)
      generalize X % 1000 = R at *
      generalize X / 1000 = K at *
      clear hX hs1 hs2 hXb
      generalize hV : pullX l b s 0 = v at *
      have hlast := gI_cell (l := l) (i := l.length - 1) (by omega)
      have hlast : cellAt (ofI l) (((l.length : Int) - 1).toNat * 1) = some (.int .i64 (gI l (l.length - 1))) := by
        rw [show ((l.length : Int) - 1).toNat = l.length - 1 by omega]; exact hlast
      by_cases hk : l.length ≤ K + 1
      · rw [if_pos hk] at hat
        repeat' (first
          | (conv => whnf)
            first
            | refine Bnd.eq hMul ?_
            | refine Bnd.eq hAdd ?_
            | refine Bnd.eq hQ ?_
            | refine Bnd.eq hR ?_
            | refine Br.t ?_
            | refine Br.f ?_
            | (refine Br.decT ?_ ?_; (focus first | assumption | omega))
            | (refine Br.decF ?_ ?_; (focus first | assumption | omega))
            | refine Br.dec (fun _ => ?_) (fun _ => ?_)
            | refine Br.not ?_
            | refine Br.and ?_
            | refine Br.or ?_
            | (refine Bnd.i64 ?_ ?_ ?_; (focus omega); (focus omega))
            | (refine Idx.int ?_ ?_ ?_; (focus omega); (focus omega))
            | refine Get.mk _ hlast ?_
            | (refine Idx.nat ?_ ?_; (focus omega))
            | refine Idx.nat (le_big (by omega)) ?_
            | (refine Idx.int ?_ ?_ ?_; (focus omega); (focus omega))
            | (refine Idx.int ?_ ?_ ?_; (focus decide); (focus decide))
            | refine Ifz.zero ?_
            | (refine Ifz.pos ?_ ?_; (focus omega))
            | refine Get.mk _ rfl ?_
            | refine Leaves.of ?_
            | refine Ends.of ?_
            | refine Vw.bool ?_
            | refine Vw.int ?_
            | refine Vw.nil
            | refine Vw.sl
            | refine Vw.tup ?_
            | refine Vw.agg ?_
            | refine VwL.cons ?_ ?_
            | refine VwL.nil
            | refine LeavesF.of ?_
            | refine VwF.bool ?_
            | refine VwF.int ?_
            | refine VwF.nil
            | refine VwF.sl
            | refine VwF.tup ?_
            | refine VwF.agg ?_
            | refine VwLF.cons ?_ ?_
            | refine VwLF.nil
            | (refine Req.mk ?_ ?_; (focus first | rfl | decide | exact ⟨rfl, rfl⟩ | exact ⟨rfl, by decide⟩ | exact (fun _ => rfl) | exact (fun h => nomatch h) | (simp; done) | omega | (simp [big]; done) | exact le_big (by omega) | exact lt_big (by omega))))
        all_goals first | exact NextP.mk (0 + 1) (by omega) (by omega) (by dsimp only; rw [hC2, ← hnx, hat]; rfl) | (exfalso; omega)
      · rw [if_neg hk] at hat
        have hcK := gI_cell (l := l) (i := K) (by omega)
        have hcK1 := gI_cell (l := l) (i := K + 1) (by omega)
        have hm := mul_bd (d := gI l (K + 1) - gI l K) (r := (R : Int)) (A := 2000000) (B := 1000) (by have := hg K; have := hg (K + 1); omega) (by omega)
        obtain ⟨pr, hpr⟩ : ∃ pr, (gI l (K + 1) - gI l K) * (R : Int) = pr := ⟨_, rfl⟩
        rw [hpr] at hm hat
        have hMul2 : IntKind.i64.wrap ((gI l (K + 1) - gI l K) * (R : Int)) = pr := by rw [hpr]; exact wrap_i64 (by omega) (by omega)
        have hdv : -2000000000 ≤ pr / 1000 ∧ pr / 1000 ≤ 2000000000 := by omega
        have hgK := hg K
        have hgK1 := hg (K + 1)
        have hD := downR_any (a := pr) (b := 1000) (by unfold mid; omega) (by omega) (by omega)
        clear hpr
        generalize pr / 1000 = dv at *
        generalize gI l K = a at *
        subst hat
        repeat' (first
          | (conv => whnf)
            first
            | refine Bnd.eq hMul ?_
            | refine Bnd.eq hAdd ?_
            | refine Bnd.eq hQ ?_
            | refine Bnd.eq hMul2 ?_
            | refine Bnd.eq hR ?_
            | refine Br.t ?_
            | refine Br.f ?_
            | (refine Br.decT ?_ ?_; (focus first | assumption | omega))
            | (refine Br.decF ?_ ?_; (focus first | assumption | omega))
            | refine Br.dec (fun _ => ?_) (fun _ => ?_)
            | refine Br.not ?_
            | refine Br.and ?_
            | refine Br.or ?_
            | (refine Bnd.i64 ?_ ?_ ?_; (focus omega); (focus omega))
            | refine Get.mk _ hcK ?_
            | refine Get.mk _ hcK1 ?_
            | refine call_fun rfl rfl hD (.inl rfl) ?_
            | (refine Idx.nat ?_ ?_; (focus omega))
            | refine Idx.nat (le_big (by omega)) ?_
            | (refine Idx.int ?_ ?_ ?_; (focus omega); (focus omega))
            | (refine Idx.int ?_ ?_ ?_; (focus decide); (focus decide))
            | refine Ifz.zero ?_
            | (refine Ifz.pos ?_ ?_; (focus omega))
            | refine Get.mk _ rfl ?_
            | refine Leaves.of ?_
            | refine Ends.of ?_
            | refine Vw.bool ?_
            | refine Vw.int ?_
            | refine Vw.nil
            | refine Vw.sl
            | refine Vw.tup ?_
            | refine Vw.agg ?_
            | refine VwL.cons ?_ ?_
            | refine VwL.nil
            | refine LeavesF.of ?_
            | refine VwF.bool ?_
            | refine VwF.int ?_
            | refine VwF.nil
            | refine VwF.sl
            | refine VwF.tup ?_
            | refine VwF.agg ?_
            | refine VwLF.cons ?_ ?_
            | refine VwLF.nil
            | (refine Req.mk ?_ ?_; (focus first | rfl | decide | exact ⟨rfl, rfl⟩ | exact ⟨rfl, by decide⟩ | exact (fun _ => rfl) | exact (fun h => nomatch h) | (simp; done) | omega | (simp [big]; done) | exact le_big (by omega) | exact lt_big (by omega))))
        all_goals first | exact NextP.mk (0 + 1) (by omega) (by omega) (by dsimp only; rw [hC2, ← hnx]; rfl) | (exfalso; omega)
    · obtain rfl : n = 0 := by omega
      repeat' (first
        | (conv => whnf)
          first
          | refine Br.t ?_
          | refine Br.f ?_
          | (refine Br.decT ?_ ?_; (focus first | assumption | omega))
          | (refine Br.decF ?_ ?_; (focus first | assumption | omega))
          | refine Br.dec (fun _ => ?_) (fun _ => ?_)
          | refine Br.not ?_
          | refine Br.and ?_
          | refine Br.or ?_
          | (refine Bnd.i64 ?_ ?_ ?_; (focus omega); (focus omega))
          | (refine Idx.nat ?_ ?_; (focus omega))
          | refine Idx.nat (le_big (by omega)) ?_
          | (refine Idx.int ?_ ?_ ?_; (focus omega); (focus omega))
          | (refine Idx.int ?_ ?_ ?_; (focus decide); (focus decide))
          | refine Ifz.zero ?_
          | (refine Ifz.pos ?_ ?_; (focus omega))
          | refine Get.mk _ rfl ?_
          | refine Leaves.of ?_
          | refine Ends.of ?_
          | refine Vw.bool ?_
          | refine Vw.int ?_
          | refine Vw.nil
          | refine Vw.sl
          | refine Vw.tup ?_
          | refine Vw.agg ?_
          | refine VwL.cons ?_ ?_
          | refine VwL.nil
          | refine LeavesF.of ?_
          | refine VwF.bool ?_
          | refine VwF.int ?_
          | refine VwF.nil
          | refine VwF.sl
          | refine VwF.tup ?_
          | refine VwF.agg ?_
          | refine VwLF.cons ?_ ?_
          | refine VwLF.nil
          | (refine Req.mk ?_ ?_; (focus first | rfl | decide | exact ⟨rfl, rfl⟩ | exact ⟨rfl, by decide⟩ | exact (fun _ => rfl) | exact (fun h => nomatch h) | (simp; done) | omega | (simp [big]; done) | exact le_big (by omega) | exact lt_big (by omega))))
      all_goals rfl
  | succ i =>
    dsimp only
    by_cases hin' : i + 1 < n
    · have hnx := acc_next (pullX l b s) (i + 1)
      generalize hC2 : ofI (acc (pullX l b s) (i + 1 + 1)) = C2 at *
      have hl0 : (ofI (acc (pullX l b s) (i + 1))).length = i + 1 := by rw [ofI_length, acc_length]
      generalize ofI (acc (pullX l b s) (i + 1)) = C0 at *
      have hs2 := mul_bd (d := s) (r := (((i + 1) : Nat) : Int)) (A := 4000000) (B := 4000) (by omega) (by omega)
      rw [Int.mul_comm s] at hs2
      have hs1 : 0 ≤ (((i + 1) : Nat) : Int) * s := Int.mul_nonneg (by omega) (by omega)
      obtain ⟨X, hX⟩ := Int.eq_ofNat_of_zero_le (show 0 ≤ b + (((i + 1) : Nat) : Int) * s by omega)
      have hXb : X ≤ 20000000000 := by omega
      have hat := pull_at (l := l) hX
      have hMul : IntKind.i64.wrap ((((i + 1) : Nat) : Int) * s) = (((i + 1) : Nat) : Int) * s := wrap_i64 (by omega) (by omega)
      have hAdd : IntKind.i64.wrap (b + (((i + 1) : Nat) : Int) * s) = (X : Int) := by rw [hX]; exact wrap_i64 (by omega) (by omega)
      have hQ : IntKind.i64.wrap ((X : Int).tdiv 1000) = ((X / 1000 : Nat) : Int) := by
        rw [show (X : Int).tdiv 1000 = ((X / 1000 : Nat) : Int) from Int.ofNat_tdiv X 1000]
        exact wrap_i64 (by omega) (by omega)
      have hR : (X : Int).tmod 1000 = ((X % 1000 : Nat) : Int) := Int.ofNat_tmod X 1000
      have hRb : X % 1000 < 1000 := Nat.mod_lt _ (by omega)
      generalize X % 1000 = R at *
      generalize X / 1000 = K at *
      clear hX hs1 hs2 hXb
      generalize hV : pullX l b s (i + 1) = v at *
      have hlast := gI_cell (l := l) (i := l.length - 1) (by omega)
      have hlast : cellAt (ofI l) (((l.length : Int) - 1).toNat * 1) = some (.int .i64 (gI l (l.length - 1))) := by
        rw [show ((l.length : Int) - 1).toNat = l.length - 1 by omega]; exact hlast
      by_cases hk : l.length ≤ K + 1
      · rw [if_pos hk] at hat
        repeat' (first
          | (conv => whnf)
            first
            | refine Bnd.eq hMul ?_
            | refine Bnd.eq hAdd ?_
            | refine Bnd.eq hQ ?_
            | refine Bnd.eq hR ?_
            | refine Br.t ?_
            | refine Br.f ?_
            | (refine Br.decT ?_ ?_; (focus first | assumption | omega))
            | (refine Br.decF ?_ ?_; (focus first | assumption | omega))
            | refine Br.dec (fun _ => ?_) (fun _ => ?_)
            | refine Br.not ?_
            | refine Br.and ?_
            | refine Br.or ?_
            | (refine Bnd.i64 ?_ ?_ ?_; (focus omega); (focus omega))
            | (refine Idx.int ?_ ?_ ?_; (focus omega); (focus omega))
            | refine Get.mk _ hlast ?_
            | refine Req.mk hl0 ?_
            | refine Req.mk ⟨by omega, by rw [hl0]; show (i + 1 + 1) * 9 < 68719476736; omega⟩ ?_
            | (refine Idx.nat ?_ ?_; (focus omega))
            | refine Idx.nat (le_big (by omega)) ?_
            | (refine Idx.int ?_ ?_ ?_; (focus omega); (focus omega))
            | (refine Idx.int ?_ ?_ ?_; (focus decide); (focus decide))
            | refine Ifz.zero ?_
            | (refine Ifz.pos ?_ ?_; (focus omega))
            | refine Get.mk _ rfl ?_
            | refine Leaves.of ?_
            | refine Ends.of ?_
            | refine Vw.bool ?_
            | refine Vw.int ?_
            | refine Vw.nil
            | refine Vw.sl
            | refine Vw.tup ?_
            | refine Vw.agg ?_
            | refine VwL.cons ?_ ?_
            | refine VwL.nil
            | refine LeavesF.of ?_
            | refine VwF.bool ?_
            | refine VwF.int ?_
            | refine VwF.nil
            | refine VwF.sl
            | refine VwF.tup ?_
            | refine VwF.agg ?_
            | refine VwLF.cons ?_ ?_
            | refine VwLF.nil
            | (refine Req.mk ?_ ?_; (focus first | rfl | decide | exact ⟨rfl, rfl⟩ | exact ⟨rfl, by decide⟩ | exact (fun _ => rfl) | exact (fun h => nomatch h) | (simp; done) | omega | (simp [big]; done) | exact le_big (by omega) | exact lt_big (by omega))))
        all_goals first | exact NextP.mk ((i + 1) + 1) (by omega) (by omega) (by dsimp only; rw [hC2, ← hnx, hat]; rfl) | (exfalso; omega)
      · rw [if_neg hk] at hat
        have hcK := gI_cell (l := l) (i := K) (by omega)
        have hcK1 := gI_cell (l := l) (i := K + 1) (by omega)
        have hm := mul_bd (d := gI l (K + 1) - gI l K) (r := (R : Int)) (A := 2000000) (B := 1000) (by have := hg K; have := hg (K + 1); omega) (by omega)
        obtain ⟨pr, hpr⟩ : ∃ pr, (gI l (K + 1) - gI l K) * (R : Int) = pr := ⟨_, rfl⟩
        rw [hpr] at hm hat
        have hMul2 : IntKind.i64.wrap ((gI l (K + 1) - gI l K) * (R : Int)) = pr := by rw [hpr]; exact wrap_i64 (by omega) (by omega)
        have hdv : -2000000000 ≤ pr / 1000 ∧ pr / 1000 ≤ 2000000000 := by omega
        have hgK := hg K
        have hgK1 := hg (K + 1)
        have hD := downR_any (a := pr) (b := 1000) (by unfold mid; omega) (by omega) (by omega)
        clear hpr
        generalize pr / 1000 = dv at *
        generalize gI l K = a at *
        subst hat
        repeat' (first
          | (conv => whnf)
            first
            | refine Bnd.eq hMul ?_
            | refine Bnd.eq hAdd ?_
            | refine Bnd.eq hQ ?_
            | refine Bnd.eq hMul2 ?_
            | refine Bnd.eq hR ?_
            | refine Br.t ?_
            | refine Br.f ?_
            | (refine Br.decT ?_ ?_; (focus first | assumption | omega))
            | (refine Br.decF ?_ ?_; (focus first | assumption | omega))
            | refine Br.dec (fun _ => ?_) (fun _ => ?_)
            | refine Br.not ?_
            | refine Br.and ?_
            | refine Br.or ?_
            | (refine Bnd.i64 ?_ ?_ ?_; (focus omega); (focus omega))
            | refine Get.mk _ hcK ?_
            | refine Get.mk _ hcK1 ?_
            | refine call_fun rfl rfl hD (.inl rfl) ?_
            | refine Req.mk hl0 ?_
            | refine Req.mk ⟨by omega, by rw [hl0]; show (i + 1 + 1) * 9 < 68719476736; omega⟩ ?_
            | (refine Idx.nat ?_ ?_; (focus omega))
            | refine Idx.nat (le_big (by omega)) ?_
            | (refine Idx.int ?_ ?_ ?_; (focus omega); (focus omega))
            | (refine Idx.int ?_ ?_ ?_; (focus decide); (focus decide))
            | refine Ifz.zero ?_
            | (refine Ifz.pos ?_ ?_; (focus omega))
            | refine Get.mk _ rfl ?_
            | refine Leaves.of ?_
            | refine Ends.of ?_
            | refine Vw.bool ?_
            | refine Vw.int ?_
            | refine Vw.nil
            | refine Vw.sl
            | refine Vw.tup ?_
            | refine Vw.agg ?_
            | refine VwL.cons ?_ ?_
            | refine VwL.nil
            | refine LeavesF.of ?_
            | refine VwF.bool ?_
            | refine VwF.int ?_
            | refine VwF.nil
            | refine VwF.sl
            | refine VwF.tup ?_
            | refine VwF.agg ?_
            | refine VwLF.cons ?_ ?_
            | refine VwLF.nil
            | (refine Req.mk ?_ ?_; (focus first | rfl | decide | exact ⟨rfl, rfl⟩ | exact ⟨rfl, by decide⟩ | exact (fun _ => rfl) | exact (fun h => nomatch h) | (simp; done) | omega | (simp [big]; done) | exact le_big (by omega) | exact lt_big (by omega))))
        all_goals first | exact NextP.mk ((i + 1) + 1) (by omega) (by omega) (by dsimp only; rw [hC2, ← hnx]; rfl) | (exfalso; omega)
    · obtain rfl : n = i + 1 := by omega
      repeat' (first
        | (conv => whnf)
          first
          | refine Br.t ?_
          | refine Br.f ?_
          | (refine Br.decT ?_ ?_; (focus first | assumption | omega))
          | (refine Br.decF ?_ ?_; (focus first | assumption | omega))
          | refine Br.dec (fun _ => ?_) (fun _ => ?_)
          | refine Br.not ?_
          | refine Br.and ?_
          | refine Br.or ?_
          | (refine Bnd.i64 ?_ ?_ ?_; (focus omega); (focus omega))
          | (refine Idx.nat ?_ ?_; (focus omega))
          | refine Idx.nat (le_big (by omega)) ?_
          | (refine Idx.int ?_ ?_ ?_; (focus omega); (focus omega))
          | (refine Idx.int ?_ ?_ ?_; (focus decide); (focus decide))
          | refine Ifz.zero ?_
          | (refine Ifz.pos ?_ ?_; (focus omega))
          | refine Get.mk _ rfl ?_
          | refine Leaves.of ?_
          | refine Ends.of ?_
          | refine Vw.bool ?_
          | refine Vw.int ?_
          | refine Vw.nil
          | refine Vw.sl
          | refine Vw.tup ?_
          | refine Vw.agg ?_
          | refine VwL.cons ?_ ?_
          | refine VwL.nil
          | refine LeavesF.of ?_
          | refine VwF.bool ?_
          | refine VwF.int ?_
          | refine VwF.nil
          | refine VwF.sl
          | refine VwF.tup ?_
          | refine VwF.agg ?_
          | refine VwLF.cons ?_ ?_
          | refine VwLF.nil
          | (refine Req.mk ?_ ?_; (focus first | rfl | decide | exact ⟨rfl, rfl⟩ | exact ⟨rfl, by decide⟩ | exact (fun _ => rfl) | exact (fun h => nomatch h) | (simp; done) | omega | (simp [big]; done) | exact le_big (by omega) | exact lt_big (by omega))))
      · refine Vw.ints rfl rfl (by rw [acc_length]) (by rw [acc_length]) (by rw [acc_length])
      all_goals rfl

def BadPl (k1 : Int) (n : Nat) (b s m k : Int) : Prop := (k1 ≠ 0 ∧ k = k1) ∨ (k1 = 0 ∧ n = 0 ∧ k = 9) ∨ (k1 = 0 ∧ n ≠ 0 ∧ k = 7 ∧ (b < 0 ∨ 4000000 < b ∨ s < 0 ∨ 4000000 < s ∨ m < 0 ∨ 4000 < m))
set_option maxRecDepth 100000 in
set_option maxHeartbeats 20000000 in
theorem pull_bad {c : Bool} {l : List Int} {b s m k : Int} (hb : BadPl (smpE l 1000000) l.length b s m k) :
    Fun F md 39 [.sl c l.length (ofI l), .int .i64 b, .int .i64 s, .int .i64 m] (.tup [.sl true 0 [], .int .i64 k]) := by
  have hst := strange_any (c := c) (l := l) (m := 1000000) (by omega)
  generalize smpE l 1000000 = k1 at *
  rcases hb with ⟨e1, rfl⟩ | ⟨e1, e2, rfl⟩ | ⟨e1, e2, rfl, e3⟩
  · refine fun_of rfl rfl ?_
    repeat' (first
      | (conv => whnf)
        first
        | refine Br.t ?_
        | refine Br.f ?_
        | (refine Br.decT ?_ ?_; (focus first | assumption | omega))
        | (refine Br.decF ?_ ?_; (focus first | assumption | omega))
        | refine Br.dec (fun _ => ?_) (fun _ => ?_)
        | refine Br.not ?_
        | refine Br.and ?_
        | refine Br.or ?_
        | (refine Bnd.i64 ?_ ?_ ?_; (focus omega); (focus omega))
        | refine call_fun rfl rfl hst (.inl rfl) ?_
        | refine call_fun rfl rfl (out_any _ _ _) (.inl rfl) ?_
        | (refine Idx.nat ?_ ?_; (focus omega))
        | refine Idx.nat (le_big (by omega)) ?_
        | (refine Idx.int ?_ ?_ ?_; (focus omega); (focus omega))
        | (refine Idx.int ?_ ?_ ?_; (focus decide); (focus decide))
        | refine Ifz.zero ?_
        | (refine Ifz.pos ?_ ?_; (focus omega))
        | refine Get.mk _ rfl ?_
        | refine Leaves.of ?_
        | refine Ends.of ?_
        | refine Vw.bool ?_
        | refine Vw.int ?_
        | refine Vw.nil
        | refine Vw.sl
        | refine Vw.tup ?_
        | refine Vw.agg ?_
        | refine VwL.cons ?_ ?_
        | refine VwL.nil
        | refine LeavesF.of ?_
        | refine VwF.bool ?_
        | refine VwF.int ?_
        | refine VwF.nil
        | refine VwF.sl
        | refine VwF.tup ?_
        | refine VwF.agg ?_
        | refine VwLF.cons ?_ ?_
        | refine VwLF.nil
        | (refine Req.mk ?_ ?_; (focus first | rfl | decide | exact ⟨rfl, rfl⟩ | exact ⟨rfl, by decide⟩ | exact (fun _ => rfl) | exact (fun h => nomatch h) | (simp; done) | omega | (simp [big]; done) | exact le_big (by omega) | exact lt_big (by omega))))
    all_goals first | rfl | (exfalso; omega)
  · subst e1
    refine fun_of rfl rfl ?_
    repeat' (first
      | (conv => whnf)
        first
        | refine Br.t ?_
        | refine Br.f ?_
        | (refine Br.decT ?_ ?_; (focus first | assumption | omega))
        | (refine Br.decF ?_ ?_; (focus first | assumption | omega))
        | refine Br.dec (fun _ => ?_) (fun _ => ?_)
        | refine Br.not ?_
        | refine Br.and ?_
        | refine Br.or ?_
        | (refine Bnd.i64 ?_ ?_ ?_; (focus omega); (focus omega))
        | refine call_fun rfl rfl hst (.inl rfl) ?_
        | refine call_fun rfl rfl (out_any _ _ _) (.inl rfl) ?_
        | (refine Idx.nat ?_ ?_; (focus omega))
        | refine Idx.nat (le_big (by omega)) ?_
        | (refine Idx.int ?_ ?_ ?_; (focus omega); (focus omega))
        | (refine Idx.int ?_ ?_ ?_; (focus decide); (focus decide))
        | refine Ifz.zero ?_
        | (refine Ifz.pos ?_ ?_; (focus omega))
        | refine Get.mk _ rfl ?_
        | refine Leaves.of ?_
        | refine Ends.of ?_
        | refine Vw.bool ?_
        | refine Vw.int ?_
        | refine Vw.nil
        | refine Vw.sl
        | refine Vw.tup ?_
        | refine Vw.agg ?_
        | refine VwL.cons ?_ ?_
        | refine VwL.nil
        | refine LeavesF.of ?_
        | refine VwF.bool ?_
        | refine VwF.int ?_
        | refine VwF.nil
        | refine VwF.sl
        | refine VwF.tup ?_
        | refine VwF.agg ?_
        | refine VwLF.cons ?_ ?_
        | refine VwLF.nil
        | (refine Req.mk ?_ ?_; (focus first | rfl | decide | exact ⟨rfl, rfl⟩ | exact ⟨rfl, by decide⟩ | exact (fun _ => rfl) | exact (fun h => nomatch h) | (simp; done) | omega | (simp [big]; done) | exact le_big (by omega) | exact lt_big (by omega))))
    all_goals first | rfl | (exfalso; omega)
  · subst e1
    refine fun_of rfl rfl ?_
    repeat' (first
      | (conv => whnf)
        first
        | refine Br.t ?_
        | refine Br.f ?_
        | (refine Br.decT ?_ ?_; (focus first | assumption | omega))
        | (refine Br.decF ?_ ?_; (focus first | assumption | omega))
        | refine Br.dec (fun _ => ?_) (fun _ => ?_)
        | refine Br.not ?_
        | refine Br.and ?_
        | refine Br.or ?_
        | (refine Bnd.i64 ?_ ?_ ?_; (focus omega); (focus omega))
        | refine call_fun rfl rfl hst (.inl rfl) ?_
        | refine call_fun rfl rfl (out_any _ _ _) (.inl rfl) ?_
        | (refine Idx.nat ?_ ?_; (focus omega))
        | refine Idx.nat (le_big (by omega)) ?_
        | (refine Idx.int ?_ ?_ ?_; (focus omega); (focus omega))
        | (refine Idx.int ?_ ?_ ?_; (focus decide); (focus decide))
        | refine Ifz.zero ?_
        | (refine Ifz.pos ?_ ?_; (focus omega))
        | refine Get.mk _ rfl ?_
        | refine Leaves.of ?_
        | refine Ends.of ?_
        | refine Vw.bool ?_
        | refine Vw.int ?_
        | refine Vw.nil
        | refine Vw.sl
        | refine Vw.tup ?_
        | refine Vw.agg ?_
        | refine VwL.cons ?_ ?_
        | refine VwL.nil
        | refine LeavesF.of ?_
        | refine VwF.bool ?_
        | refine VwF.int ?_
        | refine VwF.nil
        | refine VwF.sl
        | refine VwF.tup ?_
        | refine VwF.agg ?_
        | refine VwLF.cons ?_ ?_
        | refine VwLF.nil
        | (refine Req.mk ?_ ?_; (focus first | rfl | decide | exact ⟨rfl, rfl⟩ | exact ⟨rfl, by decide⟩ | exact (fun _ => rfl) | exact (fun h => nomatch h) | (simp; done) | omega | (simp [big]; done) | exact le_big (by omega) | exact lt_big (by omega))))
    all_goals first | rfl | (exfalso; omega)
set_option maxRecDepth 100000 in
set_option maxHeartbeats 20000000 in
theorem pullR_bad {c : Bool} {l : List Int} {b s m k : Int} (hb : BadPl (smpE l 1000000) l.length b s m k) :
    Fun F md 40 [.sl c l.length (ofI l), .int .i64 b, .int .i64 s, .int .i64 m] (.tup [.sl true 0 [], .int .i64 k]) := by
  have hst := samples_any (c := c) (l := l) (m := 1000000) (by omega)
  generalize smpE l 1000000 = k1 at *
  rcases hb with ⟨e1, rfl⟩ | ⟨e1, e2, rfl⟩ | ⟨e1, e2, rfl, e3⟩
  · refine fun_of rfl rfl ?_
    repeat' (first
      | (conv => whnf)
        first
        | refine Br.t ?_
        | refine Br.f ?_
        | (refine Br.decT ?_ ?_; (focus first | assumption | omega))
        | (refine Br.decF ?_ ?_; (focus first | assumption | omega))
        | refine Br.dec (fun _ => ?_) (fun _ => ?_)
        | refine Br.not ?_
        | refine Br.and ?_
        | refine Br.or ?_
        | (refine Bnd.i64 ?_ ?_ ?_; (focus omega); (focus omega))
        | refine call_fun rfl rfl hst (.inl rfl) ?_
        | refine call_fun rfl rfl (in_any _ _ _) (.inl rfl) ?_
        | (refine Idx.nat ?_ ?_; (focus omega))
        | refine Idx.nat (le_big (by omega)) ?_
        | (refine Idx.int ?_ ?_ ?_; (focus omega); (focus omega))
        | (refine Idx.int ?_ ?_ ?_; (focus decide); (focus decide))
        | refine Ifz.zero ?_
        | (refine Ifz.pos ?_ ?_; (focus omega))
        | refine Get.mk _ rfl ?_
        | refine Leaves.of ?_
        | refine Ends.of ?_
        | refine Vw.bool ?_
        | refine Vw.int ?_
        | refine Vw.nil
        | refine Vw.sl
        | refine Vw.tup ?_
        | refine Vw.agg ?_
        | refine VwL.cons ?_ ?_
        | refine VwL.nil
        | refine LeavesF.of ?_
        | refine VwF.bool ?_
        | refine VwF.int ?_
        | refine VwF.nil
        | refine VwF.sl
        | refine VwF.tup ?_
        | refine VwF.agg ?_
        | refine VwLF.cons ?_ ?_
        | refine VwLF.nil
        | (refine Req.mk ?_ ?_; (focus first | rfl | decide | exact ⟨rfl, rfl⟩ | exact ⟨rfl, by decide⟩ | exact (fun _ => rfl) | exact (fun h => nomatch h) | (simp; done) | omega | (simp [big]; done) | exact le_big (by omega) | exact lt_big (by omega))))
    all_goals first | rfl | (exfalso; omega)
  · subst e1
    refine fun_of rfl rfl ?_
    repeat' (first
      | (conv => whnf)
        first
        | refine Br.t ?_
        | refine Br.f ?_
        | (refine Br.decT ?_ ?_; (focus first | assumption | omega))
        | (refine Br.decF ?_ ?_; (focus first | assumption | omega))
        | refine Br.dec (fun _ => ?_) (fun _ => ?_)
        | refine Br.not ?_
        | refine Br.and ?_
        | refine Br.or ?_
        | (refine Bnd.i64 ?_ ?_ ?_; (focus omega); (focus omega))
        | refine call_fun rfl rfl hst (.inl rfl) ?_
        | refine call_fun rfl rfl (in_any _ _ _) (.inl rfl) ?_
        | (refine Idx.nat ?_ ?_; (focus omega))
        | refine Idx.nat (le_big (by omega)) ?_
        | (refine Idx.int ?_ ?_ ?_; (focus omega); (focus omega))
        | (refine Idx.int ?_ ?_ ?_; (focus decide); (focus decide))
        | refine Ifz.zero ?_
        | (refine Ifz.pos ?_ ?_; (focus omega))
        | refine Get.mk _ rfl ?_
        | refine Leaves.of ?_
        | refine Ends.of ?_
        | refine Vw.bool ?_
        | refine Vw.int ?_
        | refine Vw.nil
        | refine Vw.sl
        | refine Vw.tup ?_
        | refine Vw.agg ?_
        | refine VwL.cons ?_ ?_
        | refine VwL.nil
        | refine LeavesF.of ?_
        | refine VwF.bool ?_
        | refine VwF.int ?_
        | refine VwF.nil
        | refine VwF.sl
        | refine VwF.tup ?_
        | refine VwF.agg ?_
        | refine VwLF.cons ?_ ?_
        | refine VwLF.nil
        | (refine Req.mk ?_ ?_; (focus first | rfl | decide | exact ⟨rfl, rfl⟩ | exact ⟨rfl, by decide⟩ | exact (fun _ => rfl) | exact (fun h => nomatch h) | (simp; done) | omega | (simp [big]; done) | exact le_big (by omega) | exact lt_big (by omega))))
    all_goals first | rfl | (exfalso; omega)
  · subst e1
    refine fun_of rfl rfl ?_
    repeat' (first
      | (conv => whnf)
        first
        | refine Br.t ?_
        | refine Br.f ?_
        | (refine Br.decT ?_ ?_; (focus first | assumption | omega))
        | (refine Br.decF ?_ ?_; (focus first | assumption | omega))
        | refine Br.dec (fun _ => ?_) (fun _ => ?_)
        | refine Br.not ?_
        | refine Br.and ?_
        | refine Br.or ?_
        | (refine Bnd.i64 ?_ ?_ ?_; (focus omega); (focus omega))
        | refine call_fun rfl rfl hst (.inl rfl) ?_
        | refine call_fun rfl rfl (in_any _ _ _) (.inl rfl) ?_
        | (refine Idx.nat ?_ ?_; (focus omega))
        | refine Idx.nat (le_big (by omega)) ?_
        | (refine Idx.int ?_ ?_ ?_; (focus omega); (focus omega))
        | (refine Idx.int ?_ ?_ ?_; (focus decide); (focus decide))
        | refine Ifz.zero ?_
        | (refine Ifz.pos ?_ ?_; (focus omega))
        | refine Get.mk _ rfl ?_
        | refine Leaves.of ?_
        | refine Ends.of ?_
        | refine Vw.bool ?_
        | refine Vw.int ?_
        | refine Vw.nil
        | refine Vw.sl
        | refine Vw.tup ?_
        | refine Vw.agg ?_
        | refine VwL.cons ?_ ?_
        | refine VwL.nil
        | refine LeavesF.of ?_
        | refine VwF.bool ?_
        | refine VwF.int ?_
        | refine VwF.nil
        | refine VwF.sl
        | refine VwF.tup ?_
        | refine VwF.agg ?_
        | refine VwLF.cons ?_ ?_
        | refine VwLF.nil
        | (refine Req.mk ?_ ?_; (focus first | rfl | decide | exact ⟨rfl, rfl⟩ | exact ⟨rfl, by decide⟩ | exact (fun _ => rfl) | exact (fun h => nomatch h) | (simp; done) | omega | (simp [big]; done) | exact le_big (by omega) | exact lt_big (by omega))))
    all_goals first | rfl | (exfalso; omega)
theorem pl_cases (l : List Int) (b s m : Int) : (∃ k, k ≠ 0 ∧ BadPl (smpE l 1000000) l.length b s m k) ∨ (smpE l 1000000 = 0 ∧ 0 < l.length ∧ (0 ≤ b ∧ b ≤ 4000000) ∧ (0 ≤ s ∧ s ≤ 4000000) ∧ ∃ n : Nat, m = (n : Int) ∧ n ≤ 4000) := by
  unfold BadPl
  by_cases h1 : smpE l 1000000 = 0
  · by_cases h2 : l.length = 0
    · exact .inl ⟨9, by omega, .inr (.inl ⟨h1, h2, rfl⟩)⟩
    · by_cases h3 : b < 0 ∨ 4000000 < b ∨ s < 0 ∨ 4000000 < s ∨ m < 0 ∨ 4000 < m
      · exact .inl ⟨7, by omega, .inr (.inr ⟨h1, h2, rfl, h3⟩)⟩
      · exact .inr ⟨h1, by omega, by omega, by omega, m.toNat, by omega, by omega⟩
  · exact .inl ⟨_, h1, .inl ⟨h1, rfl⟩⟩
theorem pulls_any (c : Bool) (l : List Int) (b s m : Int) : ∃ c1 c2 A k, A.length ≤ 4000 ∧ Fun F md 39 [.sl c l.length (ofI l), .int .i64 b, .int .i64 s, .int .i64 m] (.tup [.sl c1 A.length (ofI A), .int .i64 k]) ∧
    Fun F md 40 [.sl c l.length (ofI l), .int .i64 b, .int .i64 s, .int .i64 m] (.tup [.sl c2 A.length (ofI A), .int .i64 k]) := by
  rcases pl_cases l b s m with ⟨k, _, hk⟩ | ⟨h1, h2, h3, h4, n, rfl, h6⟩
  · exact ⟨true, true, [], k, by simp, pull_bad hk, pullR_bad hk⟩
  · obtain ⟨c', hR⟩ := pullR_ok (c := c) h1 h2 h3 h4 h6
    refine ⟨decide (n = n), c', acc (pullX l b s) n, 0, by rw [acc_length]; exact h6, ?_, ?_⟩
    · rw [acc_length]; exact pull_ok h1 h2 h3 h4 h6
    · rw [acc_length]; exact hR
set_option maxRecDepth 100000 in
set_option maxHeartbeats 20000000 in
theorem law_pulls (c : Bool) (l : List Int) (b s m : Int) : Fun F md 12 [.sl c l.length (ofI l), .agg [.int .i64 b, .int .i64 s, .int .i64 m]] (.bool true) := by
  obtain ⟨c1, c2, A, k, hl, hA, hB⟩ := pulls_any c l b s m
  have hs := ints_same (c := c1) (c' := c2) (l := A) (by omega)
  refine fun_of rfl rfl ?_
  repeat' (first
    | (conv => whnf)
      first
      | refine Br.t ?_
      | refine Br.f ?_
      | (refine Br.decT ?_ ?_; (focus first | assumption | omega))
      | (refine Br.decF ?_ ?_; (focus first | assumption | omega))
      | refine Br.dec (fun _ => ?_) (fun _ => ?_)
      | refine Br.not ?_
      | refine Br.and ?_
      | refine Br.or ?_
      | (refine Bnd.i64 ?_ ?_ ?_; (focus omega); (focus omega))
      | refine call_fun rfl rfl hA (.inl rfl) ?_
      | refine call_fun rfl rfl hB (.inl rfl) ?_
      | refine call_fun rfl rfl hs (.inl rfl) ?_
      | refine call_fun rfl rfl awake (.inl rfl) ?_
      | (refine Idx.nat ?_ ?_; (focus omega))
      | refine Idx.nat (le_big (by omega)) ?_
      | (refine Idx.int ?_ ?_ ?_; (focus omega); (focus omega))
      | (refine Idx.int ?_ ?_ ?_; (focus decide); (focus decide))
      | refine Ifz.zero ?_
      | (refine Ifz.pos ?_ ?_; (focus omega))
      | refine Get.mk _ rfl ?_
      | refine Leaves.of ?_
      | refine Ends.of ?_
      | refine Vw.bool ?_
      | refine Vw.int ?_
      | refine Vw.nil
      | refine Vw.sl
      | refine Vw.tup ?_
      | refine Vw.agg ?_
      | refine VwL.cons ?_ ?_
      | refine VwL.nil
      | refine LeavesF.of ?_
      | refine VwF.bool ?_
      | refine VwF.int ?_
      | refine VwF.nil
      | refine VwF.sl
      | refine VwF.tup ?_
      | refine VwF.agg ?_
      | refine VwLF.cons ?_ ?_
      | refine VwLF.nil
      | (refine Req.mk ?_ ?_; (focus first | rfl | decide | exact ⟨rfl, rfl⟩ | exact ⟨rfl, by decide⟩ | exact (fun _ => rfl) | exact (fun h => nomatch h) | (simp; done) | omega | (simp [big]; done) | exact le_big (by omega) | exact lt_big (by omega))))
  all_goals first | rfl | (exfalso; omega)

end Go.Dr.T
