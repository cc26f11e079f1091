/- Chapter 07: the law of Dusts. -/
import Derived.Test.YtigcchafpenhiaaR07Dj
import Derived.Test.YtigcchafpenhiaaR07Awk
namespace Go.Dr.T

theorem checkL_zeroD {w h : Int} {n : Nat} (hc : checkL w h n = 0) : ∃ W H : Nat, w = W ∧ h = H ∧ 1 ≤ W ∧ W ≤ 48 ∧ 1 ≤ H ∧ H ≤ 48 ∧ n = W * H := by
  unfold checkL at hc
  split at hc
  · omega
  · rename_i hb
    split at hc
    · rename_i he
      obtain ⟨W, rfl⟩ := Int.eq_ofNat_of_zero_le (show 0 ≤ w by omega)
      obtain ⟨H, rfl⟩ := Int.eq_ofNat_of_zero_le (show 0 ≤ h by omega)
      refine ⟨W, H, rfl, rfl, by omega, by omega, by omega, by omega, ?_⟩
      have : ((n : Nat) : Int) = ((W * H : Nat) : Int) := by rw [he]; push_cast; rfl
      exact Int.ofNat.inj this
    · omega

theorem part5 (s : Spt) (B : List V) : part (P5 s ++ B) 0 5 = some (P5 s) := by cases B <;> rfl
set_option maxRecDepth 100000 in
set_option maxHeartbeats 20000000 in
theorem same_spots (c c' : Bool) (S : List Spt) (hn : S.length ≤ 1000000) : Fun F md 37 [.sl c S.length (ofSpt S), .sl c' S.length (ofSpt S)] (.bool true) := by
  have hlen := ofSpt_length S
  refine fun_of rfl rfl ?_
  repeat' (first
    | (conv => whnf)
      first
      | refine Br.t ?_
      | refine Br.f ?_
      | (refine Br.decT ?_ ?_; (focus first | assumption | omega))
      | (refine Br.decF ?_ ?_; (focus first | assumption | omega))
      | refine Br.dec (fun _ => ?_) (fun _ => ?_)
      | refine Br.not ?_
      | refine Br.and ?_
      | refine Br.or ?_
      | (refine Bnd.i64 ?_ ?_ ?_; (focus omega); (focus omega))
      | (refine Idx.nat ?_ ?_; (focus omega))
      | refine Idx.nat (le_big (by omega)) ?_
      | (refine Idx.int ?_ ?_ ?_; (focus omega); (focus omega))
      | (refine Idx.int ?_ ?_ ?_; (focus decide); (focus decide))
      | refine Ifz.zero ?_
      | (refine Ifz.pos ?_ ?_; (focus omega))
      | refine Get.mk _ rfl ?_
      | refine Leaves.of ?_
      | refine Ends.of ?_
      | refine Vw.bool ?_
      | refine Vw.int ?_
      | refine Vw.nil
      | refine Vw.sl
      | refine Vw.tup ?_
      | refine Vw.agg ?_
      | refine VwL.cons ?_ ?_
      | refine VwL.nil
      | refine LeavesF.of ?_
      | refine VwF.bool ?_
      | refine VwF.int ?_
      | refine VwF.nil
      | refine VwF.sl
      | refine VwF.tup ?_
      | refine VwF.agg ?_
      | refine VwLF.cons ?_ ?_
      | refine VwLF.nil
      | (refine Req.mk ?_ ?_; (focus first | rfl | decide | exact ⟨rfl, rfl⟩ | exact ⟨rfl, by decide⟩ | exact (fun _ => rfl) | exact (fun h => nomatch h) | (simp; done) | omega | (simp [big]; done) | exact le_big (by omega) | exact lt_big (by omega))))
  all_goals try (exfalso; omega)
  refine LoopP.by (fun i : Nat => i ≤ S.length) (fun i => [(5, .int .i64 (i : Nat))]) (fun _ => []) (fun i => S.length - i) 0 (Nat.zero_le _) rfl ?_
  intro i hi
  by_cases hin : i < S.length
  · obtain ⟨A, B, hA, hof, -, -⟩ := ofSpt_split hin
    have hq : part (ofSpt S) (i * 5) 5 = some (P5 S[i]) := by
      rw [hof, show i * 5 = A.length + 0 by omega, part_app, part5]
    generalize S[i] = s at *
    clear hof
    generalize ofSpt S = C at *
    repeat' (first
      | (conv => whnf)
        first
        | refine Br.t ?_
        | refine Br.f ?_
        | (refine Br.decT ?_ ?_; (focus first | assumption | omega))
        | (refine Br.decF ?_ ?_; (focus first | assumption | omega))
        | refine Br.dec (fun _ => ?_) (fun _ => ?_)
        | refine Br.not ?_
        | refine Br.and ?_
        | refine Br.or ?_
        | (refine Bnd.i64 ?_ ?_ ?_; (focus omega); (focus omega))
        | refine Get.mk _ hq ?_
        | (refine Idx.nat ?_ ?_; (focus omega))
        | refine Idx.nat (le_big (by omega)) ?_
        | (refine Idx.int ?_ ?_ ?_; (focus omega); (focus omega))
        | (refine Idx.int ?_ ?_ ?_; (focus decide); (focus decide))
        | refine Ifz.zero ?_
        | (refine Ifz.pos ?_ ?_; (focus omega))
        | refine Get.mk _ rfl ?_
        | refine Leaves.of ?_
        | refine Ends.of ?_
        | refine Vw.bool ?_
        | refine Vw.int ?_
        | refine Vw.nil
        | refine Vw.sl
        | refine Vw.tup ?_
        | refine Vw.agg ?_
        | refine VwL.cons ?_ ?_
        | refine VwL.nil
        | refine LeavesF.of ?_
        | refine VwF.bool ?_
        | refine VwF.int ?_
        | refine VwF.nil
        | refine VwF.sl
        | refine VwF.tup ?_
        | refine VwF.agg ?_
        | refine VwLF.cons ?_ ?_
        | refine VwLF.nil
        | (refine Req.mk ?_ ?_; (focus first | rfl | decide | exact ⟨rfl, rfl⟩ | exact ⟨rfl, by decide⟩ | exact (fun _ => rfl) | exact (fun h => nomatch h) | (simp; done) | omega | (simp [big]; done) | exact le_big (by omega) | exact lt_big (by omega))))
    all_goals first | exact NextP.mk (i + 1) (by omega) (by omega) rfl | (exfalso; omega)
  · repeat' (first
      | (conv => whnf)
        first
        | refine Br.t ?_
        | refine Br.f ?_
        | (refine Br.decT ?_ ?_; (focus first | assumption | omega))
        | (refine Br.decF ?_ ?_; (focus first | assumption | omega))
        | refine Br.dec (fun _ => ?_) (fun _ => ?_)
        | refine Br.not ?_
        | refine Br.and ?_
        | refine Br.or ?_
        | (refine Bnd.i64 ?_ ?_ ?_; (focus omega); (focus omega))
        | (refine Idx.nat ?_ ?_; (focus omega))
        | refine Idx.nat (le_big (by omega)) ?_
        | (refine Idx.int ?_ ?_ ?_; (focus omega); (focus omega))
        | (refine Idx.int ?_ ?_ ?_; (focus decide); (focus decide))
        | refine Ifz.zero ?_
        | (refine Ifz.pos ?_ ?_; (focus omega))
        | refine Get.mk _ rfl ?_
        | refine Leaves.of ?_
        | refine Ends.of ?_
        | refine Vw.bool ?_
        | refine Vw.int ?_
        | refine Vw.nil
        | refine Vw.sl
        | refine Vw.tup ?_
        | refine Vw.agg ?_
        | refine VwL.cons ?_ ?_
        | refine VwL.nil
        | refine LeavesF.of ?_
        | refine VwF.bool ?_
        | refine VwF.int ?_
        | refine VwF.nil
        | refine VwF.sl
        | refine VwF.tup ?_
        | refine VwF.agg ?_
        | refine VwLF.cons ?_ ?_
        | refine VwLF.nil
        | (refine Req.mk ?_ ?_; (focus first | rfl | decide | exact ⟨rfl, rfl⟩ | exact ⟨rfl, by decide⟩ | exact (fun _ => rfl) | exact (fun h => nomatch h) | (simp; done) | omega | (simp [big]; done) | exact le_big (by omega) | exact lt_big (by omega))))
    all_goals first | rfl | (exfalso; omega)

set_option maxRecDepth 100000 in
theorem spots_bad {w h : Int} {c : Bool} {l : List UInt8} (hck : ¬ checkL w h l.length = 0) : Fun F md 35 [frV w h c l] (sptV [] (checkL w h l.length)) := by
  refine fun_of rfl rfl ?_
  repeat' (first
    | (conv => whnf)
      first
      | refine Br.t ?_
      | refine Br.f ?_
      | (refine Br.decT ?_ ?_; (focus first | assumption | omega))
      | (refine Br.decF ?_ ?_; (focus first | assumption | omega))
      | refine Br.dec (fun _ => ?_) (fun _ => ?_)
      | refine Br.not ?_
      | refine Br.and ?_
      | refine Br.or ?_
      | (refine Bnd.i64 ?_ ?_ ?_; (focus omega); (focus omega))
      | refine call_fun rfl rfl (check_any _ _ _ _) (.inl rfl) ?_
      | (refine Idx.nat ?_ ?_; (focus omega))
      | refine Idx.nat (le_big (by omega)) ?_
      | (refine Idx.int ?_ ?_ ?_; (focus omega); (focus omega))
      | (refine Idx.int ?_ ?_ ?_; (focus decide); (focus decide))
      | refine Ifz.zero ?_
      | (refine Ifz.pos ?_ ?_; (focus omega))
      | refine Get.mk _ rfl ?_
      | refine Leaves.of ?_
      | refine Ends.of ?_
      | refine Vw.bool ?_
      | refine Vw.int ?_
      | refine Vw.nil
      | refine Vw.sl
      | refine Vw.tup ?_
      | refine Vw.agg ?_
      | refine VwL.cons ?_ ?_
      | refine VwL.nil
      | refine LeavesF.of ?_
      | refine VwF.bool ?_
      | refine VwF.int ?_
      | refine VwF.nil
      | refine VwF.sl
      | refine VwF.tup ?_
      | refine VwF.agg ?_
      | refine VwLF.cons ?_ ?_
      | refine VwLF.nil
      | (refine Req.mk ?_ ?_; (focus first | rfl | decide | exact ⟨rfl, rfl⟩ | exact ⟨rfl, by decide⟩ | exact (fun _ => rfl) | exact (fun h => nomatch h) | (simp; done) | omega | (simp [big]; done) | exact le_big (by omega) | exact lt_big (by omega))))
  all_goals rfl
set_option maxRecDepth 100000 in
theorem spotsR_bad {w h : Int} {c : Bool} {l : List UInt8} (hck : ¬ checkL w h l.length = 0) : Fun F md 36 [frV w h c l] (sptV [] (checkL w h l.length)) := by
  refine fun_of rfl rfl ?_
  repeat' (first
    | (conv => whnf)
      first
      | refine Br.t ?_
      | refine Br.f ?_
      | (refine Br.decT ?_ ?_; (focus first | assumption | omega))
      | (refine Br.decF ?_ ?_; (focus first | assumption | omega))
      | refine Br.dec (fun _ => ?_) (fun _ => ?_)
      | refine Br.not ?_
      | refine Br.and ?_
      | refine Br.or ?_
      | (refine Bnd.i64 ?_ ?_ ?_; (focus omega); (focus omega))
      | refine call_fun rfl rfl (checkR_any _ _ _ _) (.inl rfl) ?_
      | (refine Idx.nat ?_ ?_; (focus omega))
      | refine Idx.nat (le_big (by omega)) ?_
      | (refine Idx.int ?_ ?_ ?_; (focus omega); (focus omega))
      | (refine Idx.int ?_ ?_ ?_; (focus decide); (focus decide))
      | refine Ifz.zero ?_
      | (refine Ifz.pos ?_ ?_; (focus omega))
      | refine Get.mk _ rfl ?_
      | refine Leaves.of ?_
      | refine Ends.of ?_
      | refine Vw.bool ?_
      | refine Vw.int ?_
      | refine Vw.nil
      | refine Vw.sl
      | refine Vw.tup ?_
      | refine Vw.agg ?_
      | refine VwL.cons ?_ ?_
      | refine VwL.nil
      | refine LeavesF.of ?_
      | refine VwF.bool ?_
      | refine VwF.int ?_
      | refine VwF.nil
      | refine VwF.sl
      | refine VwF.tup ?_
      | refine VwF.agg ?_
      | refine VwLF.cons ?_ ?_
      | refine VwLF.nil
      | (refine Req.mk ?_ ?_; (focus first | rfl | decide | exact ⟨rfl, rfl⟩ | exact ⟨rfl, by decide⟩ | exact (fun _ => rfl) | exact (fun h => nomatch h) | (simp; done) | omega | (simp [big]; done) | exact le_big (by omega) | exact lt_big (by omega))))
  all_goals rfl

theorem dusts_any (w h : Int) (c : Bool) (l : List UInt8) (b g : Int) : ∃ w' h' c' l' e,
    Fun F md 33 [frV w h c l, .int .i64 b, .int .i64 g] (.tup [frV w' h' c' l', .int .i64 e]) ∧ Fun F md 34 [frV w h c l, .int .i64 b, .int .i64 g] (.tup [frV w' h' c' l', .int .i64 e]) := by
  by_cases hck : checkL w h l.length = 0
  · by_cases hd : 0 ≤ b ∧ b ≤ 256 ∧ 0 ≤ g ∧ g ≤ 12
    · obtain ⟨W, H, rfl, rfl, h1, h2, h3, h4, hl⟩ := checkL_zeroD hck
      exact ⟨_, _, _, _, _, dust_ok h1 h2 h3 h4 hl (by omega) (by omega), dustR_ok h1 h2 h3 h4 hl (by omega) (by omega)⟩
    · exact ⟨_, _, _, _, _, dust_far hck hd, dustR_far hck hd⟩
  · exact ⟨_, _, _, _, _, dust_bad hck _ _, dustR_bad hck _ _⟩
theorem spots_any (w h : Int) (c : Bool) (l : List UInt8) : ∃ S e, S.length ≤ 2304 ∧ Fun F md 35 [frV w h c l] (sptV S e) ∧ Fun F md 36 [frV w h c l] (sptV S e) := by
  by_cases hck : checkL w h l.length = 0
  · obtain ⟨W, H, rfl, rfl, h1, h2, h3, h4, hl⟩ := checkL_zeroD hck
    have hWH : W * H ≤ 2304 := Nat.mul_le_mul h2 h4
    have e := spots_ok (c := c) h1 h2 h3 h4 hl
    rw [Nat.mul_comm H W] at e
    exact ⟨_, _, Nat.le_trans (spS_room hl (W * H)).2 hWH, e, spotsR_ok h1 h2 h3 h4 hl⟩
  · exact ⟨_, _, by simp, spots_bad hck, spotsR_bad hck⟩

set_option maxRecDepth 100000 in
set_option maxHeartbeats 20000000 in
theorem law_dusts (w h : Int) (c : Bool) (l : List UInt8) (b g : Int) : Fun F md 10 [frV w h c l, .int .i64 b, .int .i64 g] (.bool true) := by
  obtain ⟨w', h', c', l', e, hm1, hm2⟩ := dusts_any w h c l b g
  obtain ⟨S, e2, hS, hs1, hs2⟩ := spots_any w h c l
  have hsm := same_spots (decide (S.length = 0)) (decide (S.length = 0)) S (by omega)
  refine fun_of rfl rfl ?_
  repeat' (first
    | (conv => whnf)
      first
      | refine Br.t ?_
      | refine Br.f ?_
      | (refine Br.decT ?_ ?_; (focus first | assumption | omega))
      | (refine Br.decF ?_ ?_; (focus first | assumption | omega))
      | refine Br.dec (fun _ => ?_) (fun _ => ?_)
      | refine Br.not ?_
      | refine Br.and ?_
      | refine Br.or ?_
      | (refine Bnd.i64 ?_ ?_ ?_; (focus omega); (focus omega))
      | refine Br.yes (beq_self_eq_true _) ?_
      | refine call_fun rfl rfl (sameR_any _ _ _ _ _ _ _ _) (.inl rfl) ?_
      | refine call_fun rfl rfl hm1 (.inl rfl) ?_
      | refine call_fun rfl rfl hm2 (.inl rfl) ?_
      | refine call_fun rfl rfl hs1 (.inl rfl) ?_
      | refine call_fun rfl rfl hs2 (.inl rfl) ?_
      | refine call_fun rfl rfl hsm (.inl rfl) ?_
      | refine call_fun rfl rfl awake (.inl rfl) ?_
      | (refine Idx.nat ?_ ?_; (focus omega))
      | refine Idx.nat (le_big (by omega)) ?_
      | (refine Idx.int ?_ ?_ ?_; (focus omega); (focus omega))
      | (refine Idx.int ?_ ?_ ?_; (focus decide); (focus decide))
      | refine Ifz.zero ?_
      | (refine Ifz.pos ?_ ?_; (focus omega))
      | refine Get.mk _ rfl ?_
      | refine Leaves.of ?_
      | refine Ends.of ?_
      | refine Vw.bool ?_
      | refine Vw.int ?_
      | refine Vw.nil
      | refine Vw.sl
      | refine Vw.tup ?_
      | refine Vw.agg ?_
      | refine VwL.cons ?_ ?_
      | refine VwL.nil
      | refine LeavesF.of ?_
      | refine VwF.bool ?_
      | refine VwF.int ?_
      | refine VwF.nil
      | refine VwF.sl
      | refine VwF.tup ?_
      | refine VwF.agg ?_
      | refine VwLF.cons ?_ ?_
      | refine VwLF.nil
      | (refine Req.mk ?_ ?_; (focus first | rfl | decide | exact ⟨rfl, rfl⟩ | exact ⟨rfl, by decide⟩ | exact (fun _ => rfl) | exact (fun h => nomatch h) | (simp; done) | omega | (simp [big]; done) | exact le_big (by omega) | exact lt_big (by omega))))
  all_goals first | rfl | omega | exact absurd rfl (by assumption)

end Go.Dr.T
