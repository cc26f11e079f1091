/- Chapter 09: the law SoundTracks. -/
import Derived.Test.YtokbdaiamhibeaaR09Tl
namespace Go.Dr.T

theorem checkL_good {w h : Int} {n : Nat} (hc : checkL w h n = 0) : ∃ W H : Nat, w = (W : Int) ∧ h = (H : Int) ∧ 1 ≤ W ∧ W ≤ 48 ∧ 1 ≤ H ∧ H ≤ 48 ∧ n = W * H := by
  unfold checkL at hc
  split at hc
  · cases hc
  · rename_i hr
    split at hc
    · rename_i hn
      obtain ⟨W, rfl⟩ := Int.eq_ofNat_of_zero_le (show 0 ≤ w by omega)
      obtain ⟨H, rfl⟩ := Int.eq_ofNat_of_zero_le (show 0 ≤ h by omega)
      refine ⟨W, H, rfl, rfl, by omega, by omega, by omega, by omega, ?_⟩
      have : (n : Int) = ((W * H : Nat) : Int) := by rw [hn]; push_cast; rfl
      omega
    · cases hc
abbrev trV (c : Bool) (A : List (Int × Int)) (k : Int) : V := .tup [.sl c A.length (ofSp A), .int .i64 k]
theorem tracks_any (w h w' h' kind : Int) (c c' : Bool) (l m : List UInt8) : ∃ c1 c2 A k, Fun F md 17 [frV w h c l, frV w' h' c' m, .int .i64 kind] (trV c1 A k) ∧ Fun F md 18 [frV w h c l, frV w' h' c' m, .int .i64 kind] (trV c2 A k) ∧ A.length ≤ 1000000 := by
  have a1 := check_any w h c l
  have a2 := check_any w' h' c' m
  have b1 := checkR_any w h c l
  have b2 := checkR_any w' h' c' m
  have bad : ∀ k, BadT w h w' h' kind (checkL w h l.length) (checkL w' h' m.length) k → ∃ c1 c2 A k, Fun F md 17 [frV w h c l, frV w' h' c' m, .int .i64 kind] (trV c1 A k) ∧ Fun F md 18 [frV w h c l, frV w' h' c' m, .int .i64 kind] (trV c2 A k) ∧ A.length ≤ 1000000 :=
    fun k hb => ⟨true, true, [], k, track_bad a1 a2 hb, trackR_bad b1 b2 hb, by simp⟩
  by_cases e1 : checkL w h l.length = 0
  · by_cases e2 : checkL w' h' m.length = 0
    · by_cases e3 : w ≠ w' ∨ h ≠ h' ∨ (kind ≠ 1 ∧ kind ≠ 2)
      · exact bad 2 (.inr (.inr ⟨e1, e2, rfl, e3⟩))
      · obtain rfl : w = w' := by omega
        obtain rfl : h = h' := by omega
        obtain ⟨W, H, rfl, rfl, h1, h2, h3, h4, hl⟩ := checkL_good e1
        obtain ⟨W', H', q1, q2, _, _, _, _, hm⟩ := checkL_good e2
        obtain rfl : W = W' := by omega
        obtain rfl : H = H' := by omega
        have hk : kind = 1 ∨ kind = 2 := by omega
        have hR := trackR_ok (c := c) (c' := c') hk h1 h2 h3 h4 hl hm
        have hL := rowsL_length kind W l m H
        refine ⟨decide (H = H), false, rowsL kind W l m H, 0, ?_, ?_, by omega⟩
        · unfold trV
          rw [hL]
          rcases hk with rfl | rfl
          · rw [← rowsL_all]; exact track_one h1 h2 h3 h4 hl hm
          · rw [← rowsL_all]; exact track_two h1 h2 h3 h4 hl hm
        · unfold trV
          rw [hL]; exact hR
    · exact bad _ (.inr (.inl ⟨e1, e2, rfl⟩))
  · exact bad _ (.inl ⟨e1, rfl⟩)

set_option maxRecDepth 100000 in
set_option maxHeartbeats 20000000 in
theorem law_tracks (w h w' h' kind : Int) (c c' : Bool) (l m : List UInt8) : Fun F md 3 [frV w h c l, frV w' h' c' m, .int .i64 kind] (.bool true) := by
  obtain ⟨c1, c2, A, k, hA, hB, hl⟩ := tracks_any w h w' h' kind c c' l m
  have hs := spans_same (c := c1) (c' := c2) hl
  refine fun_of rfl rfl ?_
  repeat' (first
    | (conv => whnf)
      first
      | refine Br.t ?_
      | refine Br.f ?_
      | (refine Br.decT ?_ ?_; (focus first | assumption | omega))
      | (refine Br.decF ?_ ?_; (focus first | assumption | omega))
      | refine Br.dec (fun _ => ?_) (fun _ => ?_)
      | refine Br.not ?_
      | refine Br.and ?_
      | refine Br.or ?_
      | (refine Bnd.i64 ?_ ?_ ?_; (focus omega); (focus omega))
      | refine call_fun rfl rfl hA (.inl rfl) ?_
      | refine call_fun rfl rfl hB (.inl rfl) ?_
      | refine call_fun rfl rfl hs (.inl rfl) ?_
      | refine call_fun rfl rfl awake (.inl rfl) ?_
      | (refine Idx.nat ?_ ?_; (focus omega))
      | refine Idx.nat (le_big (by omega)) ?_
      | (refine Idx.int ?_ ?_ ?_; (focus omega); (focus omega))
      | (refine Idx.int ?_ ?_ ?_; (focus decide); (focus decide))
      | refine Ifz.zero ?_
      | (refine Ifz.pos ?_ ?_; (focus omega))
      | refine Get.mk _ rfl ?_
      | refine Leaves.of ?_
      | refine Ends.of ?_
      | refine Vw.bool ?_
      | refine Vw.int ?_
      | refine Vw.nil
      | refine Vw.sl
      | refine Vw.tup ?_
      | refine Vw.agg ?_
      | refine VwL.cons ?_ ?_
      | refine VwL.nil
      | refine LeavesF.of ?_
      | refine VwF.bool ?_
      | refine VwF.int ?_
      | refine VwF.nil
      | refine VwF.sl
      | refine VwF.tup ?_
      | refine VwF.agg ?_
      | refine VwLF.cons ?_ ?_
      | refine VwLF.nil
      | (refine Req.mk ?_ ?_; (focus first | rfl | decide | exact ⟨rfl, rfl⟩ | exact ⟨rfl, by decide⟩ | exact (fun _ => rfl) | exact (fun h => nomatch h) | (simp; done) | omega | (simp [big]; done) | exact le_big (by omega) | exact lt_big (by omega))))
  all_goals first | rfl | omega

end Go.Dr.T
