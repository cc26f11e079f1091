/- Chapter 07: Flicker, both, in all cases; the law ScanFlickers. -/
import Derived.Test.YtigcchafpenhiaaR07Fh
import Derived.Test.YtigcchafpenhiaaR07Awk
namespace Go.Dr.T

abbrev ptV (a b d e : Int) : V := .agg [.int .i64 a, .int .i64 b, .int .i64 d, .int .i64 e]
abbrev flV (c1 c2 : Bool) (A : List (Int × Int)) (B : List Int) (k : Int) : V := .tup [.sl c1 A.length (ofSh A), .sl c2 B.length (B.map (V.int .i64)), .int .i64 k]

set_option maxRecDepth 100000 in
set_option maxHeartbeats 20000000 in
theorem flicker_bad {c : Bool} {l : List Fr} {k : Int} (hk : k ≠ 0) (hS : strangeL l = k) (a b d e : Int) : Fun F md 39 [.sl c l.length (ofFr l), ptV a b d e] (flV true true [] [] k) := by
  have h := strange_any c l
  rw [hS] at h
  refine fun_of rfl rfl ?_
  repeat' (first
    | (conv => whnf)
      first
      | refine Br.t ?_
      | refine Br.f ?_
      | (refine Br.decT ?_ ?_; (focus first | assumption | omega))
      | (refine Br.decF ?_ ?_; (focus first | assumption | omega))
      | refine Br.dec (fun _ => ?_) (fun _ => ?_)
      | refine Br.not ?_
      | refine Br.and ?_
      | refine Br.or ?_
      | (refine Bnd.i64 ?_ ?_ ?_; (focus omega); (focus omega))
      | refine call_fun rfl rfl h (.inl rfl) ?_
      | (refine Idx.nat ?_ ?_; (focus omega))
      | refine Idx.nat (le_big (by omega)) ?_
      | (refine Idx.int ?_ ?_ ?_; (focus omega); (focus omega))
      | (refine Idx.int ?_ ?_ ?_; (focus decide); (focus decide))
      | refine Ifz.zero ?_
      | (refine Ifz.pos ?_ ?_; (focus omega))
      | refine Get.mk _ rfl ?_
      | refine Leaves.of ?_
      | refine Ends.of ?_
      | refine Vw.bool ?_
      | refine Vw.int ?_
      | refine Vw.nil
      | refine Vw.sl
      | refine Vw.tup ?_
      | refine Vw.agg ?_
      | refine VwL.cons ?_ ?_
      | refine VwL.nil
      | refine LeavesF.of ?_
      | refine VwF.bool ?_
      | refine VwF.int ?_
      | refine VwF.nil
      | refine VwF.sl
      | refine VwF.tup ?_
      | refine VwF.agg ?_
      | refine VwLF.cons ?_ ?_
      | refine VwLF.nil
      | (refine Req.mk ?_ ?_; (focus first | rfl | decide | exact ⟨rfl, rfl⟩ | exact ⟨rfl, by decide⟩ | exact (fun _ => rfl) | exact (fun h => nomatch h) | (simp; done) | omega | (simp [big]; done) | exact le_big (by omega) | exact lt_big (by omega))))
  all_goals rfl
set_option maxRecDepth 100000 in
set_option maxHeartbeats 20000000 in
theorem flickerR_bad {c : Bool} {l : List Fr} {k : Int} (hk : k ≠ 0) (hS : strangeL l = k) (a b d e : Int) : Fun F md 40 [.sl c l.length (ofFr l), ptV a b d e] (flV true true [] [] k) := by
  have h := list_any c l
  rw [hS] at h
  refine fun_of rfl rfl ?_
  repeat' (first
    | (conv => whnf)
      first
      | refine Br.t ?_
      | refine Br.f ?_
      | (refine Br.decT ?_ ?_; (focus first | assumption | omega))
      | (refine Br.decF ?_ ?_; (focus first | assumption | omega))
      | refine Br.dec (fun _ => ?_) (fun _ => ?_)
      | refine Br.not ?_
      | refine Br.and ?_
      | refine Br.or ?_
      | (refine Bnd.i64 ?_ ?_ ?_; (focus omega); (focus omega))
      | refine call_fun rfl rfl h (.inl rfl) ?_
      | (refine Idx.nat ?_ ?_; (focus omega))
      | refine Idx.nat (le_big (by omega)) ?_
      | (refine Idx.int ?_ ?_ ?_; (focus omega); (focus omega))
      | (refine Idx.int ?_ ?_ ?_; (focus decide); (focus decide))
      | refine Ifz.zero ?_
      | (refine Ifz.pos ?_ ?_; (focus omega))
      | refine Get.mk _ rfl ?_
      | refine Leaves.of ?_
      | refine Ends.of ?_
      | refine Vw.bool ?_
      | refine Vw.int ?_
      | refine Vw.nil
      | refine Vw.sl
      | refine Vw.tup ?_
      | refine Vw.agg ?_
      | refine VwL.cons ?_ ?_
      | refine VwL.nil
      | refine LeavesF.of ?_
      | refine VwF.bool ?_
      | refine VwF.int ?_
      | refine VwF.nil
      | refine VwF.sl
      | refine VwF.tup ?_
      | refine VwF.agg ?_
      | refine VwLF.cons ?_ ?_
      | refine VwLF.nil
      | (refine Req.mk ?_ ?_; (focus first | rfl | decide | exact ⟨rfl, rfl⟩ | exact ⟨rfl, by decide⟩ | exact (fun _ => rfl) | exact (fun h => nomatch h) | (simp; done) | omega | (simp [big]; done) | exact le_big (by omega) | exact lt_big (by omega))))
  all_goals rfl
set_option maxRecDepth 100000 in
set_option maxHeartbeats 20000000 in
theorem flicker_out {W H : Nat} {c : Bool} {l : List Fr} {b0 : List UInt8} (h2 : W ≤ 48) (h4 : H ≤ 48) (hS : strangeL l = 0) (hn : 0 < l.length) (hp0 : part (ofFr l) (0 * 3) 3 = some [.int .i64 (W : Nat), .int .i64 (H : Nat), .sl false b0.length (ofBytes b0)]) {a b d e : Int} (hout : outA W H a b d e = true) : Fun F md 39 [.sl c l.length (ofFr l), ptV a b d e] (flV true true [] [] 2) := by
  have h := strange_any c l
  rw [hS] at h
  have hO := outside_any (c0 := false) (l := b0) h2 h4 a b d e
  rw [hout] at hO
  generalize l.length = L at *
  refine fun_of rfl rfl ?_
  repeat' (first
    | (conv => whnf)
      first
      | refine Br.t ?_
      | refine Br.f ?_
      | (refine Br.decT ?_ ?_; (focus first | assumption | omega))
      | (refine Br.decF ?_ ?_; (focus first | assumption | omega))
      | refine Br.dec (fun _ => ?_) (fun _ => ?_)
      | refine Br.not ?_
      | refine Br.and ?_
      | refine Br.or ?_
      | (refine Bnd.i64 ?_ ?_ ?_; (focus omega); (focus omega))
      | refine call_fun rfl rfl h (.inl rfl) ?_
      | refine Get.mk _ hp0 ?_
      | refine call_fun rfl rfl hO (.inl rfl) ?_
      | (refine Idx.int ?_ ?_ ?_; (focus omega); (focus omega))
      | (refine Idx.nat ?_ ?_; (focus omega))
      | refine Idx.nat (le_big (by omega)) ?_
      | (refine Idx.int ?_ ?_ ?_; (focus omega); (focus omega))
      | (refine Idx.int ?_ ?_ ?_; (focus decide); (focus decide))
      | refine Ifz.zero ?_
      | (refine Ifz.pos ?_ ?_; (focus omega))
      | refine Get.mk _ rfl ?_
      | refine Leaves.of ?_
      | refine Ends.of ?_
      | refine Vw.bool ?_
      | refine Vw.int ?_
      | refine Vw.nil
      | refine Vw.sl
      | refine Vw.tup ?_
      | refine Vw.agg ?_
      | refine VwL.cons ?_ ?_
      | refine VwL.nil
      | refine LeavesF.of ?_
      | refine VwF.bool ?_
      | refine VwF.int ?_
      | refine VwF.nil
      | refine VwF.sl
      | refine VwF.tup ?_
      | refine VwF.agg ?_
      | refine VwLF.cons ?_ ?_
      | refine VwLF.nil
      | (refine Req.mk ?_ ?_; (focus first | rfl | decide | exact ⟨rfl, rfl⟩ | exact ⟨rfl, by decide⟩ | exact (fun _ => rfl) | exact (fun h => nomatch h) | (simp; done) | omega | (simp [big]; done) | exact le_big (by omega) | exact lt_big (by omega))))
  all_goals rfl
set_option maxRecDepth 100000 in
set_option maxHeartbeats 20000000 in
theorem flickerR_out {W H : Nat} {c : Bool} {l : List Fr} {b0 : List UInt8} (h2 : W ≤ 48) (h4 : H ≤ 48) (hS : strangeL l = 0) (hn : 0 < l.length) (hp0 : part (ofFr l) (0 * 3) 3 = some [.int .i64 (W : Nat), .int .i64 (H : Nat), .sl false b0.length (ofBytes b0)]) {a b d e : Int} (hout : outA W H a b d e = true) : Fun F md 40 [.sl c l.length (ofFr l), ptV a b d e] (flV true true [] [] 2) := by
  have h := list_any c l
  rw [hS] at h
  have hO := area_any (c0 := false) (l := b0) h2 h4 a b d e
  rw [hout] at hO
  generalize l.length = L at *
  refine fun_of rfl rfl ?_
  repeat' (first
    | (conv => whnf)
      first
      | refine Br.t ?_
      | refine Br.f ?_
      | (refine Br.decT ?_ ?_; (focus first | assumption | omega))
      | (refine Br.decF ?_ ?_; (focus first | assumption | omega))
      | refine Br.dec (fun _ => ?_) (fun _ => ?_)
      | refine Br.not ?_
      | refine Br.and ?_
      | refine Br.or ?_
      | (refine Bnd.i64 ?_ ?_ ?_; (focus omega); (focus omega))
      | refine call_fun rfl rfl h (.inl rfl) ?_
      | refine Get.mk _ hp0 ?_
      | refine call_fun rfl rfl hO (.inl rfl) ?_
      | (refine Idx.int ?_ ?_ ?_; (focus omega); (focus omega))
      | (refine Idx.nat ?_ ?_; (focus omega))
      | refine Idx.nat (le_big (by omega)) ?_
      | (refine Idx.int ?_ ?_ ?_; (focus omega); (focus omega))
      | (refine Idx.int ?_ ?_ ?_; (focus decide); (focus decide))
      | refine Ifz.zero ?_
      | (refine Ifz.pos ?_ ?_; (focus omega))
      | refine Get.mk _ rfl ?_
      | refine Leaves.of ?_
      | refine Ends.of ?_
      | refine Vw.bool ?_
      | refine Vw.int ?_
      | refine Vw.nil
      | refine Vw.sl
      | refine Vw.tup ?_
      | refine Vw.agg ?_
      | refine VwL.cons ?_ ?_
      | refine VwL.nil
      | refine LeavesF.of ?_
      | refine VwF.bool ?_
      | refine VwF.int ?_
      | refine VwF.nil
      | refine VwF.sl
      | refine VwF.tup ?_
      | refine VwF.agg ?_
      | refine VwLF.cons ?_ ?_
      | refine VwLF.nil
      | (refine Req.mk ?_ ?_; (focus first | rfl | decide | exact ⟨rfl, rfl⟩ | exact ⟨rfl, by decide⟩ | exact (fun _ => rfl) | exact (fun h => nomatch h) | (simp; done) | omega | (simp [big]; done) | exact le_big (by omega) | exact lt_big (by omega))))
  all_goals rfl

theorem checkL_good {w h : Int} {n : Nat} (hc : checkL w h n = 0) : ∃ W H : Nat, w = (W : Int) ∧ h = (H : Int) ∧ 1 ≤ W ∧ W ≤ 48 ∧ 1 ≤ H ∧ H ≤ 48 ∧ n = W * H := by
  unfold checkL at hc
  split at hc
  · cases hc
  · rename_i hr
    split at hc
    · rename_i hn
      obtain ⟨W, rfl⟩ := Int.eq_ofNat_of_zero_le (show 0 ≤ w by omega)
      obtain ⟨H, rfl⟩ := Int.eq_ofNat_of_zero_le (show 0 ≤ h by omega)
      refine ⟨W, H, rfl, rfl, by omega, by omega, by omega, by omega, ?_⟩
      have : (n : Int) = ((W * H : Nat) : Int) := by rw [hn]; push_cast; rfl
      omega
    · cases hc

/-- a list of frames that is not strange. -/
structure Good (l : List Fr) (W H n : Nat) (b0 : List UInt8) (rb : Nat → List UInt8) : Prop where
  h1 : 1 ≤ W
  h2 : W ≤ 48
  h3 : 1 ≤ H
  h4 : H ≤ 48
  hn : l.length = n + 1
  hn2 : n ≤ 23
  hp0 : part (ofFr l) (0 * 3) 3 = some [.int .i64 (W : Nat), .int .i64 (H : Nat), .sl false b0.length (ofBytes b0)]
  hpr : part (ofFr l) (1 * 3) ((l.length - 1) * 3) = some (ofFr l.tail)
  hpl : ∀ k < n, part (ofFr l) ((k + 1) * 3) 3 = some [.int .i64 (W : Nat), .int .i64 (H : Nat), .sl false (rb k).length (ofBytes (rb k))]
  hpt : ∀ k < n, part (ofFr l.tail) (k * 3) 3 = some [.int .i64 (W : Nat), .int .i64 (H : Nat), .sl false (rb k).length (ofBytes (rb k))]
  hb0 : b0.length = W * H
  hlen : ∀ k < n, (rb k).length = W * H
theorem good_of {l : List Fr} (hS : strangeL l = 0) : ∃ W H n b0 rb, Good l W H n b0 rb := by
  cases l with
  | nil => simp [strangeL] at hS
  | cons f0 r =>
    simp only [strangeL] at hS
    split at hS
    · cases hS
    rename_i hlen
    have hg := strL_good hS
    obtain ⟨w, h, b0⟩ := f0
    obtain ⟨hc, _, _⟩ := hg (w, h, b0) (by simp)
    simp only at hc hg
    obtain ⟨W, H, rfl, rfl, h1, h2, h3, h4, hb⟩ := checkL_good hc
    have hr : ∀ k (hk : k < r.length), r[k].1 = (W : Int) ∧ r[k].2.1 = (H : Int) ∧ r[k].2.2.length = W * H := by
      intro k hk
      obtain ⟨q1, q2, q3⟩ := hg r[k] (by simp)
      rw [q2, q3] at q1
      obtain ⟨W', H', e1, e2, _, _, _, _, q⟩ := checkL_good q1
      have : W = W' := by omega
      have : H = H' := by omega
      subst W' H'
      exact ⟨q2, q3, q⟩
    refine ⟨W, H, r.length, b0, fun k => (r[k]?.getD (0, 0, [])).2.2, h1, h2, h3, h4, by simp, by omega, ?_, ?_, ?_, ?_, hb, ?_⟩
    · exact ofFr_part (l := ((W : Int), (H : Int), b0) :: r) (i := 0) (by simp)
    · simp only [List.length_cons, Nat.add_sub_cancel, List.tail_cons]
      show part (ofFr r) 0 _ = _
      exact part_all (ofFr_length r)
    · intro k hk
      have := ofFr_part (l := ((W : Int), (H : Int), b0) :: r) (i := k + 1) (by simpa using hk)
      rw [this]
      obtain ⟨q1, q2, _⟩ := hr k hk
      simp only [List.getElem_cons_succ, List.getElem?_eq_getElem hk, Option.getD_some, q1, q2]
    · intro k hk
      have := ofFr_part (l := r) (i := k) hk
      simp only [List.tail_cons]
      rw [this]
      obtain ⟨q1, q2, _⟩ := hr k hk
      simp only [List.getElem?_eq_getElem hk, Option.getD_some, q1, q2]
    · intro k hk
      simp only [List.getElem?_eq_getElem hk, Option.getD_some]
      exact (hr k hk).2.2

theorem flickers_any (c : Bool) (l : List Fr) (a b d e : Int) : ∃ c1 c2 c3 c4 A B k, Fun F md 39 [.sl c l.length (ofFr l), ptV a b d e] (flV c1 c2 A B k) ∧ Fun F md 40 [.sl c l.length (ofFr l), ptV a b d e] (flV c3 c4 A B k) ∧ A.length ≤ 1000 ∧ B.length ≤ 1000 := by
  by_cases hS : strangeL l = 0
  · obtain ⟨W, H, n, b0, rb, g⟩ := good_of hS
    cases ho : outA W H a b d e with
    | true =>
      exact ⟨true, true, true, true, [], [], 2, flicker_out g.h2 g.h4 hS (by have := g.hn; omega) g.hp0 ho, flickerR_out g.h2 g.h4 hS (by have := g.hn; omega) g.hp0 ho, by simp, by simp⟩
    | false =>
      have ho' : 0 ≤ a ∧ a ≤ b ∧ b < W ∧ 0 ≤ d ∧ d ≤ e ∧ e < H := by
        unfold outA at ho
        simp only [Bool.not_eq_false', Bool.and_eq_true, decide_eq_true_eq] at ho
        obtain ⟨⟨⟨⟨⟨q1, q2⟩, q3⟩, q4⟩, q5⟩, q6⟩ := ho
        exact ⟨q1, q2, q3, q4, q5, q6⟩
      obtain ⟨q1, q2, q3, q4, q5, q6⟩ := ho'
      obtain ⟨a, rfl⟩ := Int.eq_ofNat_of_zero_le q1
      obtain ⟨b, rfl⟩ := Int.eq_ofNat_of_zero_le (show 0 ≤ b by omega)
      obtain ⟨d, rfl⟩ := Int.eq_ofNat_of_zero_le q4
      obtain ⟨e, rfl⟩ := Int.eq_ofNat_of_zero_le (show 0 ≤ e by omega)
      have hn := g.hn
      have hn2 := g.hn2
      have hw := wrsF_le (W := W) (H := H) (b0 := b0) (rb := rb) (a := a) (d := d) (nx := b + 1 - a) (ny := e + 1 - d) n
      have hal := allF_length (W := W) (H := H) (b0 := b0) (rb := rb) (a := a) (d := d) (nx := b + 1 - a) (ny := e + 1 - d) n
      exact ⟨_, _, _, _, _, _, _, flicker_ok (r := l.tail) g.h1 g.h2 g.h3 g.h4 hS hn hn2 (by simp [hn]) g.hp0 g.hpr g.hpt g.hb0 g.hlen (nx := b + 1 - a) (ny := e + 1 - d) (by omega) (by omega) (by omega) (by omega) (by omega) (by omega) rfl rfl,
        flickerR_ok g.h1 g.h2 g.h3 g.h4 hS hn hn2 g.hp0 g.hpl g.hb0 g.hlen (nx := b + 1 - a) (ny := e + 1 - d) (by omega) (by omega) (by omega) (by omega) (by omega) (by omega) rfl rfl, by omega, by omega⟩
  · exact ⟨true, true, true, true, [], [], _, flicker_bad hS rfl a b d e, flickerR_bad hS rfl a b d e, by simp, by simp⟩

set_option maxRecDepth 100000 in
set_option maxHeartbeats 20000000 in
theorem law_flickers (c : Bool) (l : List Fr) (a b d e : Int) : Fun F md 12 [.sl c l.length (ofFr l), ptV a b d e] (.bool true) := by
  obtain ⟨c1, c2, c3, c4, A, B, k, hA, hB, hl1, hl2⟩ := flickers_any c l a b d e
  have hs := spans_same (c := c1) (c' := c3) hl1
  have hi := ints_same (c := c2) (c' := c4) hl2
  generalize l.length = L at *
  generalize ofFr l = l' at *
  refine fun_of rfl rfl ?_
  repeat' (first
    | (conv => whnf)
      first
      | refine Br.t ?_
      | refine Br.f ?_
      | (refine Br.decT ?_ ?_; (focus first | assumption | omega))
      | (refine Br.decF ?_ ?_; (focus first | assumption | omega))
      | refine Br.dec (fun _ => ?_) (fun _ => ?_)
      | refine Br.not ?_
      | refine Br.and ?_
      | refine Br.or ?_
      | (refine Bnd.i64 ?_ ?_ ?_; (focus omega); (focus omega))
      | refine call_fun rfl rfl hA (.inl rfl) ?_
      | refine call_fun rfl rfl hB (.inl rfl) ?_
      | refine call_fun rfl rfl hs (.inl rfl) ?_
      | refine call_fun rfl rfl hi (.inl rfl) ?_
      | refine call_fun rfl rfl awake (.inl rfl) ?_
      | refine Bnd.any ?_
      | (refine Idx.nat ?_ ?_; (focus omega))
      | refine Idx.nat (le_big (by omega)) ?_
      | (refine Idx.int ?_ ?_ ?_; (focus omega); (focus omega))
      | (refine Idx.int ?_ ?_ ?_; (focus decide); (focus decide))
      | refine Ifz.zero ?_
      | (refine Ifz.pos ?_ ?_; (focus omega))
      | refine Get.mk _ rfl ?_
      | refine Leaves.of ?_
      | refine Ends.of ?_
      | refine Vw.bool ?_
      | refine Vw.int ?_
      | refine Vw.nil
      | refine Vw.sl
      | refine Vw.tup ?_
      | refine Vw.agg ?_
      | refine VwL.cons ?_ ?_
      | refine VwL.nil
      | refine LeavesF.of ?_
      | refine VwF.bool ?_
      | refine VwF.int ?_
      | refine VwF.nil
      | refine VwF.sl
      | refine VwF.tup ?_
      | refine VwF.agg ?_
      | refine VwLF.cons ?_ ?_
      | refine VwLF.nil
      | (refine Req.mk ?_ ?_; (focus first | rfl | decide | exact ⟨rfl, rfl⟩ | exact ⟨rfl, by decide⟩ | exact (fun _ => rfl) | exact (fun h => nomatch h) | (simp; done) | omega | (simp [big]; done) | exact le_big (by omega) | exact lt_big (by omega))))
  all_goals first | rfl | omega

end Go.Dr.T
