/- Chapter 07: Light. -/
import Derived.Test.YtigcchafpenhiaaR07Li
namespace Go.Dr.T

def spL (l : List (Int × Int)) : Nat → Int × Int
  | 0 => (0, 10000000)
  | i + 1 => (max (spL l i).1 (loL (l[i]?.getD (1, 0))), min (spL l i).2 (hiL (l[i]?.getD (1, 0))))
theorem spL_next {l : List (Int × Int)} {i : Nat} (h : i < l.length) : spL l (i + 1) = (max (spL l i).1 (loL l[i]), min (spL l i).2 (hiL l[i])) := by
  simp only [spL, List.getElem?_eq_getElem h, Option.getD_some]
abbrev okL (l : List (Int × Int)) (i : Nat) : Prop := (spL l i).1 ≤ (spL l i).2

abbrev shs (c : Bool) (l : List (Int × Int)) : V := .sl c l.length (ofSh l)
abbrev ltV (a b k e : Int) : V := .tup [.agg [.int .i64 a, .int .i64 b], .int .i64 k, .int .i64 e]

set_option maxRecDepth 100000 in
theorem light_long {c : Bool} {l : List (Int × Int)} (h : 16 < l.length) : Fun F md 29 [shs c l] (ltV 0 0 0 3) := by
  refine fun_of rfl rfl ?_
  repeat' (first
    | (conv => whnf)
      first
      | refine Br.t ?_
      | refine Br.f ?_
      | refine Br.decT (by first | assumption | omega) ?_
      | refine Br.decF (by first | assumption | omega) ?_
      | refine Br.dec (fun _ => ?_) (fun _ => ?_)
      | refine Br.not ?_
      | refine Br.and ?_
      | refine Br.or ?_
      | refine Bnd.i64 (by omega) (by omega) ?_
      | refine Req.mk (by first | rfl | decide | exact ⟨rfl, rfl⟩ | exact ⟨rfl, by decide⟩ | exact (fun _ => rfl) | exact (fun h => nomatch h) | (simp; done) | omega | (simp [big]; done) | exact le_big (by omega) | exact lt_big (by omega)) ?_
      | refine Idx.nat (by omega) ?_
      | refine Idx.nat (le_big (by omega)) ?_
      | refine Idx.int (by omega) (by omega) ?_
      | refine Ifz.zero ?_
      | refine Ifz.pos (by omega) ?_
      | refine Get.mk _ rfl ?_
      | refine Leaves.of ?_
      | refine Ends.of ?_
      | refine Vw.bool ?_
      | refine Vw.int ?_
      | refine Vw.nil
      | refine Vw.sl
      | refine Vw.tup ?_
      | refine Vw.agg ?_
      | refine VwL.cons ?_ ?_
      | refine VwL.nil)
  all_goals rfl
set_option maxRecDepth 100000 in
theorem lightR_long {c : Bool} {l : List (Int × Int)} (h : 16 < l.length) : Fun F md 30 [shs c l] (ltV 0 0 0 3) := by
  refine fun_of rfl rfl ?_
  repeat' (first
    | (conv => whnf)
      first
      | refine Br.t ?_
      | refine Br.f ?_
      | refine Br.decT (by first | assumption | omega) ?_
      | refine Br.decF (by first | assumption | omega) ?_
      | refine Br.dec (fun _ => ?_) (fun _ => ?_)
      | refine Br.not ?_
      | refine Br.and ?_
      | refine Br.or ?_
      | refine Bnd.i64 (by omega) (by omega) ?_
      | refine Req.mk (by first | rfl | decide | exact ⟨rfl, rfl⟩ | exact ⟨rfl, by decide⟩ | exact (fun _ => rfl) | exact (fun h => nomatch h) | (simp; done) | omega | (simp [big]; done) | exact le_big (by omega) | exact lt_big (by omega)) ?_
      | refine Idx.nat (by omega) ?_
      | refine Idx.nat (le_big (by omega)) ?_
      | refine Idx.int (by omega) (by omega) ?_
      | refine Ifz.zero ?_
      | refine Ifz.pos (by omega) ?_
      | refine Get.mk _ rfl ?_
      | refine Leaves.of ?_
      | refine Ends.of ?_
      | refine Vw.bool ?_
      | refine Vw.int ?_
      | refine Vw.nil
      | refine Vw.sl
      | refine Vw.tup ?_
      | refine Vw.agg ?_
      | refine VwL.cons ?_ ?_
      | refine VwL.nil)
  all_goals rfl

theorem bad_next {l : List (Int × Int)} {k i : Nat} (hk : k < l.length) (hb : ¬ goodL l[k]) (hi : i ≤ k) (h : i < l.length) (h1 : ¬ l[i].1 < 1) (h2 : ¬ 100000 < l[i].1) (h3 : ¬ l[i].2 < 0) (h4 : ¬ 255 < l[i].2) : i + 1 ≤ k := by
  by_cases e : i = k
  · subst e; exact absurd ⟨by omega, by omega, by omega, by omega⟩ hb
  · omega

set_option maxRecDepth 100000 in
set_option maxHeartbeats 20000000 in
theorem light_bad {c : Bool} {l : List (Int × Int)} (h : l.length ≤ 16) (k : Nat) (hk : k < l.length) (hb : ¬ goodL l[k]) : Fun F md 29 [shs c l] (ltV 0 0 0 7) := by
  refine fun_of rfl rfl ?_
  repeat' (first
    | (conv => whnf)
      first
      | refine Br.t ?_
      | refine Br.f ?_
      | refine Br.decT (by first | assumption | omega) ?_
      | refine Br.decF (by first | assumption | omega) ?_
      | refine Br.dec (fun _ => ?_) (fun _ => ?_)
      | refine Br.not ?_
      | refine Br.and ?_
      | refine Br.or ?_
      | refine Bnd.i64 (by omega) (by omega) ?_
      | refine Req.mk (by first | rfl | decide | exact ⟨rfl, rfl⟩ | exact ⟨rfl, by decide⟩ | exact (fun _ => rfl) | exact (fun h => nomatch h) | (simp; done) | omega | (simp [big]; done) | exact le_big (by omega) | exact lt_big (by omega)) ?_
      | refine Idx.nat (by omega) ?_
      | refine Idx.nat (le_big (by omega)) ?_
      | refine Idx.int (by omega) (by omega) ?_
      | refine Ifz.zero ?_
      | refine Ifz.pos (by omega) ?_
      | refine Get.mk _ rfl ?_
      | refine Leaves.of ?_
      | refine Ends.of ?_
      | refine Vw.bool ?_
      | refine Vw.int ?_
      | refine Vw.nil
      | refine Vw.sl
      | refine Vw.tup ?_
      | refine Vw.agg ?_
      | refine VwL.cons ?_ ?_
      | refine VwL.nil)
  refine LoopP.by (fun i : Nat => i ≤ k) (fun i => [(18, .int .i64 (i : Nat))]) (fun i => [.blk [.int .i64 0, .int .i64 0] false]) (fun i => k - i) 0 (Nat.zero_le _) rfl ?_
  intro i hi
  have hin : i < l.length := by omega
  repeat' (first
    | (conv => whnf)
      first
      | refine Br.t ?_
      | refine Br.f ?_
      | refine Br.decT (by first | assumption | omega) ?_
      | refine Br.decF (by first | assumption | omega) ?_
      | refine Br.dec (fun _ => ?_) (fun _ => ?_)
      | refine Br.not ?_
      | refine Br.and ?_
      | refine Br.or ?_
      | refine Bnd.i64 (by omega) (by omega) ?_
      | refine call_fun rfl rfl (out_any _ _ _) (.inl rfl) ?_
      | refine Get.mk _ (ofSh_part hin) ?_
      | refine Req.mk (by first | rfl | decide | exact ⟨rfl, rfl⟩ | exact ⟨rfl, by decide⟩ | exact (fun _ => rfl) | exact (fun h => nomatch h) | (simp; done) | omega | (simp [big]; done) | exact le_big (by omega) | exact lt_big (by omega)) ?_
      | refine Idx.nat (by omega) ?_
      | refine Idx.nat (le_big (by omega)) ?_
      | refine Idx.int (by omega) (by omega) ?_
      | refine Ifz.zero ?_
      | refine Ifz.pos (by omega) ?_
      | refine Get.mk _ rfl ?_
      | refine Leaves.of ?_
      | refine Ends.of ?_
      | refine Vw.bool ?_
      | refine Vw.int ?_
      | refine Vw.nil
      | refine Vw.sl
      | refine Vw.tup ?_
      | refine Vw.agg ?_
      | refine VwL.cons ?_ ?_
      | refine VwL.nil)
  all_goals try rfl
  have hn := bad_next hk hb hi hin (by assumption) (by assumption) (by assumption) (by assumption)
  exact NextP.mk (i + 1) hn (by omega) rfl

set_option maxRecDepth 100000 in
set_option maxHeartbeats 20000000 in
theorem lightR_bad {c : Bool} {l : List (Int × Int)} (h : l.length ≤ 16) (k : Nat) (hk : k < l.length) (hb : ¬ goodL l[k]) : Fun F md 30 [shs c l] (ltV 0 0 0 7) := by
  refine fun_of rfl rfl ?_
  repeat' (first
    | (conv => whnf)
      first
      | refine Br.t ?_
      | refine Br.f ?_
      | refine Br.decT (by first | assumption | omega) ?_
      | refine Br.decF (by first | assumption | omega) ?_
      | refine Br.dec (fun _ => ?_) (fun _ => ?_)
      | refine Br.not ?_
      | refine Br.and ?_
      | refine Br.or ?_
      | refine Bnd.i64 (by omega) (by omega) ?_
      | refine Req.mk (by first | rfl | decide | exact ⟨rfl, rfl⟩ | exact ⟨rfl, by decide⟩ | exact (fun _ => rfl) | exact (fun h => nomatch h) | (simp; done) | omega | (simp [big]; done) | exact le_big (by omega) | exact lt_big (by omega)) ?_
      | refine Idx.nat (by omega) ?_
      | refine Idx.nat (le_big (by omega)) ?_
      | refine Idx.int (by omega) (by omega) ?_
      | refine Ifz.zero ?_
      | refine Ifz.pos (by omega) ?_
      | refine Get.mk _ rfl ?_
      | refine Leaves.of ?_
      | refine Ends.of ?_
      | refine Vw.bool ?_
      | refine Vw.int ?_
      | refine Vw.nil
      | refine Vw.sl
      | refine Vw.tup ?_
      | refine Vw.agg ?_
      | refine VwL.cons ?_ ?_
      | refine VwL.nil)
  refine LoopP.by (fun i : Nat => i ≤ k) (fun i => [(5, .int .i64 (i : Nat))]) (fun i => [.blk [.int .i64 0, .int .i64 0] false]) (fun i => k - i) 0 (Nat.zero_le _) rfl ?_
  intro i hi
  have hin : i < l.length := by omega
  repeat' (first
    | (conv => whnf)
      first
      | refine Br.t ?_
      | refine Br.f ?_
      | refine Br.decT (by first | assumption | omega) ?_
      | refine Br.decF (by first | assumption | omega) ?_
      | refine Br.dec (fun _ => ?_) (fun _ => ?_)
      | refine Br.not ?_
      | refine Br.and ?_
      | refine Br.or ?_
      | refine Bnd.i64 (by omega) (by omega) ?_
      | refine call_fun rfl rfl (in_any _ _ _) (.inl rfl) ?_
      | refine Get.mk _ (ofSh_cell0 hin) ?_
      | refine Get.mk _ (ofSh_cell1 hin) ?_
      | refine Req.mk (by first | rfl | decide | exact ⟨rfl, rfl⟩ | exact ⟨rfl, by decide⟩ | exact (fun _ => rfl) | exact (fun h => nomatch h) | (simp; done) | omega | (simp [big]; done) | exact le_big (by omega) | exact lt_big (by omega)) ?_
      | refine Idx.nat (by omega) ?_
      | refine Idx.nat (le_big (by omega)) ?_
      | refine Idx.int (by omega) (by omega) ?_
      | refine Ifz.zero ?_
      | refine Ifz.pos (by omega) ?_
      | refine Get.mk _ rfl ?_
      | refine Leaves.of ?_
      | refine Ends.of ?_
      | refine Vw.bool ?_
      | refine Vw.int ?_
      | refine Vw.nil
      | refine Vw.sl
      | refine Vw.tup ?_
      | refine Vw.agg ?_
      | refine VwL.cons ?_ ?_
      | refine VwL.nil)
  all_goals try rfl
  have hn := bad_next hk hb hi hin (by omega) (by omega) (by omega) (by omega)
  exact NextP.mk (i + 1) hn (by omega) rfl

/-- the shots up to the k-th agree. -/
structure Upto (l : List (Int × Int)) (k : Nat) : Prop where
  len : l.length ≤ 16
  good : ∀ x ∈ l, goodL x
  le : k ≤ l.length
  ok : ∀ j ≤ k, okL l j
theorem Upto.at {l : List (Int × Int)} {k i : Nat} (h : Upto l k) (hi : i < l.length) : goodL l[i] := h.good _ (List.getElem_mem hi)

set_option maxRecDepth 100000 in
set_option maxHeartbeats 20000000 in
theorem light_all {c : Bool} {l : List (Int × Int)} (h : Upto l l.length) : Fun F md 29 [shs c l] (ltV (spL l l.length).1 (spL l l.length).2 (-1) 0) := by
  have hl := h.len
  refine fun_of rfl rfl ?_
  repeat' (first
    | (conv => whnf)
      first
      | refine Br.t ?_
      | refine Br.f ?_
      | refine Br.decT (by first | assumption | omega) ?_
      | refine Br.decF (by first | assumption | omega) ?_
      | refine Br.dec (fun _ => ?_) (fun _ => ?_)
      | refine Br.not ?_
      | refine Br.and ?_
      | refine Br.or ?_
      | refine Bnd.i64 (by omega) (by omega) ?_
      | refine Req.mk (by first | rfl | decide | exact ⟨rfl, rfl⟩ | exact ⟨rfl, by decide⟩ | exact (fun _ => rfl) | exact (fun h => nomatch h) | (simp; done) | omega | (simp [big]; done) | exact le_big (by omega) | exact lt_big (by omega)) ?_
      | refine Idx.nat (by omega) ?_
      | refine Idx.nat (le_big (by omega)) ?_
      | refine Idx.int (by omega) (by omega) ?_
      | refine Ifz.zero ?_
      | refine Ifz.pos (by omega) ?_
      | refine Get.mk _ rfl ?_
      | refine Leaves.of ?_
      | refine Ends.of ?_
      | refine Vw.bool ?_
      | refine Vw.int ?_
      | refine Vw.nil
      | refine Vw.sl
      | refine Vw.tup ?_
      | refine Vw.agg ?_
      | refine VwL.cons ?_ ?_
      | refine VwL.nil)
  refine LoopP.by (fun i : Nat => i ≤ l.length) (fun i => [(18, .int .i64 (i : Nat))]) (fun i => [.blk [.int .i64 0, .int .i64 0] false]) (fun i => l.length - i) 0 (Nat.zero_le _) rfl ?_
  intro i hi
  by_cases hin : i < l.length
  · obtain ⟨g1, g2, g3, g4⟩ := h.at hin
    repeat' (first
      | (conv => whnf)
        first
        | refine Br.t ?_
        | refine Br.f ?_
        | refine Br.decT (by first | assumption | omega) ?_
        | refine Br.decF (by first | assumption | omega) ?_
        | refine Br.dec (fun _ => ?_) (fun _ => ?_)
        | refine Br.not ?_
        | refine Br.and ?_
        | refine Br.or ?_
        | refine Bnd.i64 (by omega) (by omega) ?_
        | refine call_fun rfl rfl (out_any _ _ _) (.inl rfl) ?_
        | refine Get.mk _ (ofSh_part hin) ?_
        | refine Req.mk (by first | rfl | decide | exact ⟨rfl, rfl⟩ | exact ⟨rfl, by decide⟩ | exact (fun _ => rfl) | exact (fun h => nomatch h) | (simp; done) | omega | (simp [big]; done) | exact le_big (by omega) | exact lt_big (by omega)) ?_
        | refine Idx.nat (by omega) ?_
        | refine Idx.nat (le_big (by omega)) ?_
        | refine Idx.int (by omega) (by omega) ?_
        | refine Ifz.zero ?_
        | refine Ifz.pos (by omega) ?_
        | refine Get.mk _ rfl ?_
        | refine Leaves.of ?_
        | refine Ends.of ?_
        | refine Vw.bool ?_
        | refine Vw.int ?_
        | refine Vw.nil
        | refine Vw.sl
        | refine Vw.tup ?_
        | refine Vw.agg ?_
        | refine VwL.cons ?_ ?_
        | refine VwL.nil)
    exact NextP.mk (i + 1) hin (by omega) rfl
  · repeat' (first
      | (conv => whnf)
        first
        | refine Br.t ?_
        | refine Br.f ?_
        | refine Br.decT (by first | assumption | omega) ?_
        | refine Br.decF (by first | assumption | omega) ?_
        | refine Br.dec (fun _ => ?_) (fun _ => ?_)
        | refine Br.not ?_
        | refine Br.and ?_
        | refine Br.or ?_
        | refine Bnd.i64 (by omega) (by omega) ?_
        | refine Req.mk (by first | rfl | decide | exact ⟨rfl, rfl⟩ | exact ⟨rfl, by decide⟩ | exact (fun _ => rfl) | exact (fun h => nomatch h) | (simp; done) | omega | (simp [big]; done) | exact le_big (by omega) | exact lt_big (by omega)) ?_
        | refine Idx.nat (by omega) ?_
        | refine Idx.nat (le_big (by omega)) ?_
        | refine Idx.int (by omega) (by omega) ?_
        | refine Ifz.zero ?_
        | refine Ifz.pos (by omega) ?_
        | refine Get.mk _ rfl ?_
        | refine Leaves.of ?_
        | refine Ends.of ?_
        | refine Vw.bool ?_
        | refine Vw.int ?_
        | refine Vw.nil
        | refine Vw.sl
        | refine Vw.tup ?_
        | refine Vw.agg ?_
        | refine VwL.cons ?_ ?_
        | refine VwL.nil)
    refine LoopP.by (fun i : Nat => i ≤ l.length) (fun i => [(35, .int .i64 (i : Nat))]) (fun i => [.blk [.int .i64 0, .int .i64 0] false, .blk [.int .i64 (spL l i).1, .int .i64 (spL l i).2] false]) (fun i => l.length - i) 0 (Nat.zero_le _) rfl ?_
    intro i hi
    by_cases hin : i < l.length
    · have hil : i < l.length := by have := h.le; omega
      have hok : max (spL l i).1 (loL l[i]) ≤ min (spL l i).2 (hiL l[i]) := by
        have := h.ok (i + 1) hin
        rw [okL, spL_next hil] at this
        exact this
      repeat' (first
        | (conv => whnf)
          first
          | refine Br.t ?_
          | refine Br.f ?_
          | refine Br.decT (by first | assumption | omega) ?_
          | refine Br.decF (by first | assumption | omega) ?_
          | refine Br.dec (fun _ => ?_) (fun _ => ?_)
          | refine Br.not ?_
          | refine Br.and ?_
          | refine Br.or ?_
          | refine Bnd.i64 (by omega) (by omega) ?_
          | refine call_fun rfl rfl (lights_any (h.at hil)) (.inl rfl) ?_
          | refine call_fun rfl rfl (common_any _ _ _ _) (.inl rfl) ?_
          | refine Get.mk _ (ofSh_part hil) ?_
          | refine Br.decT hok ?_
          | refine Br.decF (Int.not_lt.2 hok) ?_
          | refine Bnd.any ?_
          | refine Req.mk (by first | rfl | decide | exact ⟨rfl, rfl⟩ | exact ⟨rfl, by decide⟩ | exact (fun _ => rfl) | exact (fun h => nomatch h) | (simp; done) | omega | (simp [big]; done) | exact le_big (by omega) | exact lt_big (by omega)) ?_
          | refine Idx.nat (by omega) ?_
          | refine Idx.nat (le_big (by omega)) ?_
          | refine Idx.int (by omega) (by omega) ?_
          | refine Ifz.zero ?_
          | refine Ifz.pos (by omega) ?_
          | refine Get.mk _ rfl ?_
          | refine Leaves.of ?_
          | refine Ends.of ?_
          | refine Vw.bool ?_
          | refine Vw.int ?_
          | refine Vw.nil
          | refine Vw.sl
          | refine Vw.tup ?_
          | refine Vw.agg ?_
          | refine VwL.cons ?_ ?_
          | refine VwL.nil)
      refine NextP.mk (i + 1) (by omega) (by omega) ?_
      rw [spL_next hil]
      rfl
    · obtain rfl : i = l.length := by omega
      repeat' (first
        | (conv => whnf)
          first
          | refine Br.t ?_
          | refine Br.f ?_
          | refine Br.decT (by first | assumption | omega) ?_
          | refine Br.decF (by first | assumption | omega) ?_
          | refine Br.dec (fun _ => ?_) (fun _ => ?_)
          | refine Br.not ?_
          | refine Br.and ?_
          | refine Br.or ?_
          | refine Bnd.i64 (by omega) (by omega) ?_
          | refine Req.mk (by first | rfl | decide | exact ⟨rfl, rfl⟩ | exact ⟨rfl, by decide⟩ | exact (fun _ => rfl) | exact (fun h => nomatch h) | (simp; done) | omega | (simp [big]; done) | exact le_big (by omega) | exact lt_big (by omega)) ?_
          | refine Idx.nat (by omega) ?_
          | refine Idx.nat (le_big (by omega)) ?_
          | refine Idx.int (by omega) (by omega) ?_
          | refine Ifz.zero ?_
          | refine Ifz.pos (by omega) ?_
          | refine Get.mk _ rfl ?_
          | refine Leaves.of ?_
          | refine Ends.of ?_
          | refine Vw.bool ?_
          | refine Vw.int ?_
          | refine Vw.nil
          | refine Vw.sl
          | refine Vw.tup ?_
          | refine Vw.agg ?_
          | refine VwL.cons ?_ ?_
          | refine VwL.nil)
      all_goals rfl


set_option maxRecDepth 100000 in
set_option maxHeartbeats 20000000 in
theorem lightR_all {c : Bool} {l : List (Int × Int)} (h : Upto l l.length) : Fun F md 30 [shs c l] (ltV (spL l l.length).1 (spL l l.length).2 (-1) 0) := by
  have hl := h.len
  refine fun_of rfl rfl ?_
  repeat' (first
    | (conv => whnf)
      first
      | refine Br.t ?_
      | refine Br.f ?_
      | refine Br.decT (by first | assumption | omega) ?_
      | refine Br.decF (by first | assumption | omega) ?_
      | refine Br.dec (fun _ => ?_) (fun _ => ?_)
      | refine Br.not ?_
      | refine Br.and ?_
      | refine Br.or ?_
      | refine Bnd.i64 (by omega) (by omega) ?_
      | refine Req.mk (by first | rfl | decide | exact ⟨rfl, rfl⟩ | exact ⟨rfl, by decide⟩ | exact (fun _ => rfl) | exact (fun h => nomatch h) | (simp; done) | omega | (simp [big]; done) | exact le_big (by omega) | exact lt_big (by omega)) ?_
      | refine Idx.nat (by omega) ?_
      | refine Idx.nat (le_big (by omega)) ?_
      | refine Idx.int (by omega) (by omega) ?_
      | refine Ifz.zero ?_
      | refine Ifz.pos (by omega) ?_
      | refine Get.mk _ rfl ?_
      | refine Leaves.of ?_
      | refine Ends.of ?_
      | refine Vw.bool ?_
      | refine Vw.int ?_
      | refine Vw.nil
      | refine Vw.sl
      | refine Vw.tup ?_
      | refine Vw.agg ?_
      | refine VwL.cons ?_ ?_
      | refine VwL.nil)
  refine LoopP.by (fun i : Nat => i ≤ l.length) (fun i => [(5, .int .i64 (i : Nat))]) (fun i => [.blk [.int .i64 0, .int .i64 0] false]) (fun i => l.length - i) 0 (Nat.zero_le _) rfl ?_
  intro i hi
  by_cases hin : i < l.length
  · obtain ⟨g1, g2, g3, g4⟩ := h.at hin
    repeat' (first
      | (conv => whnf)
        first
        | refine Br.t ?_
        | refine Br.f ?_
        | refine Br.decT (by first | assumption | omega) ?_
        | refine Br.decF (by first | assumption | omega) ?_
        | refine Br.dec (fun _ => ?_) (fun _ => ?_)
        | refine Br.not ?_
        | refine Br.and ?_
        | refine Br.or ?_
        | refine Bnd.i64 (by omega) (by omega) ?_
        | refine call_fun rfl rfl (in_any _ _ _) (.inl rfl) ?_
        | refine Get.mk _ (ofSh_cell0 hin) ?_
        | refine Get.mk _ (ofSh_cell1 hin) ?_
        | refine Req.mk (by first | rfl | decide | exact ⟨rfl, rfl⟩ | exact ⟨rfl, by decide⟩ | exact (fun _ => rfl) | exact (fun h => nomatch h) | (simp; done) | omega | (simp [big]; done) | exact le_big (by omega) | exact lt_big (by omega)) ?_
        | refine Idx.nat (by omega) ?_
        | refine Idx.nat (le_big (by omega)) ?_
        | refine Idx.int (by omega) (by omega) ?_
        | refine Ifz.zero ?_
        | refine Ifz.pos (by omega) ?_
        | refine Get.mk _ rfl ?_
        | refine Leaves.of ?_
        | refine Ends.of ?_
        | refine Vw.bool ?_
        | refine Vw.int ?_
        | refine Vw.nil
        | refine Vw.sl
        | refine Vw.tup ?_
        | refine Vw.agg ?_
        | refine VwL.cons ?_ ?_
        | refine VwL.nil)
    exact NextP.mk (i + 1) hin (by omega) rfl
  · repeat' (first
      | (conv => whnf)
        first
        | refine Br.t ?_
        | refine Br.f ?_
        | refine Br.decT (by first | assumption | omega) ?_
        | refine Br.decF (by first | assumption | omega) ?_
        | refine Br.dec (fun _ => ?_) (fun _ => ?_)
        | refine Br.not ?_
        | refine Br.and ?_
        | refine Br.or ?_
        | refine Bnd.i64 (by omega) (by omega) ?_
        | refine Req.mk (by first | rfl | decide | exact ⟨rfl, rfl⟩ | exact ⟨rfl, by decide⟩ | exact (fun _ => rfl) | exact (fun h => nomatch h) | (simp; done) | omega | (simp [big]; done) | exact le_big (by omega) | exact lt_big (by omega)) ?_
        | refine Idx.nat (by omega) ?_
        | refine Idx.nat (le_big (by omega)) ?_
        | refine Idx.int (by omega) (by omega) ?_
        | refine Ifz.zero ?_
        | refine Ifz.pos (by omega) ?_
        | refine Get.mk _ rfl ?_
        | refine Leaves.of ?_
        | refine Ends.of ?_
        | refine Vw.bool ?_
        | refine Vw.int ?_
        | refine Vw.nil
        | refine Vw.sl
        | refine Vw.tup ?_
        | refine Vw.agg ?_
        | refine VwL.cons ?_ ?_
        | refine VwL.nil)
    refine LoopP.by (fun i : Nat => i ≤ l.length) (fun i => [(7, .int .i64 (i : Nat))]) (fun i => [.blk [.int .i64 0, .int .i64 0] false, .blk [.int .i64 (spL l i).1, .int .i64 (spL l i).2] false]) (fun i => l.length - i) 0 (Nat.zero_le _) rfl ?_
    intro i hi
    by_cases hin : i < l.length
    · have hil : i < l.length := by have := h.le; omega
      have hok : max (spL l i).1 (loL l[i]) ≤ min (spL l i).2 (hiL l[i]) := by
        have := h.ok (i + 1) hin
        rw [okL, spL_next hil] at this
        exact this
      repeat' (first
        | (conv => whnf)
          first
          | refine Br.t ?_
          | refine Br.f ?_
          | refine Br.decT (by first | assumption | omega) ?_
          | refine Br.decF (by first | assumption | omega) ?_
          | refine Br.dec (fun _ => ?_) (fun _ => ?_)
          | refine Br.not ?_
          | refine Br.and ?_
          | refine Br.or ?_
          | refine Bnd.i64 (by omega) (by omega) ?_
          | refine call_fun rfl rfl (lightsR_any (h.at hil)) (.inl rfl) ?_
          | refine Get.mk _ (ofSh_part hil) ?_
          | refine Br.decT hok ?_
          | refine Br.decF (Int.not_lt.2 hok) ?_
          | refine Bnd.any ?_
          | refine Req.mk (by first | rfl | decide | exact ⟨rfl, rfl⟩ | exact ⟨rfl, by decide⟩ | exact (fun _ => rfl) | exact (fun h => nomatch h) | (simp; done) | omega | (simp [big]; done) | exact le_big (by omega) | exact lt_big (by omega)) ?_
          | refine Idx.nat (by omega) ?_
          | refine Idx.nat (le_big (by omega)) ?_
          | refine Idx.int (by omega) (by omega) ?_
          | refine Ifz.zero ?_
          | refine Ifz.pos (by omega) ?_
          | refine Get.mk _ rfl ?_
          | refine Leaves.of ?_
          | refine Ends.of ?_
          | refine Vw.bool ?_
          | refine Vw.int ?_
          | refine Vw.nil
          | refine Vw.sl
          | refine Vw.tup ?_
          | refine Vw.agg ?_
          | refine VwL.cons ?_ ?_
          | refine VwL.nil)
      refine NextP.mk (i + 1) (by omega) (by omega) ?_
      rw [spL_next hil]
      rfl
    · obtain rfl : i = l.length := by omega
      repeat' (first
        | (conv => whnf)
          first
          | refine Br.t ?_
          | refine Br.f ?_
          | refine Br.decT (by first | assumption | omega) ?_
          | refine Br.decF (by first | assumption | omega) ?_
          | refine Br.dec (fun _ => ?_) (fun _ => ?_)
          | refine Br.not ?_
          | refine Br.and ?_
          | refine Br.or ?_
          | refine Bnd.i64 (by omega) (by omega) ?_
          | refine Req.mk (by first | rfl | decide | exact ⟨rfl, rfl⟩ | exact ⟨rfl, by decide⟩ | exact (fun _ => rfl) | exact (fun h => nomatch h) | (simp; done) | omega | (simp [big]; done) | exact le_big (by omega) | exact lt_big (by omega)) ?_
          | refine Idx.nat (by omega) ?_
          | refine Idx.nat (le_big (by omega)) ?_
          | refine Idx.int (by omega) (by omega) ?_
          | refine Ifz.zero ?_
          | refine Ifz.pos (by omega) ?_
          | refine Get.mk _ rfl ?_
          | refine Leaves.of ?_
          | refine Ends.of ?_
          | refine Vw.bool ?_
          | refine Vw.int ?_
          | refine Vw.nil
          | refine Vw.sl
          | refine Vw.tup ?_
          | refine Vw.agg ?_
          | refine VwL.cons ?_ ?_
          | refine VwL.nil)
      all_goals rfl


set_option maxRecDepth 100000 in
set_option maxHeartbeats 20000000 in
theorem light_at {c : Bool} {l : List (Int × Int)} {k : Nat} (h : Upto l k) (hk : k < l.length) (hb : ¬ okL l (k + 1)) : Fun F md 29 [shs c l] (ltV 0 0 k 0) := by
  have hl := h.len
  refine fun_of rfl rfl ?_
  repeat' (first
    | (conv => whnf)
      first
      | refine Br.t ?_
      | refine Br.f ?_
      | refine Br.decT (by first | assumption | omega) ?_
      | refine Br.decF (by first | assumption | omega) ?_
      | refine Br.dec (fun _ => ?_) (fun _ => ?_)
      | refine Br.not ?_
      | refine Br.and ?_
      | refine Br.or ?_
      | refine Bnd.i64 (by omega) (by omega) ?_
      | refine Req.mk (by first | rfl | decide | exact ⟨rfl, rfl⟩ | exact ⟨rfl, by decide⟩ | exact (fun _ => rfl) | exact (fun h => nomatch h) | (simp; done) | omega | (simp [big]; done) | exact le_big (by omega) | exact lt_big (by omega)) ?_
      | refine Idx.nat (by omega) ?_
      | refine Idx.nat (le_big (by omega)) ?_
      | refine Idx.int (by omega) (by omega) ?_
      | refine Ifz.zero ?_
      | refine Ifz.pos (by omega) ?_
      | refine Get.mk _ rfl ?_
      | refine Leaves.of ?_
      | refine Ends.of ?_
      | refine Vw.bool ?_
      | refine Vw.int ?_
      | refine Vw.nil
      | refine Vw.sl
      | refine Vw.tup ?_
      | refine Vw.agg ?_
      | refine VwL.cons ?_ ?_
      | refine VwL.nil)
  refine LoopP.by (fun i : Nat => i ≤ l.length) (fun i => [(18, .int .i64 (i : Nat))]) (fun i => [.blk [.int .i64 0, .int .i64 0] false]) (fun i => l.length - i) 0 (Nat.zero_le _) rfl ?_
  intro i hi
  by_cases hin : i < l.length
  · obtain ⟨g1, g2, g3, g4⟩ := h.at hin
    repeat' (first
      | (conv => whnf)
        first
        | refine Br.t ?_
        | refine Br.f ?_
        | refine Br.decT (by first | assumption | omega) ?_
        | refine Br.decF (by first | assumption | omega) ?_
        | refine Br.dec (fun _ => ?_) (fun _ => ?_)
        | refine Br.not ?_
        | refine Br.and ?_
        | refine Br.or ?_
        | refine Bnd.i64 (by omega) (by omega) ?_
        | refine call_fun rfl rfl (out_any _ _ _) (.inl rfl) ?_
        | refine Get.mk _ (ofSh_part hin) ?_
        | refine Req.mk (by first | rfl | decide | exact ⟨rfl, rfl⟩ | exact ⟨rfl, by decide⟩ | exact (fun _ => rfl) | exact (fun h => nomatch h) | (simp; done) | omega | (simp [big]; done) | exact le_big (by omega) | exact lt_big (by omega)) ?_
        | refine Idx.nat (by omega) ?_
        | refine Idx.nat (le_big (by omega)) ?_
        | refine Idx.int (by omega) (by omega) ?_
        | refine Ifz.zero ?_
        | refine Ifz.pos (by omega) ?_
        | refine Get.mk _ rfl ?_
        | refine Leaves.of ?_
        | refine Ends.of ?_
        | refine Vw.bool ?_
        | refine Vw.int ?_
        | refine Vw.nil
        | refine Vw.sl
        | refine Vw.tup ?_
        | refine Vw.agg ?_
        | refine VwL.cons ?_ ?_
        | refine VwL.nil)
    exact NextP.mk (i + 1) hin (by omega) rfl
  · repeat' (first
      | (conv => whnf)
        first
        | refine Br.t ?_
        | refine Br.f ?_
        | refine Br.decT (by first | assumption | omega) ?_
        | refine Br.decF (by first | assumption | omega) ?_
        | refine Br.dec (fun _ => ?_) (fun _ => ?_)
        | refine Br.not ?_
        | refine Br.and ?_
        | refine Br.or ?_
        | refine Bnd.i64 (by omega) (by omega) ?_
        | refine Req.mk (by first | rfl | decide | exact ⟨rfl, rfl⟩ | exact ⟨rfl, by decide⟩ | exact (fun _ => rfl) | exact (fun h => nomatch h) | (simp; done) | omega | (simp [big]; done) | exact le_big (by omega) | exact lt_big (by omega)) ?_
        | refine Idx.nat (by omega) ?_
        | refine Idx.nat (le_big (by omega)) ?_
        | refine Idx.int (by omega) (by omega) ?_
        | refine Ifz.zero ?_
        | refine Ifz.pos (by omega) ?_
        | refine Get.mk _ rfl ?_
        | refine Leaves.of ?_
        | refine Ends.of ?_
        | refine Vw.bool ?_
        | refine Vw.int ?_
        | refine Vw.nil
        | refine Vw.sl
        | refine Vw.tup ?_
        | refine Vw.agg ?_
        | refine VwL.cons ?_ ?_
        | refine VwL.nil)
    refine LoopP.by (fun i : Nat => i ≤ k) (fun i => [(35, .int .i64 (i : Nat))]) (fun i => [.blk [.int .i64 0, .int .i64 0] false, .blk [.int .i64 (spL l i).1, .int .i64 (spL l i).2] false]) (fun i => k - i) 0 (Nat.zero_le _) rfl ?_
    intro i hi
    by_cases hin : i < k
    · have hil : i < l.length := by have := h.le; omega
      have hok : max (spL l i).1 (loL l[i]) ≤ min (spL l i).2 (hiL l[i]) := by
        have := h.ok (i + 1) hin
        rw [okL, spL_next hil] at this
        exact this
      repeat' (first
        | (conv => whnf)
          first
          | refine Br.t ?_
          | refine Br.f ?_
          | refine Br.decT (by first | assumption | omega) ?_
          | refine Br.decF (by first | assumption | omega) ?_
          | refine Br.dec (fun _ => ?_) (fun _ => ?_)
          | refine Br.not ?_
          | refine Br.and ?_
          | refine Br.or ?_
          | refine Bnd.i64 (by omega) (by omega) ?_
          | refine call_fun rfl rfl (lights_any (h.at hil)) (.inl rfl) ?_
          | refine call_fun rfl rfl (common_any _ _ _ _) (.inl rfl) ?_
          | refine Get.mk _ (ofSh_part hil) ?_
          | refine Br.decT hok ?_
          | refine Br.decF (Int.not_lt.2 hok) ?_
          | refine Bnd.any ?_
          | refine Req.mk (by first | rfl | decide | exact ⟨rfl, rfl⟩ | exact ⟨rfl, by decide⟩ | exact (fun _ => rfl) | exact (fun h => nomatch h) | (simp; done) | omega | (simp [big]; done) | exact le_big (by omega) | exact lt_big (by omega)) ?_
          | refine Idx.nat (by omega) ?_
          | refine Idx.nat (le_big (by omega)) ?_
          | refine Idx.int (by omega) (by omega) ?_
          | refine Ifz.zero ?_
          | refine Ifz.pos (by omega) ?_
          | refine Get.mk _ rfl ?_
          | refine Leaves.of ?_
          | refine Ends.of ?_
          | refine Vw.bool ?_
          | refine Vw.int ?_
          | refine Vw.nil
          | refine Vw.sl
          | refine Vw.tup ?_
          | refine Vw.agg ?_
          | refine VwL.cons ?_ ?_
          | refine VwL.nil)
      refine NextP.mk (i + 1) (by omega) (by omega) ?_
      rw [spL_next hil]
      rfl
    · obtain rfl : i = k := by omega
      have hno : ¬ max (spL l i).1 (loL (l[i]'hk)) ≤ min (spL l i).2 (hiL (l[i]'hk)) := by
        rw [okL, spL_next hk] at hb
        exact hb
      have hil := hk
      repeat' (first
        | (conv => whnf)
          first
          | refine Br.t ?_
          | refine Br.f ?_
          | refine Br.decT (by first | assumption | omega) ?_
          | refine Br.decF (by first | assumption | omega) ?_
          | refine Br.dec (fun _ => ?_) (fun _ => ?_)
          | refine Br.not ?_
          | refine Br.and ?_
          | refine Br.or ?_
          | refine Bnd.i64 (by omega) (by omega) ?_
          | refine call_fun rfl rfl (lights_any (h.at hil)) (.inl rfl) ?_
          | refine call_fun rfl rfl (common_any _ _ _ _) (.inl rfl) ?_
          | refine Get.mk _ (ofSh_part hil) ?_
          | refine Br.decF hno ?_
          | refine Br.decT (Int.not_le.1 hno) ?_
          | refine Bnd.any ?_
          | refine Req.mk (by first | rfl | decide | exact ⟨rfl, rfl⟩ | exact ⟨rfl, by decide⟩ | exact (fun _ => rfl) | exact (fun h => nomatch h) | (simp; done) | omega | (simp [big]; done) | exact le_big (by omega) | exact lt_big (by omega)) ?_
          | refine Idx.nat (by omega) ?_
          | refine Idx.nat (le_big (by omega)) ?_
          | refine Idx.int (by omega) (by omega) ?_
          | refine Ifz.zero ?_
          | refine Ifz.pos (by omega) ?_
          | refine Get.mk _ rfl ?_
          | refine Leaves.of ?_
          | refine Ends.of ?_
          | refine Vw.bool ?_
          | refine Vw.int ?_
          | refine Vw.nil
          | refine Vw.sl
          | refine Vw.tup ?_
          | refine Vw.agg ?_
          | refine VwL.cons ?_ ?_
          | refine VwL.nil)
      all_goals rfl


set_option maxRecDepth 100000 in
set_option maxHeartbeats 20000000 in
theorem lightR_at {c : Bool} {l : List (Int × Int)} {k : Nat} (h : Upto l k) (hk : k < l.length) (hb : ¬ okL l (k + 1)) : Fun F md 30 [shs c l] (ltV 0 0 k 0) := by
  have hl := h.len
  refine fun_of rfl rfl ?_
  repeat' (first
    | (conv => whnf)
      first
      | refine Br.t ?_
      | refine Br.f ?_
      | refine Br.decT (by first | assumption | omega) ?_
      | refine Br.decF (by first | assumption | omega) ?_
      | refine Br.dec (fun _ => ?_) (fun _ => ?_)
      | refine Br.not ?_
      | refine Br.and ?_
      | refine Br.or ?_
      | refine Bnd.i64 (by omega) (by omega) ?_
      | refine Req.mk (by first | rfl | decide | exact ⟨rfl, rfl⟩ | exact ⟨rfl, by decide⟩ | exact (fun _ => rfl) | exact (fun h => nomatch h) | (simp; done) | omega | (simp [big]; done) | exact le_big (by omega) | exact lt_big (by omega)) ?_
      | refine Idx.nat (by omega) ?_
      | refine Idx.nat (le_big (by omega)) ?_
      | refine Idx.int (by omega) (by omega) ?_
      | refine Ifz.zero ?_
      | refine Ifz.pos (by omega) ?_
      | refine Get.mk _ rfl ?_
      | refine Leaves.of ?_
      | refine Ends.of ?_
      | refine Vw.bool ?_
      | refine Vw.int ?_
      | refine Vw.nil
      | refine Vw.sl
      | refine Vw.tup ?_
      | refine Vw.agg ?_
      | refine VwL.cons ?_ ?_
      | refine VwL.nil)
  refine LoopP.by (fun i : Nat => i ≤ l.length) (fun i => [(5, .int .i64 (i : Nat))]) (fun i => [.blk [.int .i64 0, .int .i64 0] false]) (fun i => l.length - i) 0 (Nat.zero_le _) rfl ?_
  intro i hi
  by_cases hin : i < l.length
  · obtain ⟨g1, g2, g3, g4⟩ := h.at hin
    repeat' (first
      | (conv => whnf)
        first
        | refine Br.t ?_
        | refine Br.f ?_
        | refine Br.decT (by first | assumption | omega) ?_
        | refine Br.decF (by first | assumption | omega) ?_
        | refine Br.dec (fun _ => ?_) (fun _ => ?_)
        | refine Br.not ?_
        | refine Br.and ?_
        | refine Br.or ?_
        | refine Bnd.i64 (by omega) (by omega) ?_
        | refine call_fun rfl rfl (in_any _ _ _) (.inl rfl) ?_
        | refine Get.mk _ (ofSh_cell0 hin) ?_
        | refine Get.mk _ (ofSh_cell1 hin) ?_
        | refine Req.mk (by first | rfl | decide | exact ⟨rfl, rfl⟩ | exact ⟨rfl, by decide⟩ | exact (fun _ => rfl) | exact (fun h => nomatch h) | (simp; done) | omega | (simp [big]; done) | exact le_big (by omega) | exact lt_big (by omega)) ?_
        | refine Idx.nat (by omega) ?_
        | refine Idx.nat (le_big (by omega)) ?_
        | refine Idx.int (by omega) (by omega) ?_
        | refine Ifz.zero ?_
        | refine Ifz.pos (by omega) ?_
        | refine Get.mk _ rfl ?_
        | refine Leaves.of ?_
        | refine Ends.of ?_
        | refine Vw.bool ?_
        | refine Vw.int ?_
        | refine Vw.nil
        | refine Vw.sl
        | refine Vw.tup ?_
        | refine Vw.agg ?_
        | refine VwL.cons ?_ ?_
        | refine VwL.nil)
    exact NextP.mk (i + 1) hin (by omega) rfl
  · repeat' (first
      | (conv => whnf)
        first
        | refine Br.t ?_
        | refine Br.f ?_
        | refine Br.decT (by first | assumption | omega) ?_
        | refine Br.decF (by first | assumption | omega) ?_
        | refine Br.dec (fun _ => ?_) (fun _ => ?_)
        | refine Br.not ?_
        | refine Br.and ?_
        | refine Br.or ?_
        | refine Bnd.i64 (by omega) (by omega) ?_
        | refine Req.mk (by first | rfl | decide | exact ⟨rfl, rfl⟩ | exact ⟨rfl, by decide⟩ | exact (fun _ => rfl) | exact (fun h => nomatch h) | (simp; done) | omega | (simp [big]; done) | exact le_big (by omega) | exact lt_big (by omega)) ?_
        | refine Idx.nat (by omega) ?_
        | refine Idx.nat (le_big (by omega)) ?_
        | refine Idx.int (by omega) (by omega) ?_
        | refine Ifz.zero ?_
        | refine Ifz.pos (by omega) ?_
        | refine Get.mk _ rfl ?_
        | refine Leaves.of ?_
        | refine Ends.of ?_
        | refine Vw.bool ?_
        | refine Vw.int ?_
        | refine Vw.nil
        | refine Vw.sl
        | refine Vw.tup ?_
        | refine Vw.agg ?_
        | refine VwL.cons ?_ ?_
        | refine VwL.nil)
    refine LoopP.by (fun i : Nat => i ≤ k) (fun i => [(7, .int .i64 (i : Nat))]) (fun i => [.blk [.int .i64 0, .int .i64 0] false, .blk [.int .i64 (spL l i).1, .int .i64 (spL l i).2] false]) (fun i => k - i) 0 (Nat.zero_le _) rfl ?_
    intro i hi
    by_cases hin : i < k
    · have hil : i < l.length := by have := h.le; omega
      have hok : max (spL l i).1 (loL l[i]) ≤ min (spL l i).2 (hiL l[i]) := by
        have := h.ok (i + 1) hin
        rw [okL, spL_next hil] at this
        exact this
      repeat' (first
        | (conv => whnf)
          first
          | refine Br.t ?_
          | refine Br.f ?_
          | refine Br.decT (by first | assumption | omega) ?_
          | refine Br.decF (by first | assumption | omega) ?_
          | refine Br.dec (fun _ => ?_) (fun _ => ?_)
          | refine Br.not ?_
          | refine Br.and ?_
          | refine Br.or ?_
          | refine Bnd.i64 (by omega) (by omega) ?_
          | refine call_fun rfl rfl (lightsR_any (h.at hil)) (.inl rfl) ?_
          | refine Get.mk _ (ofSh_part hil) ?_
          | refine Br.decT hok ?_
          | refine Br.decF (Int.not_lt.2 hok) ?_
          | refine Bnd.any ?_
          | refine Req.mk (by first | rfl | decide | exact ⟨rfl, rfl⟩ | exact ⟨rfl, by decide⟩ | exact (fun _ => rfl) | exact (fun h => nomatch h) | (simp; done) | omega | (simp [big]; done) | exact le_big (by omega) | exact lt_big (by omega)) ?_
          | refine Idx.nat (by omega) ?_
          | refine Idx.nat (le_big (by omega)) ?_
          | refine Idx.int (by omega) (by omega) ?_
          | refine Ifz.zero ?_
          | refine Ifz.pos (by omega) ?_
          | refine Get.mk _ rfl ?_
          | refine Leaves.of ?_
          | refine Ends.of ?_
          | refine Vw.bool ?_
          | refine Vw.int ?_
          | refine Vw.nil
          | refine Vw.sl
          | refine Vw.tup ?_
          | refine Vw.agg ?_
          | refine VwL.cons ?_ ?_
          | refine VwL.nil)
      refine NextP.mk (i + 1) (by omega) (by omega) ?_
      rw [spL_next hil]
      rfl
    · obtain rfl : i = k := by omega
      have hno : ¬ max (spL l i).1 (loL (l[i]'hk)) ≤ min (spL l i).2 (hiL (l[i]'hk)) := by
        rw [okL, spL_next hk] at hb
        exact hb
      have hil := hk
      repeat' (first
        | (conv => whnf)
          first
          | refine Br.t ?_
          | refine Br.f ?_
          | refine Br.decT (by first | assumption | omega) ?_
          | refine Br.decF (by first | assumption | omega) ?_
          | refine Br.dec (fun _ => ?_) (fun _ => ?_)
          | refine Br.not ?_
          | refine Br.and ?_
          | refine Br.or ?_
          | refine Bnd.i64 (by omega) (by omega) ?_
          | refine call_fun rfl rfl (lightsR_any (h.at hil)) (.inl rfl) ?_
          | refine Get.mk _ (ofSh_part hil) ?_
          | refine Br.decF hno ?_
          | refine Br.decT (Int.not_le.1 hno) ?_
          | refine Bnd.any ?_
          | refine Req.mk (by first | rfl | decide | exact ⟨rfl, rfl⟩ | exact ⟨rfl, by decide⟩ | exact (fun _ => rfl) | exact (fun h => nomatch h) | (simp; done) | omega | (simp [big]; done) | exact le_big (by omega) | exact lt_big (by omega)) ?_
          | refine Idx.nat (by omega) ?_
          | refine Idx.nat (le_big (by omega)) ?_
          | refine Idx.int (by omega) (by omega) ?_
          | refine Ifz.zero ?_
          | refine Ifz.pos (by omega) ?_
          | refine Get.mk _ rfl ?_
          | refine Leaves.of ?_
          | refine Ends.of ?_
          | refine Vw.bool ?_
          | refine Vw.int ?_
          | refine Vw.nil
          | refine Vw.sl
          | refine Vw.tup ?_
          | refine Vw.agg ?_
          | refine VwL.cons ?_ ?_
          | refine VwL.nil)
      all_goals rfl


theorem light_cases (l : List (Int × Int)) : 16 < l.length ∨ (l.length ≤ 16 ∧ ∃ k, ∃ hk : k < l.length, ¬ goodL l[k]) ∨ Upto l l.length ∨ ∃ k, Upto l k ∧ k < l.length ∧ ¬ okL l (k + 1) := by
  by_cases h1 : 16 < l.length
  · exact .inl h1
  · by_cases h2 : ∀ x ∈ l, goodL x
    · have key : ∀ n, n ≤ l.length → (∀ j ≤ n, okL l j) ∨ ∃ k, (∀ j ≤ k, okL l j) ∧ k < n ∧ ¬ okL l (k + 1) := by
        intro n
        induction n with
        | zero => intro _; left; intro j hj; obtain rfl : j = 0 := by omega
                  show (0 : Int) ≤ 10000000; decide
        | succ n ih =>
          intro hn
          rcases ih (by omega) with h | ⟨k, h3, h4, h5⟩
          · by_cases h6 : okL l (n + 1)
            · left; intro j hj
              by_cases e : j = n + 1
              · subst e; exact h6
              · exact h j (by omega)
            · exact .inr ⟨n, h, by omega, h6⟩
          · exact .inr ⟨k, h3, by omega, h5⟩
      rcases key l.length (Nat.le_refl _) with h | ⟨k, h3, h4, h5⟩
      · exact .inr (.inr (.inl ⟨by omega, h2, Nat.le_refl _, h⟩))
      · exact .inr (.inr (.inr ⟨k, ⟨by omega, h2, by omega, h3⟩, h4, h5⟩))
    · simp only [Classical.not_forall] at h2
      obtain ⟨x, hx, hb⟩ := h2
      obtain ⟨k, hk, rfl⟩ := List.getElem_of_mem hx
      exact .inr (.inl ⟨by omega, k, hk, hb⟩)

theorem lights_both (c : Bool) (l : List (Int × Int)) : ∃ a b k e, Fun F md 29 [shs c l] (ltV a b k e) ∧ Fun F md 30 [shs c l] (ltV a b k e) := by
  rcases light_cases l with h | ⟨h, k, hk, hb⟩ | h | ⟨k, h, hk, hb⟩
  · exact ⟨_, _, _, _, light_long h, lightR_long h⟩
  · exact ⟨_, _, _, _, light_bad h k hk hb, lightR_bad h k hk hb⟩
  · exact ⟨_, _, _, _, light_all h, lightR_all h⟩
  · exact ⟨_, _, _, _, light_at h hk hb, lightR_at h hk hb⟩

end Go.Dr.T
