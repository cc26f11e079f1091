/- Chapter 07: the law ScanLight. -/
import Derived.Test.YtigcchafpenhiaaR07Ev
import Derived.Test.YtigcchafpenhiaaR07Lj
import Derived.Test.YtigcchafpenhiaaR07Awk
namespace Go.Dr.T

def clL (x : Int) : Int := max 0 (min 10000000 x)
def exL (x : Int) : Int := max 1 (min 100000 x)
theorem clL_range (x : Int) : 0 ≤ clL x ∧ clL x ≤ 10000000 := by unfold clL; omega
theorem exL_range (x : Int) : 1 ≤ exL x ∧ exL x ≤ 100000 := by unfold exL; omega
/-- the shots, their levels made anew. -/
def mkL (y : Int) (l : List (Int × Int)) : List (Int × Int) := l.map fun x => (exL x.1, lvL y (exL x.1))
theorem mkL_length (y : Int) (l : List (Int × Int)) : (mkL y l).length = l.length := List.length_map _

theorem level_lo {y e : Int} (hy : 0 ≤ y ∧ y ≤ 10000000) (he : 1 ≤ e ∧ e ≤ 100000) : loL (e, lvL y e) ≤ y := by
  have hr := lvL_range hy he
  have hm := mul_range hy (e := e) (b := 100000) (by omega)
  unfold loL
  simp only
  rw [Int.tdiv_eq_ediv_of_nonneg (by omega)]
  have h1 : 1000000 * lvL y e ≤ y * e := by
    unfold lvL
    rw [Int.tdiv_eq_ediv_of_nonneg hm.1]
    omega
  have h2 : 1000000 * lvL y e + e - 1 < (y + 1) * e := by rw [Int.add_mul, Int.one_mul]; omega
  have := Int.ediv_lt_of_lt_mul (show 0 < e by omega) h2
  omega
theorem level_hi {y e : Int} (hy : 0 ≤ y ∧ y ≤ 10000000) (he : 1 ≤ e ∧ e ≤ 100000) : y ≤ hiL (e, lvL y e) := by
  have hr := lvL_range hy he
  have hm := mul_range hy (e := e) (b := 100000) (by omega)
  unfold hiL
  simp only
  split
  · rename_i h
    rw [Int.tdiv_eq_ediv_of_nonneg (by omega)]
    have h1 : y * e ≤ 1000000 * (lvL y e + 1) - 1 := by
      unfold lvL at h ⊢
      rw [Int.tdiv_eq_ediv_of_nonneg hm.1] at h ⊢
      omega
    have := (Int.le_ediv_iff_mul_le (show 0 < e by omega)).2 h1
    omega
  · exact hy.2
theorem mkL_has {y : Int} (hy : 0 ≤ y ∧ y ≤ 10000000) (l : List (Int × Int)) : ∀ i, i ≤ l.length → (spL (mkL y l) i).1 ≤ y ∧ y ≤ (spL (mkL y l) i).2
  | 0, _ => by simp only [spL]; omega
  | i + 1, h => by
    obtain ⟨h1, h2⟩ := mkL_has hy l i (by omega)
    rw [spL_next (by rw [mkL_length]; omega)]
    have e : (mkL y l)[i]'(by rw [mkL_length]; omega) = (exL l[i].1, lvL y (exL l[i].1)) := by simp [mkL]
    rw [e]
    have a := level_lo hy (exL_range l[i].1)
    have b := level_hi hy (exL_range l[i].1)
    simp only
    omega
theorem mkL_upto {y : Int} (hy : 0 ≤ y ∧ y ≤ 10000000) {l : List (Int × Int)} (h : l.length ≤ 16) : Upto (mkL y l) (mkL y l).length := by
  refine ⟨by rw [mkL_length]; exact h, ?_, Nat.le_refl _, ?_⟩
  · intro x hx
    simp only [mkL, List.mem_map] at hx
    obtain ⟨z, _, rfl⟩ := hx
    have a := exL_range z.1
    have b := lvL_range hy a
    exact ⟨a.1, a.2, b.1, b.2⟩
  · intro j hj
    have := mkL_has hy l j (by rw [mkL_length] at hj; exact hj)
    unfold okL
    omega

theorem spL_more (l : List (Int × Int)) (x : Int × Int) : ∀ i, i ≤ l.length → spL (l ++ [x]) i = spL l i
  | 0, _ => rfl
  | i + 1, h => by
    rw [spL_next (by simp; omega), spL_next (show i < l.length by omega), spL_more l x i (by omega)]
    rw [List.getElem_append_left (by omega)]
theorem spL_last (l : List (Int × Int)) (x : Int × Int) : spL (l ++ [x]) (l.length + 1) = (max (spL l l.length).1 (loL x), min (spL l l.length).2 (hiL x)) := by
  rw [spL_next (by simp), spL_more l x _ (Nat.le_refl _)]
  simp

inductive Lk (l : List (Int × Int)) : Prop where
  | bad (e : Int) : e ≠ 0 → (∀ c, Fun F md 29 [shs c l] (ltV 0 0 0 e)) → Lk l
  | all : Upto l l.length → Lk l
  | at (k : Nat) : Upto l k → k < l.length → ¬ okL l (k + 1) → Lk l
theorem lk_any (l : List (Int × Int)) : Lk l := by
  rcases light_cases l with h | ⟨h, k, hk, hb⟩ | h | ⟨k, h, hk, hb⟩
  · exact .bad 3 (by decide) fun c => light_long h
  · exact .bad 7 (by decide) fun c => light_bad h k hk hb
  · exact .all h
  · exact .at k h hk hb

theorem ofSh_append (a b : List (Int × Int)) : ofSh (a ++ b) = ofSh a ++ ofSh b := by
  induction a with
  | nil => rfl
  | cons x a ih => simp only [List.cons_append, ofSh, ih]
theorem scalars_ofSh (l : List (Int × Int)) : scalars (ofSh l) = true := by
  induction l with
  | nil => rfl
  | cons x l ih => simp [ofSh, scalars, V.scalar, ih]
theorem VwL.sh {h : List B} {d : Nat} (l : List (Int × Int)) : VwL h (d + 1) (ofSh l) (ofSh l) := by
  induction l with
  | nil => exact VwL.nil
  | cons x l ih => exact VwL.cons (Vw.int rfl) (VwL.cons (Vw.int rfl) ih)
theorem sh_views {h : List B} {id g len : Nat} {clip dat : Bool} {cs : List V} {l : List (Int × Int)} (h1 : bget h id = some (.blk cs dat)) (h0 : cs = ofSh l) (h2 : g = 2 * l.length) (h3 : len = l.length) :
    views h depth ([.ms 2 id g 0 len clip] ++ []) = some [shs clip l] := by
  subst h0 h2 h3
  have e : (ofSh l).length = 2 * l.length := by rw [ofSh_length]; omega
  exact (VwL.cons (Vw.ms h1 e (part_all (by rw [e]; omega)) (VwL.sh l)) VwL.nil : VwL h 64 _ _).1

/-- the first shots, made anew. -/
def mkT (y : Int) (l : List (Int × Int)) (i : Nat) : List V := ofSh ((mkL y l).take i)
theorem mkT_length {y : Int} {l : List (Int × Int)} {i : Nat} (h : i ≤ l.length) : (mkT y l i).length = 2 * i := by
  unfold mkT; rw [ofSh_length, List.length_take, mkL_length]; omega
theorem mkT_one {y : Int} {l : List (Int × Int)} (h : 0 < l.length) : mkT y l 1 = [.int .i64 (exL l[0].1), .int .i64 (lvL y (exL l[0].1))] := by
  cases l with
  | nil => simp at h
  | cons x l => rfl
theorem mkT_snoc {y : Int} {l : List (Int × Int)} {i : Nat} (h : i < l.length) : mkT y l (i + 1) = mkT y l i ++ [.int .i64 (exL l[i].1), .int .i64 (lvL y (exL l[i].1))] := by
  unfold mkT
  rw [List.take_add_one, ofSh_append, List.getElem?_eq_getElem (by rw [mkL_length]; exact h)]
  simp [mkL, ofSh]
theorem mkT_all (y : Int) (l : List (Int × Int)) : mkT y l l.length = ofSh (mkL y l) := by
  unfold mkT; rw [List.take_of_length_le (by rw [mkL_length]; exact Nat.le_refl _)]
attribute [local irreducible] mkT

/-- What Light returns for some shots, and with a further one. -/
inductive Two (l : List (Int × Int)) (x : Int × Int) : Prop where
  | bad1 (e a b k f : Int) : e ≠ 0 → (∀ c, Fun F md 29 [shs c l] (ltV 0 0 0 e)) → (∀ c, Fun F md 29 [shs c (l ++ [x])] (ltV a b k f)) → Two l x
  | bad2 (a b k f : Int) : f ≠ 0 → (∀ c, Fun F md 29 [shs c l] (ltV a b k 0)) → (∀ c, Fun F md 29 [shs c (l ++ [x])] (ltV 0 0 0 f)) → Two l x
  | stop (k : Nat) : (∀ c, Fun F md 29 [shs c l] (ltV 0 0 k 0)) → (∀ c, Fun F md 29 [shs c (l ++ [x])] (ltV 0 0 k 0)) → Two l x
  | last (a b : Int) : (∀ c, Fun F md 29 [shs c l] (ltV a b (-1) 0)) → (∀ c, Fun F md 29 [shs c (l ++ [x])] (ltV 0 0 l.length 0)) → Two l x
  | all (a b a' b' : Int) : a ≤ a' → b' ≤ b → (∀ c, Fun F md 29 [shs c l] (ltV a b (-1) 0)) → (∀ c, Fun F md 29 [shs c (l ++ [x])] (ltV a' b' (-1) 0)) → Two l x
theorem okL_more {l : List (Int × Int)} {x : Int × Int} {i : Nat} (h : i ≤ l.length) : okL (l ++ [x]) i ↔ okL l i := by
  unfold okL; rw [spL_more l x i h]
theorem two_any (l : List (Int × Int)) (x : Int × Int) : Two l x := by
  have hn : (l ++ [x]).length = l.length + 1 := by simp
  rcases lk_any l with ⟨e, he, hA⟩ | hA | ⟨k, hA, hk, hno⟩
  · rcases lk_any (l ++ [x]) with ⟨f, hf, hB⟩ | hB | ⟨k, hB, hk, hno⟩
    · exact .bad1 e 0 0 0 f he hA hB
    · exact .bad1 e _ _ _ _ he hA (fun c => light_all hB)
    · exact .bad1 e _ _ _ _ he hA (fun c => light_at hB hk hno)
  · rcases lk_any (l ++ [x]) with ⟨f, hf, hB⟩ | hB | ⟨k, hB, hk, hno⟩
    · exact .bad2 _ _ _ f hf (fun c => light_all hA) hB
    · refine .all _ _ _ _ ?_ ?_ (fun c => light_all hA) (fun c => light_all hB)
      · rw [hn, spL_last]; simp only; omega
      · rw [hn, spL_last]; simp only; omega
    · have e : k = l.length := by
        have h1 : ¬ k + 1 ≤ l.length := fun h => hno ((okL_more h).2 (hA.ok _ h))
        omega
      subst e
      exact .last _ _ (fun c => light_all hA) (fun c => light_at hB hk hno)
  · rcases lk_any (l ++ [x]) with ⟨f, hf, hB⟩ | hB | ⟨k', hB, hk', hno'⟩
    · exact .bad2 _ _ _ f hf (fun c => light_at hA hk hno) hB
    · exact absurd ((okL_more (by omega)).1 (hB.ok (k + 1) (by omega))) hno
    · have e : k' = k := by
        rcases Nat.lt_trichotomy k' k with h | h | h
        · exact absurd ((okL_more (by omega)).2 (hA.ok (k' + 1) (by omega))) hno'
        · exact h
        · exact absurd ((okL_more (by omega)).1 (hB.ok (k + 1) (by omega))) hno
      subst e
      exact .stop k' (fun c => light_at hA hk hno) (fun c => light_at hB hk' hno')

/-- Light of the shots that are made anew. -/
theorem made_any {y : Int} (l : List (Int × Int)) : (16 < l.length ∧ ∀ c, Fun F md 29 [shs c (mkL (clL y) l)] (ltV 0 0 0 3)) ∨ ∃ a b, a ≤ max 0 (min 10000000 y) ∧ max 0 (min 10000000 y) ≤ b ∧ ∀ c, Fun F md 29 [shs c (mkL (clL y) l)] (ltV a b (-1) 0) := by
  have hy := clL_range y
  by_cases h : l.length ≤ 16
  · have hh := mkL_has hy l l.length (Nat.le_refl _)
    have hl := fun c : Bool => light_all (c := c) (mkL_upto hy h)
    rw [mkL_length] at hl
    exact .inr ⟨_, _, hh.1, hh.2, hl⟩
  · exact .inl ⟨by omega, fun c => light_long (by rw [mkL_length]; omega)⟩


theorem light_none : ∀ c : Bool, Fun F md 29 [shs c []] (ltV 0 10000000 (-1) 0) := fun c => light_all (l := []) ⟨by decide, by simp, Nat.le_refl _, fun j hj => by
  obtain rfl : j = 0 := by simpa using hj
  decide⟩


set_option maxRecDepth 100000 in
set_option maxHeartbeats 20000000 in
theorem lightLaw_nil (c : Bool) (y : Int) (x1 x2 : Int) : Fun F md 7 [shs c [], .int .i64 y, .agg [.int .i64 x1, .int .i64 x2]] (.bool true) := by
  have hk := lk_any [(x1, x2)]
  refine fun_of rfl rfl ?_
  repeat' (first
    | (conv => whnf)
      first
      | refine Br.t ?_
      | refine Br.f ?_
      | refine Br.decT (by first | assumption | omega) ?_
      | refine Br.decF (by first | assumption | omega) ?_
      | refine Br.dec (fun _ => ?_) (fun _ => ?_)
      | refine Br.not ?_
      | refine Br.and ?_
      | refine Br.or ?_
      | refine Bnd.i64 (by omega) (by omega) ?_
      | refine Bnd.any ?_
      | refine Req.mk (by first | rfl | decide | exact ⟨rfl, rfl⟩ | exact ⟨rfl, by decide⟩ | exact (fun _ => rfl) | exact (fun h => nomatch h) | (simp; done) | omega | (simp [big]; done) | exact le_big (by omega) | exact lt_big (by omega)) ?_
      | refine Idx.nat (by omega) ?_
      | refine Idx.nat (le_big (by omega)) ?_
      | refine Idx.int (by omega) (by omega) ?_
      | refine Ifz.zero ?_
      | refine Ifz.pos (by omega) ?_
      | refine Get.mk _ rfl ?_
      | refine Leaves.of ?_
      | refine Ends.of ?_
      | refine Vw.bool ?_
      | refine Vw.int ?_
      | refine Vw.nil
      | refine Vw.sl
      | refine Vw.tup ?_
      | refine Vw.agg ?_
      | refine VwL.cons ?_ ?_
      | refine VwL.nil)
  refine LoopP.by (fun _ : Unit => True) (fun _ => [(7, .nilsl), (8, .int .i64 0)]) (fun _ => [.blk [.int .i64 x1, .int .i64 x2] false]) (fun _ => 0) () trivial rfl ?_
  intro _ _
  rcases hk with ⟨f, hf, hB⟩ | hB | ⟨k, hB, hk, hno⟩
  · repeat' (first
      | (conv => whnf)
        first
        | refine Br.t ?_
        | refine Br.f ?_
        | refine Br.decT (by first | assumption | omega) ?_
        | refine Br.decF (by first | assumption | omega) ?_
        | refine Br.dec (fun _ => ?_) (fun _ => ?_)
        | refine Br.not ?_
        | refine Br.and ?_
        | refine Br.or ?_
        | refine Bnd.i64 (by omega) (by omega) ?_
        | refine call_fun rfl rfl (light_none _) (.inr rfl) ?_
        | refine call_fun rfl rfl (hB _) (.inr rfl) ?_
        | refine call_fun rfl rfl awake (.inl rfl) ?_
        | refine Req.mk (by first | rfl | decide | exact ⟨rfl, rfl⟩ | exact ⟨rfl, by decide⟩ | exact (fun _ => rfl) | exact (fun h => nomatch h) | (simp; done) | omega | (simp [big]; done) | exact le_big (by omega) | exact lt_big (by omega)) ?_
        | refine Idx.nat (by omega) ?_
        | refine Idx.nat (le_big (by omega)) ?_
        | refine Idx.int (by omega) (by omega) ?_
        | refine Ifz.zero ?_
        | refine Ifz.pos (by omega) ?_
        | refine Get.mk _ rfl ?_
        | refine Leaves.of ?_
        | refine Ends.of ?_
        | refine Vw.bool ?_
        | refine Vw.int ?_
        | refine Vw.nil
        | refine Vw.sl
        | refine Vw.tup ?_
        | refine Vw.agg ?_
        | refine VwL.cons ?_ ?_
        | refine VwL.nil)
    all_goals first | rfl | (exfalso; omega)
  · have hB := fun c : Bool => light_all (c := c) hB
    rw [show spL [(x1, x2)] [(x1, x2)].length = (max 0 (loL (x1, x2)), min 10000000 (hiL (x1, x2))) from rfl] at hB
    simp only at hB
    generalize loL (x1, x2) = p at hB
    generalize hiL (x1, x2) = q at hB
    repeat' (first
      | (conv => whnf)
        first
        | refine Br.t ?_
        | refine Br.f ?_
        | refine Br.decT (by first | assumption | omega) ?_
        | refine Br.decF (by first | assumption | omega) ?_
        | refine Br.dec (fun _ => ?_) (fun _ => ?_)
        | refine Br.not ?_
        | refine Br.and ?_
        | refine Br.or ?_
        | refine Bnd.i64 (by omega) (by omega) ?_
        | refine call_fun rfl rfl (light_none _) (.inr rfl) ?_
        | refine call_fun rfl rfl (hB _) (.inr rfl) ?_
        | refine call_fun rfl rfl awake (.inl rfl) ?_
        | refine Req.mk (by first | rfl | decide | exact ⟨rfl, rfl⟩ | exact ⟨rfl, by decide⟩ | exact (fun _ => rfl) | exact (fun h => nomatch h) | (simp; done) | omega | (simp [big]; done) | exact le_big (by omega) | exact lt_big (by omega)) ?_
        | refine Idx.nat (by omega) ?_
        | refine Idx.nat (le_big (by omega)) ?_
        | refine Idx.int (by omega) (by omega) ?_
        | refine Ifz.zero ?_
        | refine Ifz.pos (by omega) ?_
        | refine Get.mk _ rfl ?_
        | refine Leaves.of ?_
        | refine Ends.of ?_
        | refine Vw.bool ?_
        | refine Vw.int ?_
        | refine Vw.nil
        | refine Vw.sl
        | refine Vw.tup ?_
        | refine Vw.agg ?_
        | refine VwL.cons ?_ ?_
        | refine VwL.nil)
    all_goals first | rfl | (exfalso; omega)
  · obtain rfl : k = 0 := by simpa using hk
    have hB := fun c : Bool => light_at (c := c) hB hk hno
    repeat' (first
      | (conv => whnf)
        first
        | refine Br.t ?_
        | refine Br.f ?_
        | refine Br.decT (by first | assumption | omega) ?_
        | refine Br.decF (by first | assumption | omega) ?_
        | refine Br.dec (fun _ => ?_) (fun _ => ?_)
        | refine Br.not ?_
        | refine Br.and ?_
        | refine Br.or ?_
        | refine Bnd.i64 (by omega) (by omega) ?_
        | refine call_fun rfl rfl (light_none _) (.inr rfl) ?_
        | refine call_fun rfl rfl (hB _) (.inr rfl) ?_
        | refine call_fun rfl rfl awake (.inl rfl) ?_
        | refine Req.mk (by first | rfl | decide | exact ⟨rfl, rfl⟩ | exact ⟨rfl, by decide⟩ | exact (fun _ => rfl) | exact (fun h => nomatch h) | (simp; done) | omega | (simp [big]; done) | exact le_big (by omega) | exact lt_big (by omega)) ?_
        | refine Idx.nat (by omega) ?_
        | refine Idx.nat (le_big (by omega)) ?_
        | refine Idx.int (by omega) (by omega) ?_
        | refine Ifz.zero ?_
        | refine Ifz.pos (by omega) ?_
        | refine Get.mk _ rfl ?_
        | refine Leaves.of ?_
        | refine Ends.of ?_
        | refine Vw.bool ?_
        | refine Vw.int ?_
        | refine Vw.nil
        | refine Vw.sl
        | refine Vw.tup ?_
        | refine Vw.agg ?_
        | refine VwL.cons ?_ ?_
        | refine VwL.nil)
    all_goals first | rfl | (exfalso; omega)

set_option maxRecDepth 100000 in
set_option maxHeartbeats 20000000 in
theorem lightLaw_cons (c : Bool) {l : List (Int × Int)} (hl : 0 < l.length) (hlb : l.length ≤ 1048576) (y : Int) (x1 x2 : Int) : Fun F md 7 [shs c l, .int .i64 y, .agg [.int .i64 x1, .int .i64 x2]] (.bool true) := by
  have hm := made_any (y := y) l
  have htwo := two_any l (x1, x2)
  have hs := ofSh_length l
  have hs2 := scalars_ofSh l
  have hT := fun i (h : i ≤ l.length) => mkT_length (y := clL y) h
  refine fun_of rfl rfl ?_
  repeat' (first
    | (conv => whnf)
      first
      | refine Br.t ?_
      | refine Br.f ?_
      | refine Br.decT (by first | assumption | omega) ?_
      | refine Br.decF (by first | assumption | omega) ?_
      | refine Br.dec (fun _ => ?_) (fun _ => ?_)
      | refine Br.not ?_
      | refine Br.and ?_
      | refine Br.or ?_
      | refine Bnd.i64 (by omega) (by omega) ?_
      | refine Bnd.any ?_
      | refine Req.mk (by first | rfl | decide | exact ⟨rfl, rfl⟩ | exact ⟨rfl, by decide⟩ | exact (fun _ => rfl) | exact (fun h => nomatch h) | (simp; done) | omega | (simp [big]; done) | exact le_big (by omega) | exact lt_big (by omega)) ?_
      | refine Idx.nat (by omega) ?_
      | refine Idx.nat (le_big (by omega)) ?_
      | refine Idx.int (by omega) (by omega) ?_
      | refine Ifz.zero ?_
      | refine Ifz.pos (by omega) ?_
      | refine Get.mk _ rfl ?_
      | refine Leaves.of ?_
      | refine Ends.of ?_
      | refine Vw.bool ?_
      | refine Vw.int ?_
      | refine Vw.nil
      | refine Vw.sl
      | refine Vw.tup ?_
      | refine Vw.agg ?_
      | refine VwL.cons ?_ ?_
      | refine VwL.nil)
  refine LoopP.by (fun i : Nat => i ≤ l.length) (fun i => match i with
    | 0 => [(7, .nilsl), (8, .int .i64 0)]
    | i + 1 => [(7, .ms 2 1 (2 * (i + 1)) 0 (i + 1) false), (8, .int .i64 ((i + 1 : Nat) : Int))]) (fun i => match i with
    | 0 => [.blk [.int .i64 x1, .int .i64 x2] false]
    | i + 1 => [.blk [.int .i64 x1, .int .i64 x2] false, .blk (mkT (clL y) l (i + 1)) true]) (fun i => l.length - i) 0 (Nat.zero_le _) rfl ?_
  intro i hi
  cases i with
  | zero =>
    repeat' (first
      | (conv => whnf)
        first
        | refine Br.t ?_
        | refine Br.f ?_
        | refine Br.decT (by first | assumption | omega) ?_
        | refine Br.decF (by first | assumption | omega) ?_
        | refine Br.dec (fun _ => ?_) (fun _ => ?_)
        | refine Br.not ?_
        | refine Br.and ?_
        | refine Br.or ?_
        | refine Bnd.i64 (by omega) (by omega) ?_
        | refine call_fun rfl rfl (level_any (clL_range y) (exL_range _)) (.inl rfl) ?_
        | refine Get.mk _ (ofSh_cell0 hl) ?_
        | refine Bnd.any ?_
        | refine Req.mk (by first | rfl | decide | exact ⟨rfl, rfl⟩ | exact ⟨rfl, by decide⟩ | exact (fun _ => rfl) | exact (fun h => nomatch h) | (simp; done) | omega | (simp [big]; done) | exact le_big (by omega) | exact lt_big (by omega)) ?_
        | refine Idx.nat (by omega) ?_
        | refine Idx.nat (le_big (by omega)) ?_
        | refine Idx.int (by omega) (by omega) ?_
        | refine Ifz.zero ?_
        | refine Ifz.pos (by omega) ?_
        | refine Get.mk _ rfl ?_
        | refine Leaves.of ?_
        | refine Ends.of ?_
        | refine Vw.bool ?_
        | refine Vw.int ?_
        | refine Vw.nil
        | refine Vw.sl
        | refine Vw.tup ?_
        | refine Vw.agg ?_
        | refine VwL.cons ?_ ?_
        | refine VwL.nil)
    refine NextP.mk 1 hl (by omega) ?_
    show norm _ _ _ = (⟨_, [_, .blk (mkT (clL y) l 1) true]⟩ : St)
    rw [mkT_one hl]
    rfl
  | succ i =>
    by_cases hin : i + 1 < l.length
    · have ht := hT (i + 1) hi
      repeat' (first
        | (conv => whnf)
          first
          | refine Br.t ?_
          | refine Br.f ?_
          | refine Br.decT (by first | assumption | omega) ?_
          | refine Br.decF (by first | assumption | omega) ?_
          | refine Br.dec (fun _ => ?_) (fun _ => ?_)
          | refine Br.not ?_
          | refine Br.and ?_
          | refine Br.or ?_
          | refine Bnd.i64 (by omega) (by omega) ?_
          | refine call_fun rfl rfl (level_any (clL_range y) (exL_range _)) (.inl rfl) ?_
          | refine Get.mk _ (ofSh_cell0 hin) ?_
          | refine Req.mk ht ?_
          | refine Req.mk ⟨by omega, by rw [ht]; show (2 * (i + 1) + 2) * 17 < 68719476736; omega⟩ ?_
          | refine Bnd.any ?_
          | refine Req.mk (by first | rfl | decide | exact ⟨rfl, rfl⟩ | exact ⟨rfl, by decide⟩ | exact (fun _ => rfl) | exact (fun h => nomatch h) | (simp; done) | omega | (simp [big]; done) | exact le_big (by omega) | exact lt_big (by omega)) ?_
          | refine Idx.nat (by omega) ?_
          | refine Idx.nat (le_big (by omega)) ?_
          | refine Idx.int (by omega) (by omega) ?_
          | refine Ifz.zero ?_
          | refine Ifz.pos (by omega) ?_
          | refine Get.mk _ rfl ?_
          | refine Leaves.of ?_
          | refine Ends.of ?_
          | refine Vw.bool ?_
          | refine Vw.int ?_
          | refine Vw.nil
          | refine Vw.sl
          | refine Vw.tup ?_
          | refine Vw.agg ?_
          | refine VwL.cons ?_ ?_
          | refine VwL.nil)
      refine NextP.mk (i + 1 + 1) (by omega) (by omega) ?_
      show norm _ _ _ = (⟨_, [_, .blk (mkT (clL y) l (i + 1 + 1)) true]⟩ : St)
      rw [mkT_snoc hin]
      rfl
    · have e : i + 1 = l.length := by omega
      have eT : mkT (clL y) l (i + 1) = ofSh (mkL (clL y) l) := by rw [e]; exact mkT_all _ _
      have hml := mkL_length (clL y) l
      have hla : (l ++ [(x1, x2)]).length = l.length + 1 := by simp
      have hap : ofSh l ++ [.int .i64 x1, .int .i64 x2] = ofSh (l ++ [(x1, x2)]) := by rw [ofSh_append]; rfl
      have hg : 0 + (ofSh l).length + 2 = 2 * (l ++ [(x1, x2)]).length := by rw [hla, ofSh_length]; omega
      have hn : 0 + l.length + 1 = (l ++ [(x1, x2)]).length := by rw [hla]; omega
      have hr0 : (ofSh l).length = 0 + (ofSh l).length := by omega
      have hr1 : (0 + (ofSh l).length) * 17 < 68719476736 := by rw [ofSh_length]; omega
      have hr2 : 0 + (0 + l.length) * 2 = 0 + (ofSh l).length ∧ ((ofSh l).length + 2) * 17 < 68719476736 := ⟨by rw [ofSh_length]; omega, by rw [ofSh_length]; omega⟩
      generalize mkL (clL y) l = m at *
      rcases hm with ⟨h16, h29⟩ | ⟨a, b, ha, hb, h29⟩
      · repeat' (first
          | (conv => whnf)
            first
            | refine Br.t ?_
            | refine Br.f ?_
            | refine Br.decT (by first | assumption | omega) ?_
            | refine Br.decF (by first | assumption | omega) ?_
            | refine Br.dec (fun _ => ?_) (fun _ => ?_)
            | refine Br.not ?_
            | refine Br.and ?_
            | refine Br.or ?_
            | refine Bnd.i64 (by omega) (by omega) ?_
            | refine call_fun rfl (sh_views rfl eT (by omega) (by omega)) (h29 _) (.inr rfl) ?_
            | refine call_fun rfl rfl awake (.inl rfl) ?_
            | refine Req.mk (by first | rfl | decide | exact ⟨rfl, rfl⟩ | exact ⟨rfl, by decide⟩ | exact (fun _ => rfl) | exact (fun h => nomatch h) | (simp; done) | omega | (simp [big]; done) | exact le_big (by omega) | exact lt_big (by omega)) ?_
            | refine Idx.nat (by omega) ?_
            | refine Idx.nat (le_big (by omega)) ?_
            | refine Idx.int (by omega) (by omega) ?_
            | refine Ifz.zero ?_
            | refine Ifz.pos (by omega) ?_
            | refine Get.mk _ rfl ?_
            | refine Leaves.of ?_
            | refine Ends.of ?_
            | refine Vw.bool ?_
            | refine Vw.int ?_
            | refine Vw.nil
            | refine Vw.sl
            | refine Vw.tup ?_
            | refine Vw.agg ?_
            | refine VwL.cons ?_ ?_
            | refine VwL.nil)
        all_goals first | rfl | (exfalso; omega)
      · rcases htwo with ⟨e1, a', b', k', f, he, hA, hB⟩ | ⟨a', b', k', f, hf, hA, hB⟩ | ⟨k, hA, hB⟩ | ⟨a', b', hA, hB⟩ | ⟨a1, b1, a2, b2, h1, h2, hA, hB⟩
        · repeat' (first
            | (conv => whnf)
              first
              | refine Br.t ?_
              | refine Br.f ?_
              | refine Br.decT (by first | assumption | omega) ?_
              | refine Br.decF (by first | assumption | omega) ?_
              | refine Br.dec (fun _ => ?_) (fun _ => ?_)
              | refine Br.not ?_
              | refine Br.and ?_
              | refine Br.or ?_
              | refine Bnd.i64 (by omega) (by omega) ?_
              | refine call_fun rfl rfl (hA _) (.inl rfl) ?_
              | refine call_fun rfl (sh_views rfl eT (by omega) (by omega)) (h29 _) (.inr rfl) ?_
              | refine call_fun rfl (sh_views rfl hap hg hn) (hB _) (.inr rfl) ?_
              | refine call_fun rfl rfl awake (.inl rfl) ?_
              | refine Req.mk hs ?_
              | refine Req.mk hr1 ?_
              | refine Req.mk (fun _ => hs2) ?_
              | refine Req.mk hr0 ?_
              | refine Req.mk hr2 ?_
              | refine Req.mk (by first | rfl | decide | exact ⟨rfl, rfl⟩ | exact ⟨rfl, by decide⟩ | exact (fun _ => rfl) | exact (fun h => nomatch h) | (simp; done) | omega | (simp [big]; done) | exact le_big (by omega) | exact lt_big (by omega)) ?_
              | refine Idx.nat (by omega) ?_
              | refine Idx.nat (le_big (by omega)) ?_
              | refine Idx.int (by omega) (by omega) ?_
              | refine Ifz.zero ?_
              | refine Ifz.pos (by omega) ?_
              | refine Get.mk _ rfl ?_
              | refine Leaves.of ?_
              | refine Ends.of ?_
              | refine Vw.bool ?_
              | refine Vw.int ?_
              | refine Vw.nil
              | refine Vw.sl
              | refine Vw.tup ?_
              | refine Vw.agg ?_
              | refine VwL.cons ?_ ?_
              | refine VwL.nil)
          all_goals first | rfl | (exfalso; omega)
        · repeat' (first
            | (conv => whnf)
              first
              | refine Br.t ?_
              | refine Br.f ?_
              | refine Br.decT (by first | assumption | omega) ?_
              | refine Br.decF (by first | assumption | omega) ?_
              | refine Br.dec (fun _ => ?_) (fun _ => ?_)
              | refine Br.not ?_
              | refine Br.and ?_
              | refine Br.or ?_
              | refine Bnd.i64 (by omega) (by omega) ?_
              | refine call_fun rfl rfl (hA _) (.inl rfl) ?_
              | refine call_fun rfl (sh_views rfl eT (by omega) (by omega)) (h29 _) (.inr rfl) ?_
              | refine call_fun rfl (sh_views rfl hap hg hn) (hB _) (.inr rfl) ?_
              | refine call_fun rfl rfl awake (.inl rfl) ?_
              | refine Req.mk hs ?_
              | refine Req.mk hr1 ?_
              | refine Req.mk (fun _ => hs2) ?_
              | refine Req.mk hr0 ?_
              | refine Req.mk hr2 ?_
              | refine Req.mk (by first | rfl | decide | exact ⟨rfl, rfl⟩ | exact ⟨rfl, by decide⟩ | exact (fun _ => rfl) | exact (fun h => nomatch h) | (simp; done) | omega | (simp [big]; done) | exact le_big (by omega) | exact lt_big (by omega)) ?_
              | refine Idx.nat (by omega) ?_
              | refine Idx.nat (le_big (by omega)) ?_
              | refine Idx.int (by omega) (by omega) ?_
              | refine Ifz.zero ?_
              | refine Ifz.pos (by omega) ?_
              | refine Get.mk _ rfl ?_
              | refine Leaves.of ?_
              | refine Ends.of ?_
              | refine Vw.bool ?_
              | refine Vw.int ?_
              | refine Vw.nil
              | refine Vw.sl
              | refine Vw.tup ?_
              | refine Vw.agg ?_
              | refine VwL.cons ?_ ?_
              | refine VwL.nil)
          all_goals first | rfl | (exfalso; omega)
        · repeat' (first
            | (conv => whnf)
              first
              | refine Br.t ?_
              | refine Br.f ?_
              | refine Br.decT (by first | assumption | omega) ?_
              | refine Br.decF (by first | assumption | omega) ?_
              | refine Br.dec (fun _ => ?_) (fun _ => ?_)
              | refine Br.not ?_
              | refine Br.and ?_
              | refine Br.or ?_
              | refine Bnd.i64 (by omega) (by omega) ?_
              | refine call_fun rfl rfl (hA _) (.inl rfl) ?_
              | refine call_fun rfl (sh_views rfl eT (by omega) (by omega)) (h29 _) (.inr rfl) ?_
              | refine call_fun rfl (sh_views rfl hap hg hn) (hB _) (.inr rfl) ?_
              | refine call_fun rfl rfl awake (.inl rfl) ?_
              | refine Req.mk hs ?_
              | refine Req.mk hr1 ?_
              | refine Req.mk (fun _ => hs2) ?_
              | refine Req.mk hr0 ?_
              | refine Req.mk hr2 ?_
              | refine Req.mk (by first | rfl | decide | exact ⟨rfl, rfl⟩ | exact ⟨rfl, by decide⟩ | exact (fun _ => rfl) | exact (fun h => nomatch h) | (simp; done) | omega | (simp [big]; done) | exact le_big (by omega) | exact lt_big (by omega)) ?_
              | refine Idx.nat (by omega) ?_
              | refine Idx.nat (le_big (by omega)) ?_
              | refine Idx.int (by omega) (by omega) ?_
              | refine Ifz.zero ?_
              | refine Ifz.pos (by omega) ?_
              | refine Get.mk _ rfl ?_
              | refine Leaves.of ?_
              | refine Ends.of ?_
              | refine Vw.bool ?_
              | refine Vw.int ?_
              | refine Vw.nil
              | refine Vw.sl
              | refine Vw.tup ?_
              | refine Vw.agg ?_
              | refine VwL.cons ?_ ?_
              | refine VwL.nil)
          all_goals first | rfl | (exfalso; omega)
        · repeat' (first
            | (conv => whnf)
              first
              | refine Br.t ?_
              | refine Br.f ?_
              | refine Br.decT (by first | assumption | omega) ?_
              | refine Br.decF (by first | assumption | omega) ?_
              | refine Br.dec (fun _ => ?_) (fun _ => ?_)
              | refine Br.not ?_
              | refine Br.and ?_
              | refine Br.or ?_
              | refine Bnd.i64 (by omega) (by omega) ?_
              | refine call_fun rfl rfl (hA _) (.inl rfl) ?_
              | refine call_fun rfl (sh_views rfl eT (by omega) (by omega)) (h29 _) (.inr rfl) ?_
              | refine call_fun rfl (sh_views rfl hap hg hn) (hB _) (.inr rfl) ?_
              | refine call_fun rfl rfl awake (.inl rfl) ?_
              | refine Req.mk hs ?_
              | refine Req.mk hr1 ?_
              | refine Req.mk (fun _ => hs2) ?_
              | refine Req.mk hr0 ?_
              | refine Req.mk hr2 ?_
              | refine Req.mk (by first | rfl | decide | exact ⟨rfl, rfl⟩ | exact ⟨rfl, by decide⟩ | exact (fun _ => rfl) | exact (fun h => nomatch h) | (simp; done) | omega | (simp [big]; done) | exact le_big (by omega) | exact lt_big (by omega)) ?_
              | refine Idx.nat (by omega) ?_
              | refine Idx.nat (le_big (by omega)) ?_
              | refine Idx.int (by omega) (by omega) ?_
              | refine Ifz.zero ?_
              | refine Ifz.pos (by omega) ?_
              | refine Get.mk _ rfl ?_
              | refine Leaves.of ?_
              | refine Ends.of ?_
              | refine Vw.bool ?_
              | refine Vw.int ?_
              | refine Vw.nil
              | refine Vw.sl
              | refine Vw.tup ?_
              | refine Vw.agg ?_
              | refine VwL.cons ?_ ?_
              | refine VwL.nil)
          all_goals first | rfl | (exfalso; omega)
        · repeat' (first
            | (conv => whnf)
              first
              | refine Br.t ?_
              | refine Br.f ?_
              | refine Br.decT (by first | assumption | omega) ?_
              | refine Br.decF (by first | assumption | omega) ?_
              | refine Br.dec (fun _ => ?_) (fun _ => ?_)
              | refine Br.not ?_
              | refine Br.and ?_
              | refine Br.or ?_
              | refine Bnd.i64 (by omega) (by omega) ?_
              | refine call_fun rfl rfl (hA _) (.inl rfl) ?_
              | refine call_fun rfl (sh_views rfl eT (by omega) (by omega)) (h29 _) (.inr rfl) ?_
              | refine call_fun rfl (sh_views rfl hap hg hn) (hB _) (.inr rfl) ?_
              | refine call_fun rfl rfl awake (.inl rfl) ?_
              | refine Req.mk hs ?_
              | refine Req.mk hr1 ?_
              | refine Req.mk (fun _ => hs2) ?_
              | refine Req.mk hr0 ?_
              | refine Req.mk hr2 ?_
              | refine Req.mk (by first | rfl | decide | exact ⟨rfl, rfl⟩ | exact ⟨rfl, by decide⟩ | exact (fun _ => rfl) | exact (fun h => nomatch h) | (simp; done) | omega | (simp [big]; done) | exact le_big (by omega) | exact lt_big (by omega)) ?_
              | refine Idx.nat (by omega) ?_
              | refine Idx.nat (le_big (by omega)) ?_
              | refine Idx.int (by omega) (by omega) ?_
              | refine Ifz.zero ?_
              | refine Ifz.pos (by omega) ?_
              | refine Get.mk _ rfl ?_
              | refine Leaves.of ?_
              | refine Ends.of ?_
              | refine Vw.bool ?_
              | refine Vw.int ?_
              | refine Vw.nil
              | refine Vw.sl
              | refine Vw.tup ?_
              | refine Vw.agg ?_
              | refine VwL.cons ?_ ?_
              | refine VwL.nil)
          all_goals first | rfl | (exfalso; omega)

theorem law_light (c : Bool) {l : List (Int × Int)} (hlb : l.length ≤ 1048576) (y x1 x2 : Int) : Fun F md 7 [shs c l, .int .i64 y, .agg [.int .i64 x1, .int .i64 x2]] (.bool true) := by
  cases l with
  | nil => exact lightLaw_nil c y x1 x2
  | cons a l => exact lightLaw_cons c (by simp) hlb y x1 x2

end Go.Dr.T
