/- Chapter 06: Judge, the program's. -/
import Derived.Test.YtfhphjloaelgoaaGreatDoorR06J1
namespace Go.Dr.T
def sAt (x y : El) (s : Int) (p : Int × Int) : Int := shA x.l y.l s p.1.toNat p.2.toNat
def jgF (x y : El) (s : Int) : List (Int × Int) → Int → Int → Int → Int × Int
  | [], _, _, w => (w, 0)
  | p :: l, bi, bj, w => if sAt x y s p = 0 ∨ p.1 ≤ bi ∨ p.2 ≤ bj then (0, 160) else jgF x y s l p.1 p.2 (w + sAt x y s p)
def jgV (x y : El) (s : Int) (l : List (Int × Int)) : V :=
  if openE x y s ≠ 0 then .tup [.int .i64 0, .int .i64 (openE x y s)] else
  if l.any (badQ x.l.length y.l.length) = true then .tup [.int .i64 0, .int .i64 2] else .tup [.int .i64 (jgF x y s l (-1) (-1) 0).1, .int .i64 (jgF x y s l (-1) (-1) 0).2]
theorem jg_drop {x y : El} {s : Int} {l : List (Int × Int)} {i : Nat} {p : Int × Int} {bi bj w : Int} (h : l[i]? = some p) : jgF x y s (l.drop i) bi bj w = if sAt x y s p = 0 ∨ p.1 ≤ bi ∨ p.2 ≤ bj then (0, 160) else jgF x y s (l.drop (i + 1)) p.1 p.2 (w + sAt x y s p) := by
  obtain ⟨hi, rfl⟩ := List.getElem?_eq_some_iff.1 h
  rw [List.drop_eq_getElem_cons hi]; rfl
theorem good_at {n m : Nat} {l : List (Int × Int)} (hb : l.any (badQ n m) = false) {i : Nat} {p : Int × Int} (h : l[i]? = some p) : 0 ≤ p.1 ∧ p.1 < n ∧ 0 ≤ p.2 ∧ p.2 < m := by
  rw [List.any_eq_false] at hb
  have := hb p (List.mem_of_getElem? h)
  simp only [badQ, outB, Bool.or_eq_true, decide_eq_true_eq, not_or] at this
  omega
structure JS where
  i : Nat
  bi : Int
  bj : Int
  w : Int
structure JOk (x y : El) (s : Int) (l : List (Int × Int)) (a : JS) : Prop where
  le : a.i ≤ l.length
  eq : jgF x y s l (-1) (-1) 0 = jgF x y s (l.drop a.i) a.bi a.bj a.w
  b1 : -1 ≤ a.bi ∧ a.bi < 40
  w0 : 0 ≤ a.w ∧ a.w ≤ 200000 * (a.bi + 1)
set_option maxRecDepth 100000 in
set_option maxHeartbeats 20000000 in
theorem judge_ok {c : Bool} {x y : El} {s : Int} {l : List (Int × Int)} (hl : l.length ≤ 9223372036854775807) : Fun FB md 26 [elA' x, elA' y, .int .i64 s, .sl c l.length (shC l)] (jgV x y s l) := by
  have ho := open_ok (x := x) (y := y) (s := s)
  unfold openV at ho
  unfold jgV
  by_cases he : openE x y s = 0
  rotate_left
  · rw [if_pos he] at ho ⊢
    generalize openE x y s = e at *
    refine fun_of rfl rfl ?_
    repeat' (first
 | (conv => whnf)
   first
   | refine Br.t ?_
   | refine Br.f ?_
   | (refine Br.decT ?_ ?_; (focus first | assumption | omega))
   | (refine Br.decF ?_ ?_; (focus first | assumption | omega))
   | refine Br.dec (fun _ => ?_) (fun _ => ?_)
   | refine Br.not ?_
   | refine Br.and ?_
   | refine Br.or ?_
   | (refine Bnd.i64 ?_ ?_ ?_; (focus omega); (focus omega))
   | refine call_fun rfl rfl ho (.inl rfl) ?_
   | (refine Idx.nat ?_ ?_; (focus omega))
   | refine Idx.nat (le_big (by omega)) ?_
   | (refine Idx.int ?_ ?_ ?_; (focus omega); (focus omega))
   | (refine Idx.int ?_ ?_ ?_; (focus decide); (focus decide))
   | refine Ifz.zero ?_
   | (refine Ifz.pos ?_ ?_; (focus omega))
   | refine Get.mk _ rfl ?_
   | refine Leaves.of ?_
   | refine Ends.of ?_
   | refine Vw.bool ?_
   | refine Vw.int ?_
   | refine Vw.nil
   | refine Vw.sl
   | refine Vw.tup ?_
   | refine Vw.agg ?_
   | refine VwL.cons ?_ ?_
   | refine VwL.nil
   | (refine Req.mk ?_ ?_; (focus first | rfl | decide | exact ⟨rfl, rfl⟩ | exact ⟨rfl, by decide⟩ | exact (fun _ => rfl) | exact (fun h => nomatch h) | (simp; done) | omega | (simp [big]; done) | exact le_big (by omega) | exact lt_big (by omega))))
    all_goals first | rfl | (exfalso; omega)
  obtain ⟨ha, hb, hs⟩ := open_good he
  rw [if_neg (fun h => h he)] at ho ⊢
  have hbc : ∀ {K : V → List B → Prop}, K (.bool (l.any (badQ x.l.length y.l.length))) [elB x, elB y] → CallP FB md 0 (.fn 61 []) [.sl c l.length (shC l), .fn 62 [.ref 0 3 0, .ref 1 3 0]] [elB x, elB y] K := fun h => bads_call ha.1 hb.1 hl h
  cases hbad : l.any (badQ x.l.length y.l.length) <;> rw [hbad] at hbc
  rotate_left
  · rw [if_pos rfl]
    refine fun_of rfl rfl ?_
    repeat' (first
 | (conv => whnf)
   first
   | refine Br.t ?_
   | refine Br.f ?_
   | (refine Br.decT ?_ ?_; (focus first | assumption | omega))
   | (refine Br.decF ?_ ?_; (focus first | assumption | omega))
   | refine Br.dec (fun _ => ?_) (fun _ => ?_)
   | refine Br.not ?_
   | refine Br.and ?_
   | refine Br.or ?_
   | (refine Bnd.i64 ?_ ?_ ?_; (focus omega); (focus omega))
   | refine call_fun rfl rfl ho (.inl rfl) ?_
   | refine hbc ?_
   | (refine Idx.nat ?_ ?_; (focus omega))
   | refine Idx.nat (le_big (by omega)) ?_
   | (refine Idx.int ?_ ?_ ?_; (focus omega); (focus omega))
   | (refine Idx.int ?_ ?_ ?_; (focus decide); (focus decide))
   | refine Ifz.zero ?_
   | (refine Ifz.pos ?_ ?_; (focus omega))
   | refine Get.mk _ rfl ?_
   | refine Leaves.of ?_
   | refine Ends.of ?_
   | refine Vw.bool ?_
   | refine Vw.int ?_
   | refine Vw.nil
   | refine Vw.sl
   | refine Vw.tup ?_
   | refine Vw.agg ?_
   | refine VwL.cons ?_ ?_
   | refine VwL.nil
   | (refine Req.mk ?_ ?_; (focus first | rfl | decide | exact ⟨rfl, rfl⟩ | exact ⟨rfl, by decide⟩ | exact (fun _ => rfl) | exact (fun h => nomatch h) | (simp; done) | omega | (simp [big]; done) | exact le_big (by omega) | exact lt_big (by omega))))
    all_goals first | rfl | (exfalso; omega)
  rw [if_neg (by simp)]
  refine fun_of rfl rfl ?_
  repeat' (first
 | (conv => whnf)
   first
   | refine Br.t ?_
   | refine Br.f ?_
   | (refine Br.decT ?_ ?_; (focus first | assumption | omega))
   | (refine Br.decF ?_ ?_; (focus first | assumption | omega))
   | refine Br.dec (fun _ => ?_) (fun _ => ?_)
   | refine Br.not ?_
   | refine Br.and ?_
   | refine Br.or ?_
   | (refine Bnd.i64 ?_ ?_ ?_; (focus omega); (focus omega))
   | refine call_fun rfl rfl ho (.inl rfl) ?_
   | refine hbc ?_
   | (refine Idx.nat ?_ ?_; (focus omega))
   | refine Idx.nat (le_big (by omega)) ?_
   | (refine Idx.int ?_ ?_ ?_; (focus omega); (focus omega))
   | (refine Idx.int ?_ ?_ ?_; (focus decide); (focus decide))
   | refine Ifz.zero ?_
   | (refine Ifz.pos ?_ ?_; (focus omega))
   | refine Get.mk _ rfl ?_
   | refine Leaves.of ?_
   | refine Ends.of ?_
   | refine Vw.bool ?_
   | refine Vw.int ?_
   | refine Vw.nil
   | refine Vw.sl
   | refine Vw.tup ?_
   | refine Vw.agg ?_
   | refine VwL.cons ?_ ?_
   | refine VwL.nil
   | (refine Req.mk ?_ ?_; (focus first | rfl | decide | exact ⟨rfl, rfl⟩ | exact ⟨rfl, by decide⟩ | exact (fun _ => rfl) | exact (fun h => nomatch h) | (simp; done) | omega | (simp [big]; done) | exact le_big (by omega) | exact lt_big (by omega))))
  refine LoopP.by (JOk x y s l) (fun a => [(8, .int .i64 a.w), (9, .int .i64 0), (33, .int .i64 (a.i : Nat))]) (fun a => [elB x, elB y, .blk [.int .i64 a.bi, .int .i64 a.bj] false]) (fun a => l.length - a.i) ⟨0, -1, -1, 0⟩ ⟨Nat.zero_le _, rfl, by decide, by decide⟩ rfl ?_
  rintro ⟨i, bi, bj, w⟩ ⟨q1, q2, q3, q4⟩
  dsimp only at q1 q2 q3 q4 ⊢
  by_cases hi : i < l.length
  rotate_left
  · have hres : jgF x y s l (-1) (-1) 0 = (w, 0) := by rw [q2, show i = l.length by omega, List.drop_length]; rfl
    rw [hres]
    repeat' (first
 | (conv => whnf)
   first
   | refine Br.t ?_
   | refine Br.f ?_
   | (refine Br.decT ?_ ?_; (focus first | assumption | omega))
   | (refine Br.decF ?_ ?_; (focus first | assumption | omega))
   | refine Br.dec (fun _ => ?_) (fun _ => ?_)
   | refine Br.not ?_
   | refine Br.and ?_
   | refine Br.or ?_
   | (refine Bnd.i64 ?_ ?_ ?_; (focus omega); (focus omega))
   | (refine Idx.nat ?_ ?_; (focus omega))
   | refine Idx.nat (le_big (by omega)) ?_
   | (refine Idx.int ?_ ?_ ?_; (focus omega); (focus omega))
   | (refine Idx.int ?_ ?_ ?_; (focus decide); (focus decide))
   | refine Ifz.zero ?_
   | (refine Ifz.pos ?_ ?_; (focus omega))
   | refine Get.mk _ rfl ?_
   | refine Leaves.of ?_
   | refine Ends.of ?_
   | refine Vw.bool ?_
   | refine Vw.int ?_
   | refine Vw.nil
   | refine Vw.sl
   | refine Vw.tup ?_
   | refine Vw.agg ?_
   | refine VwL.cons ?_ ?_
   | refine VwL.nil
   | (refine Req.mk ?_ ?_; (focus first | rfl | decide | exact ⟨rfl, rfl⟩ | exact ⟨rfl, by decide⟩ | exact (fun _ => rfl) | exact (fun h => nomatch h) | (simp; done) | omega | (simp [big]; done) | exact le_big (by omega) | exact lt_big (by omega))))
    all_goals first | rfl | (exfalso; omega)
  obtain ⟨⟨p1, p2⟩, hp⟩ : ∃ p, l[i]? = some p := ⟨_, List.getElem?_eq_getElem hi⟩
  obtain ⟨g1, g2, g3, g4⟩ := good_at hbad hp
  dsimp only at g1 g2 g3 g4
  obtain ⟨i0, rfl⟩ : ∃ i0 : Nat, p1 = i0 := ⟨p1.toNat, by omega⟩
  obtain ⟨j0, rfl⟩ : ∃ j0 : Nat, p2 = j0 := ⟨p2.toNat, by omega⟩
  obtain ⟨u, hu⟩ : ∃ u, x.l[i0]? = some u := ⟨_, List.getElem?_eq_getElem (by omega)⟩
  obtain ⟨v, hv⟩ : ∃ v, y.l[j0]? = some v := ⟨_, List.getElem?_eq_getElem (by omega)⟩
  have hpart := shC_part hp
  have hsh := share_fun (a := x.sh) (b := y.sh) (s := s) (f := openT x y s) ha hb hs hu hv
  have hS : sAt x y s ((i0 : Int), (j0 : Int)) = shr s u v := by
    show shA x.l y.l s ((i0 : Int)).toNat ((j0 : Int)).toNat = _
    rw [Int.toNat_natCast, Int.toNat_natCast]
    unfold shA
    rw [List.getD_eq_getElem?_getD, hu, List.getD_eq_getElem?_getD, hv]; rfl
  have hq := jg_drop (x := x) (y := y) (s := s) (bi := bi) (bj := bj) (w := w) hp
  rw [hS] at hq
  have hum := ha.2 u (List.mem_of_getElem? hu)
  have hvm := hb.2 v (List.mem_of_getElem? hv)
  have rs := shr_rng (s := s) (x := u) (y := v) ⟨hum.2.2.1, hum.2.2.2⟩ ⟨hvm.2.2.1, hvm.2.2.2⟩
  have hal := ha.1
  generalize shr s u v = S at *
  by_cases hc : S = 0 ∨ (i0 : Int) ≤ bi ∨ (j0 : Int) ≤ bj
  · rw [if_pos hc] at hq
    rw [q2, hq]
    repeat' (first
 | (conv => whnf)
   first
   | refine Br.t ?_
   | refine Br.f ?_
   | (refine Br.decT ?_ ?_; (focus first | assumption | omega))
   | (refine Br.decF ?_ ?_; (focus first | assumption | omega))
   | refine Br.dec (fun _ => ?_) (fun _ => ?_)
   | refine Br.not ?_
   | refine Br.and ?_
   | refine Br.or ?_
   | (refine Bnd.i64 ?_ ?_ ?_; (focus omega); (focus omega))
   | refine Get.mk _ hpart ?_
   | refine call_fun rfl rfl hsh (.inl rfl) ?_
   | (refine Idx.nat ?_ ?_; (focus omega))
   | refine Idx.nat (le_big (by omega)) ?_
   | (refine Idx.int ?_ ?_ ?_; (focus omega); (focus omega))
   | (refine Idx.int ?_ ?_ ?_; (focus decide); (focus decide))
   | refine Ifz.zero ?_
   | (refine Ifz.pos ?_ ?_; (focus omega))
   | refine Get.mk _ rfl ?_
   | refine Leaves.of ?_
   | refine Ends.of ?_
   | refine Vw.bool ?_
   | refine Vw.int ?_
   | refine Vw.nil
   | refine Vw.sl
   | refine Vw.tup ?_
   | refine Vw.agg ?_
   | refine VwL.cons ?_ ?_
   | refine VwL.nil
   | (refine Req.mk ?_ ?_; (focus first | rfl | decide | exact ⟨rfl, rfl⟩ | exact ⟨rfl, by decide⟩ | exact (fun _ => rfl) | exact (fun h => nomatch h) | (simp; done) | omega | (simp [big]; done) | exact le_big (by omega) | exact lt_big (by omega))))
    all_goals first | rfl | (exfalso; omega)
  · rw [if_neg hc] at hq
    clear hS
    repeat' (first
 | (conv => whnf)
   first
   | refine Br.t ?_
   | refine Br.f ?_
   | (refine Br.decT ?_ ?_; (focus first | assumption | omega))
   | (refine Br.decF ?_ ?_; (focus first | assumption | omega))
   | refine Br.dec (fun _ => ?_) (fun _ => ?_)
   | refine Br.not ?_
   | refine Br.and ?_
   | refine Br.or ?_
   | (refine Bnd.i64 ?_ ?_ ?_; (focus omega); (focus omega))
   | refine Get.mk _ hpart ?_
   | refine call_fun rfl rfl hsh (.inl rfl) ?_
   | (refine Idx.nat ?_ ?_; (focus omega))
   | refine Idx.nat (le_big (by omega)) ?_
   | (refine Idx.int ?_ ?_ ?_; (focus omega); (focus omega))
   | (refine Idx.int ?_ ?_ ?_; (focus decide); (focus decide))
   | refine Ifz.zero ?_
   | (refine Ifz.pos ?_ ?_; (focus omega))
   | refine Get.mk _ rfl ?_
   | refine Leaves.of ?_
   | refine Ends.of ?_
   | refine Vw.bool ?_
   | refine Vw.int ?_
   | refine Vw.nil
   | refine Vw.sl
   | refine Vw.tup ?_
   | refine Vw.agg ?_
   | refine VwL.cons ?_ ?_
   | refine VwL.nil
   | (refine Req.mk ?_ ?_; (focus first | rfl | decide | exact ⟨rfl, rfl⟩ | exact ⟨rfl, by decide⟩ | exact (fun _ => rfl) | exact (fun h => nomatch h) | (simp; done) | omega | (simp [big]; done) | exact le_big (by omega) | exact lt_big (by omega))))
    all_goals try (exfalso; omega)
    refine NextP.mk ⟨i + 1, i0, j0, w + S⟩ ⟨hi, by rw [q2, hq], by (try dsimp only); omega, by (try dsimp only); omega⟩ (by (try dsimp only); omega) rfl
end Go.Dr.T
