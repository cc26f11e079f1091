/- Chapter 06: Judge, the document's; the law AlignJudges. -/
import Derived.Test.YtfhphjloaelgoaaGreatDoorR06J2
namespace Go.Dr.T
def bOf (l : List (Int × Int)) (i : Nat) : Int × Int := if i = 0 then (-1, -1) else l.getD (i - 1) (0, 0)
theorem bOf_succ {l : List (Int × Int)} {i : Nat} {p : Int × Int} (h : l[i]? = some p) : bOf l (i + 1) = p := by
  unfold bOf
  rw [if_neg (by omega), Nat.add_sub_cancel, List.getD_eq_getElem?_getD, h]; rfl
theorem shC_cell2 {l : List (Int × Int)} {i : Nat} {p : Int × Int} (h : l[i]? = some p) : cellAt (shC l) (i * 2 + 1) = some (.int .i64 p.2) := by
  have h1 := shC_drop h
  have : (shC l).drop (i * 2 + 1) = .int .i64 p.2 :: (shC l).drop (i * 2 + 2) := by
    rw [← List.drop_drop, h1]; rfl
  exact cellAt_drop this
structure RJ where
  i : Nat
  w : Int
structure RJOk (x y : El) (s : Int) (l : List (Int × Int)) (a : RJ) : Prop where
  le : a.i ≤ l.length
  eq : jgF x y s l (-1) (-1) 0 = jgF x y s (l.drop a.i) (bOf l a.i).1 (bOf l a.i).2 a.w
  b1 : -1 ≤ (bOf l a.i).1 ∧ (bOf l a.i).1 < 40
  w0 : 0 ≤ a.w ∧ a.w ≤ 200000 * ((bOf l a.i).1 + 1)
set_option maxRecDepth 100000 in
set_option maxHeartbeats 20000000 in
theorem refJudge_ok {c : Bool} {x y : El} {s : Int} {l : List (Int × Int)} (hl : l.length ≤ 9223372036854775807) : Fun FB md 27 [elA' x, elA' y, .int .i64 s, .sl c l.length (shC l)] (jgV x y s l) := by
  have ho := two_ok (x := x) (y := y) (s := s)
  unfold jgV
  by_cases he : openE x y s = 0
  rotate_left
  · rw [if_pos he]
    generalize openE x y s = e at *
    refine fun_of rfl rfl ?_
    repeat' (first
 | (conv => whnf)
   first
   | refine Br.t ?_
   | refine Br.f ?_
   | (refine Br.decT ?_ ?_; (focus first | assumption | omega))
   | (refine Br.decF ?_ ?_; (focus first | assumption | omega))
   | refine Br.dec (fun _ => ?_) (fun _ => ?_)
   | refine Br.not ?_
   | refine Br.and ?_
   | refine Br.or ?_
   | (refine Bnd.i64 ?_ ?_ ?_; (focus omega); (focus omega))
   | refine call_fun rfl rfl ho (.inl rfl) ?_
   | (refine Idx.nat ?_ ?_; (focus omega))
   | refine Idx.nat (le_big (by omega)) ?_
   | (refine Idx.int ?_ ?_ ?_; (focus omega); (focus omega))
   | (refine Idx.int ?_ ?_ ?_; (focus decide); (focus decide))
   | refine Ifz.zero ?_
   | (refine Ifz.pos ?_ ?_; (focus omega))
   | refine Get.mk _ rfl ?_
   | refine Leaves.of ?_
   | refine Ends.of ?_
   | refine Vw.bool ?_
   | refine Vw.int ?_
   | refine Vw.nil
   | refine Vw.sl
   | refine Vw.tup ?_
   | refine Vw.agg ?_
   | refine VwL.cons ?_ ?_
   | refine VwL.nil
   | (refine Req.mk ?_ ?_; (focus first | rfl | decide | exact ⟨rfl, rfl⟩ | exact ⟨rfl, by decide⟩ | exact (fun _ => rfl) | exact (fun h => nomatch h) | (simp; done) | omega | (simp [big]; done) | exact le_big (by omega) | exact lt_big (by omega))))
    all_goals first | rfl | (exfalso; omega)
  obtain ⟨ha, hb, hs⟩ := open_good he
  have hal := ha.1
  have hbl := hb.1
  rw [if_neg (fun h => h he)]
  rw [he] at ho
  refine fun_of rfl rfl ?_
  repeat' (first
 | (conv => whnf)
   first
   | refine Br.t ?_
   | refine Br.f ?_
   | (refine Br.decT ?_ ?_; (focus first | assumption | omega))
   | (refine Br.decF ?_ ?_; (focus first | assumption | omega))
   | refine Br.dec (fun _ => ?_) (fun _ => ?_)
   | refine Br.not ?_
   | refine Br.and ?_
   | refine Br.or ?_
   | (refine Bnd.i64 ?_ ?_ ?_; (focus omega); (focus omega))
   | refine call_fun rfl rfl ho (.inl rfl) ?_
   | (refine Idx.nat ?_ ?_; (focus omega))
   | refine Idx.nat (le_big (by omega)) ?_
   | (refine Idx.int ?_ ?_ ?_; (focus omega); (focus omega))
   | (refine Idx.int ?_ ?_ ?_; (focus decide); (focus decide))
   | refine Ifz.zero ?_
   | (refine Ifz.pos ?_ ?_; (focus omega))
   | refine Get.mk _ rfl ?_
   | refine Leaves.of ?_
   | refine Ends.of ?_
   | refine Vw.bool ?_
   | refine Vw.int ?_
   | refine Vw.nil
   | refine Vw.sl
   | refine Vw.tup ?_
   | refine Vw.agg ?_
   | refine VwL.cons ?_ ?_
   | refine VwL.nil
   | (refine Req.mk ?_ ?_; (focus first | rfl | decide | exact ⟨rfl, rfl⟩ | exact ⟨rfl, by decide⟩ | exact (fun _ => rfl) | exact (fun h => nomatch h) | (simp; done) | omega | (simp [big]; done) | exact le_big (by omega) | exact lt_big (by omega))))
  refine LoopP.by (fun i : Nat => i ≤ l.length ∧ l.any (badQ x.l.length y.l.length) = (l.drop i).any (badQ x.l.length y.l.length)) (fun i => [(8, .int .i64 0), (9, .int .i64 0), (11, .int .i64 (i : Nat))]) (fun _ => [elB x, elB y]) (fun i => l.length - i) 0 ⟨Nat.zero_le _, rfl⟩ rfl ?_
  rintro i ⟨q1, q2⟩
  dsimp only
  by_cases hi : i < l.length
  · obtain ⟨p, hp⟩ : ∃ p, l[i]? = some p := ⟨_, List.getElem?_eq_getElem hi⟩
    have hc1 := shC_cell hp
    have hc2 := shC_cell2 hp
    have h1 := in_ok (n := p.1) (lo := 0) (hi := (x.l.length : Int) - 1)
    have h2 := in_ok (n := p.2) (lo := 0) (hi := (y.l.length : Int) - 1)
    have hdr : (l.drop i).any (badQ x.l.length y.l.length) = (badQ x.l.length y.l.length p || (l.drop (i + 1)).any (badQ x.l.length y.l.length)) := by
      obtain ⟨hi', rfl⟩ := List.getElem?_eq_some_iff.1 hp
      rw [List.drop_eq_getElem_cons hi', List.any_cons]
    rw [show badQ x.l.length y.l.length p = (outB p.1 0 ((x.l.length : Int) - 1) || outB p.2 0 ((y.l.length : Int) - 1)) from rfl] at hdr
    cases o1 : outB p.1 0 ((x.l.length : Int) - 1) <;> rw [o1] at h1 hdr
    · cases o2 : outB p.2 0 ((y.l.length : Int) - 1) <;> rw [o2] at h2 hdr
      · repeat' (first
 | (conv => whnf)
   first
   | refine Br.t ?_
   | refine Br.f ?_
   | (refine Br.decT ?_ ?_; (focus first | assumption | omega))
   | (refine Br.decF ?_ ?_; (focus first | assumption | omega))
   | refine Br.dec (fun _ => ?_) (fun _ => ?_)
   | refine Br.not ?_
   | refine Br.and ?_
   | refine Br.or ?_
   | (refine Bnd.i64 ?_ ?_ ?_; (focus omega); (focus omega))
   | refine Get.mk _ hc1 ?_
   | refine Get.mk _ hc2 ?_
   | refine call_fun rfl rfl h1 (.inl rfl) ?_
   | refine call_fun rfl rfl h2 (.inl rfl) ?_
   | (refine Idx.nat ?_ ?_; (focus omega))
   | refine Idx.nat (le_big (by omega)) ?_
   | (refine Idx.int ?_ ?_ ?_; (focus omega); (focus omega))
   | (refine Idx.int ?_ ?_ ?_; (focus decide); (focus decide))
   | refine Ifz.zero ?_
   | (refine Ifz.pos ?_ ?_; (focus omega))
   | refine Get.mk _ rfl ?_
   | refine Leaves.of ?_
   | refine Ends.of ?_
   | refine Vw.bool ?_
   | refine Vw.int ?_
   | refine Vw.nil
   | refine Vw.sl
   | refine Vw.tup ?_
   | refine Vw.agg ?_
   | refine VwL.cons ?_ ?_
   | refine VwL.nil
   | (refine Req.mk ?_ ?_; (focus first | rfl | decide | exact ⟨rfl, rfl⟩ | exact ⟨rfl, by decide⟩ | exact (fun _ => rfl) | exact (fun h => nomatch h) | (simp; done) | omega | (simp [big]; done) | exact le_big (by omega) | exact lt_big (by omega))))
        all_goals try (exfalso; omega)
        exact NextP.mk (i + 1) ⟨hi, by rw [q2, hdr]; rfl⟩ (by omega) rfl
      · have hany : l.any (badQ x.l.length y.l.length) = true := by rw [q2, hdr]; rfl
        rw [hany]
        repeat' (first
 | (conv => whnf)
   first
   | refine Br.t ?_
   | refine Br.f ?_
   | (refine Br.decT ?_ ?_; (focus first | assumption | omega))
   | (refine Br.decF ?_ ?_; (focus first | assumption | omega))
   | refine Br.dec (fun _ => ?_) (fun _ => ?_)
   | refine Br.not ?_
   | refine Br.and ?_
   | refine Br.or ?_
   | (refine Bnd.i64 ?_ ?_ ?_; (focus omega); (focus omega))
   | refine Get.mk _ hc1 ?_
   | refine Get.mk _ hc2 ?_
   | refine call_fun rfl rfl h1 (.inl rfl) ?_
   | refine call_fun rfl rfl h2 (.inl rfl) ?_
   | (refine Idx.nat ?_ ?_; (focus omega))
   | refine Idx.nat (le_big (by omega)) ?_
   | (refine Idx.int ?_ ?_ ?_; (focus omega); (focus omega))
   | (refine Idx.int ?_ ?_ ?_; (focus decide); (focus decide))
   | refine Ifz.zero ?_
   | (refine Ifz.pos ?_ ?_; (focus omega))
   | refine Get.mk _ rfl ?_
   | refine Leaves.of ?_
   | refine Ends.of ?_
   | refine Vw.bool ?_
   | refine Vw.int ?_
   | refine Vw.nil
   | refine Vw.sl
   | refine Vw.tup ?_
   | refine Vw.agg ?_
   | refine VwL.cons ?_ ?_
   | refine VwL.nil
   | (refine Req.mk ?_ ?_; (focus first | rfl | decide | exact ⟨rfl, rfl⟩ | exact ⟨rfl, by decide⟩ | exact (fun _ => rfl) | exact (fun h => nomatch h) | (simp; done) | omega | (simp [big]; done) | exact le_big (by omega) | exact lt_big (by omega))))
        all_goals first | rfl | (exfalso; omega)
    · have hany : l.any (badQ x.l.length y.l.length) = true := by rw [q2, hdr]; rfl
      rw [hany]
      repeat' (first
 | (conv => whnf)
   first
   | refine Br.t ?_
   | refine Br.f ?_
   | (refine Br.decT ?_ ?_; (focus first | assumption | omega))
   | (refine Br.decF ?_ ?_; (focus first | assumption | omega))
   | refine Br.dec (fun _ => ?_) (fun _ => ?_)
   | refine Br.not ?_
   | refine Br.and ?_
   | refine Br.or ?_
   | (refine Bnd.i64 ?_ ?_ ?_; (focus omega); (focus omega))
   | refine Get.mk _ hc1 ?_
   | refine Get.mk _ hc2 ?_
   | refine call_fun rfl rfl h1 (.inl rfl) ?_
   | refine call_fun rfl rfl h2 (.inl rfl) ?_
   | (refine Idx.nat ?_ ?_; (focus omega))
   | refine Idx.nat (le_big (by omega)) ?_
   | (refine Idx.int ?_ ?_ ?_; (focus omega); (focus omega))
   | (refine Idx.int ?_ ?_ ?_; (focus decide); (focus decide))
   | refine Ifz.zero ?_
   | (refine Ifz.pos ?_ ?_; (focus omega))
   | refine Get.mk _ rfl ?_
   | refine Leaves.of ?_
   | refine Ends.of ?_
   | refine Vw.bool ?_
   | refine Vw.int ?_
   | refine Vw.nil
   | refine Vw.sl
   | refine Vw.tup ?_
   | refine Vw.agg ?_
   | refine VwL.cons ?_ ?_
   | refine VwL.nil
   | (refine Req.mk ?_ ?_; (focus first | rfl | decide | exact ⟨rfl, rfl⟩ | exact ⟨rfl, by decide⟩ | exact (fun _ => rfl) | exact (fun h => nomatch h) | (simp; done) | omega | (simp [big]; done) | exact le_big (by omega) | exact lt_big (by omega))))
      all_goals first | rfl | (exfalso; omega)
  have hbad : l.any (badQ x.l.length y.l.length) = false := by rw [q2, show i = l.length by omega, List.drop_length]; rfl
  rw [hbad, if_neg (by simp)]
  repeat' (first
 | (conv => whnf)
   first
   | refine Br.t ?_
   | refine Br.f ?_
   | (refine Br.decT ?_ ?_; (focus first | assumption | omega))
   | (refine Br.decF ?_ ?_; (focus first | assumption | omega))
   | refine Br.dec (fun _ => ?_) (fun _ => ?_)
   | refine Br.not ?_
   | refine Br.and ?_
   | refine Br.or ?_
   | (refine Bnd.i64 ?_ ?_ ?_; (focus omega); (focus omega))
   | (refine Idx.nat ?_ ?_; (focus omega))
   | refine Idx.nat (le_big (by omega)) ?_
   | (refine Idx.int ?_ ?_ ?_; (focus omega); (focus omega))
   | (refine Idx.int ?_ ?_ ?_; (focus decide); (focus decide))
   | refine Ifz.zero ?_
   | (refine Ifz.pos ?_ ?_; (focus omega))
   | refine Get.mk _ rfl ?_
   | refine Leaves.of ?_
   | refine Ends.of ?_
   | refine Vw.bool ?_
   | refine Vw.int ?_
   | refine Vw.nil
   | refine Vw.sl
   | refine Vw.tup ?_
   | refine Vw.agg ?_
   | refine VwL.cons ?_ ?_
   | refine VwL.nil
   | (refine Req.mk ?_ ?_; (focus first | rfl | decide | exact ⟨rfl, rfl⟩ | exact ⟨rfl, by decide⟩ | exact (fun _ => rfl) | exact (fun h => nomatch h) | (simp; done) | omega | (simp [big]; done) | exact le_big (by omega) | exact lt_big (by omega))))
  all_goals try (exfalso; omega)
  refine LoopP.by (RJOk x y s l) (fun a => [(8, .int .i64 0), (9, .int .i64 0), (12, .int .i64 a.w), (13, .int .i64 (a.i : Nat))]) (fun _ => [elB x, elB y]) (fun a => l.length - a.i) ⟨0, 0⟩ ⟨Nat.zero_le _, rfl, by show -1 ≤ (-1 : Int) ∧ (-1 : Int) < 40; decide, by show 0 ≤ (0 : Int) ∧ (0 : Int) ≤ 200000 * (-1 + 1); decide⟩ rfl ?_
  rintro ⟨k, w⟩ ⟨w1, w2, w3, w4⟩
  dsimp only at w1 w2 w3 w4 ⊢
  by_cases hk : k < l.length
  rotate_left
  · have hres : jgF x y s l (-1) (-1) 0 = (w, 0) := by rw [w2, show k = l.length by omega, List.drop_length]; rfl
    rw [hres]
    repeat' (first
 | (conv => whnf)
   first
   | refine Br.t ?_
   | refine Br.f ?_
   | (refine Br.decT ?_ ?_; (focus first | assumption | omega))
   | (refine Br.decF ?_ ?_; (focus first | assumption | omega))
   | refine Br.dec (fun _ => ?_) (fun _ => ?_)
   | refine Br.not ?_
   | refine Br.and ?_
   | refine Br.or ?_
   | (refine Bnd.i64 ?_ ?_ ?_; (focus omega); (focus omega))
   | (refine Idx.nat ?_ ?_; (focus omega))
   | refine Idx.nat (le_big (by omega)) ?_
   | (refine Idx.int ?_ ?_ ?_; (focus omega); (focus omega))
   | (refine Idx.int ?_ ?_ ?_; (focus decide); (focus decide))
   | refine Ifz.zero ?_
   | (refine Ifz.pos ?_ ?_; (focus omega))
   | refine Get.mk _ rfl ?_
   | refine Leaves.of ?_
   | refine Ends.of ?_
   | refine Vw.bool ?_
   | refine Vw.int ?_
   | refine Vw.nil
   | refine Vw.sl
   | refine Vw.tup ?_
   | refine Vw.agg ?_
   | refine VwL.cons ?_ ?_
   | refine VwL.nil
   | (refine Req.mk ?_ ?_; (focus first | rfl | decide | exact ⟨rfl, rfl⟩ | exact ⟨rfl, by decide⟩ | exact (fun _ => rfl) | exact (fun h => nomatch h) | (simp; done) | omega | (simp [big]; done) | exact le_big (by omega) | exact lt_big (by omega))))
    all_goals first | rfl | (exfalso; omega)
  obtain ⟨⟨p1, p2⟩, hp⟩ : ∃ p, l[k]? = some p := ⟨_, List.getElem?_eq_getElem hk⟩
  obtain ⟨g1, g2, g3, g4⟩ := good_at hbad hp
  dsimp only at g1 g2 g3 g4
  obtain ⟨i0, rfl⟩ : ∃ i0 : Nat, p1 = i0 := ⟨p1.toNat, by omega⟩
  obtain ⟨j0, rfl⟩ : ∃ j0 : Nat, p2 = j0 := ⟨p2.toNat, by omega⟩
  obtain ⟨u, hu⟩ : ∃ u, x.l[i0]? = some u := ⟨_, List.getElem?_eq_getElem (by omega)⟩
  obtain ⟨v, hv⟩ : ∃ v, y.l[j0]? = some v := ⟨_, List.getElem?_eq_getElem (by omega)⟩
  have hc1 := shC_cell hp
  have hc2 := shC_cell2 hp
  have hpu := shC_part hu
  have hpv := shC_part hv
  have hum := ha.2 u (List.mem_of_getElem? hu)
  have hvm := hb.2 v (List.mem_of_getElem? hv)
  have hsh := refShare_ok (s := s) (x := u) (y := v) hs hum hvm
  have hS : sAt x y s ((i0 : Int), (j0 : Int)) = shr s u v := by
    show shA x.l y.l s ((i0 : Int)).toNat ((j0 : Int)).toNat = _
    rw [Int.toNat_natCast, Int.toNat_natCast]
    unfold shA
    rw [List.getD_eq_getElem?_getD, hu, List.getD_eq_getElem?_getD, hv]; rfl
  have hq := jg_drop (x := x) (y := y) (s := s) (bi := (bOf l k).1) (bj := (bOf l k).2) (w := w) hp
  rw [hS] at hq
  have rs := shr_rng (s := s) (x := u) (y := v) ⟨hum.2.2.1, hum.2.2.2⟩ ⟨hvm.2.2.1, hvm.2.2.2⟩
  have hbs := bOf_succ hp
  generalize shr s u v = S at *
  cases k with
  | zero =>
    have hb0 : bOf l 0 = (-1, -1) := rfl
    rw [hb0] at hq w2 w3 w4
    dsimp only at hq w2 w3 w4
    by_cases hc : S = 0
    · rw [if_pos (.inl hc)] at hq
      rw [w2, hq]
      repeat' (first
 | (conv => whnf)
   first
   | refine Br.t ?_
   | refine Br.f ?_
   | (refine Br.decT ?_ ?_; (focus first | assumption | omega))
   | (refine Br.decF ?_ ?_; (focus first | assumption | omega))
   | refine Br.dec (fun _ => ?_) (fun _ => ?_)
   | refine Br.not ?_
   | refine Br.and ?_
   | refine Br.or ?_
   | (refine Bnd.i64 ?_ ?_ ?_; (focus omega); (focus omega))
   | refine Get.mk _ hc1 ?_
   | refine Get.mk _ hc2 ?_
   | refine Get.mk _ hpu ?_
   | refine Get.mk _ hpv ?_
   | refine call_fun rfl rfl hsh (.inl rfl) ?_
   | (refine Idx.nat ?_ ?_; (focus omega))
   | refine Idx.nat (le_big (by omega)) ?_
   | (refine Idx.int ?_ ?_ ?_; (focus omega); (focus omega))
   | (refine Idx.int ?_ ?_ ?_; (focus decide); (focus decide))
   | refine Ifz.zero ?_
   | (refine Ifz.pos ?_ ?_; (focus omega))
   | refine Get.mk _ rfl ?_
   | refine Leaves.of ?_
   | refine Ends.of ?_
   | refine Vw.bool ?_
   | refine Vw.int ?_
   | refine Vw.nil
   | refine Vw.sl
   | refine Vw.tup ?_
   | refine Vw.agg ?_
   | refine VwL.cons ?_ ?_
   | refine VwL.nil
   | (refine Req.mk ?_ ?_; (focus first | rfl | decide | exact ⟨rfl, rfl⟩ | exact ⟨rfl, by decide⟩ | exact (fun _ => rfl) | exact (fun h => nomatch h) | (simp; done) | omega | (simp [big]; done) | exact le_big (by omega) | exact lt_big (by omega))))
      all_goals first | rfl | (exfalso; omega)
    · rw [if_neg (by omega)] at hq
      clear hS
      repeat' (first
 | (conv => whnf)
   first
   | refine Br.t ?_
   | refine Br.f ?_
   | (refine Br.decT ?_ ?_; (focus first | assumption | omega))
   | (refine Br.decF ?_ ?_; (focus first | assumption | omega))
   | refine Br.dec (fun _ => ?_) (fun _ => ?_)
   | refine Br.not ?_
   | refine Br.and ?_
   | refine Br.or ?_
   | (refine Bnd.i64 ?_ ?_ ?_; (focus omega); (focus omega))
   | refine Get.mk _ hc1 ?_
   | refine Get.mk _ hc2 ?_
   | refine Get.mk _ hpu ?_
   | refine Get.mk _ hpv ?_
   | refine call_fun rfl rfl hsh (.inl rfl) ?_
   | (refine Idx.nat ?_ ?_; (focus omega))
   | refine Idx.nat (le_big (by omega)) ?_
   | (refine Idx.int ?_ ?_ ?_; (focus omega); (focus omega))
   | (refine Idx.int ?_ ?_ ?_; (focus decide); (focus decide))
   | refine Ifz.zero ?_
   | (refine Ifz.pos ?_ ?_; (focus omega))
   | refine Get.mk _ rfl ?_
   | refine Leaves.of ?_
   | refine Ends.of ?_
   | refine Vw.bool ?_
   | refine Vw.int ?_
   | refine Vw.nil
   | refine Vw.sl
   | refine Vw.tup ?_
   | refine Vw.agg ?_
   | refine VwL.cons ?_ ?_
   | refine VwL.nil
   | (refine Req.mk ?_ ?_; (focus first | rfl | decide | exact ⟨rfl, rfl⟩ | exact ⟨rfl, by decide⟩ | exact (fun _ => rfl) | exact (fun h => nomatch h) | (simp; done) | omega | (simp [big]; done) | exact le_big (by omega) | exact lt_big (by omega))))
      all_goals try (exfalso; omega)
      all_goals refine NextP.mk ⟨0 + 1, w + S⟩ ⟨hk, by dsimp only; rw [w2, hq, hbs], by dsimp only; rw [hbs]; dsimp only; omega, by dsimp only; rw [hbs]; dsimp only; omega⟩ (by dsimp only; omega) rfl
  | succ k' =>
    obtain ⟨⟨b1, b2⟩, hpb⟩ : ∃ p, l[k']? = some p := ⟨_, List.getElem?_eq_getElem (by omega)⟩
    have hb0 := bOf_succ hpb
    rw [hb0] at hq w2 w3 w4
    dsimp only at hq w2 w3 w4
    have hd1 := shC_cell hpb
    have hd2 := shC_cell2 hpb
    have hkk : IntKind.i64.wrap (((k' + 1 : Nat) : Int) - 1) = (k' : Nat) := by rw [wrap_i64 (by omega) (by omega)]; omega
    by_cases hc : S = 0 ∨ (i0 : Int) ≤ b1 ∨ (j0 : Int) ≤ b2
    · rw [if_pos hc] at hq
      rw [w2, hq]
      repeat' (first
 | (conv => whnf)
   first
   | refine Bnd.eq hkk ?_
   | refine Br.t ?_
   | refine Br.f ?_
   | (refine Br.decT ?_ ?_; (focus first | assumption | omega))
   | (refine Br.decF ?_ ?_; (focus first | assumption | omega))
   | refine Br.dec (fun _ => ?_) (fun _ => ?_)
   | refine Br.not ?_
   | refine Br.and ?_
   | refine Br.or ?_
   | (refine Bnd.i64 ?_ ?_ ?_; (focus omega); (focus omega))
   | refine Get.mk _ hc1 ?_
   | refine Get.mk _ hc2 ?_
   | refine Get.mk _ hd1 ?_
   | refine Get.mk _ hd2 ?_
   | refine Get.mk _ hpu ?_
   | refine Get.mk _ hpv ?_
   | refine call_fun rfl rfl hsh (.inl rfl) ?_
   | (refine Idx.nat ?_ ?_; (focus omega))
   | refine Idx.nat (le_big (by omega)) ?_
   | (refine Idx.int ?_ ?_ ?_; (focus omega); (focus omega))
   | (refine Idx.int ?_ ?_ ?_; (focus decide); (focus decide))
   | refine Ifz.zero ?_
   | (refine Ifz.pos ?_ ?_; (focus omega))
   | refine Get.mk _ rfl ?_
   | refine Leaves.of ?_
   | refine Ends.of ?_
   | refine Vw.bool ?_
   | refine Vw.int ?_
   | refine Vw.nil
   | refine Vw.sl
   | refine Vw.tup ?_
   | refine Vw.agg ?_
   | refine VwL.cons ?_ ?_
   | refine VwL.nil
   | (refine Req.mk ?_ ?_; (focus first | rfl | decide | exact ⟨rfl, rfl⟩ | exact ⟨rfl, by decide⟩ | exact (fun _ => rfl) | exact (fun h => nomatch h) | (simp; done) | omega | (simp [big]; done) | exact le_big (by omega) | exact lt_big (by omega))))
      all_goals first | rfl | (exfalso; omega)
    · rw [if_neg hc] at hq
      clear hS
      repeat' (first
 | (conv => whnf)
   first
   | refine Bnd.eq hkk ?_
   | refine Br.t ?_
   | refine Br.f ?_
   | (refine Br.decT ?_ ?_; (focus first | assumption | omega))
   | (refine Br.decF ?_ ?_; (focus first | assumption | omega))
   | refine Br.dec (fun _ => ?_) (fun _ => ?_)
   | refine Br.not ?_
   | refine Br.and ?_
   | refine Br.or ?_
   | (refine Bnd.i64 ?_ ?_ ?_; (focus omega); (focus omega))
   | refine Get.mk _ hc1 ?_
   | refine Get.mk _ hc2 ?_
   | refine Get.mk _ hd1 ?_
   | refine Get.mk _ hd2 ?_
   | refine Get.mk _ hpu ?_
   | refine Get.mk _ hpv ?_
   | refine call_fun rfl rfl hsh (.inl rfl) ?_
   | (refine Idx.nat ?_ ?_; (focus omega))
   | refine Idx.nat (le_big (by omega)) ?_
   | (refine Idx.int ?_ ?_ ?_; (focus omega); (focus omega))
   | (refine Idx.int ?_ ?_ ?_; (focus decide); (focus decide))
   | refine Ifz.zero ?_
   | (refine Ifz.pos ?_ ?_; (focus omega))
   | refine Get.mk _ rfl ?_
   | refine Leaves.of ?_
   | refine Ends.of ?_
   | refine Vw.bool ?_
   | refine Vw.int ?_
   | refine Vw.nil
   | refine Vw.sl
   | refine Vw.tup ?_
   | refine Vw.agg ?_
   | refine VwL.cons ?_ ?_
   | refine VwL.nil
   | (refine Req.mk ?_ ?_; (focus first | rfl | decide | exact ⟨rfl, rfl⟩ | exact ⟨rfl, by decide⟩ | exact (fun _ => rfl) | exact (fun h => nomatch h) | (simp; done) | omega | (simp [big]; done) | exact le_big (by omega) | exact lt_big (by omega))))
      all_goals try (exfalso; omega)
      all_goals refine NextP.mk ⟨k' + 1 + 1, w + S⟩ ⟨hk, by dsimp only; rw [w2, hq, hbs], by dsimp only; rw [hbs]; dsimp only; omega, by dsimp only; rw [hbs]; dsimp only; omega⟩ (by dsimp only; omega) rfl
end Go.Dr.T
