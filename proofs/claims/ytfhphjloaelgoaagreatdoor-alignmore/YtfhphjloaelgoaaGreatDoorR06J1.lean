/- Chapter 06: Judge. -/
import Derived.Test.YtfhphjloaelgoaaGreatDoorR06P3
namespace Go.Dr.T
def prC : List (Int × Int) → List V := shC
def badQ (n m : Int) (p : Int × Int) : Bool := outB p.1 0 (n - 1) || outB p.2 0 (m - 1)
def bixOf (n m : Int) : List (Int × Int) → Int
  | [] => -1
  | p :: l => if badQ n m p = true then 0 else if bixOf n m l < 0 then -1 else bixOf n m l + 1
theorem bix_cases (n m : Int) : ∀ l, (l.any (badQ n m) = true ∧ 0 ≤ bixOf n m l) ∨ (l.any (badQ n m) = false ∧ bixOf n m l = -1)
  | [] => .inr ⟨rfl, rfl⟩
  | p :: l => by
    unfold bixOf
    cases h : badQ n m p with
    | true => rw [if_pos rfl]; exact .inl ⟨by simp [h], by omega⟩
    | false =>
      rw [if_neg (by simp)]
      rcases bix_cases n m l with ⟨h1, h2⟩ | ⟨h1, h2⟩
      · rw [if_neg (by omega)]; exact .inl ⟨by simp only [List.any_cons, h1, Bool.or_true], by omega⟩
      · rw [if_pos (by omega)]; exact .inr ⟨by simp only [List.any_cons, h1, h, Bool.or_false], rfl⟩
theorem bix_drop {n m : Int} {p : Int × Int} {l : List (Int × Int)} {i : Nat} (h : l[i]? = some p) : bixOf n m (l.drop i) = if badQ n m p = true then 0 else if bixOf n m (l.drop (i + 1)) < 0 then -1 else bixOf n m (l.drop (i + 1)) + 1 := by
  obtain ⟨hi, rfl⟩ := List.getElem?_eq_some_iff.1 h
  rw [List.drop_eq_getElem_cons hi]; rfl
abbrev elB (x : El) : B := .blk [.str x.nm, .sl x.c x.l.length (shC x.l), .int .i64 x.g] false
set_option maxRecDepth 100000 in
set_option maxHeartbeats 20000000 in
theorem bad_call {x y : El} {p : Int × Int} {K : V → List B → Prop} (hx : x.l.length ≤ 40) (hy : y.l.length ≤ 40) (hk : K (.bool (badQ x.l.length y.l.length p)) [elB x, elB y]) : CallP FB md 0 (.fn 62 [.ref 0 3 0, .ref 1 3 0]) [.agg [.int .i64 p.1, .int .i64 p.2]] [elB x, elB y] K := by
  have h1 := out_ok (n := p.1) (lo := 0) (hi := (x.l.length : Int) - 1)
  have h2 := out_ok (n := p.2) (lo := 0) (hi := (y.l.length : Int) - 1)
  unfold badQ at hk
  refine call_one rfl rfl rfl ?_
  cases ho : outB p.1 0 ((x.l.length : Int) - 1) <;> rw [ho] at h1 hk
  · cases ho2 : outB p.2 0 ((y.l.length : Int) - 1) <;> rw [ho2] at h2 hk
    all_goals
      repeat' (first
 | (conv => whnf)
   first
   | refine Br.f ?_
   | (refine Bnd.i64 ?_ ?_ ?_; (focus omega); (focus omega))
   | refine call_fun rfl rfl h1 (.inl rfl) ?_
   | refine call_fun rfl rfl h2 (.inl rfl) ?_
   | refine Get.mk _ rfl ?_
   | refine Ends.of ?_
   | (refine Req.mk ?_ ?_; (focus first | rfl | decide | exact ⟨rfl, rfl⟩ | exact ⟨rfl, by decide⟩ | exact (fun _ => rfl) | exact (fun h => nomatch h) | (simp; done) | omega | (simp [big]; done) | exact le_big (by omega) | exact lt_big (by omega))))
    all_goals exact hk
  · repeat' (first
 | (conv => whnf)
   first
   | refine Br.t ?_
   | (refine Bnd.i64 ?_ ?_ ?_; (focus omega); (focus omega))
   | refine call_fun rfl rfl h1 (.inl rfl) ?_
   | refine Get.mk _ rfl ?_
   | refine Ends.of ?_
   | (refine Req.mk ?_ ?_; (focus first | rfl | decide | exact ⟨rfl, rfl⟩ | exact ⟨rfl, by decide⟩ | exact (fun _ => rfl) | exact (fun h => nomatch h) | (simp; done) | omega | (simp [big]; done) | exact le_big (by omega) | exact lt_big (by omega))))
    all_goals exact hk
set_option maxRecDepth 100000 in
set_option maxHeartbeats 20000000 in
theorem bix_call {c : Bool} {x y : El} {l : List (Int × Int)} {K : V → List B → Prop} (hx : x.l.length ≤ 40) (hy : y.l.length ≤ 40) (hl : l.length ≤ 9223372036854775807) (hk : K (.int .i64 (bixOf x.l.length y.l.length l)) [elB x, elB y]) : CallP FB md 0 (.fn 94 []) [.sl c l.length (shC l), .fn 62 [.ref 0 3 0, .ref 1 3 0]] [elB x, elB y] K := by
  refine call_one rfl rfl rfl ?_
  skip
  refine LoopP.by (fun i : Nat => i ≤ l.length ∧ bixOf x.l.length y.l.length l = if bixOf x.l.length y.l.length (l.drop i) < 0 then -1 else bixOf x.l.length y.l.length (l.drop i) + i) (fun i => [(4, .int .i64 0), (8, .int .i64 (i : Nat))]) (fun _ => [elB x, elB y]) (fun i => l.length - i) 0 ⟨Nat.zero_le _, by rcases bix_cases x.l.length y.l.length l with ⟨_, h⟩ | ⟨_, h⟩ <;> rw [List.drop_zero] <;> first | (rw [h]; rfl) | (rw [if_neg (by omega)]; simp)⟩ rfl ?_
  rintro i ⟨q1, q2⟩
  dsimp only
  by_cases hi : i < l.length
  rotate_left
  · have hres : bixOf x.l.length y.l.length l = -1 := by rw [q2, show i = l.length by omega, List.drop_length]; rfl
    rw [hres] at hk
    repeat' (first
 | (conv => whnf)
   first
   | (refine Br.decF ?_ ?_; (focus first | assumption | omega))
   | refine Get.mk _ rfl ?_
   | refine Ends.of ?_)
    all_goals first | exact hk | (exfalso; omega)
  obtain ⟨p, hp⟩ : ∃ p, l[i]? = some p := ⟨_, List.getElem?_eq_getElem hi⟩
  have hpart := shC_part hp
  have hq := bix_drop (n := x.l.length) (m := y.l.length) hp
  have hbc : ∀ {K : V → List B → Prop}, K (.bool (badQ x.l.length y.l.length p)) [elB x, elB y] → CallP FB md 0 (.fn 62 [.ref 0 3 0, .ref 1 3 0]) [.agg [.int .i64 p.1, .int .i64 p.2]] [elB x, elB y] K := fun h => bad_call hx hy h
  cases hb : badQ x.l.length y.l.length p <;> rw [hb] at hq hbc
  · rw [if_neg (by simp)] at hq
    repeat' (first
 | (conv => whnf)
   first
   | refine Br.f ?_
   | (refine Br.decT ?_ ?_; (focus first | assumption | omega))
   | (refine Bnd.i64 ?_ ?_ ?_; (focus omega); (focus omega))
   | refine Get.mk _ hpart ?_
   | refine hbc ?_
   | (refine Idx.nat ?_ ?_; (focus omega))
   | (refine Req.mk ?_ ?_; (focus first | rfl | decide | exact ⟨rfl, rfl⟩ | exact ⟨rfl, by decide⟩ | exact (fun _ => rfl) | exact (fun h => nomatch h) | (simp; done) | omega | (simp [big]; done) | exact le_big (by omega) | exact lt_big (by omega))))
    all_goals try (exfalso; omega)
    refine NextP.mk (i + 1) ⟨hi, ?_⟩ (by omega) rfl
    rw [q2, hq]
    rcases bix_cases x.l.length y.l.length (l.drop (i + 1)) with ⟨_, h⟩ | ⟨_, h⟩
    · rw [if_neg (show ¬ bixOf x.l.length y.l.length (l.drop (i + 1)) < 0 by omega), if_neg (by omega)]; omega
    · rw [h]; rfl
  · rw [if_pos rfl] at hq
    have hres : bixOf x.l.length y.l.length l = i := by rw [q2, hq]; simp
    rw [hres] at hk
    repeat' (first
 | (conv => whnf)
   first
   | refine Br.t ?_
   | (refine Br.decT ?_ ?_; (focus first | assumption | omega))
   | refine Get.mk _ hpart ?_
   | refine hbc ?_
   | (refine Idx.nat ?_ ?_; (focus omega))
   | refine Get.mk _ rfl ?_
   | refine Ends.of ?_
   | (refine Req.mk ?_ ?_; (focus first | rfl | decide | exact ⟨rfl, rfl⟩ | exact ⟨rfl, by decide⟩ | exact (fun _ => rfl) | exact (fun h => nomatch h) | (simp; done) | omega | (simp [big]; done) | exact le_big (by omega) | exact lt_big (by omega))))
    all_goals first | exact hk | (exfalso; omega)
set_option maxRecDepth 100000 in
theorem bads_call {c : Bool} {x y : El} {l : List (Int × Int)} {K : V → List B → Prop} (hx : x.l.length ≤ 40) (hy : y.l.length ≤ 40) (hl : l.length ≤ 9223372036854775807) (hk : K (.bool (l.any (badQ x.l.length y.l.length))) [elB x, elB y]) : CallP FB md 0 (.fn 61 []) [.sl c l.length (shC l), .fn 62 [.ref 0 3 0, .ref 1 3 0]] [elB x, elB y] K := by
  have h1 : ∀ {K : V → List B → Prop}, K (.int .i64 (bixOf x.l.length y.l.length l)) [elB x, elB y] → CallP FB md 0 (.fn 94 []) [.sl c l.length (shC l), .fn 62 [.ref 0 3 0, .ref 1 3 0]] [elB x, elB y] K := fun h => bix_call hx hy hl h
  refine call_one rfl rfl rfl ?_
  rcases bix_cases x.l.length y.l.length l with ⟨h, h2⟩ | ⟨h, h2⟩
  all_goals rw [h] at hk
  all_goals generalize bixOf x.l.length y.l.length l = e at *
  all_goals
    repeat' (first
 | (conv => whnf)
   first
   | refine h1 ?_
   | refine Get.mk _ rfl ?_
   | refine Ends.of ?_)
  · have hd : decide (0 ≤ e) = true := decide_eq_true (by omega)
    refine fW.mk ?_
    refine fB.mk ?_
    show K (.bool (decide (0 ≤ e))) [elB x, elB y]
    rw [hd]; exact hk
  · have hd : decide (0 ≤ e) = false := decide_eq_false (by omega)
    refine fW.mk ?_
    refine fB.mk ?_
    show K (.bool (decide (0 ≤ e))) [elB x, elB y]
    rw [hd]; exact hk
set_option maxRecDepth 100000 in
theorem refShare_ok {s : Int} {x y : Int × Int} (hs : 0 ≤ s ∧ s ≤ 200000) (hx : 0 ≤ x.1 ∧ x.1 ≤ 999 ∧ 1 ≤ x.2 ∧ x.2 ≤ 200000) (hy : 0 ≤ y.1 ∧ y.1 ≤ 999 ∧ 1 ≤ y.2 ∧ y.2 ≤ 200000) : Fun FB md 64 [.agg [.int .i64 x.1, .int .i64 x.2], .agg [.int .i64 y.1, .int .i64 y.2], .int .i64 s] (.int .i64 (shr s x y)) := by
  obtain ⟨m, n⟩ := x
  obtain ⟨m', n'⟩ := y
  dsimp only at *
  have hw : IntKind.i64.wrap ((min n n').tdiv 2) = min n n' / 2 := by rw [Int.tdiv_eq_ediv_of_nonneg (by omega)]; exact wrap_i64 (by omega) (by omega)
  refine fun_of rfl rfl ?_
  repeat' (first
 | (conv => whnf)
   first
   | refine Br.t ?_
   | refine Br.f ?_
   | (refine Br.decT ?_ ?_; (focus first | assumption | omega))
   | (refine Br.decF ?_ ?_; (focus first | assumption | omega))
   | refine Br.dec (fun _ => ?_) (fun _ => ?_)
   | refine Br.not ?_
   | (refine Bnd.i64 ?_ ?_ ?_; (focus omega); (focus omega))
   | refine Bnd.any ?_
   | refine Get.mk _ rfl ?_
   | refine Leaves.of ?_
   | refine Vw.int ?_
   | (refine Req.mk ?_ ?_; (focus first | rfl | decide | exact ⟨rfl, rfl⟩ | exact ⟨rfl, by decide⟩ | exact (fun _ => rfl) | exact (fun h => nomatch h) | (simp; done) | omega | (simp [big]; done) | exact le_big (by omega) | exact lt_big (by omega))))
  all_goals rw [shr_case]
  all_goals (try rw [hw])
  all_goals first
    | (rw [if_pos (by omega)]; done)
    | (rw [if_neg (by omega), if_pos (by omega)]; omega)
    | (rw [if_neg (by omega), if_neg (by omega), if_pos (by omega)]; done)
    | (rw [if_neg (by omega), if_neg (by omega), if_neg (by omega)]; done)
    | (exfalso; omega)
theorem openE_1 {x y : El} {s : Int} (h : x.e ≠ 0) : openE x y s = x.e := by simp [openE, ckd, h]
theorem openE_2 {x y : El} {s : Int} (h : x.e = 0) (h2 : y.e ≠ 0) : openE x y s = y.e := by simp [openE, ckd, h, h2]
theorem openE_3 {x y : El} {s : Int} (h : x.e = 0) (h2 : y.e = 0) : openE x y s = if outB s 0 200000 = true then 7 else 0 := by simp [openE, ckd, h, h2]
set_option maxRecDepth 100000 in
theorem two_ok {x y : El} {s : Int} : Fun FB md 55 [elA' x, elA' y, .int .i64 s] (.int .i64 (openE x y s)) := by
  have h1 : Fun FB md 19 [elA' x] (.tup [.int .i64 (ckE x.nm x.l x.g).1, .int .i64 x.e]) := refCheck_ok (nm := x.nm) (c := x.c) (l := x.l) (g := x.g)
  have h2 : Fun FB md 19 [elA' y] (.tup [.int .i64 (ckE y.nm y.l y.g).1, .int .i64 y.e]) := refCheck_ok (nm := y.nm) (c := y.c) (l := y.l) (g := y.g)
  have h3 := in_ok (n := s) (lo := 0) (hi := 200000)
  generalize (ckE x.nm x.l x.g).1 = ax at *
  generalize (ckE y.nm y.l y.g).1 = ay at *
  by_cases hex : x.e = 0
  · by_cases hey : y.e = 0
    · rw [openE_3 hex hey]
      rw [hex] at h1
      rw [hey] at h2
      cases hs : outB s 0 200000 <;> rw [hs] at h3
      all_goals refine fun_of rfl rfl ?_
      all_goals
        repeat' (first
 | (conv => whnf)
   first
   | refine Br.t ?_
   | refine Br.f ?_
   | refine call_fun rfl rfl h1 (.inl rfl) ?_
   | refine call_fun rfl rfl h2 (.inl rfl) ?_
   | refine call_fun rfl rfl h3 (.inl rfl) ?_
   | refine Get.mk _ rfl ?_
   | refine Leaves.of ?_
   | refine Vw.int ?_
   | (refine Req.mk ?_ ?_; (focus first | rfl | decide | exact ⟨rfl, rfl⟩ | exact ⟨rfl, by decide⟩ | exact (fun _ => rfl) | exact (fun h => nomatch h) | (simp; done) | omega | (simp [big]; done) | exact le_big (by omega) | exact lt_big (by omega))))
      all_goals first | rfl | (exfalso; omega)
    · rw [openE_2 hex hey]
      rw [hex] at h1
      generalize y.e = ey at *
      refine fun_of rfl rfl ?_
      repeat' (first
 | (conv => whnf)
   first
   | refine Br.t ?_
   | refine Br.f ?_
   | (refine Br.decF ?_ ?_; (focus first | assumption | omega))
   | refine call_fun rfl rfl h1 (.inl rfl) ?_
   | refine call_fun rfl rfl h2 (.inl rfl) ?_
   | refine Get.mk _ rfl ?_
   | refine Leaves.of ?_
   | refine Vw.int ?_
   | (refine Req.mk ?_ ?_; (focus first | rfl | decide | exact ⟨rfl, rfl⟩ | exact ⟨rfl, by decide⟩ | exact (fun _ => rfl) | exact (fun h => nomatch h) | (simp; done) | omega | (simp [big]; done) | exact le_big (by omega) | exact lt_big (by omega))))
      all_goals first | rfl | (exfalso; omega)
  · rw [openE_1 hex]
    generalize x.e = ex at *
    refine fun_of rfl rfl ?_
    repeat' (first
 | (conv => whnf)
   first
   | refine Br.f ?_
   | (refine Br.decF ?_ ?_; (focus first | assumption | omega))
   | refine call_fun rfl rfl h1 (.inl rfl) ?_
   | refine Get.mk _ rfl ?_
   | refine Leaves.of ?_
   | refine Vw.int ?_
   | (refine Req.mk ?_ ?_; (focus first | rfl | decide | exact ⟨rfl, rfl⟩ | exact ⟨rfl, by decide⟩ | exact (fun _ => rfl) | exact (fun h => nomatch h) | (simp; done) | omega | (simp [big]; done) | exact le_big (by omega) | exact lt_big (by omega))))
    all_goals first | rfl | (exfalso; omega)
end Go.Dr.T
