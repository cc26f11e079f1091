/- Chapter 06: the law AlignTurned. -/
import Derived.Test.YtfhphjloaelgoaaGreatDoorR06Q2
import Derived.Test.YtfhphjloaelgoaaGreatDoorR06S2
import Derived.Test.YtfhphjloaelgoaaGreatDoorR06B5
import Derived.Test.YtfhphjloaelgoaaGreatDoorR06M2
import Derived.Test.YtfhphjloaelgoaaGreatDoorR06Ax
import Derived.Test.YtfhphjloaelgoaaGreatDoorR06Wr
namespace Go.Dr.T
theorem pair_ok {a b : Int} : Fun FB md 32 [.int .i64 a, .int .i64 b] (.agg [.int .i64 a, .int .i64 b]) := by
  refine fun_of rfl rfl ?_
  repeat' (first
 | (conv => whnf)
   first
   | refine Get.mk _ rfl ?_
   | refine Leaves.of ?_
   | refine Vw.int ?_
   | refine Vw.agg ?_
   | refine VwL.cons ?_ ?_
   | refine VwL.nil
   | (refine Req.mk ?_ ?_; (focus first | rfl | decide | exact ⟨rfl, rfl⟩ | exact ⟨rfl, by decide⟩ | exact (fun _ => rfl) | exact (fun h => nomatch h) | (simp; done) | omega | (simp [big]; done) | exact le_big (by omega) | exact lt_big (by omega))))
  all_goals rfl
set_option maxRecDepth 100000 in
set_option maxHeartbeats 20000000 in
theorem has_ok {c : Bool} {l : List (Int × Int)} {a b : Int} (hl : l.length ≤ 1000000) : Fun FB md 47 [.sl c l.length (shC l), .agg [.int .i64 a, .int .i64 b]] (.bool (decide ((a, b) ∈ l))) := by
  refine fun_of rfl rfl ?_
  repeat' (first
 | (conv => whnf)
   first
   | refine Get.mk _ rfl ?_
   | (refine Req.mk ?_ ?_; (focus first | rfl | decide | exact ⟨rfl, rfl⟩ | exact ⟨rfl, by decide⟩ | exact (fun _ => rfl) | exact (fun h => nomatch h) | (simp; done) | omega | (simp [big]; done) | exact le_big (by omega) | exact lt_big (by omega))))
  refine LoopP.by (fun i : Nat => i ≤ l.length ∧ ((a, b) ∈ l ↔ (a, b) ∈ l.drop i)) (fun i => [(5, .int .i64 (i : Nat))]) (fun _ => [.blk [.int .i64 a, .int .i64 b] false]) (fun i => l.length - i) 0 ⟨Nat.zero_le _, Iff.rfl⟩ rfl ?_
  rintro i ⟨hi', he⟩
  dsimp only
  by_cases hi : i < l.length
  rotate_left
  · have hres : ((a, b) ∈ l) = False := by rw [eq_iff_iff, he, show i = l.length by omega, List.drop_length]; simp
    simp only [hres]
    repeat' (first
 | (conv => whnf)
   first
   | (refine Br.decF ?_ ?_; (focus first | assumption | omega))
   | refine Get.mk _ rfl ?_
   | refine Leaves.of ?_
   | refine Vw.bool ?_)
    all_goals first | rfl | (exfalso; omega)
  obtain ⟨p, hp⟩ : ∃ p, l[i]? = some p := ⟨_, List.getElem?_eq_getElem hi⟩
  have hpp := shC_part hp
  have hdr : l.drop i = p :: l.drop (i + 1) := by
    obtain ⟨hi2, rfl⟩ := List.getElem?_eq_some_iff.1 hp
    exact List.drop_eq_getElem_cons hi2
  obtain ⟨u, v⟩ := p
  dsimp only at hpp
  by_cases hc : u = a ∧ v = b
  · obtain ⟨rfl, rfl⟩ := hc
    have hres : ((u, v) ∈ l) = True := by rw [eq_iff_iff, he, hdr]; simp
    simp only [hres]
    repeat' (first
 | (conv => whnf)
   first
   | refine Br.t ?_
   | (refine Br.decT ?_ ?_; (focus first | assumption | omega))
   | refine Br.and ?_
   | refine Get.mk _ hpp ?_
   | (refine Idx.nat ?_ ?_; (focus omega))
   | refine Get.mk _ rfl ?_
   | refine Leaves.of ?_
   | refine Vw.bool ?_
   | (refine Req.mk ?_ ?_; (focus first | rfl | decide | exact ⟨rfl, rfl⟩ | exact ⟨rfl, by decide⟩ | exact (fun _ => rfl) | exact (fun h => nomatch h) | (simp; done) | omega | (simp [big]; done) | exact le_big (by omega) | exact lt_big (by omega))))
    all_goals first | rfl | (exfalso; omega)
  · have hne : (a, b) ≠ (u, v) := fun e => hc (by rw [Prod.mk.injEq] at e; exact ⟨e.1.symm, e.2.symm⟩)
    by_cases hu : u = a
    · have hv : ¬ v = b := fun e => hc ⟨hu, e⟩
      repeat' (first
 | (conv => whnf)
   first
   | (refine Br.decT ?_ ?_; (focus first | assumption | omega))
   | (refine Br.decF ?_ ?_; (focus first | assumption | omega))
   | refine Br.and ?_
   | (refine Bnd.i64 ?_ ?_ ?_; (focus omega); (focus omega))
   | refine Get.mk _ hpp ?_
   | (refine Idx.nat ?_ ?_; (focus omega))
   | refine Get.mk _ rfl ?_
   | (refine Req.mk ?_ ?_; (focus first | rfl | decide | exact ⟨rfl, rfl⟩ | exact ⟨rfl, by decide⟩ | exact (fun _ => rfl) | exact (fun h => nomatch h) | (simp; done) | omega | (simp [big]; done) | exact le_big (by omega) | exact lt_big (by omega))))
      all_goals first | (exfalso; omega; done) | exact NextP.mk (i + 1) ⟨hi, by rw [he, hdr]; simp [hne]⟩ (by omega) rfl
    · repeat' (first
 | (conv => whnf)
   first
   | (refine Br.decT ?_ ?_; (focus first | assumption | omega))
   | (refine Br.decF ?_ ?_; (focus first | assumption | omega))
   | refine Br.and ?_
   | (refine Bnd.i64 ?_ ?_ ?_; (focus omega); (focus omega))
   | refine Get.mk _ hpp ?_
   | (refine Idx.nat ?_ ?_; (focus omega))
   | refine Get.mk _ rfl ?_
   | (refine Req.mk ?_ ?_; (focus first | rfl | decide | exact ⟨rfl, rfl⟩ | exact ⟨rfl, by decide⟩ | exact (fun _ => rfl) | exact (fun h => nomatch h) | (simp; done) | omega | (simp [big]; done) | exact le_big (by omega) | exact lt_big (by omega))))
      all_goals first | (exfalso; omega; done) | exact NextP.mk (i + 1) ⟨hi, by rw [he, hdr]; simp [hne]⟩ (by omega) rfl
theorem shC_cellB2 {l : List (Int × Int)} {i : Nat} {p : Int × Int} (h : l[i]? = some p) : cellAt (shC l) (i * 2 + 1) = some (.int .i64 p.2) := by
  have h1 := shC_drop h
  have : (shC l).drop (i * 2 + 1) = .int .i64 p.2 :: (shC l).drop (i * 2 + 2) := by
    rw [← List.drop_drop, h1]; rfl
  exact cellAt_drop this
theorem best_T {x y : El} {s : Int} (h : openE x y s = 0) : bestV2 x y s = .tup [.int .i64 (openT x y s 0 0), .int .i64 (cT x y s 0 0), .int .i64 0] := by unfold bestV2; rw [if_neg (fun q => q h)]; rfl
theorem best_E {x y : El} {s : Int} (h : openE x y s ≠ 0) : bestV2 x y s = .tup [.int .i64 0, .int .i64 0, .int .i64 (openE x y s)] := by unfold bestV2; rw [if_pos h]
theorem lsP_form (l : List (Int × Int)) : ∃ c, lsP l = .sl c l.length (shC l) := by
  unfold lsP
  split
  · rename_i h; subst h; exact ⟨true, rfl⟩
  · exact ⟨false, rfl⟩
theorem grid_le {c : Nat → Nat → Bool} {n m : Nat} (hn : n ≤ 40) (hm : m ≤ 40) : (grid c n m).length ≤ 1600 := by
  have h : ∀ (k : Nat) (f : Nat → Int) (b : Int), (∀ i, f i ≤ b) → sm k f ≤ k * b := by
    intro k f b hf
    induction k with
    | zero => simp [sm]
    | succ k ih =>
      have := hf k
      simp only [sm]
      rw [Int.natCast_add, Int.add_mul]
      omega
  have h1 := grid_len (c := c) (m := m) n
  have h2 : ∀ i, sm m (fun j => if c i j = true then 1 else 0) ≤ 40 := fun i => by
    have := h m (fun j => if c i j = true then 1 else 0) 1 (fun j => by split <;> decide)
    omega
  have h3 := h n (fun i => sm m (fun j => if c i j = true then 1 else 0)) 40 h2
  omega
theorem openE_swap {x y : El} {s : Int} (h : openE x y s = 0) : openE y x s = 0 := by
  obtain ⟨h1, h2, h3⟩ := openE_0 h
  rw [openE_of h1 h3]; exact h2
set_option maxRecDepth 100000 in
set_option maxHeartbeats 20000000 in
theorem law_turned {x y : El} {s : Int} : Fun FB2 md 16 [.agg (x.v ++ y.v), .int .i64 s] (.bool true) := by
  have hAw := awake
  have h1 := ((best_ok (x := x) (y := y) (s := s)).tab sub1).tab sub2
  have h2 := ((best_ok (x := y) (y := x) (s := s)).tab sub1).tab sub2
  have h3 := ((surely_ok (x := x) (y := y) (s := s)).tab sub1).tab sub2
  have h4 := ((surely_ok (x := y) (y := x) (s := s)).tab sub1).tab sub2
  by_cases he : openE x y s = 0
  rotate_left
  · have he2 : openE y x s ≠ 0 := fun h => he (openE_swap h)
    rw [best_E he] at h1
    rw [best_E he2] at h2
    unfold surelyV at h3 h4
    rw [if_pos he] at h3
    rw [if_pos he2] at h4
    generalize openE x y s = e at *
    generalize openE y x s = f at *
    refine fun_of rfl rfl ?_
    repeat' (first
 | (conv => whnf)
   first
   | refine Br.t ?_
   | (refine Br.decT ?_ ?_; (focus first | assumption | omega))
   | (refine Br.decF ?_ ?_; (focus first | assumption | omega))
   | refine Br.dec (fun _ => ?_) (fun _ => ?_)
   | refine Br.not ?_
   | refine call_fun rfl rfl h1 (.inl rfl) ?_
   | refine call_fun rfl rfl h2 (.inl rfl) ?_
   | refine call_fun rfl rfl h3 (.inl rfl) ?_
   | refine call_fun rfl rfl h4 (.inl rfl) ?_
   | refine call_fun rfl rfl hAw (.inl rfl) ?_
   | refine Get.mk _ rfl ?_
   | refine Leaves.of ?_
   | refine Vw.bool ?_
   | (refine Req.mk ?_ ?_; (focus first | rfl | decide | exact ⟨rfl, rfl⟩ | exact ⟨rfl, by decide⟩ | exact (fun _ => rfl) | exact (fun h => nomatch h) | (simp; done) | omega | (simp [big]; done) | exact le_big (by omega) | exact lt_big (by omega))))
    all_goals first | rfl | (exfalso; omega; done) | (simp; done) | (exfalso; rename_i q; exact q (by simp [he, he2]))
  have he2 := openE_swap he
  obtain ⟨ha, hb, hs⟩ := open_good he
  rw [best_T he] at h1
  rw [best_T he2, ← openT_symm, ← cT_symm ha hb _ 0 0 rfl (Nat.zero_le _) (Nat.zero_le _)] at h2
  unfold surelyV at h3 h4
  rw [if_neg (fun h => h he)] at h3
  rw [if_neg (fun h => h he2)] at h4
  obtain ⟨⟨m1, m2⟩, s1, s2⟩ := surely_symm (x := x) (y := y) (s := s)
  have g1 := grid_le (c := cM (openT x y s) (vT (shA x.l y.l s)) (shA x.l y.l s)) ha.1 hb.1
  have g2 := grid_le (c := cS (openT x y s) (vT (shA x.l y.l s)) (shA x.l y.l s) (wbT x.l y.l s)) ha.1 hb.1
  have e1 : grid (cM (openT x y s) (vT (shA x.l y.l s)) (shA x.l y.l s)) x.l.length y.l.length = (rSurely x y s).1 := by rw [rSurely_eq]
  have e2 : grid (cS (openT x y s) (vT (shA x.l y.l s)) (shA x.l y.l s) (wbT x.l y.l s)) x.l.length y.l.length = (rSurely x y s).2 := by rw [rSurely_eq]
  rw [e1] at g1
  rw [e2] at g2
  have f1 : (surelyS x y s).M = (rSurely x y s).1 ∧ (surelyS x y s).S = (rSurely x y s).2 := by rw [← surely_same ha hb]; exact ⟨rfl, rfl⟩
  have f2 : (surelyS y x s).M = (rSurely y x s).1 ∧ (surelyS y x s).S = (rSurely y x s).2 := by rw [← surely_same hb ha]; exact ⟨rfl, rfl⟩
  rw [f1.1, f1.2] at h3
  rw [f2.1, f2.2] at h4
  clear e1 e2 f1 f2
  generalize rSurely x y s = P at *
  generalize rSurely y x s = Q at *
  generalize openT x y s 0 0 = W at *
  generalize cT x y s 0 0 = N at *
  obtain ⟨M, S⟩ := P
  obtain ⟨M', S'⟩ := Q
  dsimp only at *
  obtain ⟨c1, hc1⟩ := lsP_form M
  obtain ⟨c2, hc2⟩ := lsP_form S
  obtain ⟨c3, hc3⟩ := lsP_form M'
  obtain ⟨c4, hc4⟩ := lsP_form S'
  rw [hc1, hc2] at h3
  rw [hc3, hc4] at h4
  refine fun_of rfl rfl ?_
  repeat' (first
 | (conv => whnf)
   first
   | refine Br.f ?_
   | (refine Br.decT ?_ ?_; (focus first | assumption | omega))
   | refine Br.not ?_
   | refine call_fun rfl rfl h1 (.inl rfl) ?_
   | refine call_fun rfl rfl h2 (.inl rfl) ?_
   | refine call_fun rfl rfl h3 (.inl rfl) ?_
   | refine call_fun rfl rfl h4 (.inl rfl) ?_
   | refine Get.mk _ rfl ?_
   | (refine Req.mk ?_ ?_; (focus first | rfl | decide | exact ⟨rfl, rfl⟩ | exact ⟨rfl, by decide⟩ | exact (fun _ => rfl) | exact (fun h => nomatch h) | (simp; done) | omega | (simp [big]; done) | exact le_big (by omega) | exact lt_big (by omega))))
  all_goals try (exfalso; omega; done)
  refine LoopP.by (fun i : Nat => i ≤ S.length) (fun i => [(17, .int .i64 (i : Nat))]) (fun _ => [.blk (x.v ++ y.v) false]) (fun i => S.length - i) 0 (Nat.zero_le _) rfl ?_
  rintro i ile
  dsimp only
  by_cases ilt : i < S.length
  · obtain ⟨p, hp⟩ : ∃ p, S[i]? = some p := ⟨_, List.getElem?_eq_getElem ilt⟩
    have hc1 := shC_cell hp
    have hc2 := shC_cellB2 hp
    have hpr := ((pair_ok (a := p.2) (b := p.1)).tab sub1).tab sub2
    have hh := ((has_ok (c := c4) (l := S') (a := p.2) (b := p.1) (by omega)).tab sub1).tab sub2
    rw [decide_eq_true (s2 p (List.mem_of_getElem? hp))] at hh
    repeat' (first
 | (conv => whnf)
   first
   | refine Br.f ?_
   | (refine Br.decT ?_ ?_; (focus first | assumption | omega))
   | (refine Bnd.i64 ?_ ?_ ?_; (focus omega); (focus omega))
   | refine Get.mk _ hc1 ?_
   | refine Get.mk _ hc2 ?_
   | refine call_fun rfl rfl hpr (.inl rfl) ?_
   | refine call_fun rfl rfl hh (.inl rfl) ?_
   | (refine Idx.nat ?_ ?_; (focus omega))
   | (refine Req.mk ?_ ?_; (focus first | rfl | decide | exact ⟨rfl, rfl⟩ | exact ⟨rfl, by decide⟩ | exact (fun _ => rfl) | exact (fun h => nomatch h) | (simp; done) | omega | (simp [big]; done) | exact le_big (by omega) | exact lt_big (by omega))))
    all_goals first | (exfalso; omega; done) | exact NextP.mk (i + 1) ilt (by omega) rfl
  repeat' (first
 | (conv => whnf)
   first
   | (refine Br.decF ?_ ?_; (focus first | assumption | omega)))
  all_goals try (exfalso; omega; done)
  refine LoopP.by (fun i : Nat => i ≤ M.length) (fun i => [(18, .int .i64 (i : Nat))]) (fun _ => [.blk (x.v ++ y.v) false]) (fun i => M.length - i) 0 (Nat.zero_le _) rfl ?_
  rintro j jle
  dsimp only
  by_cases jlt : j < M.length
  · obtain ⟨p, hp⟩ : ∃ p, M[j]? = some p := ⟨_, List.getElem?_eq_getElem jlt⟩
    have hc1 := shC_cell hp
    have hc2 := shC_cellB2 hp
    have hpr := ((pair_ok (a := p.2) (b := p.1)).tab sub1).tab sub2
    have hh := ((has_ok (c := c3) (l := M') (a := p.2) (b := p.1) (by omega)).tab sub1).tab sub2
    rw [decide_eq_true (m2 p (List.mem_of_getElem? hp))] at hh
    repeat' (first
 | (conv => whnf)
   first
   | refine Br.f ?_
   | (refine Br.decT ?_ ?_; (focus first | assumption | omega))
   | (refine Bnd.i64 ?_ ?_ ?_; (focus omega); (focus omega))
   | refine Get.mk _ hc1 ?_
   | refine Get.mk _ hc2 ?_
   | refine call_fun rfl rfl hpr (.inl rfl) ?_
   | refine call_fun rfl rfl hh (.inl rfl) ?_
   | (refine Idx.nat ?_ ?_; (focus omega))
   | (refine Req.mk ?_ ?_; (focus first | rfl | decide | exact ⟨rfl, rfl⟩ | exact ⟨rfl, by decide⟩ | exact (fun _ => rfl) | exact (fun h => nomatch h) | (simp; done) | omega | (simp [big]; done) | exact le_big (by omega) | exact lt_big (by omega))))
    all_goals first | (exfalso; omega; done) | exact NextP.mk (j + 1) jlt (by omega) rfl
  repeat' (first
 | (conv => whnf)
   first
   | (refine Br.decF ?_ ?_; (focus first | assumption | omega))
   | refine call_fun rfl rfl hAw (.inl rfl) ?_
   | refine Get.mk _ rfl ?_
   | refine Leaves.of ?_
   | refine Vw.bool ?_)
  all_goals first | rfl | (exfalso; omega; done)
end Go.Dr.T
