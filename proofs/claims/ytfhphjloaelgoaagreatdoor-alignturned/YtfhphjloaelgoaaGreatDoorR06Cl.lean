/- Chapter 06: Check of an element, the document's. -/
import Derived.Test.YtfhphjloaelgoaaGreatDoorR06Ck
namespace Go.Dr.T
theorem in_ok {n lo hi : Int} : Fun FB md 52 [.int .i64 n, .int .i64 lo, .int .i64 hi] (.bool (!outB n lo hi)) := by
  refine fun_of rfl rfl ?_
  by_cases h1 : n ≥ lo <;> by_cases h2 : n ≤ hi
  all_goals
    repeat' (first
 | (conv => whnf)
   first
   | (refine Br.decT ?_ ?_; (focus first | assumption | omega))
   | (refine Br.decF ?_ ?_; (focus first | assumption | omega))
   | refine Get.mk _ rfl ?_
   | refine Leaves.of ?_
   | refine Vw.bool ?_)
    all_goals first | (simp [outB, h1, h2]; done) | (simp [outB, h1, h2]; omega)
theorem cellAt_drop : ∀ {c : List V} {n : Nat} {v : V} {r : List V}, c.drop n = v :: r → cellAt c n = some v
  | [], n, v, r, h => by simp at h
  | x :: c, 0, v, r, h => by
    simp only [List.drop_zero, List.cons.injEq] at h
    obtain ⟨rfl, _⟩ := h; rfl
  | x :: c, n + 1, v, r, h => by
    have := cellAt_drop (c := c) (n := n) (by simpa using h)
    simpa only [cellAt] using this
theorem shC_cell {l : List (Int × Int)} {i : Nat} {p : Int × Int} (h : l[i]? = some p) : cellAt (shC l) (i * 2) = some (.int .i64 p.1) := cellAt_drop (shC_drop h)
set_option maxRecDepth 100000 in
set_option maxHeartbeats 20000000 in
theorem refCheck_ok {nm : List UInt8} {c : Bool} {l : List (Int × Int)} {g : Int} : Fun FB md 19 [elV nm c l g] (.tup [.int .i64 (ckE nm l g).1, .int .i64 (ckE nm l g).2]) := by
  have h1 := refName_ok (s := nm)
  unfold ckE
  cases hn : nmOk nm <;> rw [hn] at h1
  · rw [if_pos rfl]
    refine fun_of rfl rfl ?_
    repeat' (first
 | (conv => whnf)
   first
   | refine Br.t ?_
   | refine call_fun rfl rfl h1 (.inl rfl) ?_
   | refine Get.mk _ rfl ?_
   | refine Leaves.of ?_
   | refine Vw.int ?_
   | refine Vw.tup ?_
   | refine VwL.cons ?_ ?_
   | refine VwL.nil
   | (refine Req.mk ?_ ?_; (focus first | rfl | decide | exact ⟨rfl, rfl⟩ | exact ⟨rfl, by decide⟩ | exact (fun _ => rfl) | exact (fun h => nomatch h) | (simp; done) | omega | (simp [big]; done) | exact le_big (by omega) | exact lt_big (by omega))))
    all_goals rfl
  rw [if_neg (by simp)]
  have h2 := in_ok (n := g) (lo := 0) (hi := 9)
  cases hg : outB g 0 9 <;> rw [hg] at h2
  rotate_left
  · rw [if_pos rfl]
    refine fun_of rfl rfl ?_
    repeat' (first
 | (conv => whnf)
   first
   | refine Br.t ?_
   | refine Br.f ?_
   | refine call_fun rfl rfl h1 (.inl rfl) ?_
   | refine call_fun rfl rfl h2 (.inl rfl) ?_
   | refine Get.mk _ rfl ?_
   | refine Leaves.of ?_
   | refine Vw.int ?_
   | refine Vw.tup ?_
   | refine VwL.cons ?_ ?_
   | refine VwL.nil
   | (refine Req.mk ?_ ?_; (focus first | rfl | decide | exact ⟨rfl, rfl⟩ | exact ⟨rfl, by decide⟩ | exact (fun _ => rfl) | exact (fun h => nomatch h) | (simp; done) | omega | (simp [big]; done) | exact le_big (by omega) | exact lt_big (by omega))))
    all_goals rfl
  rw [if_neg (by simp)]
  by_cases h3 : 40 < l.length
  · rw [if_pos h3]
    refine fun_of rfl rfl ?_
    repeat' (first
 | (conv => whnf)
   first
   | refine Br.f ?_
   | (refine Br.decT ?_ ?_; (focus first | assumption | omega))
   | refine call_fun rfl rfl h1 (.inl rfl) ?_
   | refine call_fun rfl rfl h2 (.inl rfl) ?_
   | refine Get.mk _ rfl ?_
   | refine Leaves.of ?_
   | refine Vw.int ?_
   | refine Vw.tup ?_
   | refine VwL.cons ?_ ?_
   | refine VwL.nil
   | (refine Req.mk ?_ ?_; (focus first | rfl | decide | exact ⟨rfl, rfl⟩ | exact ⟨rfl, by decide⟩ | exact (fun _ => rfl) | exact (fun h => nomatch h) | (simp; done) | omega | (simp [big]; done) | exact le_big (by omega) | exact lt_big (by omega))))
    all_goals first | rfl | (exfalso; omega)
  rw [if_neg h3]
  refine fun_of rfl rfl ?_
  repeat' (first
 | (conv => whnf)
   first
   | refine Br.f ?_
   | (refine Br.decF ?_ ?_; (focus first | assumption | omega))
   | refine call_fun rfl rfl h1 (.inl rfl) ?_
   | refine call_fun rfl rfl h2 (.inl rfl) ?_
   | refine Get.mk _ rfl ?_
   | (refine Req.mk ?_ ?_; (focus first | rfl | decide | exact ⟨rfl, rfl⟩ | exact ⟨rfl, by decide⟩ | exact (fun _ => rfl) | exact (fun h => nomatch h) | (simp; done) | omega | (simp [big]; done) | exact le_big (by omega) | exact lt_big (by omega))))
  refine LoopP.by (fun i : Nat => i ≤ l.length ∧ ckF l 0 l.length = ckF l i (l.length - i)) (fun i => [(4, .int .i64 (i : Nat))])
    (fun _ => [.blk [.str nm, .sl c l.length (shC l), .int .i64 g] false]) (fun i => l.length - i) 0 ⟨Nat.zero_le _, rfl⟩ rfl ?_
  rintro i ⟨q1, q3⟩
  dsimp only
  by_cases hi : i < l.length
  rotate_left
  · have hres : ckF l 0 l.length = (0, 0) := by rw [q3, show l.length - i = 0 by omega, ckF]
    repeat' (first
 | (conv => whnf)
   first
   | (refine Br.decF ?_ ?_; (focus first | assumption | omega))
   | refine Get.mk _ rfl ?_
   | refine Leaves.of ?_
   | refine Vw.int ?_
   | refine Vw.tup ?_
   | refine VwL.cons ?_ ?_
   | refine VwL.nil
   | (refine Req.mk ?_ ?_; (focus first | rfl | decide | exact ⟨rfl, rfl⟩ | exact ⟨rfl, by decide⟩ | exact (fun _ => rfl) | exact (fun h => nomatch h) | (simp; done) | omega | (simp [big]; done) | exact le_big (by omega) | exact lt_big (by omega))))
    · exact congrArg Prod.fst hres.symm
    · exact congrArg Prod.snd hres.symm
  obtain ⟨p, hp⟩ : ∃ p, l[i]? = some p := ⟨_, List.getElem?_eq_getElem hi⟩
  have hpart := shC_part hp
  have hE : eF l i = if outB p.1 0 999 || outB p.2 1 200000 then 7 else if 0 < p.1 ∧ p.1 ∈ (l.take i).map (·.1) then 5 else 0 := by simp only [eF, hp]
  obtain ⟨m, f⟩ := p
  simp only at hpart hE
  have h4 := in_ok (n := m) (lo := 0) (hi := 999)
  have h5 := in_ok (n := f) (lo := 1) (hi := 200000)
  have err : ∀ e : Int, e ≠ 0 → eF l i = e → ckF l 0 l.length = ((i : Int), e) := fun e h0 he => by rw [q3, ckF_err hi (by rw [he]; exact h0), he]
  cases hb4 : outB m 0 999 <;> rw [hb4] at h4
  rotate_left
  · have hres := err 7 (by decide) (by rw [hE, hb4]; rfl)
    repeat' (first
 | (conv => whnf)
   first
   | refine Br.t ?_
   | (refine Br.decT ?_ ?_; (focus first | assumption | omega))
   | refine Get.mk _ hpart ?_
   | refine call_fun rfl rfl h4 (.inl rfl) ?_
   | (refine Idx.nat ?_ ?_; (focus omega))
   | refine Get.mk _ rfl ?_
   | refine Leaves.of ?_
   | refine Vw.int ?_
   | refine Vw.tup ?_
   | refine VwL.cons ?_ ?_
   | refine VwL.nil
   | (refine Req.mk ?_ ?_; (focus first | rfl | decide | exact ⟨rfl, rfl⟩ | exact ⟨rfl, by decide⟩ | exact (fun _ => rfl) | exact (fun h => nomatch h) | (simp; done) | omega | (simp [big]; done) | exact le_big (by omega) | exact lt_big (by omega))))
    · exact congrArg Prod.fst hres.symm
    · exact congrArg Prod.snd hres.symm
  cases hb5 : outB f 1 200000 <;> rw [hb5] at h5
  rotate_left
  · have hres := err 7 (by decide) (by rw [hE, hb4, hb5]; rfl)
    repeat' (first
 | (conv => whnf)
   first
   | refine Br.t ?_
   | refine Br.f ?_
   | (refine Br.decT ?_ ?_; (focus first | assumption | omega))
   | refine Get.mk _ hpart ?_
   | refine call_fun rfl rfl h4 (.inl rfl) ?_
   | refine call_fun rfl rfl h5 (.inl rfl) ?_
   | (refine Idx.nat ?_ ?_; (focus omega))
   | refine Get.mk _ rfl ?_
   | refine Leaves.of ?_
   | refine Vw.int ?_
   | refine Vw.tup ?_
   | refine VwL.cons ?_ ?_
   | refine VwL.nil
   | (refine Req.mk ?_ ?_; (focus first | rfl | decide | exact ⟨rfl, rfl⟩ | exact ⟨rfl, by decide⟩ | exact (fun _ => rfl) | exact (fun h => nomatch h) | (simp; done) | omega | (simp [big]; done) | exact le_big (by omega) | exact lt_big (by omega))))
    · exact congrArg Prod.fst hres.symm
    · exact congrArg Prod.snd hres.symm
  rw [hb4, hb5, if_neg (by simp)] at hE
  repeat' (first
 | (conv => whnf)
   first
   | refine Br.f ?_
   | (refine Br.decT ?_ ?_; (focus first | assumption | omega))
   | refine Get.mk _ hpart ?_
   | refine call_fun rfl rfl h4 (.inl rfl) ?_
   | refine call_fun rfl rfl h5 (.inl rfl) ?_
   | (refine Idx.nat ?_ ?_; (focus omega))
   | refine Get.mk _ rfl ?_
   | (refine Req.mk ?_ ?_; (focus first | rfl | decide | exact ⟨rfl, rfl⟩ | exact ⟨rfl, by decide⟩ | exact (fun _ => rfl) | exact (fun h => nomatch h) | (simp; done) | omega | (simp [big]; done) | exact le_big (by omega) | exact lt_big (by omega))))
  refine LoopP.by (fun k : Nat => k ≤ i ∧ ∀ j q, j < k → l[j]? = some q → ¬ (0 < m ∧ q.1 = m)) (fun k => [(6, .int .i64 (k : Nat))])
    (fun _ => [.blk [.str nm, .sl c l.length (shC l), .int .i64 g] false, .blk [.int .i64 m, .int .i64 f] false]) (fun k => i - k) 0 ⟨Nat.zero_le _, fun j q h => absurd h (Nat.not_lt_zero _)⟩ rfl ?_
  rintro k ⟨k1, k2⟩
  dsimp only
  by_cases hk : k < i
  rotate_left
  · have hz : eF l i = 0 := by
      rw [hE, if_neg]
      rintro ⟨h, hm⟩
      obtain ⟨q, hq, rfl⟩ := List.mem_map.1 hm
      obtain ⟨j, hj⟩ := List.getElem?_of_mem hq
      rw [List.getElem?_take] at hj
      split at hj
      · exact k2 j q (by omega) hj ⟨h, rfl⟩
      · cases hj
    repeat' (first
 | (conv => whnf)
   first
   | (refine Br.decF ?_ ?_; (focus first | assumption | omega))
   | (refine Bnd.i64 ?_ ?_ ?_; (focus omega); (focus omega)))
    refine NextP.mk (i + 1) ⟨hi, by rw [q3, ckF_next hi hz]⟩ (by omega) rfl
  obtain ⟨q, hq⟩ : ∃ q, l[k]? = some q := ⟨_, List.getElem?_eq_getElem (by omega)⟩
  have hcell : cellAt (shC l) (k * 2 + 0) = some (.int .i64 q.1) := shC_cell hq
  by_cases hm : 0 < m ∧ q.1 = m
  · have hmem : m ∈ (l.take i).map (·.1) := List.mem_map.2 ⟨q, List.mem_of_getElem? (i := k) (by rw [List.getElem?_take, if_pos hk, hq]), hm.2⟩
    have hres := err 5 (by decide) (by rw [hE, if_pos ⟨hm.1, hmem⟩])
    obtain ⟨hm1, hm2⟩ := hm
    repeat' (first
 | (conv => whnf)
   first
   | (refine Br.decT ?_ ?_; (focus first | assumption | omega))
   | refine Get.mk _ hcell ?_
   | (refine Idx.nat ?_ ?_; (focus omega))
   | refine Get.mk _ rfl ?_
   | refine Leaves.of ?_
   | refine Vw.int ?_
   | refine Vw.tup ?_
   | refine VwL.cons ?_ ?_
   | refine VwL.nil
   | (refine Req.mk ?_ ?_; (focus first | rfl | decide | exact ⟨rfl, rfl⟩ | exact ⟨rfl, by decide⟩ | exact (fun _ => rfl) | exact (fun h => nomatch h) | (simp; done) | omega | (simp [big]; done) | exact le_big (by omega) | exact lt_big (by omega))))
    all_goals first | exact congrArg Prod.fst hres.symm | exact congrArg Prod.snd hres.symm
  · have hn : k + 1 ≤ i ∧ ∀ j q, j < k + 1 → l[j]? = some q → ¬ (0 < m ∧ q.1 = m) := by
      refine ⟨hk, fun j q' hj hq' => ?_⟩
      by_cases h : j < k
      · exact k2 j q' h hq'
      · obtain rfl : j = k := by omega
        rw [hq] at hq'; cases hq'; exact hm
    by_cases hm1 : 0 < m
    · have hm2 : q.1 ≠ m := fun h => hm ⟨hm1, h⟩
      repeat' (first
 | (conv => whnf)
   first
   | (refine Br.decT ?_ ?_; (focus first | assumption | omega))
   | (refine Br.decF ?_ ?_; (focus first | assumption | omega))
   | (refine Bnd.i64 ?_ ?_ ?_; (focus omega); (focus omega))
   | refine Get.mk _ hcell ?_
   | (refine Idx.nat ?_ ?_; (focus omega))
   | refine Get.mk _ rfl ?_
   | (refine Req.mk ?_ ?_; (focus first | rfl | decide | exact ⟨rfl, rfl⟩ | exact ⟨rfl, by decide⟩ | exact (fun _ => rfl) | exact (fun h => nomatch h) | (simp; done) | omega | (simp [big]; done) | exact le_big (by omega) | exact lt_big (by omega))))
      all_goals exact NextP.mk (k + 1) hn (by omega) rfl
    · repeat' (first
 | (conv => whnf)
   first
   | refine Br.f ?_
   | (refine Br.decT ?_ ?_; (focus first | assumption | omega))
   | (refine Br.decF ?_ ?_; (focus first | assumption | omega))
   | (refine Bnd.i64 ?_ ?_ ?_; (focus omega); (focus omega))
   | refine Get.mk _ rfl ?_
   | (refine Req.mk ?_ ?_; (focus first | rfl | decide | exact ⟨rfl, rfl⟩ | exact ⟨rfl, by decide⟩ | exact (fun _ => rfl) | exact (fun h => nomatch h) | (simp; done) | omega | (simp [big]; done) | exact le_big (by omega) | exact lt_big (by omega))))
      all_goals exact NextP.mk (k + 1) hn (by omega) rfl
end Go.Dr.T
