/- Chapter 06: AlignMore: the sum of the Frames, walked. -/
import Derived.Test.YtfhphjloaelgoaaGreatDoorR06M2
import Derived.Test.YtfhphjloaelgoaaGreatDoorR06J1
namespace Go.Dr.T
structure FrS where
  i : Nat
  w : Int
theorem frS_take {l : List (Int × Int)} {i : Nat} {p : Int × Int} (h : l[i]? = some p) : frS (l.take (i + 1)) = frS (l.take i) + p.2 := by
  obtain ⟨hi, rfl⟩ := List.getElem?_eq_some_iff.1 h
  rw [← List.take_append_getElem hi, frS_append]
  simp [frS]
theorem shC_cellB {l : List (Int × Int)} {i : Nat} {p : Int × Int} (h : l[i]? = some p) : cellAt (shC l) (i * 2 + 1) = some (.int .i64 p.2) := by
  have h1 := shC_drop h
  have : (shC l).drop (i * 2 + 1) = .int .i64 p.2 :: (shC l).drop (i * 2 + 2) := by
    rw [← List.drop_drop, h1]; rfl
  exact cellAt_drop this
set_option maxRecDepth 100000 in
set_option maxHeartbeats 20000000 in
theorem frames_ok {x : El} (hx : shOk x.l) : Fun FB md 30 [elA' x] (.int .i64 (frS x.l)) := by
  have hl := hx.1
  refine fun_of rfl rfl ?_
  repeat' (first
 | (conv => whnf)
   first
   | refine Get.mk _ rfl ?_
   | (refine Req.mk ?_ ?_; (focus first | rfl | decide | exact ⟨rfl, rfl⟩ | exact ⟨rfl, by decide⟩ | exact (fun _ => rfl) | exact (fun h => nomatch h) | (simp; done) | omega | (simp [big]; done) | exact le_big (by omega) | exact lt_big (by omega))))
  refine LoopP.by (fun a : FrS => a.i ≤ x.l.length ∧ a.w = frS (x.l.take a.i)) (fun a => [(3, .int .i64 a.w), (4, .int .i64 (a.i : Nat))]) (fun _ => [elB x]) (fun a => x.l.length - a.i) ⟨0, 0⟩ ⟨Nat.zero_le _, rfl⟩ rfl ?_
  rintro ⟨i, w⟩ ⟨w1, w2⟩
  dsimp only at w1 w2 ⊢
  by_cases hi : i < x.l.length
  rotate_left
  · have hres : frS x.l = w := by rw [w2, show i = x.l.length by omega, List.take_length]
    rw [hres]
    repeat' (first
 | (conv => whnf)
   first
   | (refine Br.decF ?_ ?_; (focus first | assumption | omega))
   | refine Get.mk _ rfl ?_
   | refine Leaves.of ?_
   | refine Vw.int ?_
   | (refine Req.mk ?_ ?_; (focus first | rfl | decide | exact ⟨rfl, rfl⟩ | exact ⟨rfl, by decide⟩ | exact (fun _ => rfl) | exact (fun h => nomatch h) | (simp; done) | omega | (simp [big]; done) | exact le_big (by omega) | exact lt_big (by omega))))
    all_goals first | rfl | (exfalso; omega)
  obtain ⟨p, hp⟩ : ∃ p, x.l[i]? = some p := ⟨_, List.getElem?_eq_getElem hi⟩
  have hc := shC_cellB hp
  have hpm := hx.2 p (List.mem_of_getElem? hp)
  have hb := frS_pos (l := x.l.take i) fun q hq => hx.fr q (List.mem_of_mem_take hq)
  rw [← w2, List.length_take] at hb
  have hst := frS_take hp
  rw [← w2] at hst
  have hmin : min i x.l.length = i := by omega
  rw [hmin] at hb
  repeat' (first
 | (conv => whnf)
   first
   | (refine Br.decT ?_ ?_; (focus first | assumption | omega))
   | (refine Bnd.i64 ?_ ?_ ?_; (focus omega); (focus omega))
   | refine Get.mk _ hc ?_
   | (refine Idx.nat ?_ ?_; (focus omega))
   | refine Get.mk _ rfl ?_
   | (refine Req.mk ?_ ?_; (focus first | rfl | decide | exact ⟨rfl, rfl⟩ | exact ⟨rfl, by decide⟩ | exact (fun _ => rfl) | exact (fun h => nomatch h) | (simp; done) | omega | (simp [big]; done) | exact le_big (by omega) | exact lt_big (by omega))))
  all_goals try (exfalso; omega)
  exact NextP.mk ⟨i + 1, w + p.2⟩ ⟨hi, hst.symm⟩ (by dsimp only; omega) rfl
end Go.Dr.T
