/- Chapter 09: splices and Bloop of the reference. -/
import Derived.Test.YtokbdaiamhibeaaR09Bp
namespace Go.Dr.T

set_option maxRecDepth 100000 in
set_option maxHeartbeats 20000000 in
theorem splicedR_any {c c' : Bool} {l sp : List Int} {r : Int} : Fun F md 80 [.sl c l.length (ofI l), .sl c' sp.length (ofI sp), .int .i64 r] (.int .i64 (splE l sp r)) := by
  have hst := samples_any (c := c) (l := l) (m := 1000000) (by omega)
  have hL : smpE l 1000000 = 0 → l.length ≤ 4000 := fun h => (smp_ok h).1
  unfold splE
  generalize smpE l 1000000 = k1 at *
  by_cases q1 : k1 = 0
  · subst q1
    have hL := hL rfl
    rw [if_neg (by simp)]
    generalize l.length = n at *
    by_cases q2 : r < 0 ∨ 50 < r
    · rw [if_pos q2]
      refine fun_of rfl rfl ?_
      repeat' (first
        | (conv => whnf)
          first
          | refine Br.t ?_
          | refine Br.f ?_
          | (refine Br.decT ?_ ?_; (focus first | assumption | omega))
          | (refine Br.decF ?_ ?_; (focus first | assumption | omega))
          | refine Br.dec (fun _ => ?_) (fun _ => ?_)
          | refine Br.not ?_
          | refine Br.and ?_
          | refine Br.or ?_
          | (refine Bnd.i64 ?_ ?_ ?_; (focus omega); (focus omega))
          | refine call_fun rfl rfl hst (.inl rfl) ?_
          | refine call_fun rfl rfl (in_any _ _ _) (.inl rfl) ?_
          | (refine Idx.nat ?_ ?_; (focus omega))
          | refine Idx.nat (le_big (by omega)) ?_
          | (refine Idx.int ?_ ?_ ?_; (focus omega); (focus omega))
          | (refine Idx.int ?_ ?_ ?_; (focus decide); (focus decide))
          | refine Ifz.zero ?_
          | (refine Ifz.pos ?_ ?_; (focus omega))
          | refine Get.mk _ rfl ?_
          | refine Leaves.of ?_
          | refine Ends.of ?_
          | refine Vw.bool ?_
          | refine Vw.int ?_
          | refine Vw.nil
          | refine Vw.sl
          | refine Vw.tup ?_
          | refine Vw.agg ?_
          | refine VwL.cons ?_ ?_
          | refine VwL.nil
          | refine LeavesF.of ?_
          | refine VwF.bool ?_
          | refine VwF.int ?_
          | refine VwF.nil
          | refine VwF.sl
          | refine VwF.tup ?_
          | refine VwF.agg ?_
          | refine VwLF.cons ?_ ?_
          | refine VwLF.nil
          | (refine Req.mk ?_ ?_; (focus first | rfl | decide | exact ⟨rfl, rfl⟩ | exact ⟨rfl, by decide⟩ | exact (fun _ => rfl) | exact (fun h => nomatch h) | (simp; done) | omega | (simp [big]; done) | exact le_big (by omega) | exact lt_big (by omega))))
      all_goals try (exfalso; omega)
      all_goals
        refine LoopP.by (fun _ : Unit => True) (fun _ => [(7, .int .i64 7), (8, .int .i64 ((0 : Nat) : Int))]) (fun _ => []) (fun _ => 0) () trivial rfl ?_
        intro _ _
        repeat' (first
          | (conv => whnf)
            first
            | refine Br.t ?_
            | refine Br.f ?_
            | (refine Br.decT ?_ ?_; (focus first | assumption | omega))
            | (refine Br.decF ?_ ?_; (focus first | assumption | omega))
            | refine Br.dec (fun _ => ?_) (fun _ => ?_)
            | refine Br.not ?_
            | refine Br.and ?_
            | refine Br.or ?_
            | (refine Bnd.i64 ?_ ?_ ?_; (focus omega); (focus omega))
            | (refine Idx.nat ?_ ?_; (focus omega))
            | refine Idx.nat (le_big (by omega)) ?_
            | (refine Idx.int ?_ ?_ ?_; (focus omega); (focus omega))
            | (refine Idx.int ?_ ?_ ?_; (focus decide); (focus decide))
            | refine Ifz.zero ?_
            | (refine Ifz.pos ?_ ?_; (focus omega))
            | refine Get.mk _ rfl ?_
            | refine Leaves.of ?_
            | refine Ends.of ?_
            | refine Vw.bool ?_
            | refine Vw.int ?_
            | refine Vw.nil
            | refine Vw.sl
            | refine Vw.tup ?_
            | refine Vw.agg ?_
            | refine VwL.cons ?_ ?_
            | refine VwL.nil
            | refine LeavesF.of ?_
            | refine VwF.bool ?_
            | refine VwF.int ?_
            | refine VwF.nil
            | refine VwF.sl
            | refine VwF.tup ?_
            | refine VwF.agg ?_
            | refine VwLF.cons ?_ ?_
            | refine VwLF.nil
            | (refine Req.mk ?_ ?_; (focus first | rfl | decide | exact ⟨rfl, rfl⟩ | exact ⟨rfl, by decide⟩ | exact (fun _ => rfl) | exact (fun h => nomatch h) | (simp; done) | omega | (simp [big]; done) | exact le_big (by omega) | exact lt_big (by omega))))
        all_goals first | rfl | (exfalso; omega)
    · rw [if_neg q2]
      by_cases q3 : 60 < sp.length
      · rw [if_pos q3]
        refine fun_of rfl rfl ?_
        repeat' (first
          | (conv => whnf)
            first
            | refine Br.t ?_
            | refine Br.f ?_
            | (refine Br.decT ?_ ?_; (focus first | assumption | omega))
            | (refine Br.decF ?_ ?_; (focus first | assumption | omega))
            | refine Br.dec (fun _ => ?_) (fun _ => ?_)
            | refine Br.not ?_
            | refine Br.and ?_
            | refine Br.or ?_
            | (refine Bnd.i64 ?_ ?_ ?_; (focus omega); (focus omega))
            | refine call_fun rfl rfl hst (.inl rfl) ?_
            | refine call_fun rfl rfl (in_any _ _ _) (.inl rfl) ?_
            | (refine Idx.nat ?_ ?_; (focus omega))
            | refine Idx.nat (le_big (by omega)) ?_
            | (refine Idx.int ?_ ?_ ?_; (focus omega); (focus omega))
            | (refine Idx.int ?_ ?_ ?_; (focus decide); (focus decide))
            | refine Ifz.zero ?_
            | (refine Ifz.pos ?_ ?_; (focus omega))
            | refine Get.mk _ rfl ?_
            | refine Leaves.of ?_
            | refine Ends.of ?_
            | refine Vw.bool ?_
            | refine Vw.int ?_
            | refine Vw.nil
            | refine Vw.sl
            | refine Vw.tup ?_
            | refine Vw.agg ?_
            | refine VwL.cons ?_ ?_
            | refine VwL.nil
            | refine LeavesF.of ?_
            | refine VwF.bool ?_
            | refine VwF.int ?_
            | refine VwF.nil
            | refine VwF.sl
            | refine VwF.tup ?_
            | refine VwF.agg ?_
            | refine VwLF.cons ?_ ?_
            | refine VwLF.nil
            | (refine Req.mk ?_ ?_; (focus first | rfl | decide | exact ⟨rfl, rfl⟩ | exact ⟨rfl, by decide⟩ | exact (fun _ => rfl) | exact (fun h => nomatch h) | (simp; done) | omega | (simp [big]; done) | exact le_big (by omega) | exact lt_big (by omega))))
        all_goals try (exfalso; omega)
        all_goals
          refine LoopP.by (fun _ : Unit => True) (fun _ => [(7, .int .i64 3), (8, .int .i64 ((0 : Nat) : Int))]) (fun _ => []) (fun _ => 0) () trivial rfl ?_
          intro _ _
          repeat' (first
            | (conv => whnf)
              first
              | refine Br.t ?_
              | refine Br.f ?_
              | (refine Br.decT ?_ ?_; (focus first | assumption | omega))
              | (refine Br.decF ?_ ?_; (focus first | assumption | omega))
              | refine Br.dec (fun _ => ?_) (fun _ => ?_)
              | refine Br.not ?_
              | refine Br.and ?_
              | refine Br.or ?_
              | (refine Bnd.i64 ?_ ?_ ?_; (focus omega); (focus omega))
              | (refine Idx.nat ?_ ?_; (focus omega))
              | refine Idx.nat (le_big (by omega)) ?_
              | (refine Idx.int ?_ ?_ ?_; (focus omega); (focus omega))
              | (refine Idx.int ?_ ?_ ?_; (focus decide); (focus decide))
              | refine Ifz.zero ?_
              | (refine Ifz.pos ?_ ?_; (focus omega))
              | refine Get.mk _ rfl ?_
              | refine Leaves.of ?_
              | refine Ends.of ?_
              | refine Vw.bool ?_
              | refine Vw.int ?_
              | refine Vw.nil
              | refine Vw.sl
              | refine Vw.tup ?_
              | refine Vw.agg ?_
              | refine VwL.cons ?_ ?_
              | refine VwL.nil
              | refine LeavesF.of ?_
              | refine VwF.bool ?_
              | refine VwF.int ?_
              | refine VwF.nil
              | refine VwF.sl
              | refine VwF.tup ?_
              | refine VwF.agg ?_
              | refine VwLF.cons ?_ ?_
              | refine VwLF.nil
              | (refine Req.mk ?_ ?_; (focus first | rfl | decide | exact ⟨rfl, rfl⟩ | exact ⟨rfl, by decide⟩ | exact (fun _ => rfl) | exact (fun h => nomatch h) | (simp; done) | omega | (simp [big]; done) | exact le_big (by omega) | exact lt_big (by omega))))
          all_goals first | rfl | (exfalso; omega)
      · rw [if_neg q3]
        generalize hz : (if spB n sp = true then (0 : Int) else 7) = z
        refine fun_of rfl rfl ?_
        repeat' (first
          | (conv => whnf)
            first
            | refine Br.t ?_
            | refine Br.f ?_
            | (refine Br.decT ?_ ?_; (focus first | assumption | omega))
            | (refine Br.decF ?_ ?_; (focus first | assumption | omega))
            | refine Br.dec (fun _ => ?_) (fun _ => ?_)
            | refine Br.not ?_
            | refine Br.and ?_
            | refine Br.or ?_
            | (refine Bnd.i64 ?_ ?_ ?_; (focus omega); (focus omega))
            | refine call_fun rfl rfl hst (.inl rfl) ?_
            | refine call_fun rfl rfl (in_any _ _ _) (.inl rfl) ?_
            | (refine Idx.nat ?_ ?_; (focus omega))
            | refine Idx.nat (le_big (by omega)) ?_
            | (refine Idx.int ?_ ?_ ?_; (focus omega); (focus omega))
            | (refine Idx.int ?_ ?_ ?_; (focus decide); (focus decide))
            | refine Ifz.zero ?_
            | (refine Ifz.pos ?_ ?_; (focus omega))
            | refine Get.mk _ rfl ?_
            | refine Leaves.of ?_
            | refine Ends.of ?_
            | refine Vw.bool ?_
            | refine Vw.int ?_
            | refine Vw.nil
            | refine Vw.sl
            | refine Vw.tup ?_
            | refine Vw.agg ?_
            | refine VwL.cons ?_ ?_
            | refine VwL.nil
            | refine LeavesF.of ?_
            | refine VwF.bool ?_
            | refine VwF.int ?_
            | refine VwF.nil
            | refine VwF.sl
            | refine VwF.tup ?_
            | refine VwF.agg ?_
            | refine VwLF.cons ?_ ?_
            | refine VwLF.nil
            | (refine Req.mk ?_ ?_; (focus first | rfl | decide | exact ⟨rfl, rfl⟩ | exact ⟨rfl, by decide⟩ | exact (fun _ => rfl) | exact (fun h => nomatch h) | (simp; done) | omega | (simp [big]; done) | exact le_big (by omega) | exact lt_big (by omega))))
        all_goals try (exfalso; omega)
        refine LoopP.by (fun a : Nat × Int => a.1 ≤ sp.length ∧ ((a.2 = 0 ∧ spB n sp = spB n (sp.drop a.1)) ∨ (a.2 = 7 ∧ spB n sp = false))) (fun a => [(7, .int .i64 a.2), (8, .int .i64 (a.1 : Nat))]) (fun _ => []) (fun a => sp.length - a.1) (0, 0) ⟨Nat.zero_le _, .inl ⟨rfl, rfl⟩⟩ rfl ?_
        rintro ⟨i, e⟩ ⟨hi, ⟨he, hb⟩ | ⟨he, hb⟩⟩
        · dsimp only at hi he hb
          subst he
          by_cases hin : i < sp.length
          · have hc := gI_cell (l := sp) (i := i) hin
            rw [spB_drop hin, ← gI_get hin] at hb
            generalize gI sp i = a at *
            repeat' (first
              | (conv => whnf)
                first
                | refine Br.t ?_
                | refine Br.f ?_
                | (refine Br.decT ?_ ?_; (focus first | assumption | omega))
                | (refine Br.decF ?_ ?_; (focus first | assumption | omega))
                | refine Br.dec (fun _ => ?_) (fun _ => ?_)
                | refine Br.not ?_
                | refine Br.and ?_
                | refine Br.or ?_
                | (refine Bnd.i64 ?_ ?_ ?_; (focus omega); (focus omega))
                | refine Get.mk _ hc ?_
                | refine call_fun rfl rfl (in_any _ _ _) (.inl rfl) ?_
                | (refine Idx.nat ?_ ?_; (focus omega))
                | refine Idx.nat (le_big (by omega)) ?_
                | (refine Idx.int ?_ ?_ ?_; (focus omega); (focus omega))
                | (refine Idx.int ?_ ?_ ?_; (focus decide); (focus decide))
                | refine Ifz.zero ?_
                | (refine Ifz.pos ?_ ?_; (focus omega))
                | refine Get.mk _ rfl ?_
                | refine Leaves.of ?_
                | refine Ends.of ?_
                | refine Vw.bool ?_
                | refine Vw.int ?_
                | refine Vw.nil
                | refine Vw.sl
                | refine Vw.tup ?_
                | refine Vw.agg ?_
                | refine VwL.cons ?_ ?_
                | refine VwL.nil
                | refine LeavesF.of ?_
                | refine VwF.bool ?_
                | refine VwF.int ?_
                | refine VwF.nil
                | refine VwF.sl
                | refine VwF.tup ?_
                | refine VwF.agg ?_
                | refine VwLF.cons ?_ ?_
                | refine VwLF.nil
                | (refine Req.mk ?_ ?_; (focus first | rfl | decide | exact ⟨rfl, rfl⟩ | exact ⟨rfl, by decide⟩ | exact (fun _ => rfl) | exact (fun h => nomatch h) | (simp; done) | omega | (simp [big]; done) | exact le_big (by omega) | exact lt_big (by omega))))
            all_goals first | exact NextP.mk (i + 1, 0) ⟨hin, .inl ⟨rfl, by rw [hb, decide_eq_true (show 0 ≤ a by omega), decide_eq_true (show a ≤ (n : Int) - 1 by omega)]; rfl⟩⟩ (by simp only; omega) rfl | exact NextP.mk (i + 1, 7) ⟨hin, .inr ⟨rfl, by rw [hb, decide_eq_false (show ¬ 0 ≤ a by omega)]; rfl⟩⟩ (by simp only; omega) rfl | exact NextP.mk (i + 1, 7) ⟨hin, .inr ⟨rfl, by rw [hb, decide_eq_false (show ¬ a ≤ (n : Int) - 1 by omega), Bool.and_false]; rfl⟩⟩ (by simp only; omega) rfl | (exfalso; omega)
          · rw [List.drop_of_length_le (by omega)] at hb
            rw [hb] at hz
            have hz : z = 0 := hz.symm
            subst hz
            repeat' (first
              | (conv => whnf)
                first
                | refine Br.t ?_
                | refine Br.f ?_
                | (refine Br.decT ?_ ?_; (focus first | assumption | omega))
                | (refine Br.decF ?_ ?_; (focus first | assumption | omega))
                | refine Br.dec (fun _ => ?_) (fun _ => ?_)
                | refine Br.not ?_
                | refine Br.and ?_
                | refine Br.or ?_
                | (refine Bnd.i64 ?_ ?_ ?_; (focus omega); (focus omega))
                | (refine Idx.nat ?_ ?_; (focus omega))
                | refine Idx.nat (le_big (by omega)) ?_
                | (refine Idx.int ?_ ?_ ?_; (focus omega); (focus omega))
                | (refine Idx.int ?_ ?_ ?_; (focus decide); (focus decide))
                | refine Ifz.zero ?_
                | (refine Ifz.pos ?_ ?_; (focus omega))
                | refine Get.mk _ rfl ?_
                | refine Leaves.of ?_
                | refine Ends.of ?_
                | refine Vw.bool ?_
                | refine Vw.int ?_
                | refine Vw.nil
                | refine Vw.sl
                | refine Vw.tup ?_
                | refine Vw.agg ?_
                | refine VwL.cons ?_ ?_
                | refine VwL.nil
                | refine LeavesF.of ?_
                | refine VwF.bool ?_
                | refine VwF.int ?_
                | refine VwF.nil
                | refine VwF.sl
                | refine VwF.tup ?_
                | refine VwF.agg ?_
                | refine VwLF.cons ?_ ?_
                | refine VwLF.nil
                | (refine Req.mk ?_ ?_; (focus first | rfl | decide | exact ⟨rfl, rfl⟩ | exact ⟨rfl, by decide⟩ | exact (fun _ => rfl) | exact (fun h => nomatch h) | (simp; done) | omega | (simp [big]; done) | exact le_big (by omega) | exact lt_big (by omega))))
            all_goals first | rfl | (exfalso; omega)
        · dsimp only at hi he hb
          subst he
          rw [hb] at hz
          have hz : z = 7 := hz.symm
          subst hz
          repeat' (first
            | (conv => whnf)
              first
              | refine Br.t ?_
              | refine Br.f ?_
              | (refine Br.decT ?_ ?_; (focus first | assumption | omega))
              | (refine Br.decF ?_ ?_; (focus first | assumption | omega))
              | refine Br.dec (fun _ => ?_) (fun _ => ?_)
              | refine Br.not ?_
              | refine Br.and ?_
              | refine Br.or ?_
              | (refine Bnd.i64 ?_ ?_ ?_; (focus omega); (focus omega))
              | (refine Idx.nat ?_ ?_; (focus omega))
              | refine Idx.nat (le_big (by omega)) ?_
              | (refine Idx.int ?_ ?_ ?_; (focus omega); (focus omega))
              | (refine Idx.int ?_ ?_ ?_; (focus decide); (focus decide))
              | refine Ifz.zero ?_
              | (refine Ifz.pos ?_ ?_; (focus omega))
              | refine Get.mk _ rfl ?_
              | refine Leaves.of ?_
              | refine Ends.of ?_
              | refine Vw.bool ?_
              | refine Vw.int ?_
              | refine Vw.nil
              | refine Vw.sl
              | refine Vw.tup ?_
              | refine Vw.agg ?_
              | refine VwL.cons ?_ ?_
              | refine VwL.nil
              | refine LeavesF.of ?_
              | refine VwF.bool ?_
              | refine VwF.int ?_
              | refine VwF.nil
              | refine VwF.sl
              | refine VwF.tup ?_
              | refine VwF.agg ?_
              | refine VwLF.cons ?_ ?_
              | refine VwLF.nil
              | (refine Req.mk ?_ ?_; (focus first | rfl | decide | exact ⟨rfl, rfl⟩ | exact ⟨rfl, by decide⟩ | exact (fun _ => rfl) | exact (fun h => nomatch h) | (simp; done) | omega | (simp [big]; done) | exact le_big (by omega) | exact lt_big (by omega))))
          all_goals first | rfl | (exfalso; omega)
  · rw [if_pos q1]
    refine fun_of rfl rfl ?_
    repeat' (first
      | (conv => whnf)
        first
        | refine Br.t ?_
        | refine Br.f ?_
        | (refine Br.decT ?_ ?_; (focus first | assumption | omega))
        | (refine Br.decF ?_ ?_; (focus first | assumption | omega))
        | refine Br.dec (fun _ => ?_) (fun _ => ?_)
        | refine Br.not ?_
        | refine Br.and ?_
        | refine Br.or ?_
        | (refine Bnd.i64 ?_ ?_ ?_; (focus omega); (focus omega))
        | refine call_fun rfl rfl hst (.inl rfl) ?_
        | refine call_fun rfl rfl (in_any _ _ _) (.inl rfl) ?_
        | (refine Idx.nat ?_ ?_; (focus omega))
        | refine Idx.nat (le_big (by omega)) ?_
        | (refine Idx.int ?_ ?_ ?_; (focus omega); (focus omega))
        | (refine Idx.int ?_ ?_ ?_; (focus decide); (focus decide))
        | refine Ifz.zero ?_
        | (refine Ifz.pos ?_ ?_; (focus omega))
        | refine Get.mk _ rfl ?_
        | refine Leaves.of ?_
        | refine Ends.of ?_
        | refine Vw.bool ?_
        | refine Vw.int ?_
        | refine Vw.nil
        | refine Vw.sl
        | refine Vw.tup ?_
        | refine Vw.agg ?_
        | refine VwL.cons ?_ ?_
        | refine VwL.nil
        | refine LeavesF.of ?_
        | refine VwF.bool ?_
        | refine VwF.int ?_
        | refine VwF.nil
        | refine VwF.sl
        | refine VwF.tup ?_
        | refine VwF.agg ?_
        | refine VwLF.cons ?_ ?_
        | refine VwLF.nil
        | (refine Req.mk ?_ ?_; (focus first | rfl | decide | exact ⟨rfl, rfl⟩ | exact ⟨rfl, by decide⟩ | exact (fun _ => rfl) | exact (fun h => nomatch h) | (simp; done) | omega | (simp [big]; done) | exact le_big (by omega) | exact lt_big (by omega))))
    all_goals try (exfalso; omega)
    all_goals
      refine LoopP.by (fun _ : Unit => True) (fun _ => [(7, .int .i64 k1), (8, .int .i64 ((0 : Nat) : Int))]) (fun _ => []) (fun _ => 0) () trivial rfl ?_
      intro _ _
      repeat' (first
        | (conv => whnf)
          first
          | refine Br.t ?_
          | refine Br.f ?_
          | (refine Br.decT ?_ ?_; (focus first | assumption | omega))
          | (refine Br.decF ?_ ?_; (focus first | assumption | omega))
          | refine Br.dec (fun _ => ?_) (fun _ => ?_)
          | refine Br.not ?_
          | refine Br.and ?_
          | refine Br.or ?_
          | (refine Bnd.i64 ?_ ?_ ?_; (focus omega); (focus omega))
          | (refine Idx.nat ?_ ?_; (focus omega))
          | refine Idx.nat (le_big (by omega)) ?_
          | (refine Idx.int ?_ ?_ ?_; (focus omega); (focus omega))
          | (refine Idx.int ?_ ?_ ?_; (focus decide); (focus decide))
          | refine Ifz.zero ?_
          | (refine Ifz.pos ?_ ?_; (focus omega))
          | refine Get.mk _ rfl ?_
          | refine Leaves.of ?_
          | refine Ends.of ?_
          | refine Vw.bool ?_
          | refine Vw.int ?_
          | refine Vw.nil
          | refine Vw.sl
          | refine Vw.tup ?_
          | refine Vw.agg ?_
          | refine VwL.cons ?_ ?_
          | refine VwL.nil
          | refine LeavesF.of ?_
          | refine VwF.bool ?_
          | refine VwF.int ?_
          | refine VwF.nil
          | refine VwF.sl
          | refine VwF.tup ?_
          | refine VwF.agg ?_
          | refine VwLF.cons ?_ ?_
          | refine VwLF.nil
          | (refine Req.mk ?_ ?_; (focus first | rfl | decide | exact ⟨rfl, rfl⟩ | exact ⟨rfl, by decide⟩ | exact (fun _ => rfl) | exact (fun h => nomatch h) | (simp; done) | omega | (simp [big]; done) | exact le_big (by omega) | exact lt_big (by omega))))
      all_goals first | rfl | (exfalso; omega)

/-! samples of which some are replaced already -/
def blM (n : Nat) (now R : List Int) (a k : Nat) : List Int := acc (fun j => if a ≤ j ∧ j < a + k then gI R (j - a) else gI now j) n
theorem blM_length (n : Nat) (now R : List Int) (a k : Nat) : (blM n now R a k).length = n := acc_length _ _
theorem blM_zero {n : Nat} {now R : List Int} {a : Nat} (hl : now.length = n) : blM n now R a 0 = now := by
  refine List.ext_getElem (by rw [blM_length, hl]) fun j h1 h2 => ?_
  simp only [blM, acc, List.getElem_map, List.getElem_range]
  rw [if_neg (by omega), gI_get h2]
theorem blM_at {n : Nat} {now R : List Int} {a k j : Nat} (hj : j < n) : gI (blM n now R a k) j = if a ≤ j ∧ j < a + k then gI R (j - a) else gI now j := by
  rw [gI_get (by rw [blM_length]; exact hj)]
  simp [blM, acc]
theorem blM_full {n : Nat} {now R : List Int} {a : Nat} (hl : now.length = n) (h : a + R.length ≤ n) : blM n now R a R.length = now.take a ++ R ++ now.drop (a + R.length) := by
  have hL : (blM n now R a R.length).length = (now.take a ++ R ++ now.drop (a + R.length)).length := by
    simp only [blM_length, List.length_append, List.length_take, List.length_drop]; omega
  refine List.ext_getElem hL fun j h1 h2 => ?_
  rw [blM_length] at h1
  rw [← gI_get (by rw [blM_length]; exact h1), blM_at h1]
  simp only [List.getElem_append, List.length_append, List.length_take]
  have hmin : min a now.length = a := by omega
  by_cases q1 : j < a
  · rw [if_neg (by omega), dif_pos (by omega), dif_pos (by omega), List.getElem_take, gI_get (by omega)]
  · by_cases q2 : j < a + R.length
    · rw [if_pos (by omega), dif_pos (by omega), dif_neg (by omega), gI_get (by omega)]
      congr 1; omega
    · rw [if_neg (by omega), dif_neg (by omega), List.getElem_drop, gI_get (by omega)]
      congr 1; omega
theorem blM_set {n : Nat} {now R : List Int} {a k : Nat} : (blM n now R a k).set (a + k) (gI R k) = blM n now R a (k + 1) := by
  refine List.ext_getElem (by simp [blM_length]) fun j h1 h2 => ?_
  rw [List.getElem_set]
  simp only [blM, acc, List.getElem_map, List.getElem_range]
  by_cases e : a + k = j
  · rw [if_pos e, if_pos (by omega)]; congr 1; omega
  · rw [if_neg e]
    by_cases e2 : a ≤ j ∧ j < a + k
    · rw [if_pos e2, if_pos (by omega)]
    · rw [if_neg e2, if_neg (by omega)]
theorem blR_at {n : Nat} {now : List Int} {a b k : Nat} (hk : k < b + 1 - a) : gI (blR n now a b) k = brg (blA now a b) (blB n now a b) (b + 1 - a) k := by
  rw [gI_get (by rw [blR_len]; exact hk)]
  simp [blR, acc]
theorem brg_same (x : Int) (n k : Nat) : brg x x n k = x := by simp [brg]

def brU (a : BpS) : List (Nat × V) :=
  match a.i with
  | 0 => [(11, .nilsl), (12, .int .i64 ((0 : Nat) : Int))]
  | i + 1 => [(11, .ms 1 1 a.nk 0 a.nk false), (12, .int .i64 ((i + 1 : Nat) : Int))]
def brH (a : BpS) : List B :=
  match a.i with
  | 0 => [.blk (ofI a.now) true]
  | _ + 1 => [.blk (ofI a.now) true, .blk (ofI a.kept) true]
theorem brU_one (i : Nat) (now kept : List Int) (nk : Nat) : brU ⟨i + 1, now, kept, nk⟩ = [(11, .ms 1 1 nk 0 nk false), (12, .int .i64 ((i + 1 : Nat) : Int))] := rfl
theorem brH_one (i : Nat) (now kept : List Int) (nk : Nat) : brH ⟨i + 1, now, kept, nk⟩ = [.blk (ofI now) true, .blk (ofI kept) true] := rfl
set_option maxRecDepth 100000 in
set_option maxHeartbeats 20000000 in
theorem bloopR_ok {c c' : Bool} {l sp : List Int} {r : Int} (hE : splE l sp r = 0) (h0 : l.length ≠ 0) : ∃ k1, Fun F md 43 [.sl c l.length (ofI l), .sl c' sp.length (ofI sp), .int .i64 r] (blV false k1 (blp l.length (spL l.length r sp) l [])) := by
  have hsp := splicedR_any (c := c) (c' := c') (l := l) (sp := sp) (r := r)
  rw [hE] at hsp
  obtain ⟨e1, hr, hm, hs⟩ := splE_ok hE
  obtain ⟨hL, hlin⟩ := smp_ok e1
  have hg := gI_in (m := 1000000) (by omega) hlin
  have hS : ∀ x ∈ spL l.length r sp, 0 ≤ x.1 ∧ x.1 ≤ x.2 ∧ x.2 ≤ (l.length : Int) - 1 := by
    intro x hx
    unfold spL at hx
    obtain ⟨a, ha, rfl⟩ := List.mem_map.1 hx
    exact spF_in hr (spB_mem hs a ha)
  have hsb := spB_mem hs
  have hSl : (spL l.length r sp).length = sp.length := by simp [spL]
  have hlb : (ofI l).length = l.length := ofI_length l
  have hq1 : (ofI l).length = l.length * 1 := by rw [hlb, Nat.mul_one]
  have hq2 : (([] : List V).length + (ofI l).length) * (8 + 1) < big := by rw [hlb]; simp [big]; omega
  have hq3 : true = true → scalars (([] : List V) ++ ofI l) = true := fun _ => scal_ints l
  refine ⟨decide (sp.length = 0), ?_⟩
  refine fun_of rfl rfl ?_
  repeat' (first
    | (conv => whnf)
      first
      | refine Br.t ?_
      | refine Br.f ?_
      | (refine Br.decT ?_ ?_; (focus first | assumption | omega))
      | (refine Br.decF ?_ ?_; (focus first | assumption | omega))
      | refine Br.dec (fun _ => ?_) (fun _ => ?_)
      | refine Br.not ?_
      | refine Br.and ?_
      | refine Br.or ?_
      | (refine Bnd.i64 ?_ ?_ ?_; (focus omega); (focus omega))
      | refine call_fun rfl rfl hsp (.inl rfl) ?_
      | refine Req.mk hq1 ?_
      | refine Req.mk hq2 ?_
      | refine Req.mk hq3 ?_
      | (refine Idx.nat ?_ ?_; (focus omega))
      | refine Idx.nat (le_big (by omega)) ?_
      | (refine Idx.int ?_ ?_ ?_; (focus omega); (focus omega))
      | (refine Idx.int ?_ ?_ ?_; (focus decide); (focus decide))
      | refine Ifz.zero ?_
      | (refine Ifz.pos ?_ ?_; (focus omega))
      | refine Get.mk _ rfl ?_
      | refine Leaves.of ?_
      | refine Ends.of ?_
      | refine Vw.bool ?_
      | refine Vw.int ?_
      | refine Vw.nil
      | refine Vw.sl
      | refine Vw.tup ?_
      | refine Vw.agg ?_
      | refine VwL.cons ?_ ?_
      | refine VwL.nil
      | refine LeavesF.of ?_
      | refine VwF.bool ?_
      | refine VwF.int ?_
      | refine VwF.nil
      | refine VwF.sl
      | refine VwF.tup ?_
      | refine VwF.agg ?_
      | refine VwLF.cons ?_ ?_
      | refine VwLF.nil
      | (refine Req.mk ?_ ?_; (focus first | rfl | decide | exact ⟨rfl, rfl⟩ | exact ⟨rfl, by decide⟩ | exact (fun _ => rfl) | exact (fun h => nomatch h) | (simp; done) | omega | (simp [big]; done) | exact le_big (by omega) | exact lt_big (by omega))))
  all_goals try (exfalso; omega)
  refine LoopP.by (BpP l.length l (spL l.length r sp)) brU brH (fun a => sp.length - a.i) ⟨0, l, [], 0⟩ ⟨Nat.zero_le _, rfl, hg, rfl, rfl, Nat.zero_le _, fun _ => rfl, by simp⟩ rfl ?_
  rintro ⟨i, now, kept, nk⟩ ⟨hi, hnl, hrg, hd, hkl0, hnk, hk0, hk00⟩
  dsimp only at hi hnl hrg hd hkl0 hnk hk0 hk00 ⊢
  rw [hSl] at hi
  by_cases hin : i < sp.length
  · cases i with
    | zero =>
      obtain rfl := hk0 rfl
      have hk1 : True := trivial
      have hk3 : True := trivial
      show fV _ fun tm' => fB [.blk (ofI now) true] _
      have hx0 : (spL l.length r sp)[0]'(by rw [hSl]; exact hin) = spF l.length r (gI sp 0) := by simp [spL, gI_get hin]
      have hcs := gI_cell (l := sp) (i := 0) hin
      have hx := hS _ (List.getElem_mem (by rw [hSl]; exact hin : 0 < (spL l.length r sp).length))
      rw [List.drop_eq_getElem_cons (by rw [hSl]; exact hin), hx0] at hd
      rw [hx0] at hx
      have hsb := hsb (gI sp 0) (by rw [gI_get hin]; exact List.getElem_mem hin)
      have hf1 : max 0 (gI sp 0 - r) = (spF l.length r (gI sp 0)).1 := rfl
      have hf2 : min ((l.length : Int) - 1) (gI sp 0 + r) = (spF l.length r (gI sp 0)).2 := rfl
      clear hx0
      generalize spF l.length r (gI sp 0) = x at *
      generalize gI sp 0 = at' at *
      obtain ⟨xa, xb⟩ := x
      dsimp only at hx hf1 hf2
      obtain ⟨a, rfl⟩ := Int.eq_ofNat_of_zero_le hx.1
      obtain ⟨b, rfl⟩ := Int.eq_ofNat_of_zero_le (show 0 ≤ xb by omega)
      simp only [blp, Int.toNat_natCast] at hd
      have hg0 : (ofI now).length = ([] : List V).length + (ofI l).length := by rw [ofI_length, ofI_length, hnl]; simp
      have hb1 : IntKind.i64.wrap ((b : Int) + 1) = ((b + 1 : Nat) : Int) := by rw [wrap_i64 (by omega) (by omega)]; omega
      by_cases c1 : a = 0 ∧ b + 1 = l.length
      · rw [if_pos c1] at hd
        rw [hd]
        repeat' (first
          | (conv => whnf)
            first
            | refine Bnd.eq hf1 ?_
            | refine Bnd.eq hf2 ?_
            | refine Br.t ?_
            | refine Br.f ?_
            | (refine Br.decT ?_ ?_; (focus first | assumption | omega))
            | (refine Br.decF ?_ ?_; (focus first | assumption | omega))
            | refine Br.dec (fun _ => ?_) (fun _ => ?_)
            | refine Br.not ?_
            | refine Br.and ?_
            | refine Br.or ?_
            | (refine Bnd.i64 ?_ ?_ ?_; (focus omega); (focus omega))
            | refine Get.mk _ hcs ?_
            | (refine Idx.nat ?_ ?_; (focus omega))
            | refine Idx.nat (le_big (by omega)) ?_
            | (refine Idx.int ?_ ?_ ?_; (focus omega); (focus omega))
            | (refine Idx.int ?_ ?_ ?_; (focus decide); (focus decide))
            | refine Ifz.zero ?_
            | (refine Ifz.pos ?_ ?_; (focus omega))
            | refine Get.mk _ rfl ?_
            | refine Leaves.of ?_
            | refine Ends.of ?_
            | refine Vw.bool ?_
            | refine Vw.int ?_
            | refine Vw.nil
            | refine Vw.sl
            | refine Vw.tup ?_
            | refine Vw.agg ?_
            | refine VwL.cons ?_ ?_
            | refine VwL.nil
            | refine LeavesF.of ?_
            | refine VwF.bool ?_
            | refine VwF.int ?_
            | refine VwF.nil
            | refine VwF.sl
            | refine VwF.tup ?_
            | refine VwF.agg ?_
            | refine VwLF.cons ?_ ?_
            | refine VwLF.nil
            | (refine Req.mk ?_ ?_; (focus first | rfl | decide | exact ⟨rfl, rfl⟩ | exact ⟨rfl, by decide⟩ | exact (fun _ => rfl) | exact (fun h => nomatch h) | (simp; done) | omega | (simp [big]; done) | exact le_big (by omega) | exact lt_big (by omega))))
        all_goals first | rfl | (exfalso; omega)
      · rw [if_neg c1] at hd
        have hpk : part (ofI now) (0 + a * 1) ((b + 1 - a) * 1) = some (ofI (blK now a b)) := by rw [Nat.zero_add]; exact ofI_part (by omega)
        have hkl : (blK now a b).length = b + 1 - a := by simp [blK]; omega
        have hyl : (ofI (blK now a b)).length = b + 1 - a := by rw [ofI_length, hkl]
        have hyt : true = true → scalars (ofI (blK now a b)) = true := fun _ => scal_ints _
        have hk2 : (([] : List V).length + (ofI (blK now a b)).length) * (8 + 1) < big := by (rw [hyl]; simp [big]; omega)
        have hw : IntKind.i64.wrap ((b : Int) - (a : Int) + 1) = ((b + 1 - a : Nat) : Int) := by rw [wrap_i64 (by omega) (by omega)]; omega
        have hnl2 := blN_len hnl (show b < l.length by omega) (show a ≤ b by omega)
        have hin2 := @blN_in l.length now a b hrg
        have hR := blR_len l.length now a b
        have hfull : blM l.length now (blR l.length now a b) a (b + 1 - a) = blN l.length now a b := by
          have := blM_full (n := l.length) (now := now) (R := blR l.length now a b) (a := a) hnl (by omega)
          rw [hR] at this
          rw [this]; unfold blN; rw [hR]
        repeat' (first
          | (conv => whnf)
            first
            | refine Bnd.eq hf1 ?_
            | refine Bnd.eq hf2 ?_
            | refine Bnd.eq hb1 ?_
            | refine Bnd.eq hw ?_
            | refine Br.t ?_
            | refine Br.f ?_
            | (refine Br.decT ?_ ?_; (focus first | assumption | omega))
            | (refine Br.decF ?_ ?_; (focus first | assumption | omega))
            | refine Br.dec (fun _ => ?_) (fun _ => ?_)
            | refine Br.not ?_
            | refine Br.and ?_
            | refine Br.or ?_
            | (refine Bnd.i64 ?_ ?_ ?_; (focus omega); (focus omega))
            | refine Get.mk _ hcs ?_
            | refine Get.mk _ hpk ?_
            | refine Req.mk hg0 ?_
            | refine Req.mk hyt ?_
            | refine Req.mk hk1 ?_
            | refine Req.mk hk2 ?_
            | refine Req.mk hk3 ?_
            | (refine Idx.nat ?_ ?_; (focus omega))
            | refine Idx.nat (le_big (by omega)) ?_
            | (refine Idx.int ?_ ?_ ?_; (focus omega); (focus omega))
            | (refine Idx.int ?_ ?_ ?_; (focus decide); (focus decide))
            | refine Ifz.zero ?_
            | (refine Ifz.pos ?_ ?_; (focus omega))
            | refine Get.mk _ rfl ?_
            | refine Leaves.of ?_
            | refine Ends.of ?_
            | refine Vw.bool ?_
            | refine Vw.int ?_
            | refine Vw.nil
            | refine Vw.sl
            | refine Vw.tup ?_
            | refine Vw.agg ?_
            | refine VwL.cons ?_ ?_
            | refine VwL.nil
            | refine LeavesF.of ?_
            | refine VwF.bool ?_
            | refine VwF.int ?_
            | refine VwF.nil
            | refine VwF.sl
            | refine VwF.tup ?_
            | refine VwF.agg ?_
            | refine VwLF.cons ?_ ?_
            | refine VwLF.nil
            | (refine Req.mk ?_ ?_; (focus first | rfl | decide | exact ⟨rfl, rfl⟩ | exact ⟨rfl, by decide⟩ | exact (fun _ => rfl) | exact (fun h => nomatch h) | (simp; done) | omega | (simp [big]; done) | exact le_big (by omega) | exact lt_big (by omega))))
        all_goals try (exfalso; omega)
        all_goals
          refine LoopP.by (fun k : Nat => k ≤ (b + 1 - a)) (fun k => [(16, .int .i64 ((k + 1 : Nat) : Int))]) (fun k => .blk (ofI (blM l.length now (blR l.length now a b) a k)) true :: [.blk (ofI ([] ++ blK now a b)) true]) (fun k => (b + 1 - a) - k) 0 (Nat.zero_le _) (by rw [blM_zero hnl]; rfl) ?_
          intro k hk
          by_cases hkN : k < (b + 1 - a)
          · have hput := ofI_put0 (l := blM l.length now (blR l.length now a b) a k) (i := a + k) (v := gI (blR l.length now a b) k) (by rw [blM_length]; omega)
            rw [blM_set] at hput
            have hv := blR_at (n := l.length) (now := now) (a := a) (b := b) (k := k) (by omega)
            have hg1 : (ofI (blM l.length now (blR l.length now a b) a k)).length = ([] : List V).length + (ofI l).length := by rw [ofI_length, ofI_length, blM_length]; simp
            have hgo : 0 + (a + k) * 1 + 1 ≤ (ofI (blM l.length now (blR l.length now a b) a k)).length := by rw [ofI_length, blM_length]; omega
            have hs1 : IntKind.i64.wrap ((a : Int) + ((k + 1 : Nat) : Int)) = ((a + (k + 1) : Nat) : Int) := by rw [wrap_i64 (by omega) (by omega)]; omega
            have hs2 : IntKind.i64.wrap (((a + (k + 1) : Nat) : Int) - 1) = ((a + k : Nat) : Int) := by rw [wrap_i64 (by omega) (by omega)]; omega
            have hA : ∀ j, j < l.length → (j < a ∨ b < j) → cellAt (ofI (blM l.length now (blR l.length now a b) a k)) (0 + j * 1) = some (.int .i64 (gI now j)) := by
              intro j hj hjo
              rw [gI_cell0 (by rw [blM_length]; exact hj), blM_at hj, if_neg (by omega)]
            generalize hC2 : ofI (blM l.length now (blR l.length now a b) a (k + 1)) = C2 at *
            generalize ofI (blM l.length now (blR l.length now a b) a k) = C0 at *
            generalize gI (blR l.length now a b) k = v at *
            have hra := hrg (a - 1)
            have hrb := hrg (b + 1)
            by_cases c2 : a = 0
            · have hcb := hA (b + 1) (by omega) (.inr (by omega))
              have hB : v = gI now (b + 1) := by rw [hv, blA, blB, if_pos c2, if_neg (by omega), brg_same]
              rw [← hB] at hcb hrb
              have hca := hcb
              have ha1 : True := trivial
              have hMul : True := trivial
              have hv2 : True := trivial
              have hD : True := trivial
              clear hA hB hv
              repeat' (first
                | (conv => whnf)
                  first
                  | refine Bnd.eq hs1 ?_
                  | refine Bnd.eq hs2 ?_
                  | refine Bnd.eq hb1 ?_
                  | refine Bnd.eq ha1 ?_
                  | refine Bnd.eq hMul ?_
                  | refine Bnd.eq hv2 ?_
                  | refine Br.t ?_
                  | refine Br.f ?_
                  | (refine Br.decT ?_ ?_; (focus first | assumption | omega))
                  | (refine Br.decF ?_ ?_; (focus first | assumption | omega))
                  | refine Br.dec (fun _ => ?_) (fun _ => ?_)
                  | refine Br.not ?_
                  | refine Br.and ?_
                  | refine Br.or ?_
                  | (refine Bnd.i64 ?_ ?_ ?_; (focus omega); (focus omega))
                  | refine Get.mk _ hca ?_
                  | refine Get.mk _ hcb ?_
                  | refine fVe hput ?_
                  | refine Req.mk hg1 ?_
                  | refine Req.mk ⟨hg1, hgo⟩ ?_
                  | refine call_fun rfl rfl hD (.inl rfl) ?_
                  | (refine Idx.nat ?_ ?_; (focus omega))
                  | refine Idx.nat (le_big (by omega)) ?_
                  | (refine Idx.int ?_ ?_ ?_; (focus omega); (focus omega))
                  | (refine Idx.int ?_ ?_ ?_; (focus decide); (focus decide))
                  | refine Ifz.zero ?_
                  | (refine Ifz.pos ?_ ?_; (focus omega))
                  | refine Get.mk _ rfl ?_
                  | refine Leaves.of ?_
                  | refine Ends.of ?_
                  | refine Vw.bool ?_
                  | refine Vw.int ?_
                  | refine Vw.nil
                  | refine Vw.sl
                  | refine Vw.tup ?_
                  | refine Vw.agg ?_
                  | refine VwL.cons ?_ ?_
                  | refine VwL.nil
                  | refine LeavesF.of ?_
                  | refine VwF.bool ?_
                  | refine VwF.int ?_
                  | refine VwF.nil
                  | refine VwF.sl
                  | refine VwF.tup ?_
                  | refine VwF.agg ?_
                  | refine VwLF.cons ?_ ?_
                  | refine VwLF.nil
                  | (refine Req.mk ?_ ?_; (focus first | rfl | decide | exact ⟨rfl, rfl⟩ | exact ⟨rfl, by decide⟩ | exact (fun _ => rfl) | exact (fun h => nomatch h) | (simp; done) | omega | (simp [big]; done) | exact le_big (by omega) | exact lt_big (by omega))))
              all_goals first | exact NextP.mk (k + 1) (by omega) (by omega) (by rw [hC2]; rfl) | (exfalso; omega)
            · have ha1 : IntKind.i64.wrap ((a : Int) - 1) = ((a - 1 : Nat) : Int) := by rw [wrap_i64 (by omega) (by omega)]; omega
              have hca := hA (a - 1) (by omega) (.inl (by omega))
              by_cases c3 : b + 1 = l.length
              · have hB : v = gI now (a - 1) := by rw [hv, blA, blB, if_neg c2, if_pos ⟨c2, c3⟩, brg_same]
                rw [← hB] at hca hra
                have hcb := hca
                have hMul : True := trivial
                have hv2 : True := trivial
                have hD : True := trivial
                clear hA hB hv
                repeat' (first
                  | (conv => whnf)
                    first
                    | refine Bnd.eq hs1 ?_
                    | refine Bnd.eq hs2 ?_
                    | refine Bnd.eq hb1 ?_
                    | refine Bnd.eq ha1 ?_
                    | refine Bnd.eq hMul ?_
                    | refine Bnd.eq hv2 ?_
                    | refine Br.t ?_
                    | refine Br.f ?_
                    | (refine Br.decT ?_ ?_; (focus first | assumption | omega))
                    | (refine Br.decF ?_ ?_; (focus first | assumption | omega))
                    | refine Br.dec (fun _ => ?_) (fun _ => ?_)
                    | refine Br.not ?_
                    | refine Br.and ?_
                    | refine Br.or ?_
                    | (refine Bnd.i64 ?_ ?_ ?_; (focus omega); (focus omega))
                    | refine Get.mk _ hca ?_
                    | refine Get.mk _ hcb ?_
                    | refine fVe hput ?_
                    | refine Req.mk hg1 ?_
                    | refine Req.mk ⟨hg1, hgo⟩ ?_
                    | refine call_fun rfl rfl hD (.inl rfl) ?_
                    | (refine Idx.nat ?_ ?_; (focus omega))
                    | refine Idx.nat (le_big (by omega)) ?_
                    | (refine Idx.int ?_ ?_ ?_; (focus omega); (focus omega))
                    | (refine Idx.int ?_ ?_ ?_; (focus decide); (focus decide))
                    | refine Ifz.zero ?_
                    | (refine Ifz.pos ?_ ?_; (focus omega))
                    | refine Get.mk _ rfl ?_
                    | refine Leaves.of ?_
                    | refine Ends.of ?_
                    | refine Vw.bool ?_
                    | refine Vw.int ?_
                    | refine Vw.nil
                    | refine Vw.sl
                    | refine Vw.tup ?_
                    | refine Vw.agg ?_
                    | refine VwL.cons ?_ ?_
                    | refine VwL.nil
                    | refine LeavesF.of ?_
                    | refine VwF.bool ?_
                    | refine VwF.int ?_
                    | refine VwF.nil
                    | refine VwF.sl
                    | refine VwF.tup ?_
                    | refine VwF.agg ?_
                    | refine VwLF.cons ?_ ?_
                    | refine VwLF.nil
                    | (refine Req.mk ?_ ?_; (focus first | rfl | decide | exact ⟨rfl, rfl⟩ | exact ⟨rfl, by decide⟩ | exact (fun _ => rfl) | exact (fun h => nomatch h) | (simp; done) | omega | (simp [big]; done) | exact le_big (by omega) | exact lt_big (by omega))))
                all_goals first | exact NextP.mk (k + 1) (by omega) (by omega) (by rw [hC2]; rfl) | (exfalso; omega)
              · have hcb := hA (b + 1) (by omega) (.inr (by omega))
                rw [blA, blB, if_neg c2, if_neg (by omega), brg] at hv
                generalize gI now (a - 1) = X at *
                generalize gI now (b + 1) = Y at *
                have hm := mul_bd2 (d := Y - X) (r := ((k + 1 : Nat) : Int)) (A := 2000000) (B := 4001) (by omega) (by omega)
                have hD := downR_any (a := (Y - X) * ((k + 1 : Nat) : Int)) (b := ((b + 1 - a : Nat) : Int) + 1) (by unfold mid; omega) (by omega) (by omega)
                have hMul : IntKind.i64.wrap ((Y - X) * ((k + 1 : Nat) : Int)) = (Y - X) * ((k + 1 : Nat) : Int) := wrap_i64 (by omega) (by omega)
                have hbr := brg_range (a := X) (b := Y) (n := b + 1 - a) (k := k) (by omega) (by omega) hkN
                unfold brg at hbr
                rw [← hv] at hbr
                have hv : v = X + (Y - X) * ((k + 1 : Nat) : Int) / (((b + 1 - a : Nat) : Int) + 1) := hv
                have hv2 : IntKind.i64.wrap (X + (Y - X) * ((k + 1 : Nat) : Int) / (((b + 1 - a : Nat) : Int) + 1)) = v := by rw [← hv]; exact wrap_i64 (by omega) (by omega)
                clear hA
                repeat' (first
                  | (conv => whnf)
                    first
                    | refine Bnd.eq hs1 ?_
                    | refine Bnd.eq hs2 ?_
                    | refine Bnd.eq hb1 ?_
                    | refine Bnd.eq ha1 ?_
                    | refine Bnd.eq hMul ?_
                    | refine Bnd.eq hv2 ?_
                    | refine Br.t ?_
                    | refine Br.f ?_
                    | (refine Br.decT ?_ ?_; (focus first | assumption | omega))
                    | (refine Br.decF ?_ ?_; (focus first | assumption | omega))
                    | refine Br.dec (fun _ => ?_) (fun _ => ?_)
                    | refine Br.not ?_
                    | refine Br.and ?_
                    | refine Br.or ?_
                    | (refine Bnd.i64 ?_ ?_ ?_; (focus omega); (focus omega))
                    | refine Get.mk _ hca ?_
                    | refine Get.mk _ hcb ?_
                    | refine fVe hput ?_
                    | refine Req.mk hg1 ?_
                    | refine Req.mk ⟨hg1, hgo⟩ ?_
                    | refine call_fun rfl rfl hD (.inl rfl) ?_
                    | (refine Idx.nat ?_ ?_; (focus omega))
                    | refine Idx.nat (le_big (by omega)) ?_
                    | (refine Idx.int ?_ ?_ ?_; (focus omega); (focus omega))
                    | (refine Idx.int ?_ ?_ ?_; (focus decide); (focus decide))
                    | refine Ifz.zero ?_
                    | (refine Ifz.pos ?_ ?_; (focus omega))
                    | refine Get.mk _ rfl ?_
                    | refine Leaves.of ?_
                    | refine Ends.of ?_
                    | refine Vw.bool ?_
                    | refine Vw.int ?_
                    | refine Vw.nil
                    | refine Vw.sl
                    | refine Vw.tup ?_
                    | refine Vw.agg ?_
                    | refine VwL.cons ?_ ?_
                    | refine VwL.nil
                    | refine LeavesF.of ?_
                    | refine VwF.bool ?_
                    | refine VwF.int ?_
                    | refine VwF.nil
                    | refine VwF.sl
                    | refine VwF.tup ?_
                    | refine VwF.agg ?_
                    | refine VwLF.cons ?_ ?_
                    | refine VwLF.nil
                    | (refine Req.mk ?_ ?_; (focus first | rfl | decide | exact ⟨rfl, rfl⟩ | exact ⟨rfl, by decide⟩ | exact (fun _ => rfl) | exact (fun h => nomatch h) | (simp; done) | omega | (simp [big]; done) | exact le_big (by omega) | exact lt_big (by omega))))
                all_goals first | exact NextP.mk (k + 1) (by omega) (by omega) (by rw [hC2]; rfl) | (exfalso; omega)
          · obtain hkN : k = b + 1 - a := by omega
            subst hkN
            rw [hfull]
            repeat' (first
              | (conv => whnf)
                first
                | refine Br.t ?_
                | refine Br.f ?_
                | (refine Br.decT ?_ ?_; (focus first | assumption | omega))
                | (refine Br.decF ?_ ?_; (focus first | assumption | omega))
                | refine Br.dec (fun _ => ?_) (fun _ => ?_)
                | refine Br.not ?_
                | refine Br.and ?_
                | refine Br.or ?_
                | (refine Bnd.i64 ?_ ?_ ?_; (focus omega); (focus omega))
                | (refine Idx.nat ?_ ?_; (focus omega))
                | refine Idx.nat (le_big (by omega)) ?_
                | (refine Idx.int ?_ ?_ ?_; (focus omega); (focus omega))
                | (refine Idx.int ?_ ?_ ?_; (focus decide); (focus decide))
                | refine Ifz.zero ?_
                | (refine Ifz.pos ?_ ?_; (focus omega))
                | refine Get.mk _ rfl ?_
                | refine Leaves.of ?_
                | refine Ends.of ?_
                | refine Vw.bool ?_
                | refine Vw.int ?_
                | refine Vw.nil
                | refine Vw.sl
                | refine Vw.tup ?_
                | refine Vw.agg ?_
                | refine VwL.cons ?_ ?_
                | refine VwL.nil
                | refine LeavesF.of ?_
                | refine VwF.bool ?_
                | refine VwF.int ?_
                | refine VwF.nil
                | refine VwF.sl
                | refine VwF.tup ?_
                | refine VwF.agg ?_
                | refine VwLF.cons ?_ ?_
                | refine VwLF.nil
                | (refine Req.mk ?_ ?_; (focus first | rfl | decide | exact ⟨rfl, rfl⟩ | exact ⟨rfl, by decide⟩ | exact (fun _ => rfl) | exact (fun h => nomatch h) | (simp; done) | omega | (simp [big]; done) | exact le_big (by omega) | exact lt_big (by omega))))
            all_goals first | exact NextP.mk ⟨0 + 1, blN l.length now a b, [] ++ blK now a b, 0 + (b + 1 - a)⟩ ⟨(by rw [hSl]; exact hin), hnl2, hin2, hd, (by simp [hkl]), (by dsimp only; omega), (by intro h; simp at h), (by intro _; dsimp only; omega)⟩ (by simp only; omega) (by rw [brU_one, brH_one, hyl]; rfl) | (exfalso; omega)
    | succ i =>
      have hk1 : (ofI kept).length = nk := by rw [ofI_length, hkl0]
      have hk2 : True := trivial
      rw [brU_one, brH_one]
      have hx0 : (spL l.length r sp)[(i + 1)]'(by rw [hSl]; exact hin) = spF l.length r (gI sp (i + 1)) := by simp [spL, gI_get hin]
      have hcs := gI_cell (l := sp) (i := (i + 1)) hin
      have hx := hS _ (List.getElem_mem (by rw [hSl]; exact hin : (i + 1) < (spL l.length r sp).length))
      rw [List.drop_eq_getElem_cons (by rw [hSl]; exact hin), hx0] at hd
      rw [hx0] at hx
      have hsb := hsb (gI sp (i + 1)) (by rw [gI_get hin]; exact List.getElem_mem hin)
      have hf1 : max 0 (gI sp (i + 1) - r) = (spF l.length r (gI sp (i + 1))).1 := rfl
      have hf2 : min ((l.length : Int) - 1) (gI sp (i + 1) + r) = (spF l.length r (gI sp (i + 1))).2 := rfl
      clear hx0
      generalize spF l.length r (gI sp (i + 1)) = x at *
      generalize gI sp (i + 1) = at' at *
      obtain ⟨xa, xb⟩ := x
      dsimp only at hx hf1 hf2
      obtain ⟨a, rfl⟩ := Int.eq_ofNat_of_zero_le hx.1
      obtain ⟨b, rfl⟩ := Int.eq_ofNat_of_zero_le (show 0 ≤ xb by omega)
      simp only [blp, Int.toNat_natCast] at hd
      have hg0 : (ofI now).length = ([] : List V).length + (ofI l).length := by rw [ofI_length, ofI_length, hnl]; simp
      have hb1 : IntKind.i64.wrap ((b : Int) + 1) = ((b + 1 : Nat) : Int) := by rw [wrap_i64 (by omega) (by omega)]; omega
      by_cases c1 : a = 0 ∧ b + 1 = l.length
      · rw [if_pos c1] at hd
        rw [hd]
        repeat' (first
          | (conv => whnf)
            first
            | refine Bnd.eq hf1 ?_
            | refine Bnd.eq hf2 ?_
            | refine Br.t ?_
            | refine Br.f ?_
            | (refine Br.decT ?_ ?_; (focus first | assumption | omega))
            | (refine Br.decF ?_ ?_; (focus first | assumption | omega))
            | refine Br.dec (fun _ => ?_) (fun _ => ?_)
            | refine Br.not ?_
            | refine Br.and ?_
            | refine Br.or ?_
            | (refine Bnd.i64 ?_ ?_ ?_; (focus omega); (focus omega))
            | refine Get.mk _ hcs ?_
            | (refine Idx.nat ?_ ?_; (focus omega))
            | refine Idx.nat (le_big (by omega)) ?_
            | (refine Idx.int ?_ ?_ ?_; (focus omega); (focus omega))
            | (refine Idx.int ?_ ?_ ?_; (focus decide); (focus decide))
            | refine Ifz.zero ?_
            | (refine Ifz.pos ?_ ?_; (focus omega))
            | refine Get.mk _ rfl ?_
            | refine Leaves.of ?_
            | refine Ends.of ?_
            | refine Vw.bool ?_
            | refine Vw.int ?_
            | refine Vw.nil
            | refine Vw.sl
            | refine Vw.tup ?_
            | refine Vw.agg ?_
            | refine VwL.cons ?_ ?_
            | refine VwL.nil
            | refine LeavesF.of ?_
            | refine VwF.bool ?_
            | refine VwF.int ?_
            | refine VwF.nil
            | refine VwF.sl
            | refine VwF.tup ?_
            | refine VwF.agg ?_
            | refine VwLF.cons ?_ ?_
            | refine VwLF.nil
            | (refine Req.mk ?_ ?_; (focus first | rfl | decide | exact ⟨rfl, rfl⟩ | exact ⟨rfl, by decide⟩ | exact (fun _ => rfl) | exact (fun h => nomatch h) | (simp; done) | omega | (simp [big]; done) | exact le_big (by omega) | exact lt_big (by omega))))
        all_goals first | rfl | (exfalso; omega)
      · rw [if_neg c1] at hd
        have hpk : part (ofI now) (0 + a * 1) ((b + 1 - a) * 1) = some (ofI (blK now a b)) := by rw [Nat.zero_add]; exact ofI_part (by omega)
        have hkl : (blK now a b).length = b + 1 - a := by simp [blK]; omega
        have hyl : (ofI (blK now a b)).length = b + 1 - a := by rw [ofI_length, hkl]
        have hyt : true = true → scalars (ofI (blK now a b)) = true := fun _ => scal_ints _
        have hk3 : 0 + nk * 1 = nk ∧ ((ofI kept).length + (ofI (blK now a b)).length) * (8 + 1) < big := by (refine ⟨by omega, ?_⟩; rw [hk1, hyl]; simp [big]; omega)
        have hw : IntKind.i64.wrap ((b : Int) - (a : Int) + 1) = ((b + 1 - a : Nat) : Int) := by rw [wrap_i64 (by omega) (by omega)]; omega
        have hnl2 := blN_len hnl (show b < l.length by omega) (show a ≤ b by omega)
        have hin2 := @blN_in l.length now a b hrg
        have hR := blR_len l.length now a b
        have hfull : blM l.length now (blR l.length now a b) a (b + 1 - a) = blN l.length now a b := by
          have := blM_full (n := l.length) (now := now) (R := blR l.length now a b) (a := a) hnl (by omega)
          rw [hR] at this
          rw [this]; unfold blN; rw [hR]
        repeat' (first
          | (conv => whnf)
            first
            | refine Bnd.eq hf1 ?_
            | refine Bnd.eq hf2 ?_
            | refine Bnd.eq hb1 ?_
            | refine Bnd.eq hw ?_
            | refine Br.t ?_
            | refine Br.f ?_
            | (refine Br.decT ?_ ?_; (focus first | assumption | omega))
            | (refine Br.decF ?_ ?_; (focus first | assumption | omega))
            | refine Br.dec (fun _ => ?_) (fun _ => ?_)
            | refine Br.not ?_
            | refine Br.and ?_
            | refine Br.or ?_
            | (refine Bnd.i64 ?_ ?_ ?_; (focus omega); (focus omega))
            | refine Get.mk _ hcs ?_
            | refine Get.mk _ hpk ?_
            | refine Req.mk hg0 ?_
            | refine Req.mk hyt ?_
            | refine Req.mk hk1 ?_
            | refine Req.mk hk2 ?_
            | refine Req.mk hk3 ?_
            | (refine Idx.nat ?_ ?_; (focus omega))
            | refine Idx.nat (le_big (by omega)) ?_
            | (refine Idx.int ?_ ?_ ?_; (focus omega); (focus omega))
            | (refine Idx.int ?_ ?_ ?_; (focus decide); (focus decide))
            | refine Ifz.zero ?_
            | (refine Ifz.pos ?_ ?_; (focus omega))
            | refine Get.mk _ rfl ?_
            | refine Leaves.of ?_
            | refine Ends.of ?_
            | refine Vw.bool ?_
            | refine Vw.int ?_
            | refine Vw.nil
            | refine Vw.sl
            | refine Vw.tup ?_
            | refine Vw.agg ?_
            | refine VwL.cons ?_ ?_
            | refine VwL.nil
            | refine LeavesF.of ?_
            | refine VwF.bool ?_
            | refine VwF.int ?_
            | refine VwF.nil
            | refine VwF.sl
            | refine VwF.tup ?_
            | refine VwF.agg ?_
            | refine VwLF.cons ?_ ?_
            | refine VwLF.nil
            | (refine Req.mk ?_ ?_; (focus first | rfl | decide | exact ⟨rfl, rfl⟩ | exact ⟨rfl, by decide⟩ | exact (fun _ => rfl) | exact (fun h => nomatch h) | (simp; done) | omega | (simp [big]; done) | exact le_big (by omega) | exact lt_big (by omega))))
        all_goals try (exfalso; omega)
        all_goals
          refine LoopP.by (fun k : Nat => k ≤ (b + 1 - a)) (fun k => [(16, .int .i64 ((k + 1 : Nat) : Int))]) (fun k => .blk (ofI (blM l.length now (blR l.length now a b) a k)) true :: [.blk (ofI (kept ++ blK now a b)) true, .unborn]) (fun k => (b + 1 - a) - k) 0 (Nat.zero_le _) (by rw [blM_zero hnl]; (rw [ofI_append]; rfl)) ?_
          intro k hk
          by_cases hkN : k < (b + 1 - a)
          · have hput := ofI_put0 (l := blM l.length now (blR l.length now a b) a k) (i := a + k) (v := gI (blR l.length now a b) k) (by rw [blM_length]; omega)
            rw [blM_set] at hput
            have hv := blR_at (n := l.length) (now := now) (a := a) (b := b) (k := k) (by omega)
            have hg1 : (ofI (blM l.length now (blR l.length now a b) a k)).length = ([] : List V).length + (ofI l).length := by rw [ofI_length, ofI_length, blM_length]; simp
            have hgo : 0 + (a + k) * 1 + 1 ≤ (ofI (blM l.length now (blR l.length now a b) a k)).length := by rw [ofI_length, blM_length]; omega
            have hs1 : IntKind.i64.wrap ((a : Int) + ((k + 1 : Nat) : Int)) = ((a + (k + 1) : Nat) : Int) := by rw [wrap_i64 (by omega) (by omega)]; omega
            have hs2 : IntKind.i64.wrap (((a + (k + 1) : Nat) : Int) - 1) = ((a + k : Nat) : Int) := by rw [wrap_i64 (by omega) (by omega)]; omega
            have hA : ∀ j, j < l.length → (j < a ∨ b < j) → cellAt (ofI (blM l.length now (blR l.length now a b) a k)) (0 + j * 1) = some (.int .i64 (gI now j)) := by
              intro j hj hjo
              rw [gI_cell0 (by rw [blM_length]; exact hj), blM_at hj, if_neg (by omega)]
            generalize hC2 : ofI (blM l.length now (blR l.length now a b) a (k + 1)) = C2 at *
            generalize ofI (blM l.length now (blR l.length now a b) a k) = C0 at *
            generalize gI (blR l.length now a b) k = v at *
            have hra := hrg (a - 1)
            have hrb := hrg (b + 1)
            by_cases c2 : a = 0
            · have hcb := hA (b + 1) (by omega) (.inr (by omega))
              have hB : v = gI now (b + 1) := by rw [hv, blA, blB, if_pos c2, if_neg (by omega), brg_same]
              rw [← hB] at hcb hrb
              have hca := hcb
              have ha1 : True := trivial
              have hMul : True := trivial
              have hv2 : True := trivial
              have hD : True := trivial
              clear hA hB hv
              repeat' (first
                | (conv => whnf)
                  first
                  | refine Bnd.eq hs1 ?_
                  | refine Bnd.eq hs2 ?_
                  | refine Bnd.eq hb1 ?_
                  | refine Bnd.eq ha1 ?_
                  | refine Bnd.eq hMul ?_
                  | refine Bnd.eq hv2 ?_
                  | refine Br.t ?_
                  | refine Br.f ?_
                  | (refine Br.decT ?_ ?_; (focus first | assumption | omega))
                  | (refine Br.decF ?_ ?_; (focus first | assumption | omega))
                  | refine Br.dec (fun _ => ?_) (fun _ => ?_)
                  | refine Br.not ?_
                  | refine Br.and ?_
                  | refine Br.or ?_
                  | (refine Bnd.i64 ?_ ?_ ?_; (focus omega); (focus omega))
                  | refine Get.mk _ hca ?_
                  | refine Get.mk _ hcb ?_
                  | refine fVe hput ?_
                  | refine Req.mk hg1 ?_
                  | refine Req.mk ⟨hg1, hgo⟩ ?_
                  | refine call_fun rfl rfl hD (.inl rfl) ?_
                  | (refine Idx.nat ?_ ?_; (focus omega))
                  | refine Idx.nat (le_big (by omega)) ?_
                  | (refine Idx.int ?_ ?_ ?_; (focus omega); (focus omega))
                  | (refine Idx.int ?_ ?_ ?_; (focus decide); (focus decide))
                  | refine Ifz.zero ?_
                  | (refine Ifz.pos ?_ ?_; (focus omega))
                  | refine Get.mk _ rfl ?_
                  | refine Leaves.of ?_
                  | refine Ends.of ?_
                  | refine Vw.bool ?_
                  | refine Vw.int ?_
                  | refine Vw.nil
                  | refine Vw.sl
                  | refine Vw.tup ?_
                  | refine Vw.agg ?_
                  | refine VwL.cons ?_ ?_
                  | refine VwL.nil
                  | refine LeavesF.of ?_
                  | refine VwF.bool ?_
                  | refine VwF.int ?_
                  | refine VwF.nil
                  | refine VwF.sl
                  | refine VwF.tup ?_
                  | refine VwF.agg ?_
                  | refine VwLF.cons ?_ ?_
                  | refine VwLF.nil
                  | (refine Req.mk ?_ ?_; (focus first | rfl | decide | exact ⟨rfl, rfl⟩ | exact ⟨rfl, by decide⟩ | exact (fun _ => rfl) | exact (fun h => nomatch h) | (simp; done) | omega | (simp [big]; done) | exact le_big (by omega) | exact lt_big (by omega))))
              all_goals first | exact NextP.mk (k + 1) (by omega) (by omega) (by rw [hC2]; rfl) | (exfalso; omega)
            · have ha1 : IntKind.i64.wrap ((a : Int) - 1) = ((a - 1 : Nat) : Int) := by rw [wrap_i64 (by omega) (by omega)]; omega
              have hca := hA (a - 1) (by omega) (.inl (by omega))
              by_cases c3 : b + 1 = l.length
              · have hB : v = gI now (a - 1) := by rw [hv, blA, blB, if_neg c2, if_pos ⟨c2, c3⟩, brg_same]
                rw [← hB] at hca hra
                have hcb := hca
                have hMul : True := trivial
                have hv2 : True := trivial
                have hD : True := trivial
                clear hA hB hv
                repeat' (first
                  | (conv => whnf)
                    first
                    | refine Bnd.eq hs1 ?_
                    | refine Bnd.eq hs2 ?_
                    | refine Bnd.eq hb1 ?_
                    | refine Bnd.eq ha1 ?_
                    | refine Bnd.eq hMul ?_
                    | refine Bnd.eq hv2 ?_
                    | refine Br.t ?_
                    | refine Br.f ?_
                    | (refine Br.decT ?_ ?_; (focus first | assumption | omega))
                    | (refine Br.decF ?_ ?_; (focus first | assumption | omega))
                    | refine Br.dec (fun _ => ?_) (fun _ => ?_)
                    | refine Br.not ?_
                    | refine Br.and ?_
                    | refine Br.or ?_
                    | (refine Bnd.i64 ?_ ?_ ?_; (focus omega); (focus omega))
                    | refine Get.mk _ hca ?_
                    | refine Get.mk _ hcb ?_
                    | refine fVe hput ?_
                    | refine Req.mk hg1 ?_
                    | refine Req.mk ⟨hg1, hgo⟩ ?_
                    | refine call_fun rfl rfl hD (.inl rfl) ?_
                    | (refine Idx.nat ?_ ?_; (focus omega))
                    | refine Idx.nat (le_big (by omega)) ?_
                    | (refine Idx.int ?_ ?_ ?_; (focus omega); (focus omega))
                    | (refine Idx.int ?_ ?_ ?_; (focus decide); (focus decide))
                    | refine Ifz.zero ?_
                    | (refine Ifz.pos ?_ ?_; (focus omega))
                    | refine Get.mk _ rfl ?_
                    | refine Leaves.of ?_
                    | refine Ends.of ?_
                    | refine Vw.bool ?_
                    | refine Vw.int ?_
                    | refine Vw.nil
                    | refine Vw.sl
                    | refine Vw.tup ?_
                    | refine Vw.agg ?_
                    | refine VwL.cons ?_ ?_
                    | refine VwL.nil
                    | refine LeavesF.of ?_
                    | refine VwF.bool ?_
                    | refine VwF.int ?_
                    | refine VwF.nil
                    | refine VwF.sl
                    | refine VwF.tup ?_
                    | refine VwF.agg ?_
                    | refine VwLF.cons ?_ ?_
                    | refine VwLF.nil
                    | (refine Req.mk ?_ ?_; (focus first | rfl | decide | exact ⟨rfl, rfl⟩ | exact ⟨rfl, by decide⟩ | exact (fun _ => rfl) | exact (fun h => nomatch h) | (simp; done) | omega | (simp [big]; done) | exact le_big (by omega) | exact lt_big (by omega))))
                all_goals first | exact NextP.mk (k + 1) (by omega) (by omega) (by rw [hC2]; rfl) | (exfalso; omega)
              · have hcb := hA (b + 1) (by omega) (.inr (by omega))
                rw [blA, blB, if_neg c2, if_neg (by omega), brg] at hv
                generalize gI now (a - 1) = X at *
                generalize gI now (b + 1) = Y at *
                have hm := mul_bd2 (d := Y - X) (r := ((k + 1 : Nat) : Int)) (A := 2000000) (B := 4001) (by omega) (by omega)
                have hD := downR_any (a := (Y - X) * ((k + 1 : Nat) : Int)) (b := ((b + 1 - a : Nat) : Int) + 1) (by unfold mid; omega) (by omega) (by omega)
                have hMul : IntKind.i64.wrap ((Y - X) * ((k + 1 : Nat) : Int)) = (Y - X) * ((k + 1 : Nat) : Int) := wrap_i64 (by omega) (by omega)
                have hbr := brg_range (a := X) (b := Y) (n := b + 1 - a) (k := k) (by omega) (by omega) hkN
                unfold brg at hbr
                rw [← hv] at hbr
                have hv : v = X + (Y - X) * ((k + 1 : Nat) : Int) / (((b + 1 - a : Nat) : Int) + 1) := hv
                have hv2 : IntKind.i64.wrap (X + (Y - X) * ((k + 1 : Nat) : Int) / (((b + 1 - a : Nat) : Int) + 1)) = v := by rw [← hv]; exact wrap_i64 (by omega) (by omega)
                clear hA
                repeat' (first
                  | (conv => whnf)
                    first
                    | refine Bnd.eq hs1 ?_
                    | refine Bnd.eq hs2 ?_
                    | refine Bnd.eq hb1 ?_
                    | refine Bnd.eq ha1 ?_
                    | refine Bnd.eq hMul ?_
                    | refine Bnd.eq hv2 ?_
                    | refine Br.t ?_
                    | refine Br.f ?_
                    | (refine Br.decT ?_ ?_; (focus first | assumption | omega))
                    | (refine Br.decF ?_ ?_; (focus first | assumption | omega))
                    | refine Br.dec (fun _ => ?_) (fun _ => ?_)
                    | refine Br.not ?_
                    | refine Br.and ?_
                    | refine Br.or ?_
                    | (refine Bnd.i64 ?_ ?_ ?_; (focus omega); (focus omega))
                    | refine Get.mk _ hca ?_
                    | refine Get.mk _ hcb ?_
                    | refine fVe hput ?_
                    | refine Req.mk hg1 ?_
                    | refine Req.mk ⟨hg1, hgo⟩ ?_
                    | refine call_fun rfl rfl hD (.inl rfl) ?_
                    | (refine Idx.nat ?_ ?_; (focus omega))
                    | refine Idx.nat (le_big (by omega)) ?_
                    | (refine Idx.int ?_ ?_ ?_; (focus omega); (focus omega))
                    | (refine Idx.int ?_ ?_ ?_; (focus decide); (focus decide))
                    | refine Ifz.zero ?_
                    | (refine Ifz.pos ?_ ?_; (focus omega))
                    | refine Get.mk _ rfl ?_
                    | refine Leaves.of ?_
                    | refine Ends.of ?_
                    | refine Vw.bool ?_
                    | refine Vw.int ?_
                    | refine Vw.nil
                    | refine Vw.sl
                    | refine Vw.tup ?_
                    | refine Vw.agg ?_
                    | refine VwL.cons ?_ ?_
                    | refine VwL.nil
                    | refine LeavesF.of ?_
                    | refine VwF.bool ?_
                    | refine VwF.int ?_
                    | refine VwF.nil
                    | refine VwF.sl
                    | refine VwF.tup ?_
                    | refine VwF.agg ?_
                    | refine VwLF.cons ?_ ?_
                    | refine VwLF.nil
                    | (refine Req.mk ?_ ?_; (focus first | rfl | decide | exact ⟨rfl, rfl⟩ | exact ⟨rfl, by decide⟩ | exact (fun _ => rfl) | exact (fun h => nomatch h) | (simp; done) | omega | (simp [big]; done) | exact le_big (by omega) | exact lt_big (by omega))))
                all_goals first | exact NextP.mk (k + 1) (by omega) (by omega) (by rw [hC2]; rfl) | (exfalso; omega)
          · obtain hkN : k = b + 1 - a := by omega
            subst hkN
            rw [hfull]
            repeat' (first
              | (conv => whnf)
                first
                | refine Br.t ?_
                | refine Br.f ?_
                | (refine Br.decT ?_ ?_; (focus first | assumption | omega))
                | (refine Br.decF ?_ ?_; (focus first | assumption | omega))
                | refine Br.dec (fun _ => ?_) (fun _ => ?_)
                | refine Br.not ?_
                | refine Br.and ?_
                | refine Br.or ?_
                | (refine Bnd.i64 ?_ ?_ ?_; (focus omega); (focus omega))
                | (refine Idx.nat ?_ ?_; (focus omega))
                | refine Idx.nat (le_big (by omega)) ?_
                | (refine Idx.int ?_ ?_ ?_; (focus omega); (focus omega))
                | (refine Idx.int ?_ ?_ ?_; (focus decide); (focus decide))
                | refine Ifz.zero ?_
                | (refine Ifz.pos ?_ ?_; (focus omega))
                | refine Get.mk _ rfl ?_
                | refine Leaves.of ?_
                | refine Ends.of ?_
                | refine Vw.bool ?_
                | refine Vw.int ?_
                | refine Vw.nil
                | refine Vw.sl
                | refine Vw.tup ?_
                | refine Vw.agg ?_
                | refine VwL.cons ?_ ?_
                | refine VwL.nil
                | refine LeavesF.of ?_
                | refine VwF.bool ?_
                | refine VwF.int ?_
                | refine VwF.nil
                | refine VwF.sl
                | refine VwF.tup ?_
                | refine VwF.agg ?_
                | refine VwLF.cons ?_ ?_
                | refine VwLF.nil
                | (refine Req.mk ?_ ?_; (focus first | rfl | decide | exact ⟨rfl, rfl⟩ | exact ⟨rfl, by decide⟩ | exact (fun _ => rfl) | exact (fun h => nomatch h) | (simp; done) | omega | (simp [big]; done) | exact le_big (by omega) | exact lt_big (by omega))))
            all_goals first | exact NextP.mk ⟨i + 1 + 1, blN l.length now a b, kept ++ blK now a b, nk + (b + 1 - a)⟩ ⟨(by rw [hSl]; exact hin), hnl2, hin2, hd, (by simp [hkl, hkl0]), (by dsimp only; omega), (by intro h; simp at h), (by intro _; dsimp only; omega)⟩ (by simp only; omega) (by rw [brU_one, brH_one, hyl]; rfl) | (exfalso; omega)
  · have hil : sp.length = i := by omega
    rw [List.drop_of_length_le (by omega)] at hd
    rw [hd]
    have hlv : ([] : List V).length + (ofI l).length = now.length := by rw [hlb, hnl]; simp
    have hlw : 0 + l.length = now.length := by rw [hnl]; simp
    cases i with
    | zero =>
      obtain rfl := hk0 rfl
      rw [hil]
      show fV _ fun tm' => fB [.blk (ofI now) true] _
      repeat' (first
        | (conv => whnf)
          first
          | refine Br.t ?_
          | refine Br.f ?_
          | (refine Br.decT ?_ ?_; (focus first | assumption | omega))
          | (refine Br.decF ?_ ?_; (focus first | assumption | omega))
          | refine Br.dec (fun _ => ?_) (fun _ => ?_)
          | refine Br.not ?_
          | refine Br.and ?_
          | refine Br.or ?_
          | (refine Bnd.i64 ?_ ?_ ?_; (focus omega); (focus omega))
          | refine Vw.ints rfl rfl hlv hlw rfl
          | (refine Idx.nat ?_ ?_; (focus omega))
          | refine Idx.nat (le_big (by omega)) ?_
          | (refine Idx.int ?_ ?_ ?_; (focus omega); (focus omega))
          | (refine Idx.int ?_ ?_ ?_; (focus decide); (focus decide))
          | refine Ifz.zero ?_
          | (refine Ifz.pos ?_ ?_; (focus omega))
          | refine Get.mk _ rfl ?_
          | refine Leaves.of ?_
          | refine Ends.of ?_
          | refine Vw.bool ?_
          | refine Vw.int ?_
          | refine Vw.nil
          | refine Vw.sl
          | refine Vw.tup ?_
          | refine Vw.agg ?_
          | refine VwL.cons ?_ ?_
          | refine VwL.nil
          | refine LeavesF.of ?_
          | refine VwF.bool ?_
          | refine VwF.int ?_
          | refine VwF.nil
          | refine VwF.sl
          | refine VwF.tup ?_
          | refine VwF.agg ?_
          | refine VwLF.cons ?_ ?_
          | refine VwLF.nil
          | (refine Req.mk ?_ ?_; (focus first | rfl | decide | exact ⟨rfl, rfl⟩ | exact ⟨rfl, by decide⟩ | exact (fun _ => rfl) | exact (fun h => nomatch h) | (simp; done) | omega | (simp [big]; done) | exact le_big (by omega) | exact lt_big (by omega))))
      all_goals first | rfl | (exfalso; omega)
    | succ i =>
      rw [decide_eq_false (show ¬ sp.length = 0 by omega), brU_one, brH_one]
      repeat' (first
        | (conv => whnf)
          first
          | refine Br.t ?_
          | refine Br.f ?_
          | (refine Br.decT ?_ ?_; (focus first | assumption | omega))
          | (refine Br.decF ?_ ?_; (focus first | assumption | omega))
          | refine Br.dec (fun _ => ?_) (fun _ => ?_)
          | refine Br.not ?_
          | refine Br.and ?_
          | refine Br.or ?_
          | (refine Bnd.i64 ?_ ?_ ?_; (focus omega); (focus omega))
          | refine Vw.ints rfl rfl hlv hlw rfl
          | refine Vw.ints rfl rfl hkl0.symm hkl0.symm rfl
          | (refine Idx.nat ?_ ?_; (focus omega))
          | refine Idx.nat (le_big (by omega)) ?_
          | (refine Idx.int ?_ ?_ ?_; (focus omega); (focus omega))
          | (refine Idx.int ?_ ?_ ?_; (focus decide); (focus decide))
          | refine Ifz.zero ?_
          | (refine Ifz.pos ?_ ?_; (focus omega))
          | refine Get.mk _ rfl ?_
          | refine Leaves.of ?_
          | refine Ends.of ?_
          | refine Vw.bool ?_
          | refine Vw.int ?_
          | refine Vw.nil
          | refine Vw.sl
          | refine Vw.tup ?_
          | refine Vw.agg ?_
          | refine VwL.cons ?_ ?_
          | refine VwL.nil
          | refine LeavesF.of ?_
          | refine VwF.bool ?_
          | refine VwF.int ?_
          | refine VwF.nil
          | refine VwF.sl
          | refine VwF.tup ?_
          | refine VwF.agg ?_
          | refine VwLF.cons ?_ ?_
          | refine VwLF.nil
          | (refine Req.mk ?_ ?_; (focus first | rfl | decide | exact ⟨rfl, rfl⟩ | exact ⟨rfl, by decide⟩ | exact (fun _ => rfl) | exact (fun h => nomatch h) | (simp; done) | omega | (simp [big]; done) | exact le_big (by omega) | exact lt_big (by omega))))
      all_goals first | rfl | (exfalso; omega)

end Go.Dr.T
