/- Chapter 06: the law AlignSurely. -/
import Derived.Test.YtfhphjloaelgoaaGreatDoorR06V5
import Derived.Test.YtfhphjloaelgoaaGreatDoorR06S2
import Derived.Test.YtfhphjloaelgoaaGreatDoorR06Ax
import Derived.Test.YtfhphjloaelgoaaGreatDoorR06Wr
namespace Go.Dr.T
theorem lsP_eq (l : List (Int × Int)) : ∃ c, lsP l = .sl c l.length (shC l) := by
  unfold lsP
  split
  · rename_i h; subst h; exact ⟨true, rfl⟩
  · exact ⟨false, rfl⟩
set_option maxRecDepth 100000 in
set_option maxHeartbeats 20000000 in
theorem pairs_ok {c d : Bool} {l : List (Int × Int)} (hl : l.length ≤ 1000000) : Fun FB md 29 [.sl c l.length (shC l), .sl d l.length (shC l)] (.bool true) := by
  refine fun_of rfl rfl ?_
  repeat' (first
 | (conv => whnf)
   first
   | (refine Br.decT ?_ ?_; (focus first | assumption | omega))
   | refine Br.not ?_)
  all_goals try (exfalso; omega; done)
  refine LoopP.by (fun i : Nat => i ≤ l.length) (fun i => [(5, .int .i64 (i : Nat))]) (fun _ => []) (fun i => l.length - i) 0 (Nat.zero_le _) rfl ?_
  rintro i hi'
  dsimp only
  by_cases hi : i < l.length
  rotate_left
  · repeat' (first
 | (conv => whnf)
   first
   | (refine Br.decF ?_ ?_; (focus first | assumption | omega))
   | refine Get.mk _ rfl ?_
   | refine Leaves.of ?_
   | refine Vw.bool ?_)
    all_goals first | rfl | (exfalso; omega)
  obtain ⟨p, hp⟩ : ∃ p, l[i]? = some p := ⟨_, List.getElem?_eq_getElem hi⟩
  have hpp := shC_part hp
  repeat' (first
 | (conv => whnf)
   first
   | refine Br.t ?_
   | (refine Br.decT ?_ ?_; (focus first | assumption | omega))
   | refine Br.not ?_
   | refine Br.and ?_
   | (refine Bnd.i64 ?_ ?_ ?_; (focus omega); (focus omega))
   | refine Get.mk _ hpp ?_
   | (refine Idx.nat ?_ ?_; (focus omega))
   | refine Get.mk _ rfl ?_
   | (refine Req.mk ?_ ?_; (focus first | rfl | decide | exact ⟨rfl, rfl⟩ | exact ⟨rfl, by decide⟩ | exact (fun _ => rfl) | exact (fun h => nomatch h) | (simp; done) | omega | (simp [big]; done) | exact le_big (by omega) | exact lt_big (by omega))))
  all_goals first | (exfalso; omega; done) | exact NextP.mk (i + 1) hi (by omega) rfl
theorem suRow_len {W V Sh Wb : Nat → Nat → Int} {m i : Nat} : ∀ (l : Nat) (p : List (Int × Int) × List (Int × Int)), (suRow W V Sh Wb m i l p).1.length ≤ p.1.length + l ∧ (suRow W V Sh Wb m i l p).2.length ≤ p.2.length + l
  | 0, p => ⟨Nat.le_refl _, Nat.le_refl _⟩
  | l + 1, p => by
    have h1 := suRow_len (W := W) (V := V) (Sh := Sh) (Wb := Wb) (m := m) (i := i) l (suStep W V Sh Wb i (m - (l + 1)) p)
    have h2 := suStep_len (W := W) (V := V) (Sh := Sh) (Wb := Wb) (i := i) (j := m - (l + 1)) (p := p)
    unfold suRow
    omega
theorem suAll_len {W V Sh Wb : Nat → Nat → Int} {n m : Nat} (hm : m ≤ 40) : ∀ (k : Nat) (p : List (Int × Int) × List (Int × Int)), (suAll W V Sh Wb n m k p).1.length ≤ p.1.length + 40 * k ∧ (suAll W V Sh Wb n m k p).2.length ≤ p.2.length + 40 * k
  | 0, p => ⟨Nat.le_refl _, Nat.le_refl _⟩
  | k + 1, p => by
    have h1 := suAll_len (W := W) (V := V) (Sh := Sh) (Wb := Wb) (n := n) hm k (suRow W V Sh Wb m (n - (k + 1)) m p)
    have h2 := suRow_len (W := W) (V := V) (Sh := Sh) (Wb := Wb) (m := m) (i := n - (k + 1)) m p
    unfold suAll
    omega
theorem rSurely_len {x y : El} {s : Int} (ha : shOk x.l) (hb : shOk y.l) : (rSurely x y s).1.length ≤ 1600 ∧ (rSurely x y s).2.length ≤ 1600 := by
  have h := suAll_len (W := openT x y s) (V := vT (shA x.l y.l s)) (Sh := shA x.l y.l s) (Wb := wbT x.l y.l s) (n := x.l.length) hb.1 x.l.length ([], [])
  have := ha.1
  unfold rSurely
  simp only [List.length_nil] at h
  omega
theorem surelyV_eq {x y : El} {s : Int} : surelyV x y s = rSurelyV x y s := by
  unfold surelyV rSurelyV
  by_cases he : openE x y s = 0
  · rw [if_neg (fun h => h he), if_neg (fun h => h he)]
    obtain ⟨ha, hb, _⟩ := open_good he
    rw [← surely_same ha hb]
  · rw [if_pos he, if_pos he]
set_option maxRecDepth 100000 in
theorem law_surely {x y : El} {s : Int} : Fun FB2 md 14 [elA x, elA y, .int .i64 s] (.bool true) := by
  have h1 := ((surely_ok (x := x) (y := y) (s := s)).tab sub1).tab sub2
  have h2 := ((refSurely_ok (x := x) (y := y) (s := s)).tab sub1).tab sub2
  have h3 := awake
  rw [surelyV_eq] at h1
  unfold rSurelyV at h1 h2
  by_cases he : openE x y s = 0
  · rw [if_neg (fun h => h he)] at h1 h2
    obtain ⟨ha, hb, _⟩ := open_good he
    obtain ⟨l1, l2⟩ := rSurely_len (s := s) ha hb
    generalize rSurely x y s = p at *
    obtain ⟨M, S⟩ := p
    dsimp only at *
    obtain ⟨c, hc⟩ := lsP_eq M
    obtain ⟨d, hd⟩ := lsP_eq S
    rw [hc, hd] at h1 h2
    have p1 := ((pairs_ok (c := c) (d := c) (l := M) (by omega)).tab sub1).tab sub2
    have p2 := ((pairs_ok (c := d) (d := d) (l := S) (by omega)).tab sub1).tab sub2
    refine fun_of rfl rfl ?_
    repeat' (first
 | (conv => whnf)
   first
   | refine Br.t ?_
   | refine call_fun rfl rfl h1 (.inl rfl) ?_
   | refine call_fun rfl rfl h2 (.inl rfl) ?_
   | refine call_fun rfl rfl p1 (.inl rfl) ?_
   | refine call_fun rfl rfl p2 (.inl rfl) ?_
   | refine call_fun rfl rfl h3 (.inl rfl) ?_
   | refine Get.mk _ rfl ?_
   | refine Leaves.of ?_
   | refine Vw.bool ?_
   | (refine Req.mk ?_ ?_; (focus first | rfl | decide | exact ⟨rfl, rfl⟩ | exact ⟨rfl, by decide⟩ | exact (fun _ => rfl) | exact (fun h => nomatch h) | (simp; done) | omega | (simp [big]; done) | exact le_big (by omega) | exact lt_big (by omega))))
    all_goals first | rfl | simp
  · rw [if_pos he] at h1 h2
    have p1 := ((pairs_ok (c := true) (d := true) (l := []) (by decide)).tab sub1).tab sub2
    generalize openE x y s = e at *
    refine fun_of rfl rfl ?_
    repeat' (first
 | (conv => whnf)
   first
   | refine Br.t ?_
   | (refine Br.decT ?_ ?_; (focus first | assumption | omega))
   | refine call_fun rfl rfl h1 (.inl rfl) ?_
   | refine call_fun rfl rfl h2 (.inl rfl) ?_
   | refine call_fun rfl rfl p1 (.inl rfl) ?_
   | refine call_fun rfl rfl h3 (.inl rfl) ?_
   | refine Get.mk _ rfl ?_
   | refine Leaves.of ?_
   | refine Vw.bool ?_
   | (refine Req.mk ?_ ?_; (focus first | rfl | decide | exact ⟨rfl, rfl⟩ | exact ⟨rfl, by decide⟩ | exact (fun _ => rfl) | exact (fun h => nomatch h) | (simp; done) | omega | (simp [big]; done) | exact le_big (by omega) | exact lt_big (by omega))))
    all_goals first | rfl | simp
end Go.Dr.T
