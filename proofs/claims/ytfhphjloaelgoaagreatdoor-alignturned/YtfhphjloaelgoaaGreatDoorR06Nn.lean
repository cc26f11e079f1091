/- Chapter 06: the name of an element, as the document sees it. -/
import Derived.Test.YtfhphjloaelgoaaGreatDoorR06Nm
namespace Go.Dr.T
theorem alnum_eq (b : UInt8) : alnum.contains b = (isLet b || (decide ((b.toNat : Int) ≥ 48) && decide ((b.toNat : Int) ≤ 57))) := by
  have h : ∀ n, n < 256 → alnum.contains (UInt8.ofNat n) = (isLet (UInt8.ofNat n) || (decide (((UInt8.ofNat n).toNat : Int) ≥ 48) && decide (((UInt8.ofNat n).toNat : Int) ≤ 57))) := by decide +kernel
  have := h b.toNat b.toNat_lt
  rwa [UInt8.ofNat_toNat] at this
theorem dash_eq {b : UInt8} : b = 45 ↔ (b.toNat : Int) = 45 := by
  constructor
  · rintro rfl; rfl
  · intro h
    have : b.toNat = (45 : UInt8).toNat := by show b.toNat = 45; omega
    exact UInt8.toNat_inj.1 this
def pdA (s : List UInt8) (i : Nat) : Bool := decide (s[i - 1]? = some 45)
set_option maxRecDepth 100000 in
set_option maxHeartbeats 20000000 in
theorem refName_ok {s : List UInt8} : Fun FB md 51 [.str s] (.bool (nmOk s)) := by
  have h1 := inB_ok (n := (s.length : Int)) (lo := 1) (hi := 24)
  cases s with
  | nil =>
    refine fun_of rfl rfl ?_
    repeat' (first
 | (conv => whnf)
   first
   | refine Br.t ?_
   | refine call_fun rfl rfl h1 (.inl rfl) ?_
   | refine Get.mk _ rfl ?_
   | refine Leaves.of ?_
   | refine Vw.bool ?_)
    all_goals rfl
  | cons b l =>
    by_cases hl : (b :: l).length ≤ 24
    · rw [show (decide (((b :: l).length : Int) ≥ 1) && decide (((b :: l).length : Int) ≤ 24)) = true by simp; simp at hl; omega] at h1
      have h2 := let_ok (b := b)
      have hg : (b :: l)[0]? = some b := rfl
      have h0 : 1 ≤ (b :: l).length := by simp
      have e : nmOk (b :: l) = (isLet b && chk true (b :: l)) := by simp only [nmOk, decide_eq_true hl, Bool.true_and]
      rw [e]
      have hd0 : (b :: l).drop 0 = b :: l := rfl
      generalize (b :: l) = S at *
      cases hlet : isLet b <;> rw [hlet] at h2
      · refine fun_of rfl rfl ?_
        repeat' (first
 | (conv => whnf)
   first
   | refine Br.t ?_
   | refine Br.f ?_
   | refine call_fun rfl rfl h1 (.inl rfl) ?_
   | refine call_fun rfl rfl h2 (.inl rfl) ?_
   | refine Get.mk _ hg ?_
   | (refine Idx.int ?_ ?_ ?_; (focus omega); (focus omega))
   | refine Get.mk _ rfl ?_
   | refine Leaves.of ?_
   | refine Vw.bool ?_)
        all_goals rfl
      · rw [Bool.true_and]
        refine fun_of rfl rfl ?_
        repeat' (first
 | (conv => whnf)
   first
   | refine Br.f ?_
   | refine call_fun rfl rfl h1 (.inl rfl) ?_
   | refine call_fun rfl rfl h2 (.inl rfl) ?_
   | refine Get.mk _ hg ?_
   | (refine Idx.int ?_ ?_ ?_; (focus omega); (focus omega)))
        refine LoopP.by (fun i : Nat => i ≤ S.length ∧ (1 ≤ i → chk true S = chk (pdA S i) (S.drop i)) ∧ (i = S.length → pdA S i = false)) (fun i => [(3, .int .i64 (i : Nat))]) (fun _ => []) (fun i => S.length - i) 0 ⟨Nat.zero_le _, fun h => absurd h (by omega), fun h => absurd h (by omega)⟩ rfl ?_
        rintro i ⟨q1, q2, q3⟩
        dsimp only
        by_cases hi : i < S.length
        · obtain ⟨x, hx⟩ : ∃ x, S[i]? = some x := ⟨_, List.getElem?_eq_getElem hi⟩
          have hdr : S.drop i = x :: S.drop (i + 1) := by
            rw [List.drop_eq_getElem_cons hi]
            rw [List.getElem?_eq_getElem hi] at hx
            cases hx; rfl
          have hpd : pdA S (i + 1) = decide (x = 45) := by simp [pdA, hx]
          have h3 := let_ok (b := x)
          have hal := alnum_eq x
          have step : alnum.contains x = true → (i + 1 ≤ S.length ∧ (1 ≤ i + 1 → chk true S = chk (pdA S (i + 1)) (S.drop (i + 1))) ∧ (i + 1 = S.length → pdA S (i + 1) = false)) := by
            intro ha
            have hx45 : x ≠ 45 := by rintro rfl; revert ha; decide
            have hp : pdA S (i + 1) = false := by rw [hpd]; simpa using hx45
            refine ⟨hi, fun _ => ?_, fun _ => hp⟩
            rw [hp]
            by_cases h1 : 1 ≤ i
            · rw [q2 h1, hdr, chk, if_neg hx45, ha, Bool.true_and]
            · obtain rfl : i = 0 := by omega
              rw [List.drop_zero] at hdr
              rw [hdr, chk, if_neg hx45, ha, Bool.true_and, List.drop_succ_cons, List.drop_zero]
          cases hlx : isLet x <;> rw [hlx] at h3 hal
          · by_cases hdig : (x.toNat : Int) ≥ 48 ∧ (x.toNat : Int) ≤ 57
            · obtain ⟨d1, d2⟩ := hdig
              have hs := step (by rw [hal]; simp [d1, d2])
              repeat' (first
 | (conv => whnf)
   first
   | refine Br.f ?_
   | (refine Br.decT ?_ ?_; (focus first | assumption | omega))
   | (refine Bnd.i64 ?_ ?_ ?_; (focus omega); (focus omega))
   | refine call_fun rfl rfl h3 (.inl rfl) ?_
   | refine Get.mk _ hx ?_
   | (refine Idx.nat ?_ ?_; (focus omega)))
              refine NextP.mk (i + 1) hs (by omega) rfl
            · have hna : alnum.contains x = false := by
                rw [hal, Bool.false_or, Bool.and_eq_false_iff]
                by_cases h : (x.toNat : Int) ≥ 48
                · exact .inr (decide_eq_false fun h' => hdig ⟨h, h'⟩)
                · exact .inl (decide_eq_false h)
              have hi1 : 1 ≤ i := by
                refine Classical.byContradiction fun h => ?_
                obtain rfl : i = 0 := by omega
                rw [hg] at hx; cases hx
                rw [hlet] at hlx; cases hlx
              have hq := q2 hi1
              rw [hdr, chk] at hq
              by_cases hx45 : x = 45
              · rw [if_pos hx45] at hq
                have hn := dash_eq.1 hx45
                obtain ⟨y, hy⟩ : ∃ y, S[((i : Int) - 1).toNat]? = some y := ⟨_, List.getElem?_eq_getElem (by omega)⟩
                have hpi : pdA S i = decide (y = 45) := by
                  have : ((i : Int) - 1).toNat = i - 1 := by omega
                  rw [this] at hy
                  simp [pdA, hy]
                by_cases hy45 : y = 45
                · have hny := dash_eq.1 hy45
                  have hres : chk true S = false := by rw [hq, hpi, decide_eq_true hy45]; rfl
                  repeat' (first
 | (conv => whnf)
   first
   | refine Br.t ?_
   | refine Br.f ?_
   | (refine Br.decT ?_ ?_; (focus first | assumption | omega))
   | (refine Br.decF ?_ ?_; (focus first | assumption | omega))
   | refine Br.not ?_
   | (refine Bnd.i64 ?_ ?_ ?_; (focus omega); (focus omega))
   | refine call_fun rfl rfl h3 (.inl rfl) ?_
   | refine Get.mk _ hx ?_
   | refine Get.mk _ hy ?_
   | (refine Idx.nat ?_ ?_; (focus omega))
   | (refine Idx.int ?_ ?_ ?_; (focus omega); (focus omega))
   | refine Get.mk _ rfl ?_
   | refine Leaves.of ?_
   | refine Vw.bool ?_)
                  all_goals first | exact hres.symm | (exfalso; omega)
                · have hny : (y.toNat : Int) ≠ 45 := fun h => hy45 (dash_eq.2 h)
                  rw [hpi, decide_eq_false hy45, Bool.not_false, Bool.true_and] at hq
                  by_cases hlast : i = S.length - 1
                  · have hres : chk true S = false := by
                      rw [hq, List.drop_of_length_le (by omega)]; rfl
                    repeat' (first
 | (conv => whnf)
   first
   | refine Br.f ?_
   | (refine Br.decT ?_ ?_; (focus first | assumption | omega))
   | (refine Br.decF ?_ ?_; (focus first | assumption | omega))
   | refine Br.not ?_
   | (refine Bnd.i64 ?_ ?_ ?_; (focus omega); (focus omega))
   | refine call_fun rfl rfl h3 (.inl rfl) ?_
   | refine Get.mk _ hx ?_
   | refine Get.mk _ hy ?_
   | (refine Idx.nat ?_ ?_; (focus omega))
   | (refine Idx.int ?_ ?_ ?_; (focus omega); (focus omega))
   | refine Get.mk _ rfl ?_
   | refine Leaves.of ?_
   | refine Vw.bool ?_)
                    all_goals first | exact hres.symm | (exfalso; omega)
                  · have hs : i + 1 ≤ S.length ∧ (1 ≤ i + 1 → chk true S = chk (pdA S (i + 1)) (S.drop (i + 1))) ∧ (i + 1 = S.length → pdA S (i + 1) = false) := by
                      refine ⟨hi, fun _ => ?_, fun h => absurd h (by omega)⟩
                      rw [hq, hpd, decide_eq_true hx45]
                    repeat' (first
 | (conv => whnf)
   first
   | refine Br.f ?_
   | (refine Br.decT ?_ ?_; (focus first | assumption | omega))
   | (refine Br.decF ?_ ?_; (focus first | assumption | omega))
   | refine Br.not ?_
   | (refine Bnd.i64 ?_ ?_ ?_; (focus omega); (focus omega))
   | refine call_fun rfl rfl h3 (.inl rfl) ?_
   | refine Get.mk _ hx ?_
   | refine Get.mk _ hy ?_
   | (refine Idx.nat ?_ ?_; (focus omega))
   | (refine Idx.int ?_ ?_ ?_; (focus omega); (focus omega)))
                    all_goals first | exact NextP.mk (i + 1) hs (by omega) rfl | (exfalso; omega)
              · rw [if_neg hx45, hna, Bool.false_and] at hq
                have hn : (x.toNat : Int) ≠ 45 := fun h => hx45 (dash_eq.2 h)
                repeat' (first
 | (conv => whnf)
   first
   | refine Br.t ?_
   | refine Br.f ?_
   | (refine Br.decT ?_ ?_; (focus first | assumption | omega))
   | (refine Br.decF ?_ ?_; (focus first | assumption | omega))
   | refine Br.dec (fun _ => ?_) (fun _ => ?_)
   | refine Br.not ?_
   | refine call_fun rfl rfl h3 (.inl rfl) ?_
   | refine Get.mk _ hx ?_
   | (refine Idx.nat ?_ ?_; (focus omega))
   | refine Get.mk _ rfl ?_
   | refine Leaves.of ?_
   | refine Vw.bool ?_)
                all_goals first | exact hq.symm | (exfalso; omega)
          · have hs := step (by rw [hal]; rfl)
            repeat' (first
 | (conv => whnf)
   first
   | refine Br.t ?_
   | (refine Br.decT ?_ ?_; (focus first | assumption | omega))
   | (refine Bnd.i64 ?_ ?_ ?_; (focus omega); (focus omega))
   | refine call_fun rfl rfl h3 (.inl rfl) ?_
   | refine Get.mk _ hx ?_
   | (refine Idx.nat ?_ ?_; (focus omega)))
            refine NextP.mk (i + 1) hs (by omega) rfl
        · have hei : i = S.length := by omega
          have hres : chk true S = true := by
            rw [q2 (by omega), q3 hei, hei, List.drop_length]; rfl
          repeat' (first
 | (conv => whnf)
   first
   | (refine Br.decF ?_ ?_; (focus first | assumption | omega))
   | refine Get.mk _ rfl ?_
   | refine Leaves.of ?_
   | refine Vw.bool ?_)
          exact hres.symm
    · rw [show (decide (((b :: l).length : Int) ≥ 1) && decide (((b :: l).length : Int) ≤ 24)) = false by simp; simp at hl; omega] at h1
      have e : nmOk (b :: l) = false := by simp only [nmOk, decide_eq_false hl, Bool.false_and]
      rw [e]
      refine fun_of rfl rfl ?_
      repeat' (first
 | (conv => whnf)
   first
   | refine Br.t ?_
   | refine call_fun rfl rfl h1 (.inl rfl) ?_
   | refine Get.mk _ rfl ?_
   | refine Leaves.of ?_
   | refine Vw.bool ?_)
      all_goals rfl
end Go.Dr.T
