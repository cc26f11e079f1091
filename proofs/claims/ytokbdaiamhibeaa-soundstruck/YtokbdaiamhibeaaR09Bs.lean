/- Chapter 09: the law SoundBest. -/
import Derived.Test.YtokbdaiamhibeaaR09Ft
namespace Go.Dr.T

/-! plain laws -/
section
variable {t : Tsk} {sp : Int}
/-- the ends are those at some frames. -/
theorem exL_at : ∀ {N : Nat}, 1 ≤ N → ∃ f g : Nat, f < N ∧ g < N ∧ (exL t sp N).h = (f : Int) ∧ (exL t sp N).l = (g : Int) ∧ (exL t sp N).m = (whS t f).2 - qF sp f ∧ (exL t sp N).s = (whS t g).1 - qF sp g
  | 0, h => by omega
  | N + 1, _ => by
    by_cases hN : N = 0
    · subst hN
      exact ⟨0, 0, by omega, by omega, by simp [exL], by simp [exL], by simp [exL], by simp [exL]⟩
    · obtain ⟨f, g, h1, h2, h3, h4, h5, h6⟩ := exL_at (N := N) (by omega)
      simp only [exL]
      by_cases c1 : N = 0 ∨ (exL t sp N).m < (whS t N).2 - qF sp N
      · by_cases c2 : N = 0 ∨ (whS t N).1 - qF sp N < (exL t sp N).s
        · simp only [if_pos c1, if_pos c2]
          exact ⟨N, N, by omega, by omega, rfl, rfl, rfl, rfl⟩
        · simp only [if_pos c1, if_neg c2]
          exact ⟨N, g, by omega, by omega, rfl, h4, rfl, h6⟩
      · by_cases c2 : N = 0 ∨ (whS t N).1 - qF sp N < (exL t sp N).s
        · simp only [if_neg c1, if_pos c2]
          exact ⟨f, N, by omega, by omega, h3, rfl, h5, rfl⟩
        · simp only [if_neg c1, if_neg c2]
          exact ⟨f, g, by omega, by omega, h3, h4, h5, h6⟩
theorem exL_in : ∀ {N f : Nat}, f < N → (whS t f).2 - qF sp f ≤ (exL t sp N).m ∧ (exL t sp N).s ≤ (whS t f).1 - qF sp f
  | 0, f, h => by omega
  | N + 1, f, h => by
    simp only [exL]
    by_cases e : f = N
    · subst e
      split <;> split <;> omega
    · have ih := exL_in (N := N) (f := f) (by omega)
      split <;> split <;> omega
theorem offL_at (ht : OkT t) (h0 : 0 < t.ms.length) {b : Int} : ∀ {N : Nat}, 1 ≤ N → (∃ f : Nat, f < N ∧ (offL t sp b N).2 = (f : Int) ∧ (offL t sp b N).1 = max ((whS t f).2 - (b + qF sp f)) (b + qF sp f - (whS t f).1)) ∧
    ∀ f, f < N → max ((whS t f).2 - (b + qF sp f)) (b + qF sp f - (whS t f).1) ≤ (offL t sp b N).1
  | 0, h => by omega
  | N + 1, _ => by
    have hle := whS_le ht h0 (N : Int)
    have hz : N = 0 → (offL t sp b N).1 = -1 := by rintro rfl; rfl
    simp only [offL]
    by_cases c : (offL t sp b N).1 < max ((whS t N).2 - (b + qF sp N)) (b + qF sp N - (whS t N).1)
    · rw [if_pos c]
      refine ⟨⟨N, by omega, rfl, rfl⟩, fun f hf => ?_⟩
      by_cases e : f = N
      · subst e; exact Int.le_refl _
      · have := (offL_at ht h0 (b := b) (N := N) (by omega)).2 f (by omega)
        dsimp only; omega
    · rw [if_neg c]
      by_cases hN : N = 0
      · have := hz hN; omega
      · obtain ⟨⟨f, q1, q2, q3⟩, q4⟩ := offL_at ht h0 (b := b) (N := N) (by omega)
        refine ⟨⟨f, by omega, q2, q3⟩, fun g hg => ?_⟩
        by_cases e : g = N
        · subst e; omega
        · exact q4 g (by omega)
/-- off, by the ends. -/
theorem offL_ends (ht : OkT t) (h0 : 0 < t.ms.length) {b : Int} {N : Nat} (hN : 1 ≤ N) : (offL t sp b N).1 = max ((exL t sp N).m - b) (b - (exL t sp N).s) := by
  obtain ⟨⟨f, q1, q2, q3⟩, q4⟩ := offL_at (sp := sp) ht h0 (b := b) hN
  obtain ⟨u, v, u1, v1, u2, v2, u3, v3⟩ := exL_at (t := t) (sp := sp) hN
  have a1 := q4 u u1
  have a2 := q4 v v1
  have a3 := exL_in (t := t) (sp := sp) q1
  have a4 := whS_le ht h0 (f : Int)
  have a5 := whS_le ht h0 (u : Int)
  have a6 := whS_le ht h0 (v : Int)
  omega
end
theorem fitL_get (t : Tsk) (N : Nat) : ∀ {i k : Nat} (h : k < i), (fitL t N i).2[k]'(by rw [fitL_len]; exact h) = (gI t.sp k, (exL t (gI t.sp k) N).h, (exL t (gI t.sp k) N).l, exO (exL t (gI t.sp k) N))
  | 0, k, h => by omega
  | i + 1, k, h => by
    simp only [fitL]
    by_cases e : k < i
    · rw [List.getElem_append_left (by rw [fitL_len]; exact e)]
      exact fitL_get t N e
    · obtain rfl : k = i := by omega
      rw [List.getElem_append_right (by rw [fitL_len]; omega)]
      simp [fitL_len]
/-- the best one is that of some speed, and none is better. -/
theorem fitL_best (t : Tsk) (N : Nat) : ∀ {i : Nat}, 1 ≤ i → (∃ j, j < i ∧ (fitL t N i).1 = (gI t.sp j, ((exL t (gI t.sp j) N).m + (exL t (gI t.sp j) N).s) / 2, exO (exL t (gI t.sp j) N))) ∧ ∀ k, k < i → (fitL t N i).1.2.2 ≤ exO (exL t (gI t.sp k) N)
  | 0, h => by omega
  | i + 1, _ => by
    simp only [fitL]
    by_cases c : i = 0 ∨ exO (exL t (gI t.sp i) N) < (fitL t N i).1.2.2
    · rw [if_pos c]
      refine ⟨⟨i, by omega, rfl⟩, fun k hk => ?_⟩
      by_cases e : k = i
      · subst e; exact Int.le_refl _
      · have := (fitL_best t N (i := i) (by omega)).2 k (by omega)
        dsimp only; omega
    · rw [if_neg c]
      obtain ⟨⟨j, q1, q2⟩, q3⟩ := fitL_best t N (i := i) (by omega)
      refine ⟨⟨j, by omega, q2⟩, fun k hk => ?_⟩
      by_cases e : k = i
      · subst e; omega
      · exact q3 k (by omega)
/-- at most 400 frames: what is possible is not far off. -/
theorem whS_near {t : Tsk} (ht : OkT t) (h0 : 0 < t.ms.length) (h4 : t.fr ≤ 400) {f : Int} (hf : 0 ≤ f ∧ f < 400) : -110000000 ≤ (whS t f).1 ∧ (whS t f).1 ≤ 210000000 ∧ -110000000 ≤ (whS t f).2 ∧ (whS t f).2 ≤ 210000000 := by
  obtain ⟨⟨k, hk, e1⟩, ⟨k', hk', e2⟩⟩ := atS_ends (g := atG t f) (tkS_pos t h0)
  have hlo := ht.lo; have hhi := ht.hi
  have key : ∀ n r : Int, (-400 ≤ n ∧ n ≤ 400) → (0 ≤ r ∧ r ≤ 4000) → -1600000 ≤ n * r ∧ n * r ≤ 1600000 := by
    intro n r hn hr
    have a1 := Int.mul_le_mul_of_nonneg_right hn.1 hr.1
    have a2 := Int.mul_le_mul_of_nonneg_right hn.2 hr.1
    omega
  have near := fun j (hj : j ∈ tkK t) => (by
    have hat := ht.at (tkS_lt t _ j hj)
    have k1 := key (f - (mAt t.ms j).1) t.lo (by omega) (by omega)
    have k2 := key (f - (mAt t.ms j).1) t.hi (by omega) (by omega)
    unfold alLo alHi
    omega : -110000000 ≤ alLo t.lo t.hi (mAt t.ms j) f ∧ alLo t.lo t.hi (mAt t.ms j) f ≤ 210000000 ∧ -110000000 ≤ alHi t.lo t.hi (mAt t.ms j) f ∧ alHi t.lo t.hi (mAt t.ms j) f ≤ 210000000)
  have q1 := near k hk
  have q2 := near k' hk'
  unfold whS
  rw [e1, e2]
  unfold atG
  dsimp only
  omega
theorem qF_near {sp : Int} {f : Nat} (hs : 1 ≤ sp ∧ sp ≤ 4000000) (hf : f ≤ 400) : 0 ≤ qF sp f ∧ qF sp f ≤ 1600000 := by
  have h0 : 0 ≤ sp * (f : Int) := Int.mul_nonneg (by omega) (by omega)
  have h1 : sp * (f : Int) ≤ 4000000 * 400 := Int.mul_le_mul hs.2 (by omega) (by omega) (by omega)
  unfold qF
  rw [Int.tdiv_eq_ediv_of_nonneg h0]
  omega

theorem whE_ok {t : Tsk} {f : Int} (hc : chkT t = (0, 0, 0)) (h0 : 0 < t.ms.length) (hf : 0 ≤ f ∧ f < t.fr) : whE t f = ((whS t f).1, (whS t f).2, 0) := by
  unfold whE
  rw [hc, if_neg (by simp), if_neg (by omega), if_neg (by omega)]
theorem exO_near {m s b : Int} (h1 : s ≤ m) (hb : b = (m + s) / 2) : max (m - b) (b - s) = (m - s + 1) / 2 := by omega
set_option maxRecDepth 100000 in
set_option maxHeartbeats 20000000 in
theorem best_good {cm cs : Bool} {t : Tsk} {w : UInt8} {bg : Int} (hc : chkT t = (0, 0, 0)) (ht : OkT t) (h0 : 0 < t.ms.length) (h4 : t.fr ≤ 400) :
    Fun F md 11 [tskV cm cs t, .int .u8 w.toNat, .int .i64 bg] (.bool true) := by
  have hw := w.toNat_lt
  have hck := chkR_any cm cs t
  rw [hc] at hck
  have hfit := fit_ok (cm := cm) (cs := cs) hc ht h0
  have hfr := ht.fr
  have hsps := ht.sps
  obtain ⟨N, hN⟩ : ∃ N : Nat, t.fr = (N : Int) := ⟨t.fr.toNat, by omega⟩
  rw [hN, Int.toNat_natCast] at hfit
  have hN1 : 1 ≤ N := by omega
  obtain ⟨⟨j, hj, hbj⟩, hbk⟩ := fitL_best t N (i := t.sp.length) hsps.1
  have hsj := gI_sp ht hj
  have oj := off_ok (cm := cm) (cs := cs) (sp := gI t.sp j) (b := ((exL t (gI t.sp j) N).m + (exL t (gI t.sp j) N).s) / 2) hc ht h0 hsj (by
    obtain ⟨u, v, u1, v1, _, _, u3, v3⟩ := exL_at (t := t) (sp := gI t.sp j) hN1
    have := whS_near ht h0 h4 (f := (u : Int)) (by omega)
    have := whS_near ht h0 h4 (f := (v : Int)) (by omega)
    have := qF_near (f := u) hsj (by omega)
    have := qF_near (f := v) hsj (by omega)
    omega)
  rw [hN, Int.toNat_natCast, offL_ends ht h0 hN1, exO_near (exL_le ht h0) rfl] at oj
  have hk : w.toNat % t.sp.length < t.sp.length := Nat.mod_lt _ (by omega)
  have hR : (w.toNat : Int).tmod (t.sp.length : Int) = ((w.toNat % t.sp.length : Nat) : Int) := Int.ofNat_tmod _ _
  generalize hkk : w.toNat % t.sp.length = k at *
  have hsk := gI_sp ht hk
  have hck2 := gI_cell (l := t.sp) hk
  have hbo := hbk k hk
  have hpg : part (ofP (fitL t N t.sp.length).2) (k * 4) 4 = some (pfC (gI t.sp k, (exL t (gI t.sp k) N).h, (exL t (gI t.sp k) N).l, exO (exL t (gI t.sp k) N))) := by
    rw [← fitL_get t N hk]; exact flat_part pfC_len (by rw [fitL_len]; exact hk)
  have hLn := fitL_len t N t.sp.length
  dsimp only [fitV] at hfit
  rw [hLn] at hfit
  rw [hbj] at hfit hbo
  obtain ⟨u, v, u1, v1, u2, v2, u3, v3⟩ := exL_at (t := t) (sp := gI t.sp k) hN1
  rw [u2, v2] at hpg
  have hW1 := whereP_any cm cs t (u : Int)
  rw [whE_ok hc h0 (by omega)] at hW1
  have hW2 := whereP_any cm cs t (v : Int)
  rw [whE_ok hc h0 (by omega)] at hW2
  obtain ⟨hMu, hQu, hqu0, hqu1⟩ := qF_facts (f := u) hsk (by omega)
  obtain ⟨hMv, hQv, hqv0, hqv1⟩ := qF_facts (f := v) hsk (by omega)
  have hru := whS_near ht h0 h4 (f := (u : Int)) (by omega)
  have hrv := whS_near ht h0 h4 (f := (v : Int)) (by omega)
  have hexs := exL_le (sp := gI t.sp k) (f := N) ht h0
  have hof := off_any cm cs t (gI t.sp k) bg
  have hpo : exO (exL t (gI t.sp k) N) = ((exL t (gI t.sp k) N).m - (exL t (gI t.sp k) N).s + 1) / 2 := rfl
  rw [hpo] at hpg hbo
  have hends := offL_ends (sp := gI t.sp k) (b := bg) ht h0 hN1
  have hoffat := (offL_at (sp := gI t.sp k) (b := bg) ht h0 hN1).1
  have hwh := fun (f : Nat) (hf : f < N) => (by
    have := whereP_any cm cs t (f : Int)
    rwa [whE_ok hc h0 (by omega)] at this : Fun F md 29 [tskV cm cs t, .int .i64 (f : Int)] (whV ((whS t f).1, (whS t f).2, 0)))
  unfold offE at hof
  rw [hc, if_neg (by simp), hN, Int.toNat_natCast] at hof
  generalize (fitL t N t.sp.length).2 = L at *
  generalize (offL t (gI t.sp j) (((exL t (gI t.sp j) N).m + (exL t (gI t.sp j) N).s) / 2) N).2 = at1 at *
  have hxO : exO (exL t (gI t.sp j) N) = ((exL t (gI t.sp j) N).m - (exL t (gI t.sp j) N).s + 1) / 2 := rfl
  rw [hxO] at hfit hbo
  dsimp only at hbo
  generalize ((exL t (gI t.sp j) N).m - (exL t (gI t.sp j) N).s + 1) / 2 = bo at *
  generalize ((exL t (gI t.sp j) N).m + (exL t (gI t.sp j) N).s) / 2 = bb at *
  generalize gI t.sp j = bs at *
  rw [u3, v3] at hpg hbo hends
  generalize whS t (u : Int) = a at *
  generalize whS t (v : Int) = c at *
  generalize qF (gI t.sp k) u = qu at *
  generalize qF (gI t.sp k) v = qv at *
  rw [u3, v3] at hexs
  clear u2 v2 u3 v3
  obtain ⟨a1, a2⟩ := a
  obtain ⟨c1, c2⟩ := c
  dsimp only at *
  dsimp only [whV, offV, ckV] at hW1 hW2 oj hof hck hwh
  generalize hpov : (a2 - qu - (c1 - qv) + 1) / 2 = po at *
  by_cases hbg : bg < -1000000000 ∨ 1000000000 < bg
  · rw [if_pos (by omega)] at hof
    unfold pfC at hpg
    dsimp only at hpg hof
    generalize gI t.sp k = ps at *
    refine fun_of rfl rfl ?_
    repeat' (first
      | (conv => whnf)
        first
        | refine Bnd.eq hMu ?_
        | refine Bnd.eq hQu ?_
        | refine Bnd.eq hMv ?_
        | refine Bnd.eq hQv ?_
        | refine Bnd.eq hR ?_
        | refine Br.t ?_
        | refine Br.f ?_
        | (refine Br.decT ?_ ?_; (focus first | assumption | omega))
        | (refine Br.decF ?_ ?_; (focus first | assumption | omega))
        | refine Br.dec (fun _ => ?_) (fun _ => ?_)
        | refine Br.not ?_
        | refine Br.and ?_
        | refine Br.or ?_
        | (refine Bnd.i64 ?_ ?_ ?_; (focus omega); (focus omega))
        | refine Req.mk (show (_ : Int) ≠ 0 by omega) ?_
        | refine Get.mk _ hpg ?_
        | refine Get.mk _ hck2 ?_
        | refine call_fun rfl rfl hfit (.inl rfl) ?_
        | refine call_fun rfl rfl hck (.inl rfl) ?_
        | refine call_fun rfl rfl oj (.inl rfl) ?_
        | refine call_fun rfl rfl hW1 (.inl rfl) ?_
        | refine call_fun rfl rfl hW2 (.inl rfl) ?_
        | refine call_fun rfl rfl hof (.inl rfl) ?_
        | refine call_fun rfl rfl awake (.inl rfl) ?_
        | (refine Idx.nat ?_ ?_; (focus omega))
        | refine Idx.nat (le_big (by omega)) ?_
        | (refine Idx.int ?_ ?_ ?_; (focus omega); (focus omega))
        | (refine Idx.int ?_ ?_ ?_; (focus decide); (focus decide))
        | refine Ifz.zero ?_
        | (refine Ifz.pos ?_ ?_; (focus omega))
        | refine Get.mk _ rfl ?_
        | refine Leaves.of ?_
        | refine Ends.of ?_
        | refine Vw.bool ?_
        | refine Vw.int ?_
        | refine Vw.nil
        | refine Vw.sl
        | refine Vw.tup ?_
        | refine Vw.agg ?_
        | refine VwL.cons ?_ ?_
        | refine VwL.nil
        | refine LeavesF.of ?_
        | refine VwF.bool ?_
        | refine VwF.int ?_
        | refine VwF.nil
        | refine VwF.sl
        | refine VwF.tup ?_
        | refine VwF.agg ?_
        | refine VwLF.cons ?_ ?_
        | refine VwLF.nil
        | (refine Req.mk ?_ ?_; (focus first | rfl | decide | exact ⟨rfl, rfl⟩ | exact ⟨rfl, by decide⟩ | exact (fun _ => rfl) | exact (fun h => nomatch h) | (simp; done) | omega | (simp [big]; done) | exact le_big (by omega) | exact lt_big (by omega))))
    all_goals first | rfl | (exfalso; omega)
  · rw [if_neg (by omega), if_neg (by omega)] at hof
    obtain ⟨f, f1, f2, f3⟩ := hoffat
    have hW3 := hwh f f1
    obtain ⟨hMf, hQf, hqf0, hqf1⟩ := qF_facts (f := f) hsk (by omega)
    have hrf := whS_near ht h0 h4 (f := (f : Int)) (by omega)
    have hlef := whS_le ht h0 (f : Int)
    clear hwh
    dsimp only at hof
    rw [f2] at hof
    generalize whS t (f : Int) = d at *
    generalize qF (gI t.sp k) f = qf at *
    generalize (offL t (gI t.sp k) bg N).1 = o at *
    obtain ⟨d1, d2⟩ := d
    dsimp only at *
    unfold pfC at hpg
    dsimp only at hpg hof
    generalize gI t.sp k = ps at *
    refine fun_of rfl rfl ?_
    repeat' (first
      | (conv => whnf)
        first
        | refine Bnd.eq hMu ?_
        | refine Bnd.eq hQu ?_
        | refine Bnd.eq hMv ?_
        | refine Bnd.eq hQv ?_
        | refine Bnd.eq hMf ?_
        | refine Bnd.eq hQf ?_
        | refine Bnd.eq hR ?_
        | refine Br.t ?_
        | refine Br.f ?_
        | (refine Br.decT ?_ ?_; (focus first | assumption | omega))
        | (refine Br.decF ?_ ?_; (focus first | assumption | omega))
        | refine Br.dec (fun _ => ?_) (fun _ => ?_)
        | refine Br.not ?_
        | refine Br.and ?_
        | refine Br.or ?_
        | (refine Bnd.i64 ?_ ?_ ?_; (focus omega); (focus omega))
        | refine Req.mk (show (_ : Int) ≠ 0 by omega) ?_
        | refine Get.mk _ hpg ?_
        | refine Get.mk _ hck2 ?_
        | refine call_fun rfl rfl hfit (.inl rfl) ?_
        | refine call_fun rfl rfl hck (.inl rfl) ?_
        | refine call_fun rfl rfl oj (.inl rfl) ?_
        | refine call_fun rfl rfl hW1 (.inl rfl) ?_
        | refine call_fun rfl rfl hW2 (.inl rfl) ?_
        | refine call_fun rfl rfl hW3 (.inl rfl) ?_
        | refine call_fun rfl rfl hof (.inl rfl) ?_
        | refine Bnd.any ?_
        | refine call_fun rfl rfl awake (.inl rfl) ?_
        | (refine Idx.nat ?_ ?_; (focus omega))
        | refine Idx.nat (le_big (by omega)) ?_
        | (refine Idx.int ?_ ?_ ?_; (focus omega); (focus omega))
        | (refine Idx.int ?_ ?_ ?_; (focus decide); (focus decide))
        | refine Ifz.zero ?_
        | (refine Ifz.pos ?_ ?_; (focus omega))
        | refine Get.mk _ rfl ?_
        | refine Leaves.of ?_
        | refine Ends.of ?_
        | refine Vw.bool ?_
        | refine Vw.int ?_
        | refine Vw.nil
        | refine Vw.sl
        | refine Vw.tup ?_
        | refine Vw.agg ?_
        | refine VwL.cons ?_ ?_
        | refine VwL.nil
        | refine LeavesF.of ?_
        | refine VwF.bool ?_
        | refine VwF.int ?_
        | refine VwF.nil
        | refine VwF.sl
        | refine VwF.tup ?_
        | refine VwF.agg ?_
        | refine VwLF.cons ?_ ?_
        | refine VwLF.nil
        | (refine Req.mk ?_ ?_; (focus first | rfl | decide | exact ⟨rfl, rfl⟩ | exact ⟨rfl, by decide⟩ | exact (fun _ => rfl) | exact (fun h => nomatch h) | (simp; done) | omega | (simp [big]; done) | exact le_big (by omega) | exact lt_big (by omega))))
    all_goals first | rfl | (exfalso; omega)

set_option maxRecDepth 100000 in
set_option maxHeartbeats 20000000 in
theorem law_best (cm cs : Bool) (t : Tsk) (w : UInt8) (bg : Int) : Fun F md 11 [tskV cm cs t, .int .u8 w.toNat, .int .i64 bg] (.bool true) := by
  by_cases hg : (chkT t).2.2 = 0 ∧ 0 < t.ms.length ∧ t.fr ≤ 400
  · obtain ⟨hc, ht⟩ := chk_ok hg.1
    exact best_good hc ht hg.2.1 hg.2.2
  · have hck := chkR_any cm cs t
    obtain ⟨cf, hfit⟩ := fit_any cm cs t
    have hw := w.toNat_lt
    have hcases : (chkT t).2.2 ≠ 0 ∨ ((chkT t).2.2 = 0 ∧ (fitE t).2.2 ≠ 0) ∨ ((chkT t).2.2 = 0 ∧ 400 < t.fr) := by
      by_cases h1 : (chkT t).2.2 = 0
      · by_cases h2 : t.ms.length = 0
        · exact .inr (.inl ⟨h1, by unfold fitE; rw [if_neg (by omega), if_pos h2]; simp⟩)
        · exact .inr (.inr ⟨h1, by omega⟩)
      · exact .inl h1
    have hfe : (chkT t).2.2 ≠ 0 → (fitE t).2.2 ≠ 0 := by
      intro h; unfold fitE; rw [if_pos h]; exact h
    dsimp only [fitV, ckV] at hfit hck
    generalize chkT t = z at *
    generalize fitE t = y at *
    refine fun_of rfl rfl ?_
    repeat' (first
      | (conv => whnf)
        first
        | refine Br.t ?_
        | refine Br.f ?_
        | (refine Br.decT ?_ ?_; (focus first | assumption | omega))
        | (refine Br.decF ?_ ?_; (focus first | assumption | omega))
        | refine Br.dec (fun _ => ?_) (fun _ => ?_)
        | refine Br.not ?_
        | refine Br.and ?_
        | refine Br.or ?_
        | (refine Bnd.i64 ?_ ?_ ?_; (focus omega); (focus omega))
        | refine call_fun rfl rfl hfit (.inl rfl) ?_
        | refine call_fun rfl rfl hck (.inl rfl) ?_
        | refine call_fun rfl rfl awake (.inl rfl) ?_
        | (refine Idx.nat ?_ ?_; (focus omega))
        | refine Idx.nat (le_big (by omega)) ?_
        | (refine Idx.int ?_ ?_ ?_; (focus omega); (focus omega))
        | (refine Idx.int ?_ ?_ ?_; (focus decide); (focus decide))
        | refine Ifz.zero ?_
        | (refine Ifz.pos ?_ ?_; (focus omega))
        | refine Get.mk _ rfl ?_
        | refine Leaves.of ?_
        | refine Ends.of ?_
        | refine Vw.bool ?_
        | refine Vw.int ?_
        | refine Vw.nil
        | refine Vw.sl
        | refine Vw.tup ?_
        | refine Vw.agg ?_
        | refine VwL.cons ?_ ?_
        | refine VwL.nil
        | refine LeavesF.of ?_
        | refine VwF.bool ?_
        | refine VwF.int ?_
        | refine VwF.nil
        | refine VwF.sl
        | refine VwF.tup ?_
        | refine VwF.agg ?_
        | refine VwLF.cons ?_ ?_
        | refine VwLF.nil
        | (refine Req.mk ?_ ?_; (focus first | rfl | decide | exact ⟨rfl, rfl⟩ | exact ⟨rfl, by decide⟩ | exact (fun _ => rfl) | exact (fun h => nomatch h) | (simp; done) | omega | (simp [big]; done) | exact le_big (by omega) | exact lt_big (by omega))))
    all_goals first | rfl | (exfalso; omega)

end Go.Dr.T
