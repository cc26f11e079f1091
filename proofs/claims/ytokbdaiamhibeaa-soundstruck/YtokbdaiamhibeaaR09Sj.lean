/- Chapter 09: the law SoundStruck. -/
import Derived.Test.YtokbdaiamhibeaaR09Sk
namespace Go.Dr.T

set_option maxRecDepth 100000 in
set_option maxHeartbeats 20000000 in
theorem struck_good {cm cs c1 c2 : Bool} {t : Tsk} {first : Int} {sa sb : List UInt8} {y : Mk} {f : Int} (hc : chkT t = (0, 0, 0)) (ht : OkT t) (h4 : t.fr ≤ 400) (hn0 : 0 < t.ms.length) :
    Fun F md 9 [tskV cm cs t, hdV c1 c2 first sa sb, .agg [.int .i64 y.1, .int .i64 y.2.1, .int .i64 y.2.2, .int .i64 f]] (.bool true) := by
  have hck := chkR_any cm cs t
  rw [hc] at hck
  obtain ⟨cz, hStr⟩ := struck_any cm cs t
  have hse : strE t = (tkT t, 0) := by unfold strE; rw [hc, if_neg (by simp)]
  rw [hse] at hStr
  obtain ⟨cx, hS⟩ := samples_ok (cm := cm) (cs := cs) (c1 := c1) (c2 := c2) (first := first) (sa := sa) (sb := sb) ht h4
  have hW1 := whereP_any cm cs t f
  have hW2 := whereP_any false cs (moreT t y) f
  have hmw := more_where (t := t) (y := y) (f := f)
  have hfr := ht.fr; have hlo := ht.lo; have hhi := ht.hi; have hmany := ht.many
  obtain ⟨N, hN⟩ : ∃ N : Nat, t.fr = (N : Int) := ⟨t.fr.toNat, by omega⟩
  rw [hN, Int.toNat_natCast] at hS
  rw [hN] at h4 hfr
  have hstr := tkS_str t t.ms.length
  have hap := tkS_apart t t.ms.length
  have hord := tkS_order t t.ms.length
  have hml := tkT_len t
  change (tkT t).length ≤ _ at hml
  have hxr := fun g => smp_range (lo := t.lo) (hi := t.hi) (first := first) sa (by omega) ht.le (by omega) g
  have hcell : ∀ (d : Int) i, i < N → cellAt (ofI (acc (fun g => syX t first sa g + d) N)) (i * 1) = some (.int .i64 (syX t first sa i + d)) := by
    intro d i hi
    rw [gI_cell (by rw [acc_length]; exact hi), gI_get (by rw [acc_length]; exact hi)]
    simp [acc]
  have hcell0 : ∀ i, i < N → cellAt (ofI (acc (syX t first sa) N)) (i * 1) = some (.int .i64 (syX t first sa i)) := by
    intro i hi
    rw [gI_cell (by rw [acc_length]; exact hi), gI_get (by rw [acc_length]; exact hi)]
    simp [acc]
  dsimp only [whV, ckV] at hW1 hW2 hck hStr
  generalize hst : tkT t = st at *
  change ∀ x ∈ tkT t, _ at hstr
  change ∀ k ∈ tkK t, ∀ x ∈ tkT t, _ at hap
  change ∀ (j : Nat) (hj : j + 1 < (tkT t).length), ((tkT t)[j]).1 < ((tkT t)[j + 1]).1 at hord
  rw [hst] at hstr hap
  simp only [hst] at hord
  generalize hCx : ofI (acc (syX t first sa) N) = C at *
  refine fun_of rfl rfl ?_
  repeat' (first
    | (conv => whnf)
      first
      | refine Br.t ?_
      | refine Br.f ?_
      | (refine Br.decT ?_ ?_; (focus first | assumption | omega))
      | (refine Br.decF ?_ ?_; (focus first | assumption | omega))
      | refine Br.dec (fun _ => ?_) (fun _ => ?_)
      | refine Br.not ?_
      | refine Br.and ?_
      | refine Br.or ?_
      | (refine Bnd.i64 ?_ ?_ ?_; (focus omega); (focus omega))
      | refine call_fun rfl rfl hck (.inl rfl) ?_
      | refine call_fun rfl rfl hStr (.inl rfl) ?_
      | refine call_fun rfl rfl hS (.inl rfl) ?_
      | (refine Idx.nat ?_ ?_; (focus omega))
      | refine Idx.nat (le_big (by omega)) ?_
      | (refine Idx.int ?_ ?_ ?_; (focus omega); (focus omega))
      | (refine Idx.int ?_ ?_ ?_; (focus decide); (focus decide))
      | refine Ifz.zero ?_
      | (refine Ifz.pos ?_ ?_; (focus omega))
      | refine Get.mk _ rfl ?_
      | refine Leaves.of ?_
      | refine Ends.of ?_
      | refine Vw.bool ?_
      | refine Vw.int ?_
      | refine Vw.nil
      | refine Vw.sl
      | refine Vw.tup ?_
      | refine Vw.agg ?_
      | refine VwL.cons ?_ ?_
      | refine VwL.nil
      | refine LeavesF.of ?_
      | refine VwF.bool ?_
      | refine VwF.int ?_
      | refine VwF.nil
      | refine VwF.sl
      | refine VwF.tup ?_
      | refine VwF.agg ?_
      | refine VwLF.cons ?_ ?_
      | refine VwLF.nil
      | (refine Req.mk ?_ ?_; (focus first | rfl | decide | exact ⟨rfl, rfl⟩ | exact ⟨rfl, by decide⟩ | exact (fun _ => rfl) | exact (fun h => nomatch h) | (simp; done) | omega | (simp [big]; done) | exact le_big (by omega) | exact lt_big (by omega))))
  all_goals try (exfalso; omega)
  refine LoopP.by (fun a : Nat × List Bool => a.1 ≤ st.length ∧ a.2.length = t.ms.length ∧ ∀ (j : Nat) (hj : j < a.2.length), a.2[j] = true → ∃ x ∈ st, x.1 = (j : Int)) (fun a => [(14, .int .i64 (a.1 : Nat))]) (fun a => [bg0 t cm cs, .blk [.int .i64 first, .sl c1 sa.length (ofBytes sa), .sl c2 sb.length (ofBytes sb)] false, .blk [.int .i64 y.1, .int .i64 y.2.1, .int .i64 y.2.2, .int .i64 f] false, .blk (ofBl a.2) true]) (fun a => st.length - a.1) (0, List.replicate t.ms.length false) ⟨Nat.zero_le _, by simp, by intro j hj; simp⟩ (by rw [← reps_bool]; rfl) ?_
  rintro ⟨i, L⟩ ⟨hi, hLl, hL⟩
  dsimp only at hi hLl hL ⊢
  have hlB : (ofBl L).length = t.ms.length * 1 := by simp [ofBl, hLl]
  by_cases hin : i < st.length
  · obtain ⟨a, b, hab, ha, hb, _, _⟩ := hstr st[i] (List.getElem_mem hin)
    have hc0 := ofSp_cell0 (l := st) hin
    rw [hab] at hc0
    dsimp only at hc0
    have hpt := ofBl_put0 (l := L) (i := a) (v := true) (by omega)
    have hL2 : ∀ (j : Nat) (hj : j < (L.set a true).length), (L.set a true)[j] = true → ∃ x ∈ st, x.1 = (j : Int) := by
      intro j hj hh
      rw [List.getElem_set] at hh
      by_cases e : a = j
      · subst e; exact ⟨st[i], List.getElem_mem hin, by rw [hab]⟩
      · rw [if_neg e] at hh
        exact hL j (by simpa using hj) hh
    have hLl2 : (L.set a true).length = t.ms.length := by rw [List.length_set, hLl]
    generalize L.set a true = L2 at *
    generalize hC2 : ofBl L2 = C2 at *
    cases i with
    | zero =>
      generalize ofBl L = C0 at *
      repeat' (first
        | (conv => whnf)
          first
          | refine Br.t ?_
          | refine Br.f ?_
          | (refine Br.decT ?_ ?_; (focus first | assumption | omega))
          | (refine Br.decF ?_ ?_; (focus first | assumption | omega))
          | refine Br.dec (fun _ => ?_) (fun _ => ?_)
          | refine Br.not ?_
          | refine Br.and ?_
          | refine Br.or ?_
          | (refine Bnd.i64 ?_ ?_ ?_; (focus omega); (focus omega))
          | refine Get.mk _ hc0 ?_
          | refine fVe hpt ?_
          | refine Req.mk hlB ?_
          | refine Req.mk ⟨hlB, by omega⟩ ?_
          | (refine Idx.nat ?_ ?_; (focus omega))
          | refine Idx.nat (le_big (by omega)) ?_
          | (refine Idx.int ?_ ?_ ?_; (focus omega); (focus omega))
          | (refine Idx.int ?_ ?_ ?_; (focus decide); (focus decide))
          | refine Ifz.zero ?_
          | (refine Ifz.pos ?_ ?_; (focus omega))
          | refine Get.mk _ rfl ?_
          | refine Leaves.of ?_
          | refine Ends.of ?_
          | refine Vw.bool ?_
          | refine Vw.int ?_
          | refine Vw.nil
          | refine Vw.sl
          | refine Vw.tup ?_
          | refine Vw.agg ?_
          | refine VwL.cons ?_ ?_
          | refine VwL.nil
          | refine LeavesF.of ?_
          | refine VwF.bool ?_
          | refine VwF.int ?_
          | refine VwF.nil
          | refine VwF.sl
          | refine VwF.tup ?_
          | refine VwF.agg ?_
          | refine VwLF.cons ?_ ?_
          | refine VwLF.nil
          | (refine Req.mk ?_ ?_; (focus first | rfl | decide | exact ⟨rfl, rfl⟩ | exact ⟨rfl, by decide⟩ | exact (fun _ => rfl) | exact (fun h => nomatch h) | (simp; done) | omega | (simp [big]; done) | exact le_big (by omega) | exact lt_big (by omega))))
      all_goals first | exact NextP.mk (0 + 1, L2) ⟨hin, hLl2, hL2⟩ (by simp only; omega) (by dsimp only; rw [hC2]; rfl) | (exfalso; omega)
    | succ i =>
      obtain ⟨a', b', hab', _⟩ := hstr st[i] (List.getElem_mem (by omega))
      have hc1 : cellAt (ofSp st) ((((i + 1 : Nat) : Int) - 1).toNat * 2) = some (.int .i64 (a' : Int)) := by
        rw [show (((i + 1 : Nat) : Int) - 1).toNat = i by omega, ofSp_cell0 (by omega), hab']
      have ho := hord i hin
      rw [hab, hab'] at ho
      dsimp only at ho
      generalize ofBl L = C0 at *
      repeat' (first
        | (conv => whnf)
          first
          | refine Br.t ?_
          | refine Br.f ?_
          | (refine Br.decT ?_ ?_; (focus first | assumption | omega))
          | (refine Br.decF ?_ ?_; (focus first | assumption | omega))
          | refine Br.dec (fun _ => ?_) (fun _ => ?_)
          | refine Br.not ?_
          | refine Br.and ?_
          | refine Br.or ?_
          | (refine Bnd.i64 ?_ ?_ ?_; (focus omega); (focus omega))
          | refine Get.mk _ hc0 ?_
          | refine Get.mk _ hc1 ?_
          | refine fVe hpt ?_
          | refine Req.mk hlB ?_
          | refine Req.mk ⟨hlB, by omega⟩ ?_
          | (refine Idx.nat ?_ ?_; (focus omega))
          | refine Idx.nat (le_big (by omega)) ?_
          | (refine Idx.int ?_ ?_ ?_; (focus omega); (focus omega))
          | (refine Idx.int ?_ ?_ ?_; (focus decide); (focus decide))
          | refine Ifz.zero ?_
          | (refine Ifz.pos ?_ ?_; (focus omega))
          | refine Get.mk _ rfl ?_
          | refine Leaves.of ?_
          | refine Ends.of ?_
          | refine Vw.bool ?_
          | refine Vw.int ?_
          | refine Vw.nil
          | refine Vw.sl
          | refine Vw.tup ?_
          | refine Vw.agg ?_
          | refine VwL.cons ?_ ?_
          | refine VwL.nil
          | refine LeavesF.of ?_
          | refine VwF.bool ?_
          | refine VwF.int ?_
          | refine VwF.nil
          | refine VwF.sl
          | refine VwF.tup ?_
          | refine VwF.agg ?_
          | refine VwLF.cons ?_ ?_
          | refine VwLF.nil
          | (refine Req.mk ?_ ?_; (focus first | rfl | decide | exact ⟨rfl, rfl⟩ | exact ⟨rfl, by decide⟩ | exact (fun _ => rfl) | exact (fun h => nomatch h) | (simp; done) | omega | (simp [big]; done) | exact le_big (by omega) | exact lt_big (by omega))))
      all_goals first | exact NextP.mk (i + 1 + 1, L2) ⟨hin, hLl2, hL2⟩ (by simp only; omega) (by dsimp only; rw [hC2]; rfl) | (exfalso; omega)
  · obtain rfl : i = st.length := by omega
    clear hi hin
    have hLf : ∀ b, b ∈ tkK t → ∀ (hb : b < L.length), L[b] = false := by
      intro b hb hbl
      rw [← Bool.not_eq_true]
      intro hh
      obtain ⟨x, hx, e⟩ := hL b hbl hh
      exact hap b hb x hx e
    repeat' (first
      | (conv => whnf)
        first
        | refine Br.t ?_
        | refine Br.f ?_
        | (refine Br.decT ?_ ?_; (focus first | assumption | omega))
        | (refine Br.decF ?_ ?_; (focus first | assumption | omega))
        | refine Br.dec (fun _ => ?_) (fun _ => ?_)
        | refine Br.not ?_
        | refine Br.and ?_
        | refine Br.or ?_
        | (refine Bnd.i64 ?_ ?_ ?_; (focus omega); (focus omega))
        | (refine Idx.nat ?_ ?_; (focus omega))
        | refine Idx.nat (le_big (by omega)) ?_
        | (refine Idx.int ?_ ?_ ?_; (focus omega); (focus omega))
        | (refine Idx.int ?_ ?_ ?_; (focus decide); (focus decide))
        | refine Ifz.zero ?_
        | (refine Ifz.pos ?_ ?_; (focus omega))
        | refine Get.mk _ rfl ?_
        | refine Leaves.of ?_
        | refine Ends.of ?_
        | refine Vw.bool ?_
        | refine Vw.int ?_
        | refine Vw.nil
        | refine Vw.sl
        | refine Vw.tup ?_
        | refine Vw.agg ?_
        | refine VwL.cons ?_ ?_
        | refine VwL.nil
        | refine LeavesF.of ?_
        | refine VwF.bool ?_
        | refine VwF.int ?_
        | refine VwF.nil
        | refine VwF.sl
        | refine VwF.tup ?_
        | refine VwF.agg ?_
        | refine VwLF.cons ?_ ?_
        | refine VwLF.nil
        | (refine Req.mk ?_ ?_; (focus first | rfl | decide | exact ⟨rfl, rfl⟩ | exact ⟨rfl, by decide⟩ | exact (fun _ => rfl) | exact (fun h => nomatch h) | (simp; done) | omega | (simp [big]; done) | exact le_big (by omega) | exact lt_big (by omega))))
    all_goals try (exfalso; omega)
    refine LoopP.byB (fun i : Nat => i ≤ st.length) (fun i => [(15, .int .i64 (i : Nat))]) (fun _ => []) (fun i => st.length - i) 0 (Nat.zero_le _) rfl ?_
    intro i hi
    by_cases hin : i < st.length
    · obtain ⟨a, b, hab, ha, hb, hbk, hag⟩ := hstr st[i] (List.getElem_mem hin)
      have hc0 := ofSp_cell0 (l := st) hin
      have hc1 := ofSp_cell1 (l := st) hin
      rw [hab] at hc0 hc1
      dsimp only at hc0 hc1
      have hcb := ofBl_cell0 (l := L) (i := b) (by omega)
      rw [hLf b hbk (by omega)] at hcb
      have hpa := mAt_part (l := t.ms) ha
      have hpb := mAt_part (l := t.ms) (i := b) (by omega)
      have hm0 : cellAt (ofM t.ms) (b * 3 + 0) = cellAt (mkC t.ms[b]) 0 := flat_cell mkC_len (by omega) (by omega)
      have hm1 : cellAt (ofM t.ms) (b * 3 + 1) = cellAt (mkC t.ms[b]) 1 := flat_cell mkC_len (by omega) (by omega)
      rw [← mAt_get (by omega)] at hm0 hm1
      have hta := ht.at ha
      have htb := ht.at (i := b) (by omega)
      generalize mAt t.ms a = mA at *
      generalize mAt t.ms b = mB at *
      obtain ⟨Af, hAf⟩ := Int.eq_ofNat_of_zero_le hta.1.1
      obtain ⟨Bf, hBf⟩ := Int.eq_ofNat_of_zero_le htb.1.1
      have hAfN : Af < N := by omega
      have hBfN : Bf < N := by omega
      have hxa := hxr Af
      have hxb := hxr Bf
      change 0 ≤ syX t first sa Af ∧ syX t first sa Af ≤ _ at hxa
      change 0 ≤ syX t first sa Bf ∧ syX t first sa Bf ≤ _ at hxb
      have hca := hcell0 Af hAfN
      have hcB := hcell0 Bf hBfN
      have hKa := keeps_any (c := cx) (N := N) (C := C) (m := mA) hAf hAfN hca (by omega) (by omega)
      have hKb := keeps_any (c := cx) (N := N) (C := C) (m := mB) hBf hBfN hcB (by omega) (by omega)
      have hKo := fun d (hd : -500000000 ≤ d ∧ d ≤ 500000000) => keeps_any (c := false) (N := N) (m := mA) hAf hAfN (hcell d Af hAfN) (by omega) (by omega)
      have hKo := hKo (mB.2.1 - syX t first sa Bf) (by omega)
      have hko : keepB (syX t first sa Af + (mB.2.1 - syX t first sa Bf)) mA = false := by
        rw [← Bool.not_eq_true, keepB_iff]
        intro hk
        have := keep_pair (t := t) (x := fun g => syX t first sa g + (mB.2.1 - syX t first sa Bf)) (a := mB) (b := mA) (fun g => smp_moved sa ht.le (mB.2.1 - syX t first sa Bf) (m := mB) (a := Bf) (f := g) hBf (by show syX t first sa Bf + _ - _ ≤ _ ∧ _ - (syX t first sa Bf + _) ≤ _; omega)) hAf hk
        rw [this] at hag; cases hag
      have hkab : ¬ (keepB (syX t first sa Af) mA = true ∧ keepB (syX t first sa Bf) mB = true) := by
        rw [keepB_iff, keepB_iff]
        rintro ⟨k1, k2⟩
        have := keep_pair (t := t) (x := syX t first sa) (a := mB) (b := mA) (fun g => smp_in sa ht.le (m := mB) (a := Bf) (f := g) hBf k2) hAf k1
        rw [this] at hag; cases hag
      rw [hko] at hKo
      generalize keepB (syX t first sa Af) mA = ka at *
      generalize keepB (syX t first sa Bf) mB = kb at *
      obtain ⟨a0, as, ae⟩ := mA
      obtain ⟨b0, bs, be⟩ := mB
      dsimp only at hAf hBf hta htb hKo
      subst hAf hBf
      have hm0 : cellAt (ofM t.ms) (b * 3 + 0) = some (.int .i64 (Bf : Int)) := hm0
      have hm1 : cellAt (ofM t.ms) (b * 3 + 1) = some (.int .i64 bs) := hm1
      have hov := fun (h : List B) (h1 : bget h 4 = some (.blk (ofI (acc (fun g => syX t first sa g + (bs - syX t first sa Bf)) N)) true)) => other_views (h := h) (L := acc (fun g => syX t first sa g + (bs - syX t first sa Bf)) N) (m := ((Af : Int), as, ae)) (N := N) h1 (acc_length _ _)
      unfold mkC at hpa hpb
      dsimp only at hpa hpb
      have hdr : -500000000 ≤ bs - syX t first sa Bf ∧ bs - syX t first sa Bf ≤ 500000000 := by omega
      generalize hd : bs - syX t first sa Bf = d at *
      have hdw : IntKind.i64.wrap (bs - syX t first sa Bf) = d := by rw [hd]; exact wrap_i64 (by omega) (by omega)
      have hac := acc_next (fun g => syX t first sa g + d)
      have hac1 := acc_one (fun g => syX t first sa g + d)
      generalize syX t first sa Bf = xB at *
      repeat' (first
        | (conv => whnf)
          first
          | refine Bnd.eq hdw ?_
          | refine Br.t ?_
          | refine Br.f ?_
          | (refine Br.decT ?_ ?_; (focus first | assumption | omega))
          | (refine Br.decF ?_ ?_; (focus first | assumption | omega))
          | refine Br.dec (fun _ => ?_) (fun _ => ?_)
          | refine Br.not ?_
          | refine Br.and ?_
          | refine Br.or ?_
          | (refine Bnd.i64 ?_ ?_ ?_; (focus omega); (focus omega))
          | refine Get.mk _ hc0 ?_
          | refine Get.mk _ hc1 ?_
          | refine Get.mk _ hcb ?_
          | refine Get.mk _ hm0 ?_
          | refine Get.mk _ hm1 ?_
          | refine Get.mk _ hcB ?_
          | refine Req.mk hlB ?_
          | (refine Idx.nat ?_ ?_; (focus omega))
          | refine Idx.nat (le_big (by omega)) ?_
          | (refine Idx.int ?_ ?_ ?_; (focus omega); (focus omega))
          | (refine Idx.int ?_ ?_ ?_; (focus decide); (focus decide))
          | refine Ifz.zero ?_
          | (refine Ifz.pos ?_ ?_; (focus omega))
          | refine Get.mk _ rfl ?_
          | refine Leaves.of ?_
          | refine Ends.of ?_
          | refine Vw.bool ?_
          | refine Vw.int ?_
          | refine Vw.nil
          | refine Vw.sl
          | refine Vw.tup ?_
          | refine Vw.agg ?_
          | refine VwL.cons ?_ ?_
          | refine VwL.nil
          | refine LeavesF.of ?_
          | refine VwF.bool ?_
          | refine VwF.int ?_
          | refine VwF.nil
          | refine VwF.sl
          | refine VwF.tup ?_
          | refine VwF.agg ?_
          | refine VwLF.cons ?_ ?_
          | refine VwLF.nil
          | (refine Req.mk ?_ ?_; (focus first | rfl | decide | exact ⟨rfl, rfl⟩ | exact ⟨rfl, by decide⟩ | exact (fun _ => rfl) | exact (fun h => nomatch h) | (simp; done) | omega | (simp [big]; done) | exact le_big (by omega) | exact lt_big (by omega))))
      all_goals try (exfalso; omega)
      refine LoopP.by (fun k : Nat => k ≤ N) (fun k => match k with
          | 0 => [(17, .nilsl), (18, .int .i64 ((0 : Nat) : Int))]
          | k + 1 => [(17, .ms 1 4 (k + 1) 0 (k + 1) false), (18, .int .i64 ((k + 1 : Nat) : Int))])
        (fun k => match k with
          | 0 => [bg0 t cm cs, .blk [.int .i64 first, .sl c1 sa.length (ofBytes sa), .sl c2 sb.length (ofBytes sb)] false, .blk [.int .i64 y.1, .int .i64 y.2.1, .int .i64 y.2.2, .int .i64 f] false, .blk (ofBl L) true]
          | k + 1 => [bg0 t cm cs, .blk [.int .i64 first, .sl c1 sa.length (ofBytes sa), .sl c2 sb.length (ofBytes sb)] false, .blk [.int .i64 y.1, .int .i64 y.2.1, .int .i64 y.2.2, .int .i64 f] false, .blk (ofBl L) true, .blk (ofI (acc (fun g => syX t first sa g + d) (k + 1))) true]) (fun k => N - k) 0 (Nat.zero_le _) rfl ?_
      intro k hk
      cases k with
      | zero =>
        dsimp only
        have hck := hcell0 0 (by omega)
        have hxk := hxr 0
        change 0 ≤ syX t first sa 0 ∧ syX t first sa 0 ≤ _ at hxk
        try dsimp only at hac1
        generalize hC1 : ofI (acc (fun g => syX t first sa g + d) 1) = C1 at *
        generalize syX t first sa 0 = x0 at *
        repeat' (first
          | (conv => whnf)
            first
            | refine Br.t ?_
            | refine Br.f ?_
            | (refine Br.decT ?_ ?_; (focus first | assumption | omega))
            | (refine Br.decF ?_ ?_; (focus first | assumption | omega))
            | refine Br.dec (fun _ => ?_) (fun _ => ?_)
            | refine Br.not ?_
            | refine Br.and ?_
            | refine Br.or ?_
            | (refine Bnd.i64 ?_ ?_ ?_; (focus omega); (focus omega))
            | refine Get.mk _ hck ?_
            | (refine Idx.nat ?_ ?_; (focus omega))
            | refine Idx.nat (le_big (by omega)) ?_
            | (refine Idx.int ?_ ?_ ?_; (focus omega); (focus omega))
            | (refine Idx.int ?_ ?_ ?_; (focus decide); (focus decide))
            | refine Ifz.zero ?_
            | (refine Ifz.pos ?_ ?_; (focus omega))
            | refine Get.mk _ rfl ?_
            | refine Leaves.of ?_
            | refine Ends.of ?_
            | refine Vw.bool ?_
            | refine Vw.int ?_
            | refine Vw.nil
            | refine Vw.sl
            | refine Vw.tup ?_
            | refine Vw.agg ?_
            | refine VwL.cons ?_ ?_
            | refine VwL.nil
            | refine LeavesF.of ?_
            | refine VwF.bool ?_
            | refine VwF.int ?_
            | refine VwF.nil
            | refine VwF.sl
            | refine VwF.tup ?_
            | refine VwF.agg ?_
            | refine VwLF.cons ?_ ?_
            | refine VwLF.nil
            | (refine Req.mk ?_ ?_; (focus first | rfl | decide | exact ⟨rfl, rfl⟩ | exact ⟨rfl, by decide⟩ | exact (fun _ => rfl) | exact (fun h => nomatch h) | (simp; done) | omega | (simp [big]; done) | exact le_big (by omega) | exact lt_big (by omega))))
        all_goals first | exact NextP.mk 1 (by omega) (by omega) (by dsimp only; rw [hC1, ← hac1]; rfl) | (exfalso; omega)
      | succ k =>
        dsimp only
        have hlk : (ofI (acc (fun g => syX t first sa g + d) (k + 1))).length = k + 1 := by rw [ofI_length, acc_length]
        by_cases hkN : k + 1 < N
        · have hck := hcell0 (k + 1) hkN
          have hxk := hxr (k + 1)
          change 0 ≤ syX t first sa (k + 1) ∧ syX t first sa (k + 1) ≤ _ at hxk
          have hack := hac (k + 1)
          try dsimp only at hack
          generalize hC1 : ofI (acc (fun g => syX t first sa g + d) (k + 1 + 1)) = C1 at *
          generalize ofI (acc (fun g => syX t first sa g + d) (k + 1)) = C0 at *
          generalize syX t first sa (k + 1) = x0 at *
          repeat' (first
            | (conv => whnf)
              first
              | refine Br.t ?_
              | refine Br.f ?_
              | (refine Br.decT ?_ ?_; (focus first | assumption | omega))
              | (refine Br.decF ?_ ?_; (focus first | assumption | omega))
              | refine Br.dec (fun _ => ?_) (fun _ => ?_)
              | refine Br.not ?_
              | refine Br.and ?_
              | refine Br.or ?_
              | (refine Bnd.i64 ?_ ?_ ?_; (focus omega); (focus omega))
              | refine Get.mk _ hck ?_
              | refine Req.mk hlk ?_
              | refine Req.mk ⟨by omega, by rw [hlk]; show (k + 1 + 1) * 9 < 68719476736; omega⟩ ?_
              | (refine Idx.nat ?_ ?_; (focus omega))
              | refine Idx.nat (le_big (by omega)) ?_
              | (refine Idx.int ?_ ?_ ?_; (focus omega); (focus omega))
              | (refine Idx.int ?_ ?_ ?_; (focus decide); (focus decide))
              | refine Ifz.zero ?_
              | (refine Ifz.pos ?_ ?_; (focus omega))
              | refine Get.mk _ rfl ?_
              | refine Leaves.of ?_
              | refine Ends.of ?_
              | refine Vw.bool ?_
              | refine Vw.int ?_
              | refine Vw.nil
              | refine Vw.sl
              | refine Vw.tup ?_
              | refine Vw.agg ?_
              | refine VwL.cons ?_ ?_
              | refine VwL.nil
              | refine LeavesF.of ?_
              | refine VwF.bool ?_
              | refine VwF.int ?_
              | refine VwF.nil
              | refine VwF.sl
              | refine VwF.tup ?_
              | refine VwF.agg ?_
              | refine VwLF.cons ?_ ?_
              | refine VwLF.nil
              | (refine Req.mk ?_ ?_; (focus first | rfl | decide | exact ⟨rfl, rfl⟩ | exact ⟨rfl, by decide⟩ | exact (fun _ => rfl) | exact (fun h => nomatch h) | (simp; done) | omega | (simp [big]; done) | exact le_big (by omega) | exact lt_big (by omega))))
          all_goals first | exact NextP.mk (k + 1 + 1) (by omega) (by omega) (by dsimp only; rw [hC1, ← hack]; rfl) | (exfalso; omega)
        · obtain rfl : N = k + 1 := by omega
          generalize hCo : ofI (acc (fun g => syX t first sa g + d) (k + 1)) = Co at *
          cases ka with
          | true =>
            cases kb with
            | true => exact absurd ⟨rfl, rfl⟩ hkab
            | false =>
              repeat' (first
                | (conv => whnf)
                  first
                  | refine Br.t ?_
                  | refine Br.f ?_
                  | (refine Br.decT ?_ ?_; (focus first | assumption | omega))
                  | (refine Br.decF ?_ ?_; (focus first | assumption | omega))
                  | refine Br.dec (fun _ => ?_) (fun _ => ?_)
                  | refine Br.not ?_
                  | refine Br.and ?_
                  | refine Br.or ?_
                  | (refine Bnd.i64 ?_ ?_ ?_; (focus omega); (focus omega))
                  | refine Get.mk _ hc0 ?_
                  | refine Get.mk _ hc1 ?_
                  | refine Get.mk _ hpa ?_
                  | refine Get.mk _ hpb ?_
                  | refine call_fun rfl rfl hKa (.inl rfl) ?_
                  | refine call_fun rfl rfl hKb (.inl rfl) ?_
                  | refine call_fun rfl (hov _ rfl) hKo (.inr rfl) ?_
                  | (refine Idx.nat ?_ ?_; (focus omega))
                  | refine Idx.nat (le_big (by omega)) ?_
                  | (refine Idx.int ?_ ?_ ?_; (focus omega); (focus omega))
                  | (refine Idx.int ?_ ?_ ?_; (focus decide); (focus decide))
                  | refine Ifz.zero ?_
                  | (refine Ifz.pos ?_ ?_; (focus omega))
                  | refine Get.mk _ rfl ?_
                  | refine Leaves.of ?_
                  | refine Ends.of ?_
                  | refine Vw.bool ?_
                  | refine Vw.int ?_
                  | refine Vw.nil
                  | refine Vw.sl
                  | refine Vw.tup ?_
                  | refine Vw.agg ?_
                  | refine VwL.cons ?_ ?_
                  | refine VwL.nil
                  | refine LeavesF.of ?_
                  | refine VwF.bool ?_
                  | refine VwF.int ?_
                  | refine VwF.nil
                  | refine VwF.sl
                  | refine VwF.tup ?_
                  | refine VwF.agg ?_
                  | refine VwLF.cons ?_ ?_
                  | refine VwLF.nil
                  | (refine Req.mk ?_ ?_; (focus first | rfl | decide | exact ⟨rfl, rfl⟩ | exact ⟨rfl, by decide⟩ | exact (fun _ => rfl) | exact (fun h => nomatch h) | (simp; done) | omega | (simp [big]; done) | exact le_big (by omega) | exact lt_big (by omega))))
              all_goals first | exact NextP.mk (i + 1) (by omega) (by omega) rfl | (exfalso; omega)
          | false =>
            repeat' (first
              | (conv => whnf)
                first
                | refine Br.t ?_
                | refine Br.f ?_
                | (refine Br.decT ?_ ?_; (focus first | assumption | omega))
                | (refine Br.decF ?_ ?_; (focus first | assumption | omega))
                | refine Br.dec (fun _ => ?_) (fun _ => ?_)
                | refine Br.not ?_
                | refine Br.and ?_
                | refine Br.or ?_
                | (refine Bnd.i64 ?_ ?_ ?_; (focus omega); (focus omega))
                | refine Get.mk _ hc0 ?_
                | refine Get.mk _ hc1 ?_
                | refine Get.mk _ hpa ?_
                | refine Get.mk _ hpb ?_
                | refine call_fun rfl rfl hKa (.inl rfl) ?_
                | refine call_fun rfl rfl hKb (.inl rfl) ?_
                | refine call_fun rfl (hov _ rfl) hKo (.inr rfl) ?_
                | (refine Idx.nat ?_ ?_; (focus omega))
                | refine Idx.nat (le_big (by omega)) ?_
                | (refine Idx.int ?_ ?_ ?_; (focus omega); (focus omega))
                | (refine Idx.int ?_ ?_ ?_; (focus decide); (focus decide))
                | refine Ifz.zero ?_
                | (refine Ifz.pos ?_ ?_; (focus omega))
                | refine Get.mk _ rfl ?_
                | refine Leaves.of ?_
                | refine Ends.of ?_
                | refine Vw.bool ?_
                | refine Vw.int ?_
                | refine Vw.nil
                | refine Vw.sl
                | refine Vw.tup ?_
                | refine Vw.agg ?_
                | refine VwL.cons ?_ ?_
                | refine VwL.nil
                | refine LeavesF.of ?_
                | refine VwF.bool ?_
                | refine VwF.int ?_
                | refine VwF.nil
                | refine VwF.sl
                | refine VwF.tup ?_
                | refine VwF.agg ?_
                | refine VwLF.cons ?_ ?_
                | refine VwLF.nil
                | (refine Req.mk ?_ ?_; (focus first | rfl | decide | exact ⟨rfl, rfl⟩ | exact ⟨rfl, by decide⟩ | exact (fun _ => rfl) | exact (fun h => nomatch h) | (simp; done) | omega | (simp [big]; done) | exact le_big (by omega) | exact lt_big (by omega))))
            all_goals first | exact NextP.mk (i + 1) (by omega) (by omega) rfl | (exfalso; omega)
    · obtain rfl : i = st.length := by omega
      have hlm : (ofM t.ms).length = t.ms.length * 3 := flat_length mkC_len _
      have hq2 : (([] : List V).length + (ofM t.ms).length) * (24 + 1) < big := by rw [hlm]; simp [big]; omega
      have hq3 : true = true → scalars (([] : List V) ++ ofM t.ms) = true := fun _ => flat_scal (fun _ => rfl) _
      have hq4 : (([] : List V) ++ ofM t.ms).length = ([] : List V).length + (ofM t.ms).length := by simp
      have hq5 : 0 + (0 + t.ms.length) * 3 = ([] : List V).length + (ofM t.ms).length ∧ ((([] : List V) ++ ofM t.ms).length + [V.int .i64 y.1, .int .i64 y.2.1, .int .i64 y.2.2].length) * (24 + 1) < big := by
        rw [hq4, hlm]
        refine ⟨by simp, ?_⟩
        simp [big]; omega
      have hov := fun (h : List B) (h1 : bget h 5 = some (.blk ((([] : List V) ++ ofM t.ms) ++ [V.int .i64 y.1, .int .i64 y.2.1, .int .i64 y.2.2]) true)) => more_views (h := h) (t := t) (cs := cs) (y := y) (id := 5) (g := ([] : List V).length + (ofM t.ms).length + [V.int .i64 y.1, .int .i64 y.2.1, .int .i64 y.2.2].length) (n := 0 + t.ms.length + 1) (f := f) h1 (by rw [show ofM (t.ms ++ [y]) = _ from flat_append _ _]; simp [flat, mkC]) (by rw [hlm]; simp; omega) (by omega)
      generalize whE t f = w at *
      generalize whE (moreT t y) f = v at *
      obtain ⟨w1, w2, we⟩ := w
      obtain ⟨v1, v2, ve⟩ := v
      dsimp only at hmw hW1 hW2
      have hmw2 : we = 0 → ve = 0 → w1 ≤ v1 ∧ v2 ≤ w2 ∧ v1 ≤ v2 := hmw
      clear hmw
      by_cases hz : we = 0 ∧ ve = 0
      · have hmw := hmw2 hz.1 hz.2
        repeat' (first
          | (conv => whnf)
            first
            | refine Br.t ?_
            | refine Br.f ?_
            | (refine Br.decT ?_ ?_; (focus first | assumption | omega))
            | (refine Br.decF ?_ ?_; (focus first | assumption | omega))
            | refine Br.dec (fun _ => ?_) (fun _ => ?_)
            | refine Br.not ?_
            | refine Br.and ?_
            | refine Br.or ?_
            | (refine Bnd.i64 ?_ ?_ ?_; (focus omega); (focus omega))
            | refine Req.mk hlm ?_
            | refine Req.mk hq2 ?_
            | refine Req.mk hq3 ?_
            | refine Req.mk hq4 ?_
            | refine Req.mk hq5 ?_
            | refine call_fun rfl rfl hW1 (.inl rfl) ?_
            | refine call_fun rfl (hov _ rfl) hW2 (.inr rfl) ?_
            | refine call_fun rfl rfl awake (.inl rfl) ?_
            | (refine Idx.nat ?_ ?_; (focus omega))
            | refine Idx.nat (le_big (by omega)) ?_
            | (refine Idx.int ?_ ?_ ?_; (focus omega); (focus omega))
            | (refine Idx.int ?_ ?_ ?_; (focus decide); (focus decide))
            | refine Ifz.zero ?_
            | (refine Ifz.pos ?_ ?_; (focus omega))
            | refine Get.mk _ rfl ?_
            | refine Leaves.of ?_
            | refine Ends.of ?_
            | refine Vw.bool ?_
            | refine Vw.int ?_
            | refine Vw.nil
            | refine Vw.sl
            | refine Vw.tup ?_
            | refine Vw.agg ?_
            | refine VwL.cons ?_ ?_
            | refine VwL.nil
            | refine LeavesF.of ?_
            | refine VwF.bool ?_
            | refine VwF.int ?_
            | refine VwF.nil
            | refine VwF.sl
            | refine VwF.tup ?_
            | refine VwF.agg ?_
            | refine VwLF.cons ?_ ?_
            | refine VwLF.nil
            | (refine Req.mk ?_ ?_; (focus first | rfl | decide | exact ⟨rfl, rfl⟩ | exact ⟨rfl, by decide⟩ | exact (fun _ => rfl) | exact (fun h => nomatch h) | (simp; done) | omega | (simp [big]; done) | exact le_big (by omega) | exact lt_big (by omega))))
        all_goals first | rfl | (exfalso; omega)
      · repeat' (first
          | (conv => whnf)
            first
            | refine Br.t ?_
            | refine Br.f ?_
            | (refine Br.decT ?_ ?_; (focus first | assumption | omega))
            | (refine Br.decF ?_ ?_; (focus first | assumption | omega))
            | refine Br.dec (fun _ => ?_) (fun _ => ?_)
            | refine Br.not ?_
            | refine Br.and ?_
            | refine Br.or ?_
            | (refine Bnd.i64 ?_ ?_ ?_; (focus omega); (focus omega))
            | refine Req.mk hlm ?_
            | refine Req.mk hq2 ?_
            | refine Req.mk hq3 ?_
            | refine Req.mk hq4 ?_
            | refine Req.mk hq5 ?_
            | refine call_fun rfl rfl hW1 (.inl rfl) ?_
            | refine call_fun rfl (hov _ rfl) hW2 (.inr rfl) ?_
            | refine call_fun rfl rfl awake (.inl rfl) ?_
            | (refine Idx.nat ?_ ?_; (focus omega))
            | refine Idx.nat (le_big (by omega)) ?_
            | (refine Idx.int ?_ ?_ ?_; (focus omega); (focus omega))
            | (refine Idx.int ?_ ?_ ?_; (focus decide); (focus decide))
            | refine Ifz.zero ?_
            | (refine Ifz.pos ?_ ?_; (focus omega))
            | refine Get.mk _ rfl ?_
            | refine Leaves.of ?_
            | refine Ends.of ?_
            | refine Vw.bool ?_
            | refine Vw.int ?_
            | refine Vw.nil
            | refine Vw.sl
            | refine Vw.tup ?_
            | refine Vw.agg ?_
            | refine VwL.cons ?_ ?_
            | refine VwL.nil
            | refine LeavesF.of ?_
            | refine VwF.bool ?_
            | refine VwF.int ?_
            | refine VwF.nil
            | refine VwF.sl
            | refine VwF.tup ?_
            | refine VwF.agg ?_
            | refine VwLF.cons ?_ ?_
            | refine VwLF.nil
            | (refine Req.mk ?_ ?_; (focus first | rfl | decide | exact ⟨rfl, rfl⟩ | exact ⟨rfl, by decide⟩ | exact (fun _ => rfl) | exact (fun h => nomatch h) | (simp; done) | omega | (simp [big]; done) | exact le_big (by omega) | exact lt_big (by omega))))
        all_goals first | rfl | (exfalso; omega)

theorem none_views {h : List B} {t : Tsk} {cs : Bool} {y : Mk} {f : Int} (h0 : t.ms = []) (h1 : bget h 6 = some (.blk (([] : List V) ++ [V.int .i64 y.1, .int .i64 y.2.1, .int .i64 y.2.2]) true)) :
    views h depth ([.agg [.int .i64 t.fr, .int .i64 t.lo, .int .i64 t.hi, .ms 3 6 (([] : List V).length + [V.int .i64 y.1, .int .i64 y.2.1, .int .i64 y.2.2].length) 0 (0 + 1) false, .sl cs t.sp.length (ofI t.sp)], .int .i64 f] ++ []) = some [tskV false cs (moreT t y), .int .i64 f] := by
  have e : tskV false cs (moreT t y) = .agg [.int .i64 t.fr, .int .i64 t.lo, .int .i64 t.hi, .sl false 1 [.int .i64 y.1, .int .i64 y.2.1, .int .i64 y.2.2], .sl cs t.sp.length (ofI t.sp)] := by
    unfold tskV moreT
    dsimp only
    rw [h0]; rfl
  rw [e]
  exact (VwL.cons (Vw.agg (VwL.cons (Vw.int rfl) (VwL.cons (Vw.int rfl) (VwL.cons (Vw.int rfl) (VwL.cons (Vw.ms h1 rfl rfl (VwL.mk3 y)) (VwL.cons Vw.sl VwL.nil)))))) (VwL.cons (Vw.int rfl) VwL.nil) : VwL h 64 _ _).1
set_option maxRecDepth 100000 in
set_option maxHeartbeats 20000000 in
theorem struck_none {cm cs c1 c2 : Bool} {t : Tsk} {first : Int} {sa sb : List UInt8} {y : Mk} {f : Int} (hc : chkT t = (0, 0, 0)) (ht : OkT t) (h4 : t.fr ≤ 400) (hn0 : t.ms = []) :
    Fun F md 9 [tskV cm cs t, hdV c1 c2 first sa sb, .agg [.int .i64 y.1, .int .i64 y.2.1, .int .i64 y.2.2, .int .i64 f]] (.bool true) := by
  have hck := chkR_any cm cs t
  rw [hc] at hck
  obtain ⟨cz, hStr⟩ := struck_any cm cs t
  have hse : strE t = ([], 0) := by
    unfold strE; rw [hc, if_neg (by simp)]
    unfold tkT; rw [hn0]; rfl
  rw [hse] at hStr
  obtain ⟨cx, hS⟩ := samples_ok (cm := cm) (cs := cs) (c1 := c1) (c2 := c2) (first := first) (sa := sa) (sb := sb) ht h4
  have hW1 := whereP_any cm cs t f
  have hW2 := whereP_any false cs (moreT t y) f
  have hwe : (whE t f).2.2 ≠ 0 := by
    intro h
    have := (whE_zero h).2.1
    rw [hn0] at this; simp at this
  have hov := fun (h : List B) h1 => none_views (h := h) (cs := cs) (y := y) (f := f) hn0 h1
  have hln : t.ms.length = 0 := by rw [hn0]; rfl
  have htv : tskV cm cs t = .agg [.int .i64 t.fr, .int .i64 t.lo, .int .i64 t.hi, .sl cm 0 [], .sl cs t.sp.length (ofI t.sp)] := by
    unfold tskV; rw [hn0]; rfl
  rw [htv] at hck hStr hS hW1 ⊢
  generalize ofI (acc (smp t.lo t.hi first sa) t.fr.toNat) = C at *
  generalize t.fr.toNat = N at *
  generalize whE t f = w at *
  generalize whE (moreT t y) f = v at *
  dsimp only [whV, ckV] at hW1 hW2 hck hStr
  refine fun_of rfl rfl ?_
  repeat' (first
    | (conv => whnf)
      first
      | refine Br.t ?_
      | refine Br.f ?_
      | (refine Br.decT ?_ ?_; (focus first | assumption | omega))
      | (refine Br.decF ?_ ?_; (focus first | assumption | omega))
      | refine Br.dec (fun _ => ?_) (fun _ => ?_)
      | refine Br.not ?_
      | refine Br.and ?_
      | refine Br.or ?_
      | (refine Bnd.i64 ?_ ?_ ?_; (focus omega); (focus omega))
      | refine call_fun rfl rfl hck (.inl rfl) ?_
      | refine call_fun rfl rfl hStr (.inl rfl) ?_
      | refine call_fun rfl rfl hS (.inl rfl) ?_
      | (refine Idx.nat ?_ ?_; (focus omega))
      | refine Idx.nat (le_big (by omega)) ?_
      | (refine Idx.int ?_ ?_ ?_; (focus omega); (focus omega))
      | (refine Idx.int ?_ ?_ ?_; (focus decide); (focus decide))
      | refine Ifz.zero ?_
      | (refine Ifz.pos ?_ ?_; (focus omega))
      | refine Get.mk _ rfl ?_
      | refine Leaves.of ?_
      | refine Ends.of ?_
      | refine Vw.bool ?_
      | refine Vw.int ?_
      | refine Vw.nil
      | refine Vw.sl
      | refine Vw.tup ?_
      | refine Vw.agg ?_
      | refine VwL.cons ?_ ?_
      | refine VwL.nil
      | refine LeavesF.of ?_
      | refine VwF.bool ?_
      | refine VwF.int ?_
      | refine VwF.nil
      | refine VwF.sl
      | refine VwF.tup ?_
      | refine VwF.agg ?_
      | refine VwLF.cons ?_ ?_
      | refine VwLF.nil
      | (refine Req.mk ?_ ?_; (focus first | rfl | decide | exact ⟨rfl, rfl⟩ | exact ⟨rfl, by decide⟩ | exact (fun _ => rfl) | exact (fun h => nomatch h) | (simp; done) | omega | (simp [big]; done) | exact le_big (by omega) | exact lt_big (by omega))))
  all_goals try (exfalso; omega)
  refine LoopP.byB (fun _ : Unit => True) (fun _ => [(14, .int .i64 0)]) (fun _ => []) (fun _ => 0) () trivial rfl ?_
  intro _ _
  repeat' (first
    | (conv => whnf)
      first
      | refine Br.t ?_
      | refine Br.f ?_
      | (refine Br.decT ?_ ?_; (focus first | assumption | omega))
      | (refine Br.decF ?_ ?_; (focus first | assumption | omega))
      | refine Br.dec (fun _ => ?_) (fun _ => ?_)
      | refine Br.not ?_
      | refine Br.and ?_
      | refine Br.or ?_
      | (refine Bnd.i64 ?_ ?_ ?_; (focus omega); (focus omega))
      | (refine Idx.nat ?_ ?_; (focus omega))
      | refine Idx.nat (le_big (by omega)) ?_
      | (refine Idx.int ?_ ?_ ?_; (focus omega); (focus omega))
      | (refine Idx.int ?_ ?_ ?_; (focus decide); (focus decide))
      | refine Ifz.zero ?_
      | (refine Ifz.pos ?_ ?_; (focus omega))
      | refine Get.mk _ rfl ?_
      | refine Leaves.of ?_
      | refine Ends.of ?_
      | refine Vw.bool ?_
      | refine Vw.int ?_
      | refine Vw.nil
      | refine Vw.sl
      | refine Vw.tup ?_
      | refine Vw.agg ?_
      | refine VwL.cons ?_ ?_
      | refine VwL.nil
      | refine LeavesF.of ?_
      | refine VwF.bool ?_
      | refine VwF.int ?_
      | refine VwF.nil
      | refine VwF.sl
      | refine VwF.tup ?_
      | refine VwF.agg ?_
      | refine VwLF.cons ?_ ?_
      | refine VwLF.nil
      | (refine Req.mk ?_ ?_; (focus first | rfl | decide | exact ⟨rfl, rfl⟩ | exact ⟨rfl, by decide⟩ | exact (fun _ => rfl) | exact (fun h => nomatch h) | (simp; done) | omega | (simp [big]; done) | exact le_big (by omega) | exact lt_big (by omega))))
  all_goals try (exfalso; omega)
  refine LoopP.byB (fun _ : Unit => True) (fun _ => [(15, .int .i64 0)]) (fun _ => []) (fun _ => 0) () trivial rfl ?_
  intro _ _
  repeat' (first
    | (conv => whnf)
      first
      | refine Br.t ?_
      | refine Br.f ?_
      | (refine Br.decT ?_ ?_; (focus first | assumption | omega))
      | (refine Br.decF ?_ ?_; (focus first | assumption | omega))
      | refine Br.dec (fun _ => ?_) (fun _ => ?_)
      | refine Br.not ?_
      | refine Br.and ?_
      | refine Br.or ?_
      | (refine Bnd.i64 ?_ ?_ ?_; (focus omega); (focus omega))
      | refine call_fun rfl rfl hW1 (.inl rfl) ?_
      | refine call_fun rfl (hov _ rfl) hW2 (.inr rfl) ?_
      | refine call_fun rfl rfl awake (.inl rfl) ?_
      | (refine Idx.nat ?_ ?_; (focus omega))
      | refine Idx.nat (le_big (by omega)) ?_
      | (refine Idx.int ?_ ?_ ?_; (focus omega); (focus omega))
      | (refine Idx.int ?_ ?_ ?_; (focus decide); (focus decide))
      | refine Ifz.zero ?_
      | (refine Ifz.pos ?_ ?_; (focus omega))
      | refine Get.mk _ rfl ?_
      | refine Leaves.of ?_
      | refine Ends.of ?_
      | refine Vw.bool ?_
      | refine Vw.int ?_
      | refine Vw.nil
      | refine Vw.sl
      | refine Vw.tup ?_
      | refine Vw.agg ?_
      | refine VwL.cons ?_ ?_
      | refine VwL.nil
      | refine LeavesF.of ?_
      | refine VwF.bool ?_
      | refine VwF.int ?_
      | refine VwF.nil
      | refine VwF.sl
      | refine VwF.tup ?_
      | refine VwF.agg ?_
      | refine VwLF.cons ?_ ?_
      | refine VwLF.nil
      | (refine Req.mk ?_ ?_; (focus first | rfl | decide | exact ⟨rfl, rfl⟩ | exact ⟨rfl, by decide⟩ | exact (fun _ => rfl) | exact (fun h => nomatch h) | (simp; done) | omega | (simp [big]; done) | exact le_big (by omega) | exact lt_big (by omega))))
  all_goals first | rfl | (exfalso; omega)
set_option maxRecDepth 100000 in
set_option maxHeartbeats 20000000 in
theorem law_struck (cm cs c1 c2 : Bool) (t : Tsk) (first : Int) (sa sb : List UInt8) (y : Mk) (f : Int) : Fun F md 9 [tskV cm cs t, hdV c1 c2 first sa sb, .agg [.int .i64 y.1, .int .i64 y.2.1, .int .i64 y.2.2, .int .i64 f]] (.bool true) := by
  by_cases hg : (chkT t).2.2 = 0 ∧ t.fr ≤ 400
  · obtain ⟨hc, ht⟩ := chk_ok hg.1
    by_cases h0 : t.ms = []
    · exact struck_none hc ht hg.2 h0
    · exact struck_good hc ht hg.2 (by cases h : t.ms with
        | nil => exact absurd h h0
        | cons a l => simp)
  · have hck := chkR_any cm cs t
    obtain ⟨cz, hStr⟩ := struck_any cm cs t
    have hse : (strE t).2 = (chkT t).2.2 := by
      unfold strE
      split
      · rfl
      · dsimp only; omega
    dsimp only [ckV] at hck
    generalize chkT t = z at *
    generalize strE t = q at *
    refine fun_of rfl rfl ?_
    repeat' (first
      | (conv => whnf)
        first
        | refine Br.t ?_
        | refine Br.f ?_
        | (refine Br.decT ?_ ?_; (focus first | assumption | omega))
        | (refine Br.decF ?_ ?_; (focus first | assumption | omega))
        | refine Br.dec (fun _ => ?_) (fun _ => ?_)
        | refine Br.not ?_
        | refine Br.and ?_
        | refine Br.or ?_
        | (refine Bnd.i64 ?_ ?_ ?_; (focus omega); (focus omega))
        | refine call_fun rfl rfl hck (.inl rfl) ?_
        | refine call_fun rfl rfl hStr (.inl rfl) ?_
        | refine call_fun rfl rfl awake (.inl rfl) ?_
        | (refine Idx.nat ?_ ?_; (focus omega))
        | refine Idx.nat (le_big (by omega)) ?_
        | (refine Idx.int ?_ ?_ ?_; (focus omega); (focus omega))
        | (refine Idx.int ?_ ?_ ?_; (focus decide); (focus decide))
        | refine Ifz.zero ?_
        | (refine Ifz.pos ?_ ?_; (focus omega))
        | refine Get.mk _ rfl ?_
        | refine Leaves.of ?_
        | refine Ends.of ?_
        | refine Vw.bool ?_
        | refine Vw.int ?_
        | refine Vw.nil
        | refine Vw.sl
        | refine Vw.tup ?_
        | refine Vw.agg ?_
        | refine VwL.cons ?_ ?_
        | refine VwL.nil
        | refine LeavesF.of ?_
        | refine VwF.bool ?_
        | refine VwF.int ?_
        | refine VwF.nil
        | refine VwF.sl
        | refine VwF.tup ?_
        | refine VwF.agg ?_
        | refine VwLF.cons ?_ ?_
        | refine VwLF.nil
        | (refine Req.mk ?_ ?_; (focus first | rfl | decide | exact ⟨rfl, rfl⟩ | exact ⟨rfl, by decide⟩ | exact (fun _ => rfl) | exact (fun h => nomatch h) | (simp; done) | omega | (simp [big]; done) | exact le_big (by omega) | exact lt_big (by omega))))
    all_goals first | rfl | (exfalso; omega)

end Go.Dr.T
