/- Chapter 09: Unbloop of the program. -/
import Derived.Test.YtokbdaiamhibeaaR09Ub
namespace Go.Dr.T

theorem back_any {c : Bool} {n : Nat} {cs : List V} : Fun F md 81 [.sl c n cs] (.fn 102 [.rp [.sl c n cs] 0]) := by
  refine fun_of rfl rfl ?_
  repeat' (first
    | (conv => whnf)
      first
      | refine Br.t ?_
      | refine Br.f ?_
      | (refine Br.decT ?_ ?_; (focus first | assumption | omega))
      | (refine Br.decF ?_ ?_; (focus first | assumption | omega))
      | refine Br.dec (fun _ => ?_) (fun _ => ?_)
      | refine Br.not ?_
      | refine Br.and ?_
      | refine Br.or ?_
      | (refine Bnd.i64 ?_ ?_ ?_; (focus omega); (focus omega))
      | (refine Idx.nat ?_ ?_; (focus omega))
      | refine Idx.nat (le_big (by omega)) ?_
      | (refine Idx.int ?_ ?_ ?_; (focus omega); (focus omega))
      | (refine Idx.int ?_ ?_ ?_; (focus decide); (focus decide))
      | refine Ifz.zero ?_
      | (refine Ifz.pos ?_ ?_; (focus omega))
      | refine Get.mk _ rfl ?_
      | refine Leaves.of ?_
      | refine Ends.of ?_
      | refine Vw.bool ?_
      | refine Vw.int ?_
      | refine Vw.nil
      | refine Vw.sl
      | refine Vw.tup ?_
      | refine Vw.agg ?_
      | refine VwL.cons ?_ ?_
      | refine VwL.nil
      | refine LeavesF.of ?_
      | refine VwF.bool ?_
      | refine VwF.int ?_
      | refine VwF.nil
      | refine VwF.sl
      | refine VwF.tup ?_
      | refine VwF.agg ?_
      | refine VwLF.cons ?_ ?_
      | refine VwLF.nil
      | (refine Req.mk ?_ ?_; (focus first | rfl | decide | exact ⟨rfl, rfl⟩ | exact ⟨rfl, by decide⟩ | exact (fun _ => rfl) | exact (fun h => nomatch h) | (simp; done) | omega | (simp [big]; done) | exact le_big (by omega) | exact lt_big (by omega))))
  all_goals first | exact ⟨rfl⟩ | (exfalso; omega)

set_option maxRecDepth 100000 in
set_option maxHeartbeats 20000000 in
theorem unbloop_ok {c c' c2 : Bool} {l sp kp : List Int} {r : Int} (hE : ubE l sp kp r = 0) (h0 : l.length ≠ 0) :
    Fun F md 44 [.sl c l.length (ofI l), .sl c2 kp.length (ofI kp), .sl c' sp.length (ofI sp), .int .i64 r] (.tup [.sl false l.length (ofI (ubD l.length r sp kp l sp.length)), .int .i64 0]) := by
  obtain ⟨q1, hkp⟩ := ubE_ok hE
  have hsp := spliced_ok (c := c) (c' := c') q1
  obtain ⟨e1, hr, hm, hs⟩ := splE_ok q1
  obtain ⟨hL, hlin⟩ := smp_ok e1
  have hs' := spB_mem hs
  have hall := spT_all (n := l.length) (r := r) (sp := sp)
  have hkl : (kp.length : Int) ≤ 240000 := by
    have := spT_range hL hr hs (Nat.le_refl sp.length)
    rw [hall, hkp] at this; omega
  have hlb : (ofI l).length = l.length := ofI_length l
  have hne := eq_nil (c := c) (l := ofI l) h0
  have hq1 : (ofI l).length = l.length * 1 := by rw [hlb, Nat.mul_one]
  have hq2 : (([] : List V).length + (ofI l).length) * (8 + 1) < big := by rw [hlb]; simp [big]; omega
  have hq3 : true = true → scalars (([] : List V) ++ ofI l) = true := fun _ => scal_ints l
  have hcl := fun j => tN_cast (n := l.length) hr hs' j
  have hseg := fun {j : Nat} (hj : j < sp.length) => ubSeg_len (n := l.length) (kp := kp) hr hs' hkp hj
  have hdl := fun {d : Nat} (hd : d ≤ sp.length) => ubD_len (n := l.length) (l := l) (kp := kp) rfl hr hs' hkp hd
  have hSl : (spL l.length r sp).length = sp.length := by simp [spL]
  unfold splV at hsp
  rw [hSl, hkp] at hsp
  have hbk := @back_any (decide (sp.length = 0)) sp.length (ofSp (spL l.length r sp))
  refine fun_of rfl rfl ?_
  repeat' (first
    | (conv => whnf)
      first
      | refine Br.t ?_
      | refine Br.f ?_
      | (refine Br.decT ?_ ?_; (focus first | assumption | omega))
      | (refine Br.decF ?_ ?_; (focus first | assumption | omega))
      | refine Br.dec (fun _ => ?_) (fun _ => ?_)
      | refine Br.not ?_
      | refine Br.and ?_
      | refine Br.or ?_
      | (refine Bnd.i64 ?_ ?_ ?_; (focus omega); (focus omega))
      | refine call_fun rfl rfl hsp (.inl rfl) ?_
      | refine call_one rfl rfl rfl ?_
      | refine Get.mk _ hne ?_
      | refine Req.mk hq1 ?_
      | refine Req.mk hq2 ?_
      | refine Req.mk hq3 ?_
      | refine call_fun rfl rfl hbk (.inl rfl) ?_
      | (refine Idx.nat ?_ ?_; (focus omega))
      | refine Idx.nat (le_big (by omega)) ?_
      | (refine Idx.int ?_ ?_ ?_; (focus omega); (focus omega))
      | (refine Idx.int ?_ ?_ ?_; (focus decide); (focus decide))
      | refine Ifz.zero ?_
      | (refine Ifz.pos ?_ ?_; (focus omega))
      | refine Get.mk _ rfl ?_
      | refine Leaves.of ?_
      | refine Ends.of ?_
      | refine Vw.bool ?_
      | refine Vw.int ?_
      | refine Vw.nil
      | refine Vw.sl
      | refine Vw.tup ?_
      | refine Vw.agg ?_
      | refine VwL.cons ?_ ?_
      | refine VwL.nil
      | refine LeavesF.of ?_
      | refine VwF.bool ?_
      | refine VwF.int ?_
      | refine VwF.nil
      | refine VwF.sl
      | refine VwF.tup ?_
      | refine VwF.agg ?_
      | refine VwLF.cons ?_ ?_
      | refine VwLF.nil
      | (refine Req.mk ?_ ?_; (focus first | rfl | decide | exact ⟨rfl, rfl⟩ | exact ⟨rfl, by decide⟩ | exact (fun _ => rfl) | exact (fun h => nomatch h) | (simp; done) | omega | (simp [big]; done) | exact le_big (by omega) | exact lt_big (by omega))))
  all_goals try (exfalso; omega)
  have htm : tN l.length r sp sp.length = kp.length := by have := hcl sp.length; rw [hall, hkp] at this; omega
  have hD1 : ∀ d, ubD l.length r sp kp l (d + 1) = ubP (ubD l.length r sp kp l d) (ubSeg l.length r sp kp (sp.length - (d + 1))) (spF l.length r (gI sp (sp.length - (d + 1)))).1.toNat := fun d => rfl
  have hD0 : ubD l.length r sp kp l 0 = l := rfl
  have hSg : ∀ j, ubSeg l.length r sp kp j = (kp.drop (tN l.length r sp j)).take ((spF l.length r (gI sp j)).2 - (spF l.length r (gI sp j)).1 + 1).toNat := fun j => rfl
  have hSx : ∀ {j : Nat} (hj : j < sp.length), (spL l.length r sp)[j]'(by rw [hSl]; exact hj) = spF l.length r (gI sp j) := fun hj => by simp [spL, gI_get hj]
  refine LoopP.byU (fun a : Nat × Bool => a.1 ≤ sp.length) (fun a => [(3, .int .i64 ((a.1 : Int) - 1))]) (fun a => [(0, .blk [.sl a.2 (tN l.length r sp a.1) (ofI (kp.take (tN l.length r sp a.1)))] false), (2, .blk (ofI (ubD l.length r sp kp l (sp.length - a.1))) true)]) (fun a => a.1) (sp.length, c2) (Nat.le_refl _) (by rw [htm, List.take_length, Nat.sub_self, hD0]; rfl) ?_
  rintro ⟨j, cf⟩ hj
  dsimp only at hj ⊢
  cases j with
  | zero =>
    have hfin := hdl (Nat.le_refl sp.length)
    rw [Nat.sub_zero]
    generalize ubD l.length r sp kp l sp.length = Z at *
    have hlv : ([] : List V).length + (ofI l).length = Z.length := by rw [hlb, hfin]; simp
    have hlw : 0 + l.length = Z.length := by rw [hfin]; simp
    repeat' (first
      | (conv => whnf)
        first
        | refine Br.t ?_
        | refine Br.f ?_
        | (refine Br.decT ?_ ?_; (focus first | assumption | omega))
        | (refine Br.decF ?_ ?_; (focus first | assumption | omega))
        | refine Br.dec (fun _ => ?_) (fun _ => ?_)
        | refine Br.not ?_
        | refine Br.and ?_
        | refine Br.or ?_
        | (refine Bnd.i64 ?_ ?_ ?_; (focus omega); (focus omega))
        | refine Vw.ints rfl rfl hlv hlw hfin.symm
        | (refine Idx.nat ?_ ?_; (focus omega))
        | refine Idx.nat (le_big (by omega)) ?_
        | (refine Idx.int ?_ ?_ ?_; (focus omega); (focus omega))
        | (refine Idx.int ?_ ?_ ?_; (focus decide); (focus decide))
        | refine Ifz.zero ?_
        | (refine Ifz.pos ?_ ?_; (focus omega))
        | refine Get.mk _ rfl ?_
        | refine Leaves.of ?_
        | refine Ends.of ?_
        | refine Vw.bool ?_
        | refine Vw.int ?_
        | refine Vw.nil
        | refine Vw.sl
        | refine Vw.tup ?_
        | refine Vw.agg ?_
        | refine VwL.cons ?_ ?_
        | refine VwL.nil
        | refine LeavesF.of ?_
        | refine VwF.bool ?_
        | refine VwF.int ?_
        | refine VwF.nil
        | refine VwF.sl
        | refine VwF.tup ?_
        | refine VwF.agg ?_
        | refine VwLF.cons ?_ ?_
        | refine VwLF.nil
        | (refine Req.mk ?_ ?_; (focus first | rfl | decide | exact ⟨rfl, rfl⟩ | exact ⟨rfl, by decide⟩ | exact (fun _ => rfl) | exact (fun h => nomatch h) | (simp; done) | omega | (simp [big]; done) | exact le_big (by omega) | exact lt_big (by omega))))
    all_goals first | rfl | (exfalso; omega)
  | succ j =>
    have hjl : j < sp.length := by omega
    obtain ⟨g1, g2, g3⟩ := hseg hjl
    have hsb := hs' (gI sp j) (by rw [gI_get hjl]; exact List.getElem_mem hjl)
    have hsf := spF_in hr hsb
    have hpt := ofSp_part (l := spL l.length r sp) (i := j) (by rw [hSl]; exact hjl)
    rw [hSx hjl] at hpt
    have hnl := hdl (d := sp.length - (j + 1)) (by omega)
    have hnx := hD1 (sp.length - (j + 1))
    have hSgj := hSg j
    rw [show sp.length - (sp.length - (j + 1) + 1) = j by omega, show sp.length - (j + 1) + 1 = sp.length - j by omega] at hnx
    generalize hN2 : ubD l.length r sp kp l (sp.length - j) = now2 at *
    generalize ubD l.length r sp kp l (sp.length - (j + 1)) = now at *
    generalize hT1 : tN l.length r sp j = T1 at *
    generalize tN l.length r sp (j + 1) = T0 at *
    generalize ubSeg l.length r sp kp j = R at *
    generalize spF l.length r (gI sp j) = s at *
    obtain ⟨xa, xb⟩ := s
    dsimp only at hsf g1 g2 hnx hSgj hpt
    clear hcl hseg hdl hD1 hD0 hSg hSx hall hs'
    obtain ⟨a, rfl⟩ := Int.eq_ofNat_of_zero_le hsf.1
    obtain ⟨b, rfl⟩ := Int.eq_ofNat_of_zero_le (show 0 ≤ xb by omega)
    rw [Int.toNat_natCast] at hnx
    have hR : R.length = T0 - T1 := by omega
    have hTT : IntKind.i64.wrap ((T0 : Int) - ((b : Int) - (a : Int) + 1)) = (T1 : Int) := by rw [wrap_i64 (by omega) (by omega)]; omega
    have hj1 : ((j + 1 : Nat) : Int) - 1 = ((j : Nat) : Int) := by omega
    have hdec : IntKind.i64.wrap (((j + 1 : Nat) : Int) - 1 - 1) = (j : Int) - 1 := by rw [wrap_i64 (by omega) (by omega)]; omega
    have hRk : R = ((kp.take T0).drop T1).take (T0 - T1) := by
      rw [hSgj, List.drop_take, List.take_take, Nat.min_self]
      congr 1; omega
    have hpk : part (ofI (kp.take T0)) (T1 * 1) ((T0 - T1) * 1) = some (ofI R) := by
      rw [hRk]; exact ofI_part (by rw [List.length_take]; omega)
    have hpk2 : part (ofI (kp.take T0)) (0 * 1) ((T1 - 0) * 1) = some (ofI (kp.take T1)) := by
      have := ofI_part (l := kp.take T0) (a := 0) (n := T1 - 0) (by rw [List.length_take]; omega)
      rw [this, List.drop_zero, List.take_take]; congr 3; omega
    have hg0 : (ofI now).length = ([] : List V).length + (ofI l).length := by rw [ofI_length, ofI_length, hnl]; simp
    have hyR : (ofI R).length = (T0 - T1) * 1 := by rw [ofI_length, hR, Nat.mul_one]
    have htk : (ofI R).take (min (T0 - T1) (0 + l.length - a) * 1) = ofI R := List.take_of_length_le (by rw [ofI_length, hR]; omega)
    have hov : over (ofI now) (0 + a * 1) ((ofI R).take (min (T0 - T1) (0 + l.length - a) * 1)) = ofI now2 := by
      rw [htk, Nat.zero_add, ofI_over (by omega), hnx]; rfl
    have hsc : (true = true → scalars ((ofI R).take (min (T0 - T1) (0 + l.length - a) * 1)) = true) ∧ ones ((ofI R).take (min (T0 - T1) (0 + l.length - a) * 1)) = true := by
      rw [htk]; exact ⟨fun _ => scal_ints _, ones_ints _⟩
    have hcq : (ofI now).length = ([] : List V).length + (ofI l).length ∧ 0 + a * 1 + (0 + l.length - a) * 1 ≤ ([] : List V).length + (ofI l).length := by
      refine ⟨hg0, ?_⟩
      rw [ofI_length]; simp; omega
    repeat' (first
      | (conv => whnf)
        first
        | refine Bnd.eq hTT ?_
        | refine Bnd.eq hdec ?_
        | (refine Idx.cast hj1 ?_ ?_; (focus omega))
        | refine Br.t ?_
        | refine Br.f ?_
        | (refine Br.decT ?_ ?_; (focus first | assumption | omega))
        | (refine Br.decF ?_ ?_; (focus first | assumption | omega))
        | refine Br.dec (fun _ => ?_) (fun _ => ?_)
        | refine Br.not ?_
        | refine Br.and ?_
        | refine Br.or ?_
        | (refine Bnd.i64 ?_ ?_ ?_; (focus omega); (focus omega))
        | refine Get.mk _ hpt ?_
        | refine call_yld rfl (Nat.zero_le _) rfl ?_
        | refine ⟨rfl, ?_⟩
        | refine Get.mk _ hpk ?_
        | refine Get.mk _ hpk2 ?_
        | refine Req.mk hg0 ?_
        | refine Req.mk hcq ?_
        | refine Req.mk hsc ?_
        | refine Req.mk hyR ?_
        | (refine Idx.nat ?_ ?_; (focus omega))
        | refine Idx.nat (le_big (by omega)) ?_
        | (refine Idx.int ?_ ?_ ?_; (focus omega); (focus omega))
        | (refine Idx.int ?_ ?_ ?_; (focus decide); (focus decide))
        | refine Ifz.zero ?_
        | (refine Ifz.pos ?_ ?_; (focus omega))
        | refine Get.mk _ rfl ?_
        | refine Leaves.of ?_
        | refine Ends.of ?_
        | refine Vw.bool ?_
        | refine Vw.int ?_
        | refine Vw.nil
        | refine Vw.sl
        | refine Vw.tup ?_
        | refine Vw.agg ?_
        | refine VwL.cons ?_ ?_
        | refine VwL.nil
        | refine LeavesF.of ?_
        | refine VwF.bool ?_
        | refine VwF.int ?_
        | refine VwF.nil
        | refine VwF.sl
        | refine VwF.tup ?_
        | refine VwF.agg ?_
        | refine VwLF.cons ?_ ?_
        | refine VwLF.nil
        | (refine Req.mk ?_ ?_; (focus first | rfl | decide | exact ⟨rfl, rfl⟩ | exact ⟨rfl, by decide⟩ | exact (fun _ => rfl) | exact (fun h => nomatch h) | (simp; done) | omega | (simp [big]; done) | exact le_big (by omega) | exact lt_big (by omega))))
    all_goals first | exact NextP.mk (j, cf && decide (T1 = T0)) (by dsimp only; omega) (by dsimp only; omega) (by dsimp only; rw [hN2, hT1, ← hov]; rfl) | (exfalso; omega)

end Go.Dr.T
