/- Chapter 07: the law of Masks. -/
import Derived.Test.YtigcchafpenhiaaR07Ma
import Derived.Test.YtigcchafpenhiaaR07Dk
namespace Go.Dr.T

theorem part4 (s : Spt) (B : List V) : part (P5 s ++ B) 0 4 = some [.int .i64 s.x1, .int .i64 s.x2, .int .i64 s.y1, .int .i64 s.y2] := by cases B <;> rfl
theorem spt_cells {S : List Spt} {m : Nat} (hm : m < S.length) : part (ofSpt S) (m * 5 + 0) 4 = some [.int .i64 S[m].x1, .int .i64 S[m].x2, .int .i64 S[m].y1, .int .i64 S[m].y2] ∧ cellAt (ofSpt S) (m * 5 + 4) = some (.int .i64 S[m].n) := by
  obtain ⟨A, B, hA, hof, -, -⟩ := ofSpt_split hm
  rw [hof]
  constructor
  · rw [show m * 5 + 0 = A.length + 0 by omega, part_app, part4]
  · rw [show m * 5 + 4 = A.length + 4 by omega, cellAt_app2]; rfl

set_option maxRecDepth 100000 in
set_option maxHeartbeats 20000000 in
theorem masks_bad {w h : Int} {c : Bool} {l : List UInt8} {b0 b1 g0 g1 : Int} {w1 h1 w2 h2 : Int} {c1 c2 : Bool} {l1 l2 : List UInt8} {e1 e2 : Int}
    (hm1 : Fun F md 33 [frV w h c l, .int .i64 (min b0 b1), .int .i64 (min g0 g1)] (.tup [frV w1 h1 c1 l1, .int .i64 e1]))
    (hm2 : Fun F md 33 [frV w h c l, .int .i64 (max b0 b1), .int .i64 (max g0 g1)] (.tup [frV w2 h2 c2 l2, .int .i64 e2])) (he : e1 ≠ 0 ∨ e2 ≠ 0) :
    Fun F md 11 [frV w h c l, .agg [.int .i64 b0, .int .i64 b1], .agg [.int .i64 g0, .int .i64 g1]] (.bool true) := by
  refine fun_of rfl rfl ?_
  repeat' (first
    | (conv => whnf)
      first
      | refine Br.t ?_
      | refine Br.f ?_
      | (refine Br.decT ?_ ?_; (focus first | assumption | omega))
      | (refine Br.decF ?_ ?_; (focus first | assumption | omega))
      | refine Br.dec (fun _ => ?_) (fun _ => ?_)
      | refine Br.not ?_
      | refine Br.and ?_
      | refine Br.or ?_
      | (refine Bnd.i64 ?_ ?_ ?_; (focus omega); (focus omega))
      | refine call_fun rfl rfl hm1 (.inl rfl) ?_
      | refine call_fun rfl rfl hm2 (.inl rfl) ?_
      | refine call_fun rfl rfl (checkR_any _ _ _ _) (.inl rfl) ?_
      | refine call_fun rfl rfl awake (.inl rfl) ?_
      | refine Bnd.any ?_
      | (refine Idx.nat ?_ ?_; (focus omega))
      | refine Idx.nat (le_big (by omega)) ?_
      | (refine Idx.int ?_ ?_ ?_; (focus omega); (focus omega))
      | (refine Idx.int ?_ ?_ ?_; (focus decide); (focus decide))
      | refine Ifz.zero ?_
      | (refine Ifz.pos ?_ ?_; (focus omega))
      | refine Get.mk _ rfl ?_
      | refine Leaves.of ?_
      | refine Ends.of ?_
      | refine Vw.bool ?_
      | refine Vw.int ?_
      | refine Vw.nil
      | refine Vw.sl
      | refine Vw.tup ?_
      | refine Vw.agg ?_
      | refine VwL.cons ?_ ?_
      | refine VwL.nil
      | refine LeavesF.of ?_
      | refine VwF.bool ?_
      | refine VwF.int ?_
      | refine VwF.nil
      | refine VwF.sl
      | refine VwF.tup ?_
      | refine VwF.agg ?_
      | refine VwLF.cons ?_ ?_
      | refine VwLF.nil
      | (refine Req.mk ?_ ?_; (focus first | rfl | decide | exact ⟨rfl, rfl⟩ | exact ⟨rfl, by decide⟩ | exact (fun _ => rfl) | exact (fun h => nomatch h) | (simp; done) | omega | (simp [big]; done) | exact le_big (by omega) | exact lt_big (by omega))))
  all_goals first | rfl | (exfalso; omega)

set_option maxRecDepth 100000 in
set_option maxHeartbeats 40000000 in
theorem masks_ok {W H : Nat} {c : Bool} {l : List UInt8} (h1 : 1 ≤ W) (h2 : W ≤ 48) (h3 : 1 ≤ H) (h4 : H ≤ 48) (hl : l.length = W * H) {b0 b1 g0 g1 : Int} (hb0 : 0 ≤ b0 ∧ b0 ≤ 256) (hb1 : 0 ≤ b1 ∧ b1 ≤ 256) (hg0 : 0 ≤ g0 ∧ g0 ≤ 12) (hg1 : 0 ≤ g1 ∧ g1 ≤ 12) :
    Fun F md 11 [frV W H c l, .agg [.int .i64 b0, .int .i64 b1], .agg [.int .i64 g0, .int .i64 g1]] (.bool true) := by
  have hn : 1 ≤ W * H ∧ W * H ≤ 2304 := by have := area_le (w := W) (h := H) (by omega) (by omega) (by omega) (by omega); omega
  have hm1 := dust_ok (c := c) (w := min b0 b1) (g := min g0 g1) h1 h2 h3 h4 hl (by omega) (by omega)
  have hm2 := dust_ok (c := c) (w := max b0 b1) (g := max g0 g1) h1 h2 h3 h4 hl (by omega) (by omega)
  have hcf := checkR_any W H c l
  rw [check_ok h1 h2 h3 h4 hl] at hcf
  have hlA : (genL (duAt W H l (min b0 b1) (min g0 g1)) (W * H)).length = W * H := genL_length _ _
  have hlB : (genL (duAt W H l (max b0 b1) (max g0 g1)) (W * H)).length = W * H := genL_length _ _
  have hfact : ∀ i (_ : i < W * H) (h1 : i < (genL (duAt W H l (min b0 b1) (min g0 g1)) (W * H)).length) (h2 : i < (genL (duAt W H l (max b0 b1) (max g0 g1)) (W * H)).length) (h3 : i < l.length),
      ((genL (duAt W H l (min b0 b1) (min g0 g1)) (W * H))[i].toNat = 0 ∨ (genL (duAt W H l (min b0 b1) (min g0 g1)) (W * H))[i].toNat = 255) ∧
      ((genL (duAt W H l (min b0 b1) (min g0 g1)) (W * H))[i].toNat ≠ 0 → (genL (duAt W H l (max b0 b1) (max g0 g1)) (W * H))[i].toNat ≠ 0) ∧
      ((l[i].toNat : Int) < min b0 b1 → (genL (duAt W H l (min b0 b1) (min g0 g1)) (W * H))[i].toNat ≠ 0) := by
    intro i hi q1 q2 q3
    rw [genL_at q1, genL_at q2]
    refine ⟨duAt_two, duAt_mono (by omega) (by omega), fun h => duAt_self h1 hl hi (by omega) ?_⟩
    rw [List.getD_eq_getElem?_getD, List.getElem?_eq_getElem q3]; exact h
  generalize genL (duAt W H l (min b0 b1) (min g0 g1)) (W * H) = la at *
  generalize genL (duAt W H l (max b0 b1) (max g0 g1)) (W * H) = lb at *
  have hca := checkR_any W H false la
  rw [check_ok h1 h2 h3 h4 hlA] at hca
  have hsp := spots_ok (c := false) h1 h2 h3 h4 hlA
  have hpa := parts_ok (c := false) h1 h2 h3 h4 hlA
  have hcp := csF_cp (W := W) (H := H) hlA hn.2 (by omega) (W * H)
  have hCl := csF_len (W := W) (H := H) hlA hn.2 (by omega) (W * H)
  rw [Nat.mul_comm H W] at hsp
  rw [hlA] at hpa
  generalize hCs : csF W H la (W * H) = Cs at *
  have hmany := hcp.many
  have hspot := fun (m : Nat) (hm : m < Cs.length) (hs : m < (spS W H la (W * H)).2.length) => hcp.spot hm hs
  generalize hSS : (spS W H la (W * H)).2 = S at *
  have hW0 : (W : Int) ≠ 0 := by omega
  refine fun_of rfl rfl ?_
  repeat' (first
    | (conv => whnf)
      first
      | refine Br.t ?_
      | refine Br.f ?_
      | (refine Br.decT ?_ ?_; (focus first | assumption | omega))
      | (refine Br.decF ?_ ?_; (focus first | assumption | omega))
      | refine Br.dec (fun _ => ?_) (fun _ => ?_)
      | refine Br.not ?_
      | refine Br.and ?_
      | refine Br.or ?_
      | (refine Bnd.i64 ?_ ?_ ?_; (focus omega); (focus omega))
      | refine call_fun rfl rfl hm1 (.inl rfl) ?_
      | refine call_fun rfl rfl hm2 (.inl rfl) ?_
      | refine call_fun rfl rfl hcf (.inl rfl) ?_
      | refine call_fun rfl rfl hca (.inl rfl) ?_
      | refine call_fun rfl rfl hsp (.inl rfl) ?_
      | refine call_fun rfl rfl hpa (.inl rfl) ?_
      | (refine Idx.nat ?_ ?_; (focus simp only [big]; omega))
      | refine Bnd.any ?_
      | (refine Idx.nat ?_ ?_; (focus omega))
      | refine Idx.nat (le_big (by omega)) ?_
      | (refine Idx.int ?_ ?_ ?_; (focus omega); (focus omega))
      | (refine Idx.int ?_ ?_ ?_; (focus decide); (focus decide))
      | refine Ifz.zero ?_
      | (refine Ifz.pos ?_ ?_; (focus omega))
      | refine Get.mk _ rfl ?_
      | refine Leaves.of ?_
      | refine Ends.of ?_
      | refine Vw.bool ?_
      | refine Vw.int ?_
      | refine Vw.nil
      | refine Vw.sl
      | refine Vw.tup ?_
      | refine Vw.agg ?_
      | refine VwL.cons ?_ ?_
      | refine VwL.nil
      | refine LeavesF.of ?_
      | refine VwF.bool ?_
      | refine VwF.int ?_
      | refine VwF.nil
      | refine VwF.sl
      | refine VwF.tup ?_
      | refine VwF.agg ?_
      | refine VwLF.cons ?_ ?_
      | refine VwLF.nil
      | (refine Req.mk ?_ ?_; (focus first | rfl | decide | exact ⟨rfl, rfl⟩ | exact ⟨rfl, by decide⟩ | exact (fun _ => rfl) | exact (fun h => nomatch h) | (simp; done) | omega | (simp [big]; done) | exact le_big (by omega) | exact lt_big (by omega))))
  all_goals try (exfalso; omega)
  clear hm1 hm2 hcf hca hsp hpa
  have hcell0 := fun (i : Nat) (hi : i < W * H) => gI_cell (l := lbA Cs (W * H)) (i := i) (by rw [lbA_length]; exact hi)
  have hbx : [B.blk [.int .i64 W, .int .i64 H, .sl c l.length (ofBytes l)] false, .blk [.int .i64 b0, .int .i64 b1] false, .blk [.int .i64 g0, .int .i64 g1] false, .blk [.int .i64 W, .int .i64 H, .sl false la.length (ofBytes la)] false, .blk [.int .i64 W, .int .i64 H, .sl false lb.length (ofBytes lb)] false, .blk (reps S.length [.int .i64 0]) true]
      = [B.blk [.int .i64 W, .int .i64 H, .sl c l.length (ofBytes l)] false, .blk [.int .i64 b0, .int .i64 b1] false, .blk [.int .i64 g0, .int .i64 g1] false, .blk [.int .i64 W, .int .i64 H, .sl false la.length (ofBytes la)] false, .blk [.int .i64 W, .int .i64 H, .sl false lb.length (ofBytes lb)] false, .blk (ofI (acc (fun k => (cnt Cs 0 k : Int)) Cs.length)) true] := by
    rw [reps_int, hmany, show List.replicate Cs.length (0 : Int) = acc (fun k => (cnt Cs 0 k : Int)) Cs.length from by
      refine List.ext_getElem (by simp [acc]) fun j h3 h4 => ?_
      simp [acc, cnt]]
  have hs0 : sumC (cnt Cs 0) Cs.length = 0 := by
    have : ∀ n, sumC (cnt Cs 0) n = 0 := by
      intro n
      induction n with
      | zero => rfl
      | succ n ih => simp only [sumC, ih]; rfl
    exact this _
  refine LoopP.by (fun i : Nat => i ≤ W * H ∧ sumC (cnt Cs i) Cs.length ≤ i) (fun i => [(12, .int .i64 (sumC (cnt Cs i) Cs.length : Nat)), (15, .int .i64 (i : Nat))]) (fun i => [B.blk [.int .i64 W, .int .i64 H, .sl c l.length (ofBytes l)] false, .blk [.int .i64 b0, .int .i64 b1] false, .blk [.int .i64 g0, .int .i64 g1] false, .blk [.int .i64 W, .int .i64 H, .sl false la.length (ofBytes la)] false, .blk [.int .i64 W, .int .i64 H, .sl false lb.length (ofBytes lb)] false, .blk (ofI (acc (fun k => (cnt Cs i k : Int)) Cs.length)) true]) (fun i => W * H - i) 0 ⟨Nat.zero_le _, ?_⟩ ?_ ?_
  · rw [hs0]; exact Nat.le_refl _
  · rw [← hbx, hs0]
    rfl
  clear hbx hs0
  intro i ⟨hi, hsi⟩
  by_cases hin : i < W * H
  · have hia : i < la.length := by omega
    have hib : i < lb.length := by omega
    have hil : i < l.length := by omega
    obtain ⟨f1, f2, f3⟩ := hfact i hin hia hib hil
    have ca := cell_u8 hia
    have cb := cell_u8 hib
    have cl := cell_u8 hil
    have la1 := la[i].toNat_lt
    have lb1 := lb[i].toNat_lt
    have ll1 := l[i].toNat_lt
    have hco := hcell0 i hin
    rw [lbA_at hin] at hco
    generalize la[i].toNat = av at *
    generalize lb[i].toNat = bv at *
    generalize l[i].toNat = lv at *
    clear hfact
    by_cases hneg : labG Cs 0 i < 0
    · obtain ⟨q1, q2⟩ := hcp.cnt_none hneg
      have hac : ofI (acc (fun k => (cnt Cs (i + 1) k : Int)) Cs.length) = ofI (acc (fun k => (cnt Cs i k : Int)) Cs.length) := congrArg ofI (acc_congr fun k hk => by simp only [q1 k hk])
      generalize labG Cs 0 i = lab at *
      generalize ofI (acc (fun k => (cnt Cs i k : Int)) Cs.length) = D at *
      generalize sumC (cnt Cs i) Cs.length = sm at *
      repeat' (first
        | (conv => whnf)
          first
          | refine Br.t ?_
          | refine Br.f ?_
          | (refine Br.decT ?_ ?_; (focus first | assumption | omega))
          | (refine Br.decF ?_ ?_; (focus first | assumption | omega))
          | refine Br.dec (fun _ => ?_) (fun _ => ?_)
          | refine Br.not ?_
          | refine Br.and ?_
          | refine Br.or ?_
          | (refine Bnd.i64 ?_ ?_ ?_; (focus omega); (focus omega))
          | refine Get.mk _ ca ?_
          | refine Get.mk _ cb ?_
          | refine Get.mk _ cl ?_
          | refine Get.mk _ hco ?_
          | refine Bnd.any ?_
          | (refine Idx.nat ?_ ?_; (focus omega))
          | refine Idx.nat (le_big (by omega)) ?_
          | (refine Idx.int ?_ ?_ ?_; (focus omega); (focus omega))
          | (refine Idx.int ?_ ?_ ?_; (focus decide); (focus decide))
          | refine Ifz.zero ?_
          | (refine Ifz.pos ?_ ?_; (focus omega))
          | refine Get.mk _ rfl ?_
          | refine Leaves.of ?_
          | refine Ends.of ?_
          | refine Vw.bool ?_
          | refine Vw.int ?_
          | refine Vw.nil
          | refine Vw.sl
          | refine Vw.tup ?_
          | refine Vw.agg ?_
          | refine VwL.cons ?_ ?_
          | refine VwL.nil
          | refine LeavesF.of ?_
          | refine VwF.bool ?_
          | refine VwF.int ?_
          | refine VwF.nil
          | refine VwF.sl
          | refine VwF.tup ?_
          | refine VwF.agg ?_
          | refine VwLF.cons ?_ ?_
          | refine VwLF.nil
          | (refine Req.mk ?_ ?_; (focus first | rfl | decide | exact ⟨rfl, rfl⟩ | exact ⟨rfl, by decide⟩ | exact (fun _ => rfl) | exact (fun h => nomatch h) | (simp; done) | omega | (simp [big]; done) | exact le_big (by omega) | exact lt_big (by omega))))
      all_goals first | exact NextP.mk (i + 1) ⟨by omega, by omega⟩ (by omega) (by rw [q2, hac]; rfl) | (exfalso; omega)
    · obtain ⟨m, hm, e, hmem⟩ := labG_inv hneg
      rw [← getD_eq hm] at hmem
      rw [Nat.zero_add] at e
      rw [e] at hco
      obtain ⟨q1, q2, q3⟩ := hcp.cnt_some hm hmem
      have hmS : m < S.length := by omega
      obtain ⟨hp4, -⟩ := spt_cells hmS
      rw [hspot m hm hmS] at hp4
      obtain ⟨ar1, ar2, ar3, ar4⟩ := spot_area (W := W) hmem
      have hqm : ((i : Nat) : Int).tmod (W : Int) = ((i % W : Nat) : Int) := Int.ofNat_tmod _ _
      have hqe : ((i : Nat) : Int).tdiv (W : Int) = ((i / W : Nat) : Int) := Int.ofNat_tdiv _ _
      have hXl : i % W < W := Nat.mod_lt _ (by omega)
      have hYl : i / W ≤ i := Nat.div_le_self _ _
      generalize hXe : i % W = X at *
      generalize hYe : i / W = Y at *
      have hqd : IntKind.i64.wrap (((i : Nat) : Int).tdiv (W : Int)) = (Y : Int) := by rw [hqe]; exact wrap_i64 (by omega) (by omega)
      generalize spotC W (Cs.getD m (0, [])) = sp at *
      obtain ⟨x1, x2, y1, y2, pn⟩ := sp
      dsimp only at hp4 ar1 ar2 ar3 ar4
      have hcm : cnt Cs i m ≤ i := cnt_le _ _ _
      have hse := gI_cell0 (l := acc (fun k => (cnt Cs i k : Int)) Cs.length) (i := m) (by rw [acc_length]; exact hm)
      rw [acc_at hm] at hse
      have hput := ofI_put0 (l := acc (fun k => (cnt Cs i k : Int)) Cs.length) (i := m) (v := (cnt Cs i m : Int) + 1) (by rw [acc_length]; exact hm)
      rw [acc_set (f := fun k => (cnt Cs i k : Int)) (g := fun k => (cnt Cs (i + 1) k : Int)) hm (by show ((cnt Cs (i + 1) m : Nat) : Int) = _; rw [q1]; push_cast; rfl) (fun k hk hne => by show ((cnt Cs (i + 1) k : Nat) : Int) = _; rw [q2 k hk hne])] at hput
      have hseL : (ofI (acc (fun k => (cnt Cs i k : Int)) Cs.length)).length = S.length * 1 := by rw [ofI_length, acc_length]; omega
      have hseM : 0 + m * 1 + 1 ≤ (ofI (acc (fun k => (cnt Cs i k : Int)) Cs.length)).length := by rw [hseL]; omega
      have hsm : (sumC (cnt Cs (i + 1)) Cs.length : Int) = (sumC (cnt Cs i) Cs.length : Int) + 1 := by rw [q3]; push_cast; rfl
      generalize ofI (acc (fun k => (cnt Cs i k : Int)) Cs.length) = D at *
      generalize sumC (cnt Cs i) Cs.length = sm at *
      generalize cnt Cs i m = cn at *
      repeat' (first
        | (conv => whnf)
          first
          | refine Bnd.eq hqd ?_
          | refine Bnd.eq hqm ?_
          | refine Br.t ?_
          | refine Br.f ?_
          | (refine Br.decT ?_ ?_; (focus first | assumption | omega))
          | (refine Br.decF ?_ ?_; (focus first | assumption | omega))
          | refine Br.dec (fun _ => ?_) (fun _ => ?_)
          | refine Br.not ?_
          | refine Br.and ?_
          | refine Br.or ?_
          | (refine Bnd.i64 ?_ ?_ ?_; (focus omega); (focus omega))
          | refine Req.mk hW0 ?_
          | refine Get.mk _ ca ?_
          | refine Get.mk _ cb ?_
          | refine Get.mk _ cl ?_
          | refine Get.mk _ hco ?_
          | refine Get.mk _ hp4 ?_
          | refine Get.mk _ hse ?_
          | refine fVe hput ?_
          | refine Req.mk hseL ?_
          | refine Req.mk ⟨hseL, hseM⟩ ?_
          | refine Bnd.any ?_
          | (refine Idx.nat ?_ ?_; (focus omega))
          | refine Idx.nat (le_big (by omega)) ?_
          | (refine Idx.int ?_ ?_ ?_; (focus omega); (focus omega))
          | (refine Idx.int ?_ ?_ ?_; (focus decide); (focus decide))
          | refine Ifz.zero ?_
          | (refine Ifz.pos ?_ ?_; (focus omega))
          | refine Get.mk _ rfl ?_
          | refine Leaves.of ?_
          | refine Ends.of ?_
          | refine Vw.bool ?_
          | refine Vw.int ?_
          | refine Vw.nil
          | refine Vw.sl
          | refine Vw.tup ?_
          | refine Vw.agg ?_
          | refine VwL.cons ?_ ?_
          | refine VwL.nil
          | refine LeavesF.of ?_
          | refine VwF.bool ?_
          | refine VwF.int ?_
          | refine VwF.nil
          | refine VwF.sl
          | refine VwF.tup ?_
          | refine VwF.agg ?_
          | refine VwLF.cons ?_ ?_
          | refine VwLF.nil
          | (refine Req.mk ?_ ?_; (focus first | rfl | decide | exact ⟨rfl, rfl⟩ | exact ⟨rfl, by decide⟩ | exact (fun _ => rfl) | exact (fun h => nomatch h) | (simp; done) | omega | (simp [big]; done) | exact le_big (by omega) | exact lt_big (by omega))))
      all_goals first | exact NextP.mk (i + 1) ⟨by omega, by omega⟩ (by omega) (by rw [hsm]; rfl) | (exfalso; omega)
  · obtain rfl : i = W * H := by omega
    have hall := fun (m : Nat) (hm : m < Cs.length) => hcp.cnt_all hm
    have hac := fun (m : Nat) (hm : m < Cs.length) => gI_cell0 (l := acc (fun k => (cnt Cs (W * H) k : Int)) Cs.length) (i := m) (by rw [acc_length]; exact hm)
    have hseL : (ofI (acc (fun k => (cnt Cs (W * H) k : Int)) Cs.length)).length = S.length * 1 := by rw [ofI_length, acc_length]; omega
    have hat := fun (m : Nat) (hm : m < Cs.length) => acc_at (f := fun k => (cnt Cs (W * H) k : Int)) hm
    clear hcell0 hfact hcp hCs
    generalize ofI (acc (fun k => (cnt Cs (W * H) k : Int)) Cs.length) = D at *
    generalize acc (fun k => (cnt Cs (W * H) k : Int)) Cs.length = D0 at *
    generalize cnt Cs (W * H) = cf at *
    repeat' (first
      | (conv => whnf)
        first
        | refine Br.t ?_
        | refine Br.f ?_
        | (refine Br.decT ?_ ?_; (focus first | assumption | omega))
        | (refine Br.decF ?_ ?_; (focus first | assumption | omega))
        | refine Br.dec (fun _ => ?_) (fun _ => ?_)
        | refine Br.not ?_
        | refine Br.and ?_
        | refine Br.or ?_
        | (refine Bnd.i64 ?_ ?_ ?_; (focus omega); (focus omega))
        | refine Bnd.any ?_
        | (refine Idx.nat ?_ ?_; (focus omega))
        | refine Idx.nat (le_big (by omega)) ?_
        | (refine Idx.int ?_ ?_ ?_; (focus omega); (focus omega))
        | (refine Idx.int ?_ ?_ ?_; (focus decide); (focus decide))
        | refine Ifz.zero ?_
        | (refine Ifz.pos ?_ ?_; (focus omega))
        | refine Get.mk _ rfl ?_
        | refine Leaves.of ?_
        | refine Ends.of ?_
        | refine Vw.bool ?_
        | refine Vw.int ?_
        | refine Vw.nil
        | refine Vw.sl
        | refine Vw.tup ?_
        | refine Vw.agg ?_
        | refine VwL.cons ?_ ?_
        | refine VwL.nil
        | refine LeavesF.of ?_
        | refine VwF.bool ?_
        | refine VwF.int ?_
        | refine VwF.nil
        | refine VwF.sl
        | refine VwF.tup ?_
        | refine VwF.agg ?_
        | refine VwLF.cons ?_ ?_
        | refine VwLF.nil
        | (refine Req.mk ?_ ?_; (focus first | rfl | decide | exact ⟨rfl, rfl⟩ | exact ⟨rfl, by decide⟩ | exact (fun _ => rfl) | exact (fun h => nomatch h) | (simp; done) | omega | (simp [big]; done) | exact le_big (by omega) | exact lt_big (by omega))))
    all_goals try (exfalso; omega)
    refine LoopP.by (fun i : Nat => i ≤ Cs.length) (fun i => [(12, .int .i64 ((sumC cf Cs.length : Int) - (sumC cf i : Int))), (19, .int .i64 (i : Nat))]) (fun _ => [B.blk [.int .i64 W, .int .i64 H, .sl c l.length (ofBytes l)] false, .blk [.int .i64 b0, .int .i64 b1] false, .blk [.int .i64 g0, .int .i64 g1] false, .blk [.int .i64 W, .int .i64 H, .sl false la.length (ofBytes la)] false, .blk [.int .i64 W, .int .i64 H, .sl false lb.length (ofBytes lb)] false, .blk D true]) (fun i => Cs.length - i) 0 (Nat.zero_le _) (by rw [show (sumC cf Cs.length : Int) - (sumC cf 0 : Int) = (sumC cf Cs.length : Int) by simp [sumC]]; rfl) ?_
    intro i hi
    have hle := sumC_mono (f := cf) hi
    by_cases hiC : i < Cs.length
    · have hiS : i < S.length := by omega
      obtain ⟨-, hn5⟩ := spt_cells hiS
      obtain ⟨a1, a2⟩ := hall i hiC
      rw [hspot i hiC hiS, a1] at hn5
      have hse := hac i hiC
      rw [hat i hiC] at hse
      have hle1 := sumC_mono (f := cf) (n := Cs.length) (m := i + 1) hiC
      have hs1 : sumC cf (i + 1) = sumC cf i + cf i := rfl
      have hnx : (sumC cf Cs.length : Int) - (sumC cf (i + 1) : Int) = (sumC cf Cs.length : Int) - (sumC cf i : Int) - (cf i : Int) := by rw [hs1]; omega
      rw [hs1] at hle1
      clear hall hac hat hspot hs1
      generalize hsj : sumC cf i = sj at *
      generalize cf i = ci at *
      generalize hsk : sumC cf Cs.length = sk at *
      repeat' (first
        | (conv => whnf)
          first
          | refine Br.t ?_
          | refine Br.f ?_
          | (refine Br.decT ?_ ?_; (focus first | assumption | omega))
          | (refine Br.decF ?_ ?_; (focus first | assumption | omega))
          | refine Br.dec (fun _ => ?_) (fun _ => ?_)
          | refine Br.not ?_
          | refine Br.and ?_
          | refine Br.or ?_
          | (refine Bnd.i64 ?_ ?_ ?_; (focus omega); (focus omega))
          | refine Get.mk _ hn5 ?_
          | refine Get.mk _ hse ?_
          | refine Req.mk hseL ?_
          | refine Bnd.any ?_
          | (refine Idx.nat ?_ ?_; (focus omega))
          | refine Idx.nat (le_big (by omega)) ?_
          | (refine Idx.int ?_ ?_ ?_; (focus omega); (focus omega))
          | (refine Idx.int ?_ ?_ ?_; (focus decide); (focus decide))
          | refine Ifz.zero ?_
          | (refine Ifz.pos ?_ ?_; (focus omega))
          | refine Get.mk _ rfl ?_
          | refine Leaves.of ?_
          | refine Ends.of ?_
          | refine Vw.bool ?_
          | refine Vw.int ?_
          | refine Vw.nil
          | refine Vw.sl
          | refine Vw.tup ?_
          | refine Vw.agg ?_
          | refine VwL.cons ?_ ?_
          | refine VwL.nil
          | refine LeavesF.of ?_
          | refine VwF.bool ?_
          | refine VwF.int ?_
          | refine VwF.nil
          | refine VwF.sl
          | refine VwF.tup ?_
          | refine VwF.agg ?_
          | refine VwLF.cons ?_ ?_
          | refine VwLF.nil
          | (refine Req.mk ?_ ?_; (focus first | rfl | decide | exact ⟨rfl, rfl⟩ | exact ⟨rfl, by decide⟩ | exact (fun _ => rfl) | exact (fun h => nomatch h) | (simp; done) | omega | (simp [big]; done) | exact le_big (by omega) | exact lt_big (by omega))))
      all_goals first | exact NextP.mk (i + 1) (by omega) (by omega) (by rw [hnx]; rfl) | (exfalso; omega)
    · obtain rfl : i = Cs.length := by omega
      generalize sumC cf Cs.length = sk at *
      repeat' (first
        | (conv => whnf)
          first
          | refine Br.t ?_
          | refine Br.f ?_
          | (refine Br.decT ?_ ?_; (focus first | assumption | omega))
          | (refine Br.decF ?_ ?_; (focus first | assumption | omega))
          | refine Br.dec (fun _ => ?_) (fun _ => ?_)
          | refine Br.not ?_
          | refine Br.and ?_
          | refine Br.or ?_
          | (refine Bnd.i64 ?_ ?_ ?_; (focus omega); (focus omega))
          | refine call_fun rfl rfl awake (.inl rfl) ?_
          | (refine Idx.nat ?_ ?_; (focus omega))
          | refine Idx.nat (le_big (by omega)) ?_
          | (refine Idx.int ?_ ?_ ?_; (focus omega); (focus omega))
          | (refine Idx.int ?_ ?_ ?_; (focus decide); (focus decide))
          | refine Ifz.zero ?_
          | (refine Ifz.pos ?_ ?_; (focus omega))
          | refine Get.mk _ rfl ?_
          | refine Leaves.of ?_
          | refine Ends.of ?_
          | refine Vw.bool ?_
          | refine Vw.int ?_
          | refine Vw.nil
          | refine Vw.sl
          | refine Vw.tup ?_
          | refine Vw.agg ?_
          | refine VwL.cons ?_ ?_
          | refine VwL.nil
          | refine LeavesF.of ?_
          | refine VwF.bool ?_
          | refine VwF.int ?_
          | refine VwF.nil
          | refine VwF.sl
          | refine VwF.tup ?_
          | refine VwF.agg ?_
          | refine VwLF.cons ?_ ?_
          | refine VwLF.nil
          | (refine Req.mk ?_ ?_; (focus first | rfl | decide | exact ⟨rfl, rfl⟩ | exact ⟨rfl, by decide⟩ | exact (fun _ => rfl) | exact (fun h => nomatch h) | (simp; done) | omega | (simp [big]; done) | exact le_big (by omega) | exact lt_big (by omega))))
      all_goals first | rfl | (exfalso; omega)

theorem dusts_e (w h : Int) (c : Bool) (l : List UInt8) (b g : Int) (hbad : ¬ (checkL w h l.length = 0 ∧ 0 ≤ b ∧ b ≤ 256 ∧ 0 ≤ g ∧ g ≤ 12)) : ∃ e, e ≠ 0 ∧ Fun F md 33 [frV w h c l, .int .i64 b, .int .i64 g] (.tup [frV 0 0 true [], .int .i64 e]) := by
  by_cases hck : checkL w h l.length = 0
  · exact ⟨7, by decide, dust_far hck fun h => hbad ⟨hck, h⟩⟩
  · exact ⟨_, hck, dust_bad hck _ _⟩
theorem dusts_some (w h : Int) (c : Bool) (l : List UInt8) (b g : Int) : ∃ w' h' c' l' e, Fun F md 33 [frV w h c l, .int .i64 b, .int .i64 g] (.tup [frV w' h' c' l', .int .i64 e]) := by
  obtain ⟨w', h', c', l', e, hm, -⟩ := dusts_any w h c l b g
  exact ⟨w', h', c', l', e, hm⟩

theorem law_masks (w h : Int) (c : Bool) (l : List UInt8) (b0 b1 g0 g1 : Int) : Fun F md 11 [frV w h c l, .agg [.int .i64 b0, .int .i64 b1], .agg [.int .i64 g0, .int .i64 g1]] (.bool true) := by
  by_cases h1 : checkL w h l.length = 0 ∧ 0 ≤ min b0 b1 ∧ min b0 b1 ≤ 256 ∧ 0 ≤ min g0 g1 ∧ min g0 g1 ≤ 12
  · by_cases h2 : checkL w h l.length = 0 ∧ 0 ≤ max b0 b1 ∧ max b0 b1 ≤ 256 ∧ 0 ≤ max g0 g1 ∧ max g0 g1 ≤ 12
    · obtain ⟨W, H, rfl, rfl, q1, q2, q3, q4, hl⟩ := checkL_zeroD h1.1
      exact masks_ok q1 q2 q3 q4 hl (by omega) (by omega) (by omega) (by omega)
    · obtain ⟨e2, he, hm2⟩ := dusts_e w h c l _ _ h2
      obtain ⟨w', h', c', l', e, hm1⟩ := dusts_some w h c l (min b0 b1) (min g0 g1)
      exact masks_bad hm1 hm2 (.inr he)
  · obtain ⟨e1, he, hm1⟩ := dusts_e w h c l _ _ h1
    obtain ⟨w', h', c', l', e, hm2⟩ := dusts_some w h c l (max b0 b1) (max g0 g1)
    exact masks_bad hm1 hm2 (.inl he)

end Go.Dr.T
