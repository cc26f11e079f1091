/- Chapter 09: the law SoundSlip. -/
import Derived.Test.YtokbdaiamhibeaaR09Sq
namespace Go.Dr.T

structure SlS where
  i : Nat
  H : List B
  v : V
  cur : List Int
def RepS (H : List B) (v : V) (cur : List Int) : Prop := (v = .sl true 0 [] ∧ cur = []) ∨ ∃ id, v = .ms 1 id cur.length 0 cur.length false ∧ bget H id = some (.blk (ofI cur) true)
def SlP (bx : B) (N : Nat) (l : List (Int × Int)) (a : SlS) : Prop := a.i ≤ l.length ∧ 2 ≤ a.H.length ∧ bget a.H 0 = some bx ∧ RepS a.H a.v a.cur ∧ (cutsE a.cur.length (l.drop a.i)).2 = 0 ∧ cutL a.cur (l.drop a.i) = cutL (idL N) l ∧ a.cur.length ≤ 400
theorem norm_self {m : List Bool} {tm : List V} {h : List B} : norm m h.length ⟨tm, h⟩ = ⟨masked m tm, h⟩ := by
  simp only [norm, trunc, Nat.sub_self, strip]

theorem Ifz.z {n : Nat} {P Q : Prop} (hn : n = 0) (h : P) : Ifz n P Q := ⟨fun _ => h, fun e => absurd hn e⟩
set_option maxRecDepth 100000 in
set_option maxHeartbeats 20000000 in
theorem law_slip {c : Bool} {n lead f : Int} {l : List (Int × Int)} : Fun F md 6 [.agg [.int .i64 n, .int .i64 lead, .int .i64 f], .sl c l.length (ofSp l)] (.bool true) := by
  have hA := slip_any n lead f true []
  have hB := slip_any n lead f c l
  have hA0 := @slip_none n lead f
  have hB0 := @slip_err n lead f l
  by_cases hgood : (slipE n lead l f).2 = 0 ∧ n ≤ 400 ∧ 0 ≤ f
  · obtain ⟨g1, g2, g3⟩ := hgood
    have hn1 : 1 ≤ n := by
      have := g1
      unfold slipE at this
      split at this
      · simp at this
      · split at this
        · rename_i q; exact absurd this q
        · rename_i q
          exact (aft_ok (Classical.not_not.1 q)).1
    obtain ⟨N, rfl⟩ := Int.eq_ofNat_of_zero_le (show 0 ≤ n by omega)
    obtain ⟨k1, k2, k3, k4, k5, k6⟩ := slip_count g1
    have hml : l.length ≤ 30 := by
      have := g1
      unfold slipE at this
      split at this
      · simp at this
      · split at this
        · rename_i q; exact absurd this q
        · rename_i q
          have q := Classical.not_not.1 q
          unfold aftE at q
          split at q
          · rename_i q2; exact absurd q q2
          · rename_i q2; exact (made_fits (Classical.not_not.1 q2)).2.2.1
    clear hB0 hA0
    rw [slip_plain (by omega) k5 (by omega)] at hA
    generalize slipE N lead l f = Bz at *
    obtain ⟨B1, B2⟩ := Bz
    dsimp only at g1 k1 k2
    subst g1
    refine fun_of rfl rfl ?_
    repeat' (first
      | (conv => whnf)
        first
        | refine Br.t ?_
        | refine Br.f ?_
        | (refine Br.decT ?_ ?_; (focus first | assumption | omega))
        | (refine Br.decF ?_ ?_; (focus first | assumption | omega))
        | refine Br.dec (fun _ => ?_) (fun _ => ?_)
        | refine Br.not ?_
        | refine Br.and ?_
        | refine Br.or ?_
        | (refine Bnd.i64 ?_ ?_ ?_; (focus omega); (focus omega))
        | refine call_fun rfl rfl hA (.inl rfl) ?_
        | refine call_fun rfl rfl hB (.inl rfl) ?_
        | (refine Idx.nat ?_ ?_; (focus omega))
        | refine Idx.nat (le_big (by omega)) ?_
        | (refine Idx.int ?_ ?_ ?_; (focus omega); (focus omega))
        | (refine Idx.int ?_ ?_ ?_; (focus decide); (focus decide))
        | refine Ifz.zero ?_
        | (refine Ifz.pos ?_ ?_; (focus omega))
        | refine Get.mk _ rfl ?_
        | refine Leaves.of ?_
        | refine Ends.of ?_
        | refine Vw.bool ?_
        | refine Vw.int ?_
        | refine Vw.nil
        | refine Vw.sl
        | refine Vw.tup ?_
        | refine Vw.agg ?_
        | refine VwL.cons ?_ ?_
        | refine VwL.nil
        | refine LeavesF.of ?_
        | refine VwF.bool ?_
        | refine VwF.int ?_
        | refine VwF.nil
        | refine VwF.sl
        | refine VwF.tup ?_
        | refine VwF.agg ?_
        | refine VwLF.cons ?_ ?_
        | refine VwLF.nil
        | (refine Req.mk ?_ ?_; (focus first | rfl | decide | exact ⟨rfl, rfl⟩ | exact ⟨rfl, by decide⟩ | exact (fun _ => rfl) | exact (fun h => nomatch h) | (simp; done) | omega | (simp [big]; done) | exact le_big (by omega) | exact lt_big (by omega))))
    all_goals try (exfalso; omega)
    refine LoopP.by (fun i : Nat => i ≤ N) (fun i => match i with
        | 0 => [(7, .nilsl), (8, .int .i64 ((0 : Nat) : Int))]
        | i + 1 => [(7, .ms 1 1 (i + 1) 0 (i + 1) false), (8, .int .i64 ((i + 1 : Nat) : Int))])
      (fun i => match i with
        | 0 => [.blk [.int .i64 N, .int .i64 lead, .int .i64 f] false]
        | i + 1 => [.blk [.int .i64 N, .int .i64 lead, .int .i64 f] false, .blk (ofI (acc (fun i => (i : Int)) (i + 1))) true]) (fun i => N - i) 0 (Nat.zero_le _) rfl ?_
    intro i hi
    cases i with
    | zero =>
      dsimp only
      have hnx := acc_one (fun i => (i : Int))
      generalize hC2 : ofI (acc (fun i => (i : Int)) 1) = C2 at *
      repeat' (first
        | (conv => whnf)
          first
          | refine Br.t ?_
          | refine Br.f ?_
          | (refine Br.decT ?_ ?_; (focus first | assumption | omega))
          | (refine Br.decF ?_ ?_; (focus first | assumption | omega))
          | refine Br.dec (fun _ => ?_) (fun _ => ?_)
          | refine Br.not ?_
          | refine Br.and ?_
          | refine Br.or ?_
          | (refine Bnd.i64 ?_ ?_ ?_; (focus omega); (focus omega))
          | (refine Idx.nat ?_ ?_; (focus omega))
          | refine Idx.nat (le_big (by omega)) ?_
          | (refine Idx.int ?_ ?_ ?_; (focus omega); (focus omega))
          | (refine Idx.int ?_ ?_ ?_; (focus decide); (focus decide))
          | refine Ifz.zero ?_
          | (refine Ifz.pos ?_ ?_; (focus omega))
          | refine Get.mk _ rfl ?_
          | refine Leaves.of ?_
          | refine Ends.of ?_
          | refine Vw.bool ?_
          | refine Vw.int ?_
          | refine Vw.nil
          | refine Vw.sl
          | refine Vw.tup ?_
          | refine Vw.agg ?_
          | refine VwL.cons ?_ ?_
          | refine VwL.nil
          | refine LeavesF.of ?_
          | refine VwF.bool ?_
          | refine VwF.int ?_
          | refine VwF.nil
          | refine VwF.sl
          | refine VwF.tup ?_
          | refine VwF.agg ?_
          | refine VwLF.cons ?_ ?_
          | refine VwLF.nil
          | (refine Req.mk ?_ ?_; (focus first | rfl | decide | exact ⟨rfl, rfl⟩ | exact ⟨rfl, by decide⟩ | exact (fun _ => rfl) | exact (fun h => nomatch h) | (simp; done) | omega | (simp [big]; done) | exact le_big (by omega) | exact lt_big (by omega))))
      all_goals first | exact NextP.mk 1 (by omega) (by omega) (by dsimp only; rw [hC2, ← hnx]; rfl) | (exfalso; omega)
    | succ i =>
      dsimp only
      by_cases hin : i + 1 < N
      · have hnx := acc_next (fun i => (i : Int)) (i + 1)
        generalize hC2 : ofI (acc (fun i => (i : Int)) (i + 1 + 1)) = C2 at *
        have hl0 : (ofI (acc (fun i => (i : Int)) (i + 1))).length = i + 1 := by rw [ofI_length, acc_length]
        generalize ofI (acc (fun i => (i : Int)) (i + 1)) = C0 at *
        repeat' (first
          | (conv => whnf)
            first
            | refine Br.t ?_
            | refine Br.f ?_
            | (refine Br.decT ?_ ?_; (focus first | assumption | omega))
            | (refine Br.decF ?_ ?_; (focus first | assumption | omega))
            | refine Br.dec (fun _ => ?_) (fun _ => ?_)
            | refine Br.not ?_
            | refine Br.and ?_
            | refine Br.or ?_
            | (refine Bnd.i64 ?_ ?_ ?_; (focus omega); (focus omega))
            | refine Req.mk hl0 ?_
            | refine Req.mk ⟨by omega, by rw [hl0]; show (i + 1 + 1) * 9 < 68719476736; omega⟩ ?_
            | (refine Idx.nat ?_ ?_; (focus omega))
            | refine Idx.nat (le_big (by omega)) ?_
            | (refine Idx.int ?_ ?_ ?_; (focus omega); (focus omega))
            | (refine Idx.int ?_ ?_ ?_; (focus decide); (focus decide))
            | refine Ifz.zero ?_
            | (refine Ifz.pos ?_ ?_; (focus omega))
            | refine Get.mk _ rfl ?_
            | refine Leaves.of ?_
            | refine Ends.of ?_
            | refine Vw.bool ?_
            | refine Vw.int ?_
            | refine Vw.nil
            | refine Vw.sl
            | refine Vw.tup ?_
            | refine Vw.agg ?_
            | refine VwL.cons ?_ ?_
            | refine VwL.nil
            | refine LeavesF.of ?_
            | refine VwF.bool ?_
            | refine VwF.int ?_
            | refine VwF.nil
            | refine VwF.sl
            | refine VwF.tup ?_
            | refine VwF.agg ?_
            | refine VwLF.cons ?_ ?_
            | refine VwLF.nil
            | (refine Req.mk ?_ ?_; (focus first | rfl | decide | exact ⟨rfl, rfl⟩ | exact ⟨rfl, by decide⟩ | exact (fun _ => rfl) | exact (fun h => nomatch h) | (simp; done) | omega | (simp [big]; done) | exact le_big (by omega) | exact lt_big (by omega))))
        all_goals first | exact NextP.mk (i + 1 + 1) (by omega) (by omega) (by dsimp only; rw [hC2, ← hnx]; rfl) | (exfalso; omega)
      · obtain rfl : N = i + 1 := by omega
        have hid : acc (fun i => (i : Int)) (i + 1) = idL (i + 1) := rfl
        rw [hid]
        have hidl := idL_length (i + 1)
        repeat' (first
          | (conv => whnf)
            first
            | refine Br.t ?_
            | refine Br.f ?_
            | (refine Br.decT ?_ ?_; (focus first | assumption | omega))
            | (refine Br.decF ?_ ?_; (focus first | assumption | omega))
            | refine Br.dec (fun _ => ?_) (fun _ => ?_)
            | refine Br.not ?_
            | refine Br.and ?_
            | refine Br.or ?_
            | (refine Bnd.i64 ?_ ?_ ?_; (focus omega); (focus omega))
            | (refine Idx.nat ?_ ?_; (focus omega))
            | refine Idx.nat (le_big (by omega)) ?_
            | (refine Idx.int ?_ ?_ ?_; (focus omega); (focus omega))
            | (refine Idx.int ?_ ?_ ?_; (focus decide); (focus decide))
            | refine Ifz.zero ?_
            | (refine Ifz.pos ?_ ?_; (focus omega))
            | refine Get.mk _ rfl ?_
            | refine Leaves.of ?_
            | refine Ends.of ?_
            | refine Vw.bool ?_
            | refine Vw.int ?_
            | refine Vw.nil
            | refine Vw.sl
            | refine Vw.tup ?_
            | refine Vw.agg ?_
            | refine VwL.cons ?_ ?_
            | refine VwL.nil
            | refine LeavesF.of ?_
            | refine VwF.bool ?_
            | refine VwF.int ?_
            | refine VwF.nil
            | refine VwF.sl
            | refine VwF.tup ?_
            | refine VwF.agg ?_
            | refine VwLF.cons ?_ ?_
            | refine VwLF.nil
            | (refine Req.mk ?_ ?_; (focus first | rfl | decide | exact ⟨rfl, rfl⟩ | exact ⟨rfl, by decide⟩ | exact (fun _ => rfl) | exact (fun h => nomatch h) | (simp; done) | omega | (simp [big]; done) | exact le_big (by omega) | exact lt_big (by omega))))
        all_goals try (exfalso; omega)
        have hpc := cutL (idL (i + 1)) l
        refine LoopP.by (SlP (.blk [.int .i64 ((i + 1 : Nat) : Int), .int .i64 lead, .int .i64 f] false) (i + 1) l) (fun a => [(7, a.v), (9, .int .i64 (a.i : Nat))]) (fun a => a.H) (fun a => l.length - a.i) ⟨0, [.blk [.int .i64 ((i + 1 : Nat) : Int), .int .i64 lead, .int .i64 f] false, .blk (ofI (idL (i + 1))) true], .ms 1 1 (i + 1) 0 (i + 1) false, idL (i + 1)⟩ ⟨Nat.zero_le _, (by simp), rfl, .inr ⟨1, (by rw [hidl]), rfl⟩, (by rw [hidl]; exact k3), rfl, (by dsimp only; omega)⟩ rfl ?_
        clear hpc hid
        rintro ⟨j, H, v, cur⟩ ⟨hj, hHl, hH0, hrep, hcn, hd, hcl⟩
        dsimp only at hj hHl hH0 hrep hcn hd hcl ⊢
        by_cases hin2 : j < l.length
        · have hc0 := ofSp_cell0 hin2
          have hc1 := ofSp_cell1 hin2
          rw [List.drop_eq_getElem_cons hin2] at hcn hd
          generalize l[j] = x at *
          obtain ⟨h1, h2, h3, h4⟩ := cut_fits hcn
          obtain ⟨x1, x2⟩ := x
          dsimp only at h1 h2 h3 h4 hc0 hc1
          obtain ⟨a, rfl⟩ := Int.eq_ofNat_of_zero_le h1
          obtain ⟨b, rfl⟩ := Int.eq_ofNat_of_zero_le (show 0 ≤ x2 by omega)
          simp only [cutL, Int.toNat_natCast] at hd
          have hlen := cut_len (cur := cur) (a := a) (b := b) (by omega) (by omega)
          have hcn : (cutsE ((cur.take a ++ cur.drop (b + 1)).length : Nat) (l.drop (j + 1))).2 = 0 := by
            rw [hlen, show ((cur.length - (b + 1 - a) : Nat) : Int) = (cur.length : Int) - ((b : Int) - (a : Int) + 1) by omega]
            exact h4
          have hcl2 : (cur.take a ++ cur.drop (b + 1)).length ≤ 400 := by omega
          rcases hrep with ⟨rfl, rfl⟩ | ⟨id, rfl, hid⟩
          · exfalso; simp at h3; omega
          have hidl2 := bget_lt' hid
          have hcg : (ofI cur).length = cur.length := ofI_length cur
          have hb1 : IntKind.i64.wrap ((b : Int) + 1) = ((b + 1 : Nat) : Int) := by rw [wrap_i64 (by omega) (by omega)]; omega
          have hpb : part (ofI cur) (0 + (b + 1) * 1) ((cur.length - (b + 1)) * 1) = some (ofI (cur.drop (b + 1))) := by
            have := ofI_part (l := cur) (a := b + 1) (n := cur.length - (b + 1)) (by omega)
            rw [Nat.zero_add, this, List.take_of_length_le (by rw [List.length_drop]; exact Nat.le_refl _)]
          have h0id := bget_app (g := unborns 2) hid
          have h0b := bget_app (g := unborns 2) hH0
          have hu0 : bget (H ++ unborns 2) (H.length + 0) = some .unborn := bget_new
          have hu1 : bget (H ++ unborns 2) (H.length + 1) = some .unborn := bget_new
          have hUl : (H ++ unborns 2).length = H.length + 2 := by simp [unborns]
          have hdl : (ofI (cur.drop (b + 1))).length = cur.length - (b + 1) := by rw [ofI_length, List.length_drop]
          have hsd : true = true → scalars ([] ++ ofI (cur.drop (b + 1))) = true := fun _ => scal_ints _
          have hsd2 : true = true → scalars (ofI (cur.drop (b + 1))) = true := fun _ => scal_ints _
          have hbigd : (([] : List V).length + (ofI (cur.drop (b + 1))).length) * (8 + 1) < big := by rw [hdl]; simp [big]; omega
          by_cases ha : a = 0
          · subst ha
            have hra : ([] : List V).length = 0 * 1 ∧ bget (H ++ unborns 2) (H.length + 0) = some .unborn := ⟨rfl, hu0⟩
            have hrb : ([] : List V).length = 0 * 1 ∧ bget (H ++ unborns 2) (H.length + 1) = some .unborn := ⟨rfl, hu1⟩
            have hL : (cur.take 0 ++ cur.drop (b + 1)).length = cur.length - (b + 1) := by simp
            by_cases hzz : cur.length - (b + 1) = 0
            · have he : cur.take 0 ++ cur.drop (b + 1) = [] := List.eq_nil_of_length_eq_zero (by omega)
              have eLen : 2 ≤ (H ++ unborns 2).length := by omega
              have eBox := h0b
              repeat' (first
                | (conv => whnf)
                  first
                  | refine Bnd.eq hb1 ?_
                  | refine Br.t ?_
                  | refine Br.f ?_
                  | (refine Br.decT ?_ ?_; (focus first | assumption | omega))
                  | (refine Br.decF ?_ ?_; (focus first | assumption | omega))
                  | refine Br.dec (fun _ => ?_) (fun _ => ?_)
                  | refine Br.not ?_
                  | refine Br.and ?_
                  | refine Br.or ?_
                  | (refine Bnd.i64 ?_ ?_ ?_; (focus omega); (focus omega))
                  | refine Get.mk _ hc0 ?_
                  | refine Get.mk _ hc1 ?_
                  | refine Get.mk _ h0id ?_
                  | refine Get.mk _ h1id ?_
                  | refine Get.mk _ hu0 ?_
                  | refine Get.mk _ hu1 ?_
                  | refine Get.mk _ h1n ?_
                  | refine Get.mk _ hpa ?_
                  | refine Get.mk _ hpb ?_
                  | refine Req.mk hcg ?_
                  | refine Req.mk hra ?_
                  | refine Req.mk hrb ?_
                  | refine Req.mk hrc ?_
                  | refine Req.mk hrd ?_
                  | refine Req.mk hre ?_
                  | refine Req.mk hrf ?_
                  | refine Ifz.pos hza ?_
                  | refine Ifz.z hzz ?_
                  | refine fLen_mk ?_
                  | refine fB.mk ?_
                  | (refine Idx.nat ?_ ?_; (focus omega))
                  | refine Idx.nat (le_big (by omega)) ?_
                  | (refine Idx.int ?_ ?_ ?_; (focus omega); (focus omega))
                  | (refine Idx.int ?_ ?_ ?_; (focus decide); (focus decide))
                  | refine Ifz.zero ?_
                  | (refine Ifz.pos ?_ ?_; (focus omega))
                  | refine Get.mk _ rfl ?_
                  | refine Leaves.of ?_
                  | refine Ends.of ?_
                  | refine Vw.bool ?_
                  | refine Vw.int ?_
                  | refine Vw.nil
                  | refine Vw.sl
                  | refine Vw.tup ?_
                  | refine Vw.agg ?_
                  | refine VwL.cons ?_ ?_
                  | refine VwL.nil
                  | refine LeavesF.of ?_
                  | refine VwF.bool ?_
                  | refine VwF.int ?_
                  | refine VwF.nil
                  | refine VwF.sl
                  | refine VwF.tup ?_
                  | refine VwF.agg ?_
                  | refine VwLF.cons ?_ ?_
                  | refine VwLF.nil
                  | (refine Req.mk ?_ ?_; (focus first | rfl | decide | exact ⟨rfl, rfl⟩ | exact ⟨rfl, by decide⟩ | exact (fun _ => rfl) | exact (fun h => nomatch h) | (simp; done) | omega | (simp [big]; done) | exact le_big (by omega) | exact lt_big (by omega))))
              all_goals first | exact NextP.of (fun h => ⟨j + 1, h, .sl true 0 [], cur.take 0 ++ cur.drop (b + 1)⟩) ⟨hin2, norm_len eLen, norm_keep (i := 2) eLen (fun k hk => of_decide_eq_true hk) eBox, .inl ⟨rfl, he⟩, hcn, hd, hcl2⟩ (by dsimp only; omega) rfl | (exfalso; omega)
            · have hza := hzz
              clear hzz
              have eLen : 2 ≤ (bset (H ++ unborns 2) (H.length + 1) (.blk ([] ++ ofI (cur.drop (b + 1))) true)).length := by rw [bset_length]; omega
              have eBox : bget (bset (H ++ unborns 2) (H.length + 1) (.blk ([] ++ ofI (cur.drop (b + 1))) true)) 0 = some _ := (bset_other (by omega)).trans h0b
              have eId : bget (bset (H ++ unborns 2) (H.length + 1) (.blk ([] ++ ofI (cur.drop (b + 1))) true)) (H.length + 1) = some (.blk (ofI (cur.take 0 ++ cur.drop (b + 1))) true) := bset_same (by omega)
              have hrc := hbigd
              have hrd := hsd
              have eV : V.ms 1 (H.length + 1) (([] : List V).length + (ofI (cur.drop (b + 1))).length) 0 (0 + (cur.length - (b + 1))) false = .ms 1 (H.length + 1) (cur.take 0 ++ cur.drop (b + 1)).length 0 (cur.take 0 ++ cur.drop (b + 1)).length false := by rw [hL, hdl]; simp
              repeat' (first
                | (conv => whnf)
                  first
                  | refine Bnd.eq hb1 ?_
                  | refine Br.t ?_
                  | refine Br.f ?_
                  | (refine Br.decT ?_ ?_; (focus first | assumption | omega))
                  | (refine Br.decF ?_ ?_; (focus first | assumption | omega))
                  | refine Br.dec (fun _ => ?_) (fun _ => ?_)
                  | refine Br.not ?_
                  | refine Br.and ?_
                  | refine Br.or ?_
                  | (refine Bnd.i64 ?_ ?_ ?_; (focus omega); (focus omega))
                  | refine Get.mk _ hc0 ?_
                  | refine Get.mk _ hc1 ?_
                  | refine Get.mk _ h0id ?_
                  | refine Get.mk _ h1id ?_
                  | refine Get.mk _ hu0 ?_
                  | refine Get.mk _ hu1 ?_
                  | refine Get.mk _ h1n ?_
                  | refine Get.mk _ hpa ?_
                  | refine Get.mk _ hpb ?_
                  | refine Req.mk hcg ?_
                  | refine Req.mk hra ?_
                  | refine Req.mk hrb ?_
                  | refine Req.mk hrc ?_
                  | refine Req.mk hrd ?_
                  | refine Req.mk hre ?_
                  | refine Req.mk hrf ?_
                  | refine Ifz.pos hza ?_
                  | refine Ifz.z hzz ?_
                  | refine fLen_mk ?_
                  | refine fB.mk ?_
                  | (refine Idx.nat ?_ ?_; (focus omega))
                  | refine Idx.nat (le_big (by omega)) ?_
                  | (refine Idx.int ?_ ?_ ?_; (focus omega); (focus omega))
                  | (refine Idx.int ?_ ?_ ?_; (focus decide); (focus decide))
                  | refine Ifz.zero ?_
                  | (refine Ifz.pos ?_ ?_; (focus omega))
                  | refine Get.mk _ rfl ?_
                  | refine Leaves.of ?_
                  | refine Ends.of ?_
                  | refine Vw.bool ?_
                  | refine Vw.int ?_
                  | refine Vw.nil
                  | refine Vw.sl
                  | refine Vw.tup ?_
                  | refine Vw.agg ?_
                  | refine VwL.cons ?_ ?_
                  | refine VwL.nil
                  | refine LeavesF.of ?_
                  | refine VwF.bool ?_
                  | refine VwF.int ?_
                  | refine VwF.nil
                  | refine VwF.sl
                  | refine VwF.tup ?_
                  | refine VwF.agg ?_
                  | refine VwLF.cons ?_ ?_
                  | refine VwLF.nil
                  | (refine Req.mk ?_ ?_; (focus first | rfl | decide | exact ⟨rfl, rfl⟩ | exact ⟨rfl, by decide⟩ | exact (fun _ => rfl) | exact (fun h => nomatch h) | (simp; done) | omega | (simp [big]; done) | exact le_big (by omega) | exact lt_big (by omega))))
              all_goals first | exact NextP.of (fun h => ⟨j + 1, h, .ms 1 (H.length + 1) (([] : List V).length + (ofI (cur.drop (b + 1))).length) 0 (0 + (cur.length - (b + 1))) false, cur.take 0 ++ cur.drop (b + 1)⟩) ⟨hin2, norm_len eLen, norm_keep (i := 2) eLen (fun k hk => of_decide_eq_true hk) eBox, .inr ⟨H.length + 1, eV, norm_keep (i := 7) eLen (fun k hk => of_decide_eq_true hk) eId⟩, hcn, hd, hcl2⟩ (by dsimp only; omega) rfl | (exfalso; omega)
          · have hta : (ofI (cur.take a)).length = a := by rw [ofI_length, List.length_take]; omega
            have hpa : part (ofI cur) (0 + 0 * 1) ((a - 0) * 1) = some (ofI (cur.take a)) := by
              have := ofI_part (l := cur) (a := 0) (n := a - 0) (by omega)
              rw [Nat.zero_add, this, List.drop_zero, Nat.sub_zero]
            have hra : ([] : List V).length = 0 * 1 ∧ bget (H ++ unborns 2) (H.length + 0) = some .unborn := ⟨rfl, hu0⟩
            have hrc : (([] : List V).length + (ofI (cur.take a)).length) * (8 + 1) < big := by rw [hta]; simp [big]; omega
            have hrd : true = true → scalars ([] ++ ofI (cur.take a)) = true := fun _ => scal_ints _
            have h1id : bget (bset (H ++ unborns 2) (H.length + 0) (.blk ([] ++ ofI (cur.take a)) true)) id = some (.blk (ofI cur) true) := (bset_other (by omega)).trans h0id
            have h1b : bget (bset (H ++ unborns 2) (H.length + 0) (.blk ([] ++ ofI (cur.take a)) true)) 0 = some _ := (bset_other (by omega)).trans h0b
            have h1n : bget (bset (H ++ unborns 2) (H.length + 0) (.blk ([] ++ ofI (cur.take a)) true)) (H.length + 0) = some (.blk ([] ++ ofI (cur.take a)) true) := bset_same (by omega)
            have hre : ([] ++ ofI (cur.take a)).length = ([] : List V).length + (ofI (cur.take a)).length := by simp
            have hL : (cur.take a ++ cur.drop (b + 1)).length = a + (cur.length - (b + 1)) := by rw [List.length_append, List.length_take, List.length_drop]; omega
            by_cases hzz : cur.length - (b + 1) = 0
            · have he : cur.take a ++ cur.drop (b + 1) = cur.take a := by rw [List.drop_of_length_le (by omega), List.append_nil]
              have eLen : 2 ≤ (bset (H ++ unborns 2) (H.length + 0) (.blk ([] ++ ofI (cur.take a)) true)).length := by rw [bset_length]; omega
              have eBox := h1b
              have eId : bget (bset (H ++ unborns 2) (H.length + 0) (.blk ([] ++ ofI (cur.take a)) true)) (H.length + 0) = some (.blk (ofI (cur.take a ++ cur.drop (b + 1))) true) := by rw [he]; exact h1n
              have eV : V.ms 1 (H.length + 0) (([] : List V).length + (ofI (cur.take a)).length) 0 (0 + (a - 0)) false = .ms 1 (H.length + 0) (cur.take a ++ cur.drop (b + 1)).length 0 (cur.take a ++ cur.drop (b + 1)).length false := by rw [hL, hta, hzz]; simp
              repeat' (first
                | (conv => whnf)
                  first
                  | refine Bnd.eq hb1 ?_
                  | refine Br.t ?_
                  | refine Br.f ?_
                  | (refine Br.decT ?_ ?_; (focus first | assumption | omega))
                  | (refine Br.decF ?_ ?_; (focus first | assumption | omega))
                  | refine Br.dec (fun _ => ?_) (fun _ => ?_)
                  | refine Br.not ?_
                  | refine Br.and ?_
                  | refine Br.or ?_
                  | (refine Bnd.i64 ?_ ?_ ?_; (focus omega); (focus omega))
                  | refine Get.mk _ hc0 ?_
                  | refine Get.mk _ hc1 ?_
                  | refine Get.mk _ h0id ?_
                  | refine Get.mk _ h1id ?_
                  | refine Get.mk _ hu0 ?_
                  | refine Get.mk _ hu1 ?_
                  | refine Get.mk _ h1n ?_
                  | refine Get.mk _ hpa ?_
                  | refine Get.mk _ hpb ?_
                  | refine Req.mk hcg ?_
                  | refine Req.mk hra ?_
                  | refine Req.mk hrb ?_
                  | refine Req.mk hrc ?_
                  | refine Req.mk hrd ?_
                  | refine Req.mk hre ?_
                  | refine Req.mk hrf ?_
                  | refine Ifz.pos hza ?_
                  | refine Ifz.z hzz ?_
                  | refine fLen_mk ?_
                  | refine fB.mk ?_
                  | (refine Idx.nat ?_ ?_; (focus omega))
                  | refine Idx.nat (le_big (by omega)) ?_
                  | (refine Idx.int ?_ ?_ ?_; (focus omega); (focus omega))
                  | (refine Idx.int ?_ ?_ ?_; (focus decide); (focus decide))
                  | refine Ifz.zero ?_
                  | (refine Ifz.pos ?_ ?_; (focus omega))
                  | refine Get.mk _ rfl ?_
                  | refine Leaves.of ?_
                  | refine Ends.of ?_
                  | refine Vw.bool ?_
                  | refine Vw.int ?_
                  | refine Vw.nil
                  | refine Vw.sl
                  | refine Vw.tup ?_
                  | refine Vw.agg ?_
                  | refine VwL.cons ?_ ?_
                  | refine VwL.nil
                  | refine LeavesF.of ?_
                  | refine VwF.bool ?_
                  | refine VwF.int ?_
                  | refine VwF.nil
                  | refine VwF.sl
                  | refine VwF.tup ?_
                  | refine VwF.agg ?_
                  | refine VwLF.cons ?_ ?_
                  | refine VwLF.nil
                  | (refine Req.mk ?_ ?_; (focus first | rfl | decide | exact ⟨rfl, rfl⟩ | exact ⟨rfl, by decide⟩ | exact (fun _ => rfl) | exact (fun h => nomatch h) | (simp; done) | omega | (simp [big]; done) | exact le_big (by omega) | exact lt_big (by omega))))
              all_goals first | exact NextP.of (fun h => ⟨j + 1, h, .ms 1 (H.length + 0) (([] : List V).length + (ofI (cur.take a)).length) 0 (0 + (a - 0)) false, cur.take a ++ cur.drop (b + 1)⟩) ⟨hin2, norm_len eLen, norm_keep (i := 2) eLen (fun k hk => of_decide_eq_true hk) eBox, .inr ⟨H.length + 0, eV, norm_keep (i := 7) eLen (fun k hk => of_decide_eq_true hk) eId⟩, hcn, hd, hcl2⟩ (by dsimp only; omega) rfl | (exfalso; omega)
            · have hza := hzz
              clear hzz
              have hrf : 0 + (0 + (a - 0)) * 1 = ([] : List V).length + (ofI (cur.take a)).length ∧ (([] ++ ofI (cur.take a)).length + (ofI (cur.drop (b + 1))).length) * (8 + 1) < big := by
                refine ⟨by rw [hta]; simp, ?_⟩
                rw [hre, hta, hdl]; simp [big]; omega
              have hrb := hsd2
              have eLen : 2 ≤ (bset (bset (H ++ unborns 2) (H.length + 0) (.blk ([] ++ ofI (cur.take a)) true)) (H.length + 0) (.blk (([] ++ ofI (cur.take a)) ++ ofI (cur.drop (b + 1))) true)).length := by rw [bset_length, bset_length]; omega
              have eBox : bget (bset (bset (H ++ unborns 2) (H.length + 0) (.blk ([] ++ ofI (cur.take a)) true)) (H.length + 0) (.blk (([] ++ ofI (cur.take a)) ++ ofI (cur.drop (b + 1))) true)) 0 = some _ := (bset_other (by omega)).trans h1b
              have eId : bget (bset (bset (H ++ unborns 2) (H.length + 0) (.blk ([] ++ ofI (cur.take a)) true)) (H.length + 0) (.blk (([] ++ ofI (cur.take a)) ++ ofI (cur.drop (b + 1))) true)) (H.length + 0) = some (.blk (ofI (cur.take a ++ cur.drop (b + 1))) true) := by
                rw [bset_same (by rw [bset_length]; omega), ofI_append]; rfl
              have eV : V.ms 1 (H.length + 0) (([] : List V).length + (ofI (cur.take a)).length + (ofI (cur.drop (b + 1))).length) 0 (0 + (a - 0) + (cur.length - (b + 1))) false = .ms 1 (H.length + 0) (cur.take a ++ cur.drop (b + 1)).length 0 (cur.take a ++ cur.drop (b + 1)).length false := by rw [hL, hta, hdl]; simp
              repeat' (first
                | (conv => whnf)
                  first
                  | refine Bnd.eq hb1 ?_
                  | refine Br.t ?_
                  | refine Br.f ?_
                  | (refine Br.decT ?_ ?_; (focus first | assumption | omega))
                  | (refine Br.decF ?_ ?_; (focus first | assumption | omega))
                  | refine Br.dec (fun _ => ?_) (fun _ => ?_)
                  | refine Br.not ?_
                  | refine Br.and ?_
                  | refine Br.or ?_
                  | (refine Bnd.i64 ?_ ?_ ?_; (focus omega); (focus omega))
                  | refine Get.mk _ hc0 ?_
                  | refine Get.mk _ hc1 ?_
                  | refine Get.mk _ h0id ?_
                  | refine Get.mk _ h1id ?_
                  | refine Get.mk _ hu0 ?_
                  | refine Get.mk _ hu1 ?_
                  | refine Get.mk _ h1n ?_
                  | refine Get.mk _ hpa ?_
                  | refine Get.mk _ hpb ?_
                  | refine Req.mk hcg ?_
                  | refine Req.mk hra ?_
                  | refine Req.mk hrb ?_
                  | refine Req.mk hrc ?_
                  | refine Req.mk hrd ?_
                  | refine Req.mk hre ?_
                  | refine Req.mk hrf ?_
                  | refine Ifz.pos hza ?_
                  | refine Ifz.z hzz ?_
                  | refine fLen_mk ?_
                  | refine fB.mk ?_
                  | (refine Idx.nat ?_ ?_; (focus omega))
                  | refine Idx.nat (le_big (by omega)) ?_
                  | (refine Idx.int ?_ ?_ ?_; (focus omega); (focus omega))
                  | (refine Idx.int ?_ ?_ ?_; (focus decide); (focus decide))
                  | refine Ifz.zero ?_
                  | (refine Ifz.pos ?_ ?_; (focus omega))
                  | refine Get.mk _ rfl ?_
                  | refine Leaves.of ?_
                  | refine Ends.of ?_
                  | refine Vw.bool ?_
                  | refine Vw.int ?_
                  | refine Vw.nil
                  | refine Vw.sl
                  | refine Vw.tup ?_
                  | refine Vw.agg ?_
                  | refine VwL.cons ?_ ?_
                  | refine VwL.nil
                  | refine LeavesF.of ?_
                  | refine VwF.bool ?_
                  | refine VwF.int ?_
                  | refine VwF.nil
                  | refine VwF.sl
                  | refine VwF.tup ?_
                  | refine VwF.agg ?_
                  | refine VwLF.cons ?_ ?_
                  | refine VwLF.nil
                  | (refine Req.mk ?_ ?_; (focus first | rfl | decide | exact ⟨rfl, rfl⟩ | exact ⟨rfl, by decide⟩ | exact (fun _ => rfl) | exact (fun h => nomatch h) | (simp; done) | omega | (simp [big]; done) | exact le_big (by omega) | exact lt_big (by omega))))
              all_goals first | exact NextP.of (fun h => ⟨j + 1, h, .ms 1 (H.length + 0) (([] : List V).length + (ofI (cur.take a)).length + (ofI (cur.drop (b + 1))).length) 0 (0 + (a - 0) + (cur.length - (b + 1))) false, cur.take a ++ cur.drop (b + 1)⟩) ⟨hin2, norm_len eLen, norm_keep (i := 2) eLen (fun k hk => of_decide_eq_true hk) eBox, .inr ⟨H.length + 0, eV, norm_keep (i := 7) eLen (fun k hk => of_decide_eq_true hk) eId⟩, hcn, hd, hcl2⟩ (by dsimp only; omega) rfl | (exfalso; omega)
        · obtain rfl : j = l.length := by omega
          rw [List.drop_length] at hd hcn
          have hd : cur = cutL (idL (i + 1)) l := hd
          rw [← hd] at k1
          clear hd hcn
          have hct := cntB_range (f := f) (g := f + lead) (l := cur)
          rcases hrep with ⟨rfl, rfl⟩ | ⟨id, rfl, hid⟩
          · have k1 : B1 = lead := by rw [k1]; simp [cntB]
            subst k1
            repeat' (first
              | (conv => whnf)
                first
                | refine Br.t ?_
                | refine Br.f ?_
                | (refine Br.decT ?_ ?_; (focus first | assumption | omega))
                | (refine Br.decF ?_ ?_; (focus first | assumption | omega))
                | refine Br.dec (fun _ => ?_) (fun _ => ?_)
                | refine Br.not ?_
                | refine Br.and ?_
                | refine Br.or ?_
                | (refine Bnd.i64 ?_ ?_ ?_; (focus omega); (focus omega))
                | refine Get.mk _ hH0 ?_
                | refine fLen_mk ?_
                | refine fB.mk ?_
                | (refine Idx.nat ?_ ?_; (focus omega))
                | refine Idx.nat (le_big (by omega)) ?_
                | (refine Idx.int ?_ ?_ ?_; (focus omega); (focus omega))
                | (refine Idx.int ?_ ?_ ?_; (focus decide); (focus decide))
                | refine Ifz.zero ?_
                | (refine Ifz.pos ?_ ?_; (focus omega))
                | refine Get.mk _ rfl ?_
                | refine Leaves.of ?_
                | refine Ends.of ?_
                | refine Vw.bool ?_
                | refine Vw.int ?_
                | refine Vw.nil
                | refine Vw.sl
                | refine Vw.tup ?_
                | refine Vw.agg ?_
                | refine VwL.cons ?_ ?_
                | refine VwL.nil
                | refine LeavesF.of ?_
                | refine VwF.bool ?_
                | refine VwF.int ?_
                | refine VwF.nil
                | refine VwF.sl
                | refine VwF.tup ?_
                | refine VwF.agg ?_
                | refine VwLF.cons ?_ ?_
                | refine VwLF.nil
                | (refine Req.mk ?_ ?_; (focus first | rfl | decide | exact ⟨rfl, rfl⟩ | exact ⟨rfl, by decide⟩ | exact (fun _ => rfl) | exact (fun h => nomatch h) | (simp; done) | omega | (simp [big]; done) | exact le_big (by omega) | exact lt_big (by omega))))
            all_goals try (exfalso; omega)
            refine LoopP.by (fun _ : Unit => True) (fun _ => [(10, .int .i64 0), (11, .int .i64 0)]) (fun _ => H) (fun _ => 0) () trivial rfl ?_
            intro _ _
            repeat' (first
              | (conv => whnf)
                first
                | refine Br.t ?_
                | refine Br.f ?_
                | (refine Br.decT ?_ ?_; (focus first | assumption | omega))
                | (refine Br.decF ?_ ?_; (focus first | assumption | omega))
                | refine Br.dec (fun _ => ?_) (fun _ => ?_)
                | refine Br.not ?_
                | refine Br.and ?_
                | refine Br.or ?_
                | (refine Bnd.i64 ?_ ?_ ?_; (focus omega); (focus omega))
                | refine Get.mk _ hH0 ?_
                | refine fLen_mk ?_
                | refine fB.mk ?_
                | refine call_fun rfl rfl awake (.inl rfl) ?_
                | (refine Idx.nat ?_ ?_; (focus omega))
                | refine Idx.nat (le_big (by omega)) ?_
                | (refine Idx.int ?_ ?_ ?_; (focus omega); (focus omega))
                | (refine Idx.int ?_ ?_ ?_; (focus decide); (focus decide))
                | refine Ifz.zero ?_
                | (refine Ifz.pos ?_ ?_; (focus omega))
                | refine Get.mk _ rfl ?_
                | refine Leaves.of ?_
                | refine Ends.of ?_
                | refine Vw.bool ?_
                | refine Vw.int ?_
                | refine Vw.nil
                | refine Vw.sl
                | refine Vw.tup ?_
                | refine Vw.agg ?_
                | refine VwL.cons ?_ ?_
                | refine VwL.nil
                | refine LeavesF.of ?_
                | refine VwF.bool ?_
                | refine VwF.int ?_
                | refine VwF.nil
                | refine VwF.sl
                | refine VwF.tup ?_
                | refine VwF.agg ?_
                | refine VwLF.cons ?_ ?_
                | refine VwLF.nil
                | (refine Req.mk ?_ ?_; (focus first | rfl | decide | exact ⟨rfl, rfl⟩ | exact ⟨rfl, by decide⟩ | exact (fun _ => rfl) | exact (fun h => nomatch h) | (simp; done) | omega | (simp [big]; done) | exact le_big (by omega) | exact lt_big (by omega))))
            all_goals first | rfl | (exfalso; omega)
          · have hcg : (ofI cur).length = cur.length := ofI_length cur
            repeat' (first
              | (conv => whnf)
                first
                | refine Br.t ?_
                | refine Br.f ?_
                | (refine Br.decT ?_ ?_; (focus first | assumption | omega))
                | (refine Br.decF ?_ ?_; (focus first | assumption | omega))
                | refine Br.dec (fun _ => ?_) (fun _ => ?_)
                | refine Br.not ?_
                | refine Br.and ?_
                | refine Br.or ?_
                | (refine Bnd.i64 ?_ ?_ ?_; (focus omega); (focus omega))
                | refine Get.mk _ hH0 ?_
                | refine fLen_mk ?_
                | refine fB.mk ?_
                | (refine Idx.nat ?_ ?_; (focus omega))
                | refine Idx.nat (le_big (by omega)) ?_
                | (refine Idx.int ?_ ?_ ?_; (focus omega); (focus omega))
                | (refine Idx.int ?_ ?_ ?_; (focus decide); (focus decide))
                | refine Ifz.zero ?_
                | (refine Ifz.pos ?_ ?_; (focus omega))
                | refine Get.mk _ rfl ?_
                | refine Leaves.of ?_
                | refine Ends.of ?_
                | refine Vw.bool ?_
                | refine Vw.int ?_
                | refine Vw.nil
                | refine Vw.sl
                | refine Vw.tup ?_
                | refine Vw.agg ?_
                | refine VwL.cons ?_ ?_
                | refine VwL.nil
                | refine LeavesF.of ?_
                | refine VwF.bool ?_
                | refine VwF.int ?_
                | refine VwF.nil
                | refine VwF.sl
                | refine VwF.tup ?_
                | refine VwF.agg ?_
                | refine VwLF.cons ?_ ?_
                | refine VwLF.nil
                | (refine Req.mk ?_ ?_; (focus first | rfl | decide | exact ⟨rfl, rfl⟩ | exact ⟨rfl, by decide⟩ | exact (fun _ => rfl) | exact (fun h => nomatch h) | (simp; done) | omega | (simp [big]; done) | exact le_big (by omega) | exact lt_big (by omega))))
            all_goals try (exfalso; omega)
            refine LoopP.by (fun k : Nat => k ≤ cur.length) (fun k => [(10, .int .i64 (cntB f (f + lead) (cur.take k))), (11, .int .i64 (k : Nat))]) (fun _ => H) (fun k => cur.length - k) 0 (Nat.zero_le _) rfl ?_
            intro k hk
            by_cases hkl : k < cur.length
            · have hck := gI_cell0 hkl
              have hcr := cntB_range (f := f) (g := f + lead) (l := cur.take k)
              have hcrl : ((cur.take k).length : Int) ≤ 400 := by rw [List.length_take]; omega
              have hnx := cntB_next (f := f) (g := f + lead) hkl
              generalize hC2 : cntB f (f + lead) (cur.take (k + 1)) = C2 at *
              generalize cntB f (f + lead) (cur.take k) = C0 at *
              generalize gI cur k = x at *
              by_cases hq : f < x ∧ x ≤ f + lead
              · rw [if_pos hq] at hnx
                subst hnx
                repeat' (first
                  | (conv => whnf)
                    first
                    | refine Br.t ?_
                    | refine Br.f ?_
                    | (refine Br.decT ?_ ?_; (focus first | assumption | omega))
                    | (refine Br.decF ?_ ?_; (focus first | assumption | omega))
                    | refine Br.dec (fun _ => ?_) (fun _ => ?_)
                    | refine Br.not ?_
                    | refine Br.and ?_
                    | refine Br.or ?_
                    | (refine Bnd.i64 ?_ ?_ ?_; (focus omega); (focus omega))
                    | refine Get.mk _ hck ?_
                    | refine Get.mk _ hH0 ?_
                    | refine Get.mk _ hid ?_
                    | refine Req.mk hcg ?_
                    | refine fLen_mk ?_
                    | refine fB.mk ?_
                    | (refine Idx.nat ?_ ?_; (focus omega))
                    | refine Idx.nat (le_big (by omega)) ?_
                    | (refine Idx.int ?_ ?_ ?_; (focus omega); (focus omega))
                    | (refine Idx.int ?_ ?_ ?_; (focus decide); (focus decide))
                    | refine Ifz.zero ?_
                    | (refine Ifz.pos ?_ ?_; (focus omega))
                    | refine Get.mk _ rfl ?_
                    | refine Leaves.of ?_
                    | refine Ends.of ?_
                    | refine Vw.bool ?_
                    | refine Vw.int ?_
                    | refine Vw.nil
                    | refine Vw.sl
                    | refine Vw.tup ?_
                    | refine Vw.agg ?_
                    | refine VwL.cons ?_ ?_
                    | refine VwL.nil
                    | refine LeavesF.of ?_
                    | refine VwF.bool ?_
                    | refine VwF.int ?_
                    | refine VwF.nil
                    | refine VwF.sl
                    | refine VwF.tup ?_
                    | refine VwF.agg ?_
                    | refine VwLF.cons ?_ ?_
                    | refine VwLF.nil
                    | (refine Req.mk ?_ ?_; (focus first | rfl | decide | exact ⟨rfl, rfl⟩ | exact ⟨rfl, by decide⟩ | exact (fun _ => rfl) | exact (fun h => nomatch h) | (simp; done) | omega | (simp [big]; done) | exact le_big (by omega) | exact lt_big (by omega))))
                all_goals first | exact NextP.mk (k + 1) (by omega) (by omega) ((norm_self (h := H)).trans (by rw [hC2]; rfl)) | (exfalso; omega)
              · rw [if_neg hq, Int.add_zero] at hnx
                subst hnx
                repeat' (first
                  | (conv => whnf)
                    first
                    | refine Br.t ?_
                    | refine Br.f ?_
                    | (refine Br.decT ?_ ?_; (focus first | assumption | omega))
                    | (refine Br.decF ?_ ?_; (focus first | assumption | omega))
                    | refine Br.dec (fun _ => ?_) (fun _ => ?_)
                    | refine Br.not ?_
                    | refine Br.and ?_
                    | refine Br.or ?_
                    | (refine Bnd.i64 ?_ ?_ ?_; (focus omega); (focus omega))
                    | refine Get.mk _ hck ?_
                    | refine Get.mk _ hH0 ?_
                    | refine Get.mk _ hid ?_
                    | refine Req.mk hcg ?_
                    | refine fLen_mk ?_
                    | refine fB.mk ?_
                    | (refine Idx.nat ?_ ?_; (focus omega))
                    | refine Idx.nat (le_big (by omega)) ?_
                    | (refine Idx.int ?_ ?_ ?_; (focus omega); (focus omega))
                    | (refine Idx.int ?_ ?_ ?_; (focus decide); (focus decide))
                    | refine Ifz.zero ?_
                    | (refine Ifz.pos ?_ ?_; (focus omega))
                    | refine Get.mk _ rfl ?_
                    | refine Leaves.of ?_
                    | refine Ends.of ?_
                    | refine Vw.bool ?_
                    | refine Vw.int ?_
                    | refine Vw.nil
                    | refine Vw.sl
                    | refine Vw.tup ?_
                    | refine Vw.agg ?_
                    | refine VwL.cons ?_ ?_
                    | refine VwL.nil
                    | refine LeavesF.of ?_
                    | refine VwF.bool ?_
                    | refine VwF.int ?_
                    | refine VwF.nil
                    | refine VwF.sl
                    | refine VwF.tup ?_
                    | refine VwF.agg ?_
                    | refine VwLF.cons ?_ ?_
                    | refine VwLF.nil
                    | (refine Req.mk ?_ ?_; (focus first | rfl | decide | exact ⟨rfl, rfl⟩ | exact ⟨rfl, by decide⟩ | exact (fun _ => rfl) | exact (fun h => nomatch h) | (simp; done) | omega | (simp [big]; done) | exact le_big (by omega) | exact lt_big (by omega))))
                all_goals first | exact NextP.mk (k + 1) (by omega) (by omega) ((norm_self (h := H)).trans (by rw [hC2]; rfl)) | (exfalso; omega)
            · obtain rfl : k = cur.length := by omega
              rw [List.take_length]
              generalize cntB f (f + lead) cur = C at *
              subst k1
              repeat' (first
                | (conv => whnf)
                  first
                  | refine Br.t ?_
                  | refine Br.f ?_
                  | (refine Br.decT ?_ ?_; (focus first | assumption | omega))
                  | (refine Br.decF ?_ ?_; (focus first | assumption | omega))
                  | refine Br.dec (fun _ => ?_) (fun _ => ?_)
                  | refine Br.not ?_
                  | refine Br.and ?_
                  | refine Br.or ?_
                  | (refine Bnd.i64 ?_ ?_ ?_; (focus omega); (focus omega))
                  | refine Get.mk _ hH0 ?_
                  | refine fLen_mk ?_
                  | refine fB.mk ?_
                  | refine call_fun rfl rfl awake (.inl rfl) ?_
                  | (refine Idx.nat ?_ ?_; (focus omega))
                  | refine Idx.nat (le_big (by omega)) ?_
                  | (refine Idx.int ?_ ?_ ?_; (focus omega); (focus omega))
                  | (refine Idx.int ?_ ?_ ?_; (focus decide); (focus decide))
                  | refine Ifz.zero ?_
                  | (refine Ifz.pos ?_ ?_; (focus omega))
                  | refine Get.mk _ rfl ?_
                  | refine Leaves.of ?_
                  | refine Ends.of ?_
                  | refine Vw.bool ?_
                  | refine Vw.int ?_
                  | refine Vw.nil
                  | refine Vw.sl
                  | refine Vw.tup ?_
                  | refine Vw.agg ?_
                  | refine VwL.cons ?_ ?_
                  | refine VwL.nil
                  | refine LeavesF.of ?_
                  | refine VwF.bool ?_
                  | refine VwF.int ?_
                  | refine VwF.nil
                  | refine VwF.sl
                  | refine VwF.tup ?_
                  | refine VwF.agg ?_
                  | refine VwLF.cons ?_ ?_
                  | refine VwLF.nil
                  | (refine Req.mk ?_ ?_; (focus first | rfl | decide | exact ⟨rfl, rfl⟩ | exact ⟨rfl, by decide⟩ | exact (fun _ => rfl) | exact (fun h => nomatch h) | (simp; done) | omega | (simp [big]; done) | exact le_big (by omega) | exact lt_big (by omega))))
              all_goals first | rfl | (exfalso; omega)
  · generalize slipE n lead l f = Bz at *
    generalize slipE n lead [] f = Az at *
    obtain ⟨A1, A2⟩ := Az
    obtain ⟨B1, B2⟩ := Bz
    dsimp only at hA0 hB0 hgood
    refine fun_of rfl rfl ?_
    repeat' (first
      | (conv => whnf)
        first
        | refine Br.t ?_
        | refine Br.f ?_
        | (refine Br.decT ?_ ?_; (focus first | assumption | omega))
        | (refine Br.decF ?_ ?_; (focus first | assumption | omega))
        | refine Br.dec (fun _ => ?_) (fun _ => ?_)
        | refine Br.not ?_
        | refine Br.and ?_
        | refine Br.or ?_
        | (refine Bnd.i64 ?_ ?_ ?_; (focus omega); (focus omega))
        | refine call_fun rfl rfl hA (.inl rfl) ?_
        | refine call_fun rfl rfl hB (.inl rfl) ?_
        | refine call_fun rfl rfl awake (.inl rfl) ?_
        | (refine Idx.nat ?_ ?_; (focus omega))
        | refine Idx.nat (le_big (by omega)) ?_
        | (refine Idx.int ?_ ?_ ?_; (focus omega); (focus omega))
        | (refine Idx.int ?_ ?_ ?_; (focus decide); (focus decide))
        | refine Ifz.zero ?_
        | (refine Ifz.pos ?_ ?_; (focus omega))
        | refine Get.mk _ rfl ?_
        | refine Leaves.of ?_
        | refine Ends.of ?_
        | refine Vw.bool ?_
        | refine Vw.int ?_
        | refine Vw.nil
        | refine Vw.sl
        | refine Vw.tup ?_
        | refine Vw.agg ?_
        | refine VwL.cons ?_ ?_
        | refine VwL.nil
        | refine LeavesF.of ?_
        | refine VwF.bool ?_
        | refine VwF.int ?_
        | refine VwF.nil
        | refine VwF.sl
        | refine VwF.tup ?_
        | refine VwF.agg ?_
        | refine VwLF.cons ?_ ?_
        | refine VwLF.nil
        | (refine Req.mk ?_ ?_; (focus first | rfl | decide | exact ⟨rfl, rfl⟩ | exact ⟨rfl, by decide⟩ | exact (fun _ => rfl) | exact (fun h => nomatch h) | (simp; done) | omega | (simp [big]; done) | exact le_big (by omega) | exact lt_big (by omega))))
    all_goals first | rfl | (exfalso; omega)

end Go.Dr.T
