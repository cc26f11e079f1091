/- Chapter 07: Spots of the reference, walked. -/
import Derived.Test.YtigcchafpenhiaaR07Dg
namespace Go.Dr.T

theorem ofSpt_split {S : List Spt} {m : Nat} (hm : m < S.length) : ∃ A B : List V, A.length = 5 * m ∧ ofSpt S = A ++ (P5 S[m] ++ B) ∧ (∀ s, ofSpt (S.set m s) = A ++ (P5 s ++ B)) ∧ ∀ s, (A ++ (P5 s ++ B)).length = 5 * S.length := by
  refine ⟨ofSpt (S.take m), ofSpt (S.drop (m + 1)), ?_, ?_, ?_, ?_⟩
  · rw [ofSpt_length, List.length_take]; omega
  · conv => lhs; rw [← List.take_append_drop m S, ofSpt_append, List.drop_eq_getElem_cons hm]
    rfl
  · intro s
    rw [List.set_eq_take_append_cons_drop, if_pos hm, ofSpt_append]
    rfl
  · intro s
    rw [List.length_append, List.length_append, ofSpt_length, ofSpt_length, List.length_take, List.length_drop]
    simp only [P5, List.length_cons, List.length_nil]
    omega

def rO (S : List Spt) : V := match S with | [] => .nilsl | _ :: S => .ms 5 1 (5 * (S.length + 1)) 0 (S.length + 1) false
def rH (bx : B) (S : List Spt) : List B := match S with | [] => [bx] | s :: S => [bx, .blk (ofSpt (s :: S)) true]
theorem rO_snoc (S : List Spt) (s : Spt) : rO (S ++ [s]) = .ms 5 1 (5 * S.length + 5) 0 (S.length + 1) false := by
  cases S with
  | nil => rfl
  | cons a S =>
    simp only [rO, List.cons_append, List.length_append, List.length_cons, List.length_nil]
    congr 1
theorem rH_snoc (bx : B) (S : List Spt) (s : Spt) : rH bx (S ++ [s]) = [bx, .blk (ofSpt S ++ P5 s) true] := by
  cases S with
  | nil => rfl
  | cons a S =>
    simp only [rH, List.cons_append]
    rw [show a :: (S ++ [s]) = (a :: S) ++ [s] from rfl, ofSpt_snoc]

theorem over5 (a b c d n m : Int) (B : List V) : over (P5 ⟨a, b, c, d, n⟩ ++ B) 4 [.int .i64 m] = P5 ⟨a, b, c, d, m⟩ ++ B := by cases B <;> rfl
set_option maxRecDepth 100000 in
set_option maxHeartbeats 40000000 in
theorem spotsR_ok {W H : Nat} {c : Bool} {l : List UInt8} (h1 : 1 ≤ W) (h2 : W ≤ 48) (h3 : 1 ≤ H) (h4 : H ≤ 48) (hl : l.length = W * H) : Fun F md 36 [frV W H c l] (sptV (spS W H l (W * H)).2 0) := by
  have hck := checkR_any W H c l
  rw [check_ok h1 h2 h3 h4 hl] at hck
  have hpa := parts_ok (c := c) h1 h2 h3 h4 hl
  have hn : 1 ≤ W * H ∧ W * H ≤ 2304 := by have := area_le (w := W) (h := H) (by omega) (by omega) (by omega) (by omega); omega
  have hcp := csF_cp (W := W) (H := H) hl hn.2 (by omega) (W * H)
  have hall := fun K => outS_all (K := K) hcp
  rw [← hl] at hcp hall
  generalize hCs : csF W H l l.length = Cs at *
  have hCl : Cs.length ≤ 2304 := by have := csF_len (W := W) (H := H) hl hn.2 (by omega) l.length; rw [hCs] at this; omega
  have hW0 : (W : Int) ≠ 0 := by omega
  rw [← hl]
  refine fun_of rfl rfl ?_
  repeat' (first
    | (conv => whnf)
      first
      | refine Br.t ?_
      | refine Br.f ?_
      | (refine Br.decT ?_ ?_; (focus first | assumption | omega))
      | (refine Br.decF ?_ ?_; (focus first | assumption | omega))
      | refine Br.dec (fun _ => ?_) (fun _ => ?_)
      | refine Br.not ?_
      | refine Br.and ?_
      | refine Br.or ?_
      | (refine Bnd.i64 ?_ ?_ ?_; (focus omega); (focus omega))
      | refine call_fun rfl rfl hck (.inl rfl) ?_
      | refine call_fun rfl rfl hpa (.inl rfl) ?_
      | (refine Idx.nat ?_ ?_; (focus omega))
      | refine Idx.nat (le_big (by omega)) ?_
      | (refine Idx.int ?_ ?_ ?_; (focus omega); (focus omega))
      | (refine Idx.int ?_ ?_ ?_; (focus decide); (focus decide))
      | refine Ifz.zero ?_
      | (refine Ifz.pos ?_ ?_; (focus omega))
      | refine Get.mk _ rfl ?_
      | refine Leaves.of ?_
      | refine Ends.of ?_
      | refine Vw.bool ?_
      | refine Vw.int ?_
      | refine Vw.nil
      | refine Vw.sl
      | refine Vw.tup ?_
      | refine Vw.agg ?_
      | refine VwL.cons ?_ ?_
      | refine VwL.nil
      | refine LeavesF.of ?_
      | refine VwF.bool ?_
      | refine VwF.int ?_
      | refine VwF.nil
      | refine VwF.sl
      | refine VwF.tup ?_
      | refine VwF.agg ?_
      | refine VwLF.cons ?_ ?_
      | refine VwLF.nil
      | (refine Req.mk ?_ ?_; (focus first | rfl | decide | exact ⟨rfl, rfl⟩ | exact ⟨rfl, by decide⟩ | exact (fun _ => rfl) | exact (fun h => nomatch h) | (simp; done) | omega | (simp [big]; done) | exact le_big (by omega) | exact lt_big (by omega))))
  all_goals try (exfalso; omega)
  refine LoopP.by (fun a : Nat × Nat => a.1 ≤ l.length ∧ Sc Cs a.1 a.2) (fun a => [(6, rO (outS W Cs a.1 a.2)), (7, .int .i64 (a.1 : Nat))]) (fun a => rH (.blk [.int .i64 W, .int .i64 H, .sl c l.length (ofBytes l)] false) (outS W Cs a.1 a.2)) (fun a => l.length - a.1) (0, 0) ⟨Nat.zero_le _, Sc.zero⟩ rfl ?_
  clear hck hpa
  rintro ⟨i, K⟩ ⟨hi, hSc⟩
  dsimp only at hi hSc ⊢
  have hKC := hSc.1
  have hKl := outS_length (W := W) (Cs := Cs) i K
  by_cases hin : i < l.length
  · have hco := gI_cell0 (l := lbA Cs l.length) (i := i) (by rw [lbA_length]; exact hin)
    have hco1 := gI_cell (l := lbA Cs l.length) (i := i) (by rw [lbA_length]; exact hin)
    rw [lbA_at hin] at hco hco1
    have hlen0 : (ofI (lbA Cs l.length)).length = l.length * 1 := by rw [ofI_length, lbA_length, Nat.mul_one]
    by_cases hneg : labG Cs 0 i < 0
    · obtain ⟨s1, s2⟩ := Sc.none hcp hSc hneg
      generalize labG Cs 0 i = lb at *
      cases hS : outS W Cs i K with
      | nil =>
        repeat' (first
          | (conv => whnf)
            first
            | refine Br.t ?_
            | refine Br.f ?_
            | (refine Br.decT ?_ ?_; (focus first | assumption | omega))
            | (refine Br.decF ?_ ?_; (focus first | assumption | omega))
            | refine Br.dec (fun _ => ?_) (fun _ => ?_)
            | refine Br.not ?_
            | refine Br.and ?_
            | refine Br.or ?_
            | (refine Bnd.i64 ?_ ?_ ?_; (focus omega); (focus omega))
            | refine Get.mk _ hco ?_
            | refine Get.mk _ hco1 ?_
            | refine Req.mk hlen0 ?_
            | (refine Idx.nat ?_ ?_; (focus omega))
            | refine Idx.nat (le_big (by omega)) ?_
            | (refine Idx.int ?_ ?_ ?_; (focus omega); (focus omega))
            | (refine Idx.int ?_ ?_ ?_; (focus decide); (focus decide))
            | refine Ifz.zero ?_
            | (refine Ifz.pos ?_ ?_; (focus omega))
            | refine Get.mk _ rfl ?_
            | refine Leaves.of ?_
            | refine Ends.of ?_
            | refine Vw.bool ?_
            | refine Vw.int ?_
            | refine Vw.nil
            | refine Vw.sl
            | refine Vw.tup ?_
            | refine Vw.agg ?_
            | refine VwL.cons ?_ ?_
            | refine VwL.nil
            | refine LeavesF.of ?_
            | refine VwF.bool ?_
            | refine VwF.int ?_
            | refine VwF.nil
            | refine VwF.sl
            | refine VwF.tup ?_
            | refine VwF.agg ?_
            | refine VwLF.cons ?_ ?_
            | refine VwLF.nil
            | (refine Req.mk ?_ ?_; (focus first | rfl | decide | exact ⟨rfl, rfl⟩ | exact ⟨rfl, by decide⟩ | exact (fun _ => rfl) | exact (fun h => nomatch h) | (simp; done) | omega | (simp [big]; done) | exact le_big (by omega) | exact lt_big (by omega))))
        all_goals first | exact NextP.mk (i + 1, K) ⟨hin, s1⟩ (by dsimp only; omega) (by dsimp only; rw [s2, hS]; rfl) | (exfalso; omega)
      | cons s S =>
        repeat' (first
          | (conv => whnf)
            first
            | refine Br.t ?_
            | refine Br.f ?_
            | (refine Br.decT ?_ ?_; (focus first | assumption | omega))
            | (refine Br.decF ?_ ?_; (focus first | assumption | omega))
            | refine Br.dec (fun _ => ?_) (fun _ => ?_)
            | refine Br.not ?_
            | refine Br.and ?_
            | refine Br.or ?_
            | (refine Bnd.i64 ?_ ?_ ?_; (focus omega); (focus omega))
            | refine Get.mk _ hco ?_
            | refine Get.mk _ hco1 ?_
            | refine Req.mk hlen0 ?_
            | (refine Idx.nat ?_ ?_; (focus omega))
            | refine Idx.nat (le_big (by omega)) ?_
            | (refine Idx.int ?_ ?_ ?_; (focus omega); (focus omega))
            | (refine Idx.int ?_ ?_ ?_; (focus decide); (focus decide))
            | refine Ifz.zero ?_
            | (refine Ifz.pos ?_ ?_; (focus omega))
            | refine Get.mk _ rfl ?_
            | refine Leaves.of ?_
            | refine Ends.of ?_
            | refine Vw.bool ?_
            | refine Vw.int ?_
            | refine Vw.nil
            | refine Vw.sl
            | refine Vw.tup ?_
            | refine Vw.agg ?_
            | refine VwL.cons ?_ ?_
            | refine VwL.nil
            | refine LeavesF.of ?_
            | refine VwF.bool ?_
            | refine VwF.int ?_
            | refine VwF.nil
            | refine VwF.sl
            | refine VwF.tup ?_
            | refine VwF.agg ?_
            | refine VwLF.cons ?_ ?_
            | refine VwLF.nil
            | (refine Req.mk ?_ ?_; (focus first | rfl | decide | exact ⟨rfl, rfl⟩ | exact ⟨rfl, by decide⟩ | exact (fun _ => rfl) | exact (fun h => nomatch h) | (simp; done) | omega | (simp [big]; done) | exact le_big (by omega) | exact lt_big (by omega))))
        all_goals first | exact NextP.mk (i + 1, K) ⟨hin, s1⟩ (by dsimp only; omega) (by dsimp only; rw [s2, hS]; rfl) | (exfalso; omega)
    · obtain ⟨m, hm, e, hmem⟩ := labG_inv hneg
      rw [← getD_eq hm] at hmem
      rw [Nat.zero_add] at e
      rw [e] at hco hco1
      obtain ⟨hle, hA, hB⟩ := Sc.first hcp hSc hm hmem
      have hqm : ((i : Nat) : Int).tmod (W : Int) = ((i % W : Nat) : Int) := Int.ofNat_tmod _ _
      have hqe : ((i : Nat) : Int).tdiv (W : Int) = ((i / W : Nat) : Int) := Int.ofNat_tdiv _ _
      have hXl : i % W < W := Nat.mod_lt _ (by omega)
      have hYl : i / W ≤ i := Nat.div_le_self _ _
      generalize hXe : i % W = X at *
      generalize hYe : i / W = Y at *
      have hqd : IntKind.i64.wrap (((i : Nat) : Int).tdiv (W : Int)) = (Y : Int) := by rw [hqe]; exact wrap_i64 (by omega) (by omega)
      clear hqe
      by_cases hmK : m = K
      · obtain ⟨e0, s1⟩ := hA hmK
        obtain rfl : m = K := hmK
        cases hS : outS W Cs i m with
        | nil =>
          have hSm : ([] : List Spt).length = m := by rw [← hS]; exact hKl
          have hst : s0 W i = ⟨X, X, Y, Y, 0⟩ := by unfold s0; rw [hXe, hYe]
          have hend : outS W Cs (i + 1) (m + 1) = ([] : List Spt) ++ [⟨min (X : Int) X, max (X : Int) X, Y, max (Y : Int) Y, 0 + 1⟩] := by
            rw [outS_next hcp (by omega) hm hmem (by omega), outS_new, hS, e0, hst]
            rw [show (Spt.add W ⟨X, X, Y, Y, 0⟩ i) = ⟨min (X : Int) X, max (X : Int) X, Y, max (Y : Int) Y, 0 + 1⟩ by simp only [Spt.add, hXe, hYe, Int.min_self]]
            rw [← hSm, List.set_append_right _ _ (Nat.le_refl _), Nat.sub_self]
            rfl
          obtain rfl : 0 = m := hSm
          repeat' (first
            | (conv => whnf)
              first
              | refine Bnd.eq hqd ?_
              | refine Bnd.eq hqm ?_
              | refine Br.t ?_
              | refine Br.f ?_
              | (refine Br.decT ?_ ?_; (focus first | assumption | omega))
              | (refine Br.decF ?_ ?_; (focus first | assumption | omega))
              | refine Br.dec (fun _ => ?_) (fun _ => ?_)
              | refine Br.not ?_
              | refine Br.and ?_
              | refine Br.or ?_
              | (refine Bnd.i64 ?_ ?_ ?_; (focus omega); (focus omega))
              | refine Req.mk hW0 ?_
              | refine Get.mk _ hco ?_
              | refine Get.mk _ hco1 ?_
              | refine Req.mk hlen0 ?_
              | refine Bnd.any ?_
              | (refine Idx.nat ?_ ?_; (focus omega))
              | refine Idx.nat (le_big (by omega)) ?_
              | (refine Idx.int ?_ ?_ ?_; (focus omega); (focus omega))
              | (refine Idx.int ?_ ?_ ?_; (focus decide); (focus decide))
              | refine Ifz.zero ?_
              | (refine Ifz.pos ?_ ?_; (focus omega))
              | refine Get.mk _ rfl ?_
              | refine Leaves.of ?_
              | refine Ends.of ?_
              | refine Vw.bool ?_
              | refine Vw.int ?_
              | refine Vw.nil
              | refine Vw.sl
              | refine Vw.tup ?_
              | refine Vw.agg ?_
              | refine VwL.cons ?_ ?_
              | refine VwL.nil
              | refine LeavesF.of ?_
              | refine VwF.bool ?_
              | refine VwF.int ?_
              | refine VwF.nil
              | refine VwF.sl
              | refine VwF.tup ?_
              | refine VwF.agg ?_
              | refine VwLF.cons ?_ ?_
              | refine VwLF.nil
              | (refine Req.mk ?_ ?_; (focus first | rfl | decide | exact ⟨rfl, rfl⟩ | exact ⟨rfl, by decide⟩ | exact (fun _ => rfl) | exact (fun h => nomatch h) | (simp; done) | omega | (simp [big]; done) | exact le_big (by omega) | exact lt_big (by omega))))
          all_goals first | exact NextP.mk (i + 1, 0 + 1) ⟨hin, s1⟩ (by dsimp only; omega) (by dsimp only; rw [hend]; rfl) | (exfalso; omega)
        | cons s S =>
          have hSm : (s :: S).length = m := by rw [← hS]; exact hKl
          have hst : s0 W i = ⟨X, X, Y, Y, 0⟩ := by unfold s0; rw [hXe, hYe]
          have hend : outS W Cs (i + 1) (m + 1) = (s :: S) ++ [⟨min (X : Int) X, max (X : Int) X, Y, max (Y : Int) Y, 0 + 1⟩] := by
            rw [outS_next hcp (by omega) hm hmem (by omega), outS_new, hS, e0, hst]
            rw [show (Spt.add W ⟨X, X, Y, Y, 0⟩ i) = ⟨min (X : Int) X, max (X : Int) X, Y, max (Y : Int) Y, 0 + 1⟩ by simp only [Spt.add, hXe, hYe, Int.min_self]]
            rw [← hSm, List.set_append_right _ _ (Nat.le_refl _), Nat.sub_self]
            rfl
          have hcl : (ofSpt (s :: S)).length = 5 * (S.length + 1) := ofSpt_length _
          have hSm2 : S.length + 1 = m := hSm
          have hH0 : ∀ bx, rH bx (s :: S) = [bx, .blk (ofSpt (s :: S)) true] := fun _ => rfl
          have hO0 : rO (s :: S) = .ms 5 1 (5 * (S.length + 1)) 0 (S.length + 1) false := rfl
          rw [hH0, hO0]
          have hfin := rH_snoc (.blk [.int .i64 W, .int .i64 H, .sl c l.length (ofBytes l)] false) (s :: S) ⟨min (X : Int) X, max (X : Int) X, Y, max (Y : Int) Y, 0 + 1⟩
          have hfin2 := rO_snoc (s :: S) ⟨min (X : Int) X, max (X : Int) X, Y, max (Y : Int) Y, 0 + 1⟩
          rw [← hend] at hfin hfin2
          have hscal := scal_spt (s :: S)
          clear hH0 hO0 hst hend hSm hS
          generalize ofSpt (s :: S) = C at *
          have hroom : 0 + (S.length + 1) * 5 = 5 * (S.length + 1) ∧ (C.length + 5) * (40 + 1) < big := ⟨by omega, by rw [hcl]; simp only [big]; omega⟩
          have hLn : ∀ s, (C ++ P5 s).length = 5 * (S.length + 1) + 5 := fun s => by rw [List.length_append, hcl]; rfl
          have hlA : 0 + m * 5 = (C).length := by omega
          have hg1 : cellAt ((C) ++ (P5 ⟨(X : Int), (X : Int), (Y : Int), (Y : Int), 0⟩ )) (0 + m * 5 + 0) = some (.int .i64 ((X : Int))) := by rw [hlA, cellAt_app2]; rfl
          have hg2 : cellAt ((C) ++ (P5 ⟨(X : Int), (X : Int), (Y : Int), (Y : Int), 0⟩ )) (0 + m * 5 + 1) = some (.int .i64 ((X : Int))) := by rw [hlA, cellAt_app2]; rfl
          have hw1 : over ((C) ++ (P5 ⟨(X : Int), (X : Int), (Y : Int), (Y : Int), 0⟩ )) (0 + m * 5 + 0) [.int .i64 (min ((X : Int)) X), .int .i64 (max ((X : Int)) X)] = (C) ++ (P5 ⟨min ((X : Int)) X, max ((X : Int)) X, (Y : Int), (Y : Int), 0⟩ ) := by rw [hlA, over_app]; rfl
          have hg3 : cellAt ((C) ++ (P5 ⟨min ((X : Int)) X, max ((X : Int)) X, (Y : Int), (Y : Int), 0⟩ )) (0 + m * 5 + 3) = some (.int .i64 ((Y : Int))) := by rw [hlA, cellAt_app2]; rfl
          have hw2 : over ((C) ++ (P5 ⟨min ((X : Int)) X, max ((X : Int)) X, (Y : Int), (Y : Int), 0⟩ )) (0 + m * 5 + 3) [.int .i64 (max ((Y : Int)) Y)] = (C) ++ (P5 ⟨min ((X : Int)) X, max ((X : Int)) X, (Y : Int), max ((Y : Int)) Y, 0⟩ ) := by rw [hlA, over_app]; rfl
          have hg4 : cellAt ((C) ++ (P5 ⟨min ((X : Int)) X, max ((X : Int)) X, (Y : Int), max ((Y : Int)) Y, 0⟩ )) (0 + m * 5 + 4) = some (.int .i64 (0)) := by rw [hlA, cellAt_app2]; rfl
          have hw3 : over ((C) ++ (P5 ⟨min ((X : Int)) X, max ((X : Int)) X, (Y : Int), max ((Y : Int)) Y, 0⟩ )) (0 + m * 5 + 4) [.int .i64 (0 + 1)] = (C) ++ (P5 ⟨min ((X : Int)) X, max ((X : Int)) X, (Y : Int), max ((Y : Int)) Y, 0 + 1⟩ ) := by rw [hlA, over_app]; first | rfl | rw [over5]
          have hL0 := hLn ⟨(X : Int), (X : Int), (Y : Int), (Y : Int), 0⟩
          have hL1 := hLn ⟨min ((X : Int)) X, max ((X : Int)) X, (Y : Int), (Y : Int), 0⟩
          have hL2 := hLn ⟨min ((X : Int)) X, max ((X : Int)) X, (Y : Int), max ((Y : Int)) Y, 0⟩
          have hM0 : 0 + m * 5 + 0 + 2 ≤ ((C) ++ (P5 ⟨(X : Int), (X : Int), (Y : Int), (Y : Int), 0⟩ )).length := by rw [hL0]; omega
          have hM1 : 0 + m * 5 + 3 + 1 ≤ ((C) ++ (P5 ⟨min ((X : Int)) X, max ((X : Int)) X, (Y : Int), (Y : Int), 0⟩ )).length := by rw [hL1]; omega
          have hM2 : 0 + m * 5 + 4 + 1 ≤ ((C) ++ (P5 ⟨min ((X : Int)) X, max ((X : Int)) X, (Y : Int), max ((Y : Int)) Y, 0⟩ )).length := by rw [hL2]; omega
          repeat' (first
            | (conv => whnf)
              first
              | refine Bnd.eq hqd ?_
              | refine Bnd.eq hqm ?_
              | refine Br.t ?_
              | refine Br.f ?_
              | (refine Br.decT ?_ ?_; (focus first | assumption | omega))
              | (refine Br.decF ?_ ?_; (focus first | assumption | omega))
              | refine Br.dec (fun _ => ?_) (fun _ => ?_)
              | refine Br.not ?_
              | refine Br.and ?_
              | refine Br.or ?_
              | (refine Bnd.i64 ?_ ?_ ?_; (focus omega); (focus omega))
              | refine Req.mk hW0 ?_
              | refine Get.mk _ hco ?_
              | refine Get.mk _ hco1 ?_
              | refine Get.mk _ hg1 ?_
              | refine Get.mk _ hg2 ?_
              | refine Get.mk _ hg3 ?_
              | refine Get.mk _ hg4 ?_
              | refine fVe hw1 ?_
              | refine fVe hw2 ?_
              | refine fVe hw3 ?_
              | refine Req.mk hlen0 ?_
              | refine Req.mk hL0 ?_
              | refine Req.mk hL1 ?_
              | refine Req.mk hL2 ?_
              | refine Req.mk ⟨hL0, hM0⟩ ?_
              | refine Req.mk ⟨hL1, hM1⟩ ?_
              | refine Req.mk ⟨hL2, hM2⟩ ?_
              | refine Req.mk hcl ?_
              | refine Req.mk hroom ?_
              | refine Bnd.any ?_
              | (refine Idx.nat ?_ ?_; (focus omega))
              | refine Idx.nat (le_big (by omega)) ?_
              | (refine Idx.int ?_ ?_ ?_; (focus omega); (focus omega))
              | (refine Idx.int ?_ ?_ ?_; (focus decide); (focus decide))
              | refine Ifz.zero ?_
              | (refine Ifz.pos ?_ ?_; (focus omega))
              | refine Get.mk _ rfl ?_
              | refine Leaves.of ?_
              | refine Ends.of ?_
              | refine Vw.bool ?_
              | refine Vw.int ?_
              | refine Vw.nil
              | refine Vw.sl
              | refine Vw.tup ?_
              | refine Vw.agg ?_
              | refine VwL.cons ?_ ?_
              | refine VwL.nil
              | refine LeavesF.of ?_
              | refine VwF.bool ?_
              | refine VwF.int ?_
              | refine VwF.nil
              | refine VwF.sl
              | refine VwF.tup ?_
              | refine VwF.agg ?_
              | refine VwLF.cons ?_ ?_
              | refine VwLF.nil
              | (refine Req.mk ?_ ?_; (focus first | rfl | decide | exact ⟨rfl, rfl⟩ | exact ⟨rfl, by decide⟩ | exact (fun _ => rfl) | exact (fun h => nomatch h) | (simp; done) | omega | (simp [big]; done) | exact le_big (by omega) | exact lt_big (by omega))))
          all_goals first | exact NextP.mk (i + 1, m + 1) ⟨hin, s1⟩ (by dsimp only; omega) (by dsimp only; rw [hfin, hfin2]; rfl) | (exfalso; omega)
      · have hlt : m < K := by omega
        have s1 := hB hlt
        have hnx := outS_next (W := W) hcp hKC hm hmem hlt
        have hy1 := fS_y1 (W := W) (i := i) hcp hm
        have hnn := fS_n (W := W) (Cs := Cs) i m
        have hst0 := ((hcp.at hm).2.2.2 i hmem).1
        have hdv := Nat.div_le_div_right (c := W) hst0
        rw [hYe] at hdv
        have hmS : m < (outS W Cs i K).length := by rw [hKl]; exact hlt
        have hgm : (outS W Cs i K)[m] = fS W Cs i m := by simp only [outS, List.getElem_map, List.getElem_range]
        obtain ⟨A, B, hAl, hof, hos, hln⟩ := ofSpt_split hmS
        rw [hgm] at hof
        rw [hKl] at hln
        cases hfs : fS W Cs i m with
        | mk a1 a2 b1 b2 cn =>
          rw [hfs] at hy1 hnn hof hnx
          dsimp only at hy1 hnn
          have hadd : Spt.add W ⟨a1, a2, b1, b2, cn⟩ i = ⟨min a1 X, max a2 X, b1, max b2 Y, cn + 1⟩ := by
            simp only [Spt.add, hXe, hYe]
            rw [show min b1 (Y : Int) = b1 by omega]
          rw [hadd] at hnx
          have hof2 := hos ⟨min a1 X, max a2 X, b1, max b2 Y, cn + 1⟩
          rw [← hnx] at hof2
          cases hS : outS W Cs i K with
          | nil => rw [hS] at hKl; simp at hKl; omega
          | cons s S =>
            have hKS : S.length + 1 = K := by rw [hS] at hKl; exact hKl
            have hH0 : ∀ bx, rH bx (s :: S) = [bx, .blk (ofSpt (s :: S)) true] := fun _ => rfl
            have hO0 : rO (s :: S) = .ms 5 1 (5 * (S.length + 1)) 0 (S.length + 1) false := rfl
            rw [hS] at hof
            rw [hH0, hO0, hof]
            have hE : (outS W Cs (i + 1) K).length = K := outS_length _ _
            have hfin : rH (.blk [.int .i64 W, .int .i64 H, .sl c l.length (ofBytes l)] false) (outS W Cs (i + 1) K) = [.blk [.int .i64 W, .int .i64 H, .sl c l.length (ofBytes l)] false, .blk (A ++ (P5 ⟨min a1 X, max a2 X, b1, max b2 Y, cn + 1⟩ ++ B)) true] ∧ rO (outS W Cs (i + 1) K) = .ms 5 1 (5 * (S.length + 1)) 0 (S.length + 1) false := by
              rw [← hof2]
              cases hE2 : outS W Cs (i + 1) K with
              | nil => rw [hE2] at hE; simp at hE; omega
              | cons s' S' =>
                rw [hE2] at hE
                have : S'.length = S.length := by simp at hE; omega
                exact ⟨rfl, by show V.ms _ _ _ _ _ _ = _; rw [this]⟩
            obtain ⟨hfin, hfin2⟩ := hfin
            have hLn : ∀ s, (A ++ (P5 s ++ B)).length = 5 * (S.length + 1) := fun s => by rw [hln, ← hKS]
            clear hH0 hO0 hS hof2 hnx hos hln hof hgm hmS
            have hlA : 0 + m * 5 = (A).length := by omega
            have hg1 : cellAt ((A) ++ (P5 ⟨a1, a2, b1, b2, cn⟩ ++ B)) (0 + m * 5 + 0) = some (.int .i64 (a1)) := by rw [hlA, cellAt_app2]; rfl
            have hg2 : cellAt ((A) ++ (P5 ⟨a1, a2, b1, b2, cn⟩ ++ B)) (0 + m * 5 + 1) = some (.int .i64 (a2)) := by rw [hlA, cellAt_app2]; rfl
            have hw1 : over ((A) ++ (P5 ⟨a1, a2, b1, b2, cn⟩ ++ B)) (0 + m * 5 + 0) [.int .i64 (min (a1) X), .int .i64 (max (a2) X)] = (A) ++ (P5 ⟨min (a1) X, max (a2) X, b1, b2, cn⟩ ++ B) := by rw [hlA, over_app]; rfl
            have hg3 : cellAt ((A) ++ (P5 ⟨min (a1) X, max (a2) X, b1, b2, cn⟩ ++ B)) (0 + m * 5 + 3) = some (.int .i64 (b2)) := by rw [hlA, cellAt_app2]; rfl
            have hw2 : over ((A) ++ (P5 ⟨min (a1) X, max (a2) X, b1, b2, cn⟩ ++ B)) (0 + m * 5 + 3) [.int .i64 (max (b2) Y)] = (A) ++ (P5 ⟨min (a1) X, max (a2) X, b1, max (b2) Y, cn⟩ ++ B) := by rw [hlA, over_app]; rfl
            have hg4 : cellAt ((A) ++ (P5 ⟨min (a1) X, max (a2) X, b1, max (b2) Y, cn⟩ ++ B)) (0 + m * 5 + 4) = some (.int .i64 (cn)) := by rw [hlA, cellAt_app2]; rfl
            have hw3 : over ((A) ++ (P5 ⟨min (a1) X, max (a2) X, b1, max (b2) Y, cn⟩ ++ B)) (0 + m * 5 + 4) [.int .i64 (cn + 1)] = (A) ++ (P5 ⟨min (a1) X, max (a2) X, b1, max (b2) Y, cn + 1⟩ ++ B) := by rw [hlA, over_app]; first | rfl | rw [over5]
            have hL0 := hLn ⟨a1, a2, b1, b2, cn⟩
            have hL1 := hLn ⟨min (a1) X, max (a2) X, b1, b2, cn⟩
            have hL2 := hLn ⟨min (a1) X, max (a2) X, b1, max (b2) Y, cn⟩
            have hM0 : 0 + m * 5 + 0 + 2 ≤ ((A) ++ (P5 ⟨a1, a2, b1, b2, cn⟩ ++ B)).length := by rw [hL0]; omega
            have hM1 : 0 + m * 5 + 3 + 1 ≤ ((A) ++ (P5 ⟨min (a1) X, max (a2) X, b1, b2, cn⟩ ++ B)).length := by rw [hL1]; omega
            have hM2 : 0 + m * 5 + 4 + 1 ≤ ((A) ++ (P5 ⟨min (a1) X, max (a2) X, b1, max (b2) Y, cn⟩ ++ B)).length := by rw [hL2]; omega
            repeat' (first
              | (conv => whnf)
                first
                | refine Bnd.eq hqd ?_
                | refine Bnd.eq hqm ?_
                | refine Br.t ?_
                | refine Br.f ?_
                | (refine Br.decT ?_ ?_; (focus first | assumption | omega))
                | (refine Br.decF ?_ ?_; (focus first | assumption | omega))
                | refine Br.dec (fun _ => ?_) (fun _ => ?_)
                | refine Br.not ?_
                | refine Br.and ?_
                | refine Br.or ?_
                | (refine Bnd.i64 ?_ ?_ ?_; (focus omega); (focus omega))
                | refine Req.mk hW0 ?_
                | refine Get.mk _ hco ?_
                | refine Get.mk _ hco1 ?_
                | refine Get.mk _ hg1 ?_
                | refine Get.mk _ hg2 ?_
                | refine Get.mk _ hg3 ?_
                | refine Get.mk _ hg4 ?_
                | refine fVe hw1 ?_
                | refine fVe hw2 ?_
                | refine fVe hw3 ?_
                | refine Req.mk hlen0 ?_
                | refine Req.mk hL0 ?_
                | refine Req.mk hL1 ?_
                | refine Req.mk hL2 ?_
                | refine Req.mk ⟨hL0, hM0⟩ ?_
                | refine Req.mk ⟨hL1, hM1⟩ ?_
                | refine Req.mk ⟨hL2, hM2⟩ ?_
                | refine Req.mk hcl ?_
                | refine Req.mk hroom ?_
                | refine Bnd.any ?_
                | (refine Idx.nat ?_ ?_; (focus omega))
                | refine Idx.nat (le_big (by omega)) ?_
                | (refine Idx.int ?_ ?_ ?_; (focus omega); (focus omega))
                | (refine Idx.int ?_ ?_ ?_; (focus decide); (focus decide))
                | refine Ifz.zero ?_
                | (refine Ifz.pos ?_ ?_; (focus omega))
                | refine Get.mk _ rfl ?_
                | refine Leaves.of ?_
                | refine Ends.of ?_
                | refine Vw.bool ?_
                | refine Vw.int ?_
                | refine Vw.nil
                | refine Vw.sl
                | refine Vw.tup ?_
                | refine Vw.agg ?_
                | refine VwL.cons ?_ ?_
                | refine VwL.nil
                | refine LeavesF.of ?_
                | refine VwF.bool ?_
                | refine VwF.int ?_
                | refine VwF.nil
                | refine VwF.sl
                | refine VwF.tup ?_
                | refine VwF.agg ?_
                | refine VwLF.cons ?_ ?_
                | refine VwLF.nil
                | (refine Req.mk ?_ ?_; (focus first | rfl | decide | exact ⟨rfl, rfl⟩ | exact ⟨rfl, by decide⟩ | exact (fun _ => rfl) | exact (fun h => nomatch h) | (simp; done) | omega | (simp [big]; done) | exact le_big (by omega) | exact lt_big (by omega))))
            all_goals first | exact NextP.mk (i + 1, K) ⟨hin, s1⟩ (by dsimp only; omega) (by dsimp only; rw [hfin, hfin2]; rfl) | (exfalso; omega)
  · obtain rfl : i = l.length := by omega
    rw [← hall K hSc]
    cases hS : outS W Cs l.length K with
    | nil =>
      repeat' (first
        | (conv => whnf)
          first
          | refine Br.t ?_
          | refine Br.f ?_
          | (refine Br.decT ?_ ?_; (focus first | assumption | omega))
          | (refine Br.decF ?_ ?_; (focus first | assumption | omega))
          | refine Br.dec (fun _ => ?_) (fun _ => ?_)
          | refine Br.not ?_
          | refine Br.and ?_
          | refine Br.or ?_
          | (refine Bnd.i64 ?_ ?_ ?_; (focus omega); (focus omega))
          | (refine Idx.nat ?_ ?_; (focus omega))
          | refine Idx.nat (le_big (by omega)) ?_
          | (refine Idx.int ?_ ?_ ?_; (focus omega); (focus omega))
          | (refine Idx.int ?_ ?_ ?_; (focus decide); (focus decide))
          | refine Ifz.zero ?_
          | (refine Ifz.pos ?_ ?_; (focus omega))
          | refine Get.mk _ rfl ?_
          | refine Leaves.of ?_
          | refine Ends.of ?_
          | refine Vw.bool ?_
          | refine Vw.int ?_
          | refine Vw.nil
          | refine Vw.sl
          | refine Vw.tup ?_
          | refine Vw.agg ?_
          | refine VwL.cons ?_ ?_
          | refine VwL.nil
          | refine LeavesF.of ?_
          | refine VwF.bool ?_
          | refine VwF.int ?_
          | refine VwF.nil
          | refine VwF.sl
          | refine VwF.tup ?_
          | refine VwF.agg ?_
          | refine VwLF.cons ?_ ?_
          | refine VwLF.nil
          | (refine Req.mk ?_ ?_; (focus first | rfl | decide | exact ⟨rfl, rfl⟩ | exact ⟨rfl, by decide⟩ | exact (fun _ => rfl) | exact (fun h => nomatch h) | (simp; done) | omega | (simp [big]; done) | exact le_big (by omega) | exact lt_big (by omega))))
      all_goals first | rfl | (exfalso; omega)
    | cons s S =>
      repeat' (first
        | (conv => whnf)
          first
          | refine Br.t ?_
          | refine Br.f ?_
          | (refine Br.decT ?_ ?_; (focus first | assumption | omega))
          | (refine Br.decF ?_ ?_; (focus first | assumption | omega))
          | refine Br.dec (fun _ => ?_) (fun _ => ?_)
          | refine Br.not ?_
          | refine Br.and ?_
          | refine Br.or ?_
          | (refine Bnd.i64 ?_ ?_ ?_; (focus omega); (focus omega))
          | refine Vw.spt rfl rfl rfl rfl
          | (refine Idx.nat ?_ ?_; (focus omega))
          | refine Idx.nat (le_big (by omega)) ?_
          | (refine Idx.int ?_ ?_ ?_; (focus omega); (focus omega))
          | (refine Idx.int ?_ ?_ ?_; (focus decide); (focus decide))
          | refine Ifz.zero ?_
          | (refine Ifz.pos ?_ ?_; (focus omega))
          | refine Get.mk _ rfl ?_
          | refine Leaves.of ?_
          | refine Ends.of ?_
          | refine Vw.bool ?_
          | refine Vw.int ?_
          | refine Vw.nil
          | refine Vw.sl
          | refine Vw.tup ?_
          | refine Vw.agg ?_
          | refine VwL.cons ?_ ?_
          | refine VwL.nil
          | refine LeavesF.of ?_
          | refine VwF.bool ?_
          | refine VwF.int ?_
          | refine VwF.nil
          | refine VwF.sl
          | refine VwF.tup ?_
          | refine VwF.agg ?_
          | refine VwLF.cons ?_ ?_
          | refine VwLF.nil
          | (refine Req.mk ?_ ?_; (focus first | rfl | decide | exact ⟨rfl, rfl⟩ | exact ⟨rfl, by decide⟩ | exact (fun _ => rfl) | exact (fun h => nomatch h) | (simp; done) | omega | (simp [big]; done) | exact le_big (by omega) | exact lt_big (by omega))))
      all_goals first | rfl | (exfalso; omega)

end Go.Dr.T
