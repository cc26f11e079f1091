/- Chapter 09: cuts; After, Slip; the law SoundSlips. -/
import Derived.Test.YtokbdaiamhibeaaR09Gn
import Derived.Test.YtokbdaiamhibeaaR09Awk
namespace Go.Dr.T

theorem outB_any (n lo hi : Int) : Fun F md 86 [.int .i64 n, .int .i64 lo, .int .i64 hi] (.bool (decide (n < lo) || decide (hi < n))) := by
  refine fun_of rfl rfl ?_
  repeat' (first
    | (conv => whnf)
      first
      | refine Br.t ?_
      | refine Br.f ?_
      | (refine Br.decT ?_ ?_; (focus first | assumption | omega))
      | (refine Br.decF ?_ ?_; (focus first | assumption | omega))
      | refine Br.dec (fun _ => ?_) (fun _ => ?_)
      | refine Br.not ?_
      | refine Br.and ?_
      | refine Br.or ?_
      | (refine Bnd.i64 ?_ ?_ ?_; (focus omega); (focus omega))
      | (refine Idx.nat ?_ ?_; (focus omega))
      | refine Idx.nat (le_big (by omega)) ?_
      | (refine Idx.int ?_ ?_ ?_; (focus omega); (focus omega))
      | (refine Idx.int ?_ ?_ ?_; (focus decide); (focus decide))
      | refine Ifz.zero ?_
      | (refine Ifz.pos ?_ ?_; (focus omega))
      | refine Get.mk _ rfl ?_
      | refine Leaves.of ?_
      | refine Ends.of ?_
      | refine Vw.bool ?_
      | refine Vw.int ?_
      | refine Vw.nil
      | refine Vw.sl
      | refine Vw.tup ?_
      | refine Vw.agg ?_
      | refine VwL.cons ?_ ?_
      | refine VwL.nil
      | refine LeavesF.of ?_
      | refine VwF.bool ?_
      | refine VwF.int ?_
      | refine VwF.nil
      | refine VwF.sl
      | refine VwF.tup ?_
      | refine VwF.agg ?_
      | refine VwLF.cons ?_ ?_
      | refine VwLF.nil
      | (refine Req.mk ?_ ?_; (focus first | rfl | decide | exact ⟨rfl, rfl⟩ | exact ⟨rfl, by decide⟩ | exact (fun _ => rfl) | exact (fun h => nomatch h) | (simp; done) | omega | (simp [big]; done) | exact le_big (by omega) | exact lt_big (by omega))))
  all_goals (simp_all <;> omega)
theorem inB_any (n lo hi : Int) : Fun F md 91 [.int .i64 n, .int .i64 lo, .int .i64 hi] (.bool (decide (lo ≤ n) && decide (n ≤ hi))) := by
  refine fun_of rfl rfl ?_
  repeat' (first
    | (conv => whnf)
      first
      | refine Br.t ?_
      | refine Br.f ?_
      | (refine Br.decT ?_ ?_; (focus first | assumption | omega))
      | (refine Br.decF ?_ ?_; (focus first | assumption | omega))
      | refine Br.dec (fun _ => ?_) (fun _ => ?_)
      | refine Br.not ?_
      | refine Br.and ?_
      | refine Br.or ?_
      | (refine Bnd.i64 ?_ ?_ ?_; (focus omega); (focus omega))
      | (refine Idx.nat ?_ ?_; (focus omega))
      | refine Idx.nat (le_big (by omega)) ?_
      | (refine Idx.int ?_ ?_ ?_; (focus omega); (focus omega))
      | (refine Idx.int ?_ ?_ ?_; (focus decide); (focus decide))
      | refine Ifz.zero ?_
      | (refine Ifz.pos ?_ ?_; (focus omega))
      | refine Get.mk _ rfl ?_
      | refine Leaves.of ?_
      | refine Ends.of ?_
      | refine Vw.bool ?_
      | refine Vw.int ?_
      | refine Vw.nil
      | refine Vw.sl
      | refine Vw.tup ?_
      | refine Vw.agg ?_
      | refine VwL.cons ?_ ?_
      | refine VwL.nil
      | refine LeavesF.of ?_
      | refine VwF.bool ?_
      | refine VwF.int ?_
      | refine VwF.nil
      | refine VwF.sl
      | refine VwF.tup ?_
      | refine VwF.agg ?_
      | refine VwLF.cons ?_ ?_
      | refine VwLF.nil
      | (refine Req.mk ?_ ?_; (focus first | rfl | decide | exact ⟨rfl, rfl⟩ | exact ⟨rfl, by decide⟩ | exact (fun _ => rfl) | exact (fun h => nomatch h) | (simp; done) | omega | (simp [big]; done) | exact le_big (by omega) | exact lt_big (by omega))))
  all_goals (simp_all <;> omega)
/-- how many frames are left, and the error. -/
def cutsE : Int → List (Int × Int) → Int × Int
  | n, [] => (n, 0)
  | n, x :: l => if x.1 < 0 ∨ n - 1 < x.1 ∨ x.2 < 0 ∨ n - 1 < x.2 then (0, 7) else if x.2 < x.1 then (0, 2) else cutsE (n - (x.2 - x.1 + 1)) l
def madeE (n : Int) (l : List (Int × Int)) : Int × Int := if n < 1 ∨ 200000 < n then (0, 7) else if 30 < l.length then (0, 3) else cutsE n l
def afterF : Int → List (Int × Int) → Int × Int
  | f, [] => (f, 0)
  | f, x :: l => if x.2 < f then afterF (f - (x.2 - x.1 + 1)) l else if x.1 ≤ f then (0, 4) else afterF f l
def aftE (n : Int) (l : List (Int × Int)) (f : Int) : Int × Int := if (madeE n l).2 ≠ 0 then (0, (madeE n l).2) else if f < 0 ∨ n - 1 < f then (0, 7) else afterF f l
def slipE (n lead : Int) (l : List (Int × Int)) (f : Int) : Int × Int :=
  if lead < 0 ∨ 100 < lead then (0, 7) else if (aftE n l f).2 ≠ 0 then (0, (aftE n l f).2) else if n ≤ f + lead then (0, 7) else if (aftE n l (f + lead)).2 ≠ 0 then (0, 190) else (lead - (aftE n l (f + lead)).1 + (aftE n l f).1, 0)
abbrev pV (x : Int × Int) : V := .tup [.int .i64 x.1, .int .i64 x.2]

theorem long_any {a b : Int} (h : (-1000000000 ≤ a ∧ a ≤ 1000000000) ∧ (-1000000000 ≤ b ∧ b ≤ 1000000000)) : Fun F md 88 [.agg [.int .i64 a, .int .i64 b]] (.int .i64 (b - a + 1)) := by
  refine fun_of rfl rfl ?_
  repeat' (first
    | (conv => whnf)
      first
      | refine Br.t ?_
      | refine Br.f ?_
      | (refine Br.decT ?_ ?_; (focus first | assumption | omega))
      | (refine Br.decF ?_ ?_; (focus first | assumption | omega))
      | refine Br.dec (fun _ => ?_) (fun _ => ?_)
      | refine Br.not ?_
      | refine Br.and ?_
      | refine Br.or ?_
      | (refine Bnd.i64 ?_ ?_ ?_; (focus omega); (focus omega))
      | (refine Idx.nat ?_ ?_; (focus omega))
      | refine Idx.nat (le_big (by omega)) ?_
      | (refine Idx.int ?_ ?_ ?_; (focus omega); (focus omega))
      | (refine Idx.int ?_ ?_ ?_; (focus decide); (focus decide))
      | refine Ifz.zero ?_
      | (refine Ifz.pos ?_ ?_; (focus omega))
      | refine Get.mk _ rfl ?_
      | refine Leaves.of ?_
      | refine Ends.of ?_
      | refine Vw.bool ?_
      | refine Vw.int ?_
      | refine Vw.nil
      | refine Vw.sl
      | refine Vw.tup ?_
      | refine Vw.agg ?_
      | refine VwL.cons ?_ ?_
      | refine VwL.nil
      | refine LeavesF.of ?_
      | refine VwF.bool ?_
      | refine VwF.int ?_
      | refine VwF.nil
      | refine VwF.sl
      | refine VwF.tup ?_
      | refine VwF.agg ?_
      | refine VwLF.cons ?_ ?_
      | refine VwLF.nil
      | (refine Req.mk ?_ ?_; (focus first | rfl | decide | exact ⟨rfl, rfl⟩ | exact ⟨rfl, by decide⟩ | exact (fun _ => rfl) | exact (fun h => nomatch h) | (simp; done) | omega | (simp [big]; done) | exact le_big (by omega) | exact lt_big (by omega))))
  all_goals rfl
set_option maxRecDepth 100000 in
set_option maxHeartbeats 20000000 in
theorem made_any (n : Int) (c : Bool) (l : List (Int × Int)) : Fun F md 85 [.int .i64 n, .sl c l.length (ofSp l)] (pV (madeE n l)) := by
  unfold madeE
  by_cases h1 : n < 1 ∨ 200000 < n
  · rw [if_pos h1]
    refine fun_of rfl rfl ?_
    repeat' (first
      | (conv => whnf)
        first
        | refine Br.t ?_
        | refine Br.f ?_
        | (refine Br.decT ?_ ?_; (focus first | assumption | omega))
        | (refine Br.decF ?_ ?_; (focus first | assumption | omega))
        | refine Br.dec (fun _ => ?_) (fun _ => ?_)
        | refine Br.not ?_
        | refine Br.and ?_
        | refine Br.or ?_
        | (refine Bnd.i64 ?_ ?_ ?_; (focus omega); (focus omega))
        | refine call_fun rfl rfl (outB_any _ _ _) (.inl rfl) ?_
        | (refine Idx.nat ?_ ?_; (focus omega))
        | refine Idx.nat (le_big (by omega)) ?_
        | (refine Idx.int ?_ ?_ ?_; (focus omega); (focus omega))
        | (refine Idx.int ?_ ?_ ?_; (focus decide); (focus decide))
        | refine Ifz.zero ?_
        | (refine Ifz.pos ?_ ?_; (focus omega))
        | refine Get.mk _ rfl ?_
        | refine Leaves.of ?_
        | refine Ends.of ?_
        | refine Vw.bool ?_
        | refine Vw.int ?_
        | refine Vw.nil
        | refine Vw.sl
        | refine Vw.tup ?_
        | refine Vw.agg ?_
        | refine VwL.cons ?_ ?_
        | refine VwL.nil
        | refine LeavesF.of ?_
        | refine VwF.bool ?_
        | refine VwF.int ?_
        | refine VwF.nil
        | refine VwF.sl
        | refine VwF.tup ?_
        | refine VwF.agg ?_
        | refine VwLF.cons ?_ ?_
        | refine VwLF.nil
        | (refine Req.mk ?_ ?_; (focus first | rfl | decide | exact ⟨rfl, rfl⟩ | exact ⟨rfl, by decide⟩ | exact (fun _ => rfl) | exact (fun h => nomatch h) | (simp; done) | omega | (simp [big]; done) | exact le_big (by omega) | exact lt_big (by omega))))
    all_goals first | rfl | (exfalso; omega)
  · rw [if_neg h1]
    by_cases h2 : 30 < l.length
    · rw [if_pos h2]
      refine fun_of rfl rfl ?_
      repeat' (first
        | (conv => whnf)
          first
          | refine Br.t ?_
          | refine Br.f ?_
          | (refine Br.decT ?_ ?_; (focus first | assumption | omega))
          | (refine Br.decF ?_ ?_; (focus first | assumption | omega))
          | refine Br.dec (fun _ => ?_) (fun _ => ?_)
          | refine Br.not ?_
          | refine Br.and ?_
          | refine Br.or ?_
          | (refine Bnd.i64 ?_ ?_ ?_; (focus omega); (focus omega))
          | refine call_fun rfl rfl (outB_any _ _ _) (.inl rfl) ?_
          | (refine Idx.nat ?_ ?_; (focus omega))
          | refine Idx.nat (le_big (by omega)) ?_
          | (refine Idx.int ?_ ?_ ?_; (focus omega); (focus omega))
          | (refine Idx.int ?_ ?_ ?_; (focus decide); (focus decide))
          | refine Ifz.zero ?_
          | (refine Ifz.pos ?_ ?_; (focus omega))
          | refine Get.mk _ rfl ?_
          | refine Leaves.of ?_
          | refine Ends.of ?_
          | refine Vw.bool ?_
          | refine Vw.int ?_
          | refine Vw.nil
          | refine Vw.sl
          | refine Vw.tup ?_
          | refine Vw.agg ?_
          | refine VwL.cons ?_ ?_
          | refine VwL.nil
          | refine LeavesF.of ?_
          | refine VwF.bool ?_
          | refine VwF.int ?_
          | refine VwF.nil
          | refine VwF.sl
          | refine VwF.tup ?_
          | refine VwF.agg ?_
          | refine VwLF.cons ?_ ?_
          | refine VwLF.nil
          | (refine Req.mk ?_ ?_; (focus first | rfl | decide | exact ⟨rfl, rfl⟩ | exact ⟨rfl, by decide⟩ | exact (fun _ => rfl) | exact (fun h => nomatch h) | (simp; done) | omega | (simp [big]; done) | exact le_big (by omega) | exact lt_big (by omega))))
      all_goals first | rfl | (exfalso; omega)
    · rw [if_neg h2]
      refine fun_of rfl rfl ?_
      repeat' (first
        | (conv => whnf)
          first
          | refine Br.t ?_
          | refine Br.f ?_
          | (refine Br.decT ?_ ?_; (focus first | assumption | omega))
          | (refine Br.decF ?_ ?_; (focus first | assumption | omega))
          | refine Br.dec (fun _ => ?_) (fun _ => ?_)
          | refine Br.not ?_
          | refine Br.and ?_
          | refine Br.or ?_
          | (refine Bnd.i64 ?_ ?_ ?_; (focus omega); (focus omega))
          | refine call_fun rfl rfl (outB_any _ _ _) (.inl rfl) ?_
          | (refine Idx.nat ?_ ?_; (focus omega))
          | refine Idx.nat (le_big (by omega)) ?_
          | (refine Idx.int ?_ ?_ ?_; (focus omega); (focus omega))
          | (refine Idx.int ?_ ?_ ?_; (focus decide); (focus decide))
          | refine Ifz.zero ?_
          | (refine Ifz.pos ?_ ?_; (focus omega))
          | refine Get.mk _ rfl ?_
          | refine Leaves.of ?_
          | refine Ends.of ?_
          | refine Vw.bool ?_
          | refine Vw.int ?_
          | refine Vw.nil
          | refine Vw.sl
          | refine Vw.tup ?_
          | refine Vw.agg ?_
          | refine VwL.cons ?_ ?_
          | refine VwL.nil
          | refine LeavesF.of ?_
          | refine VwF.bool ?_
          | refine VwF.int ?_
          | refine VwF.nil
          | refine VwF.sl
          | refine VwF.tup ?_
          | refine VwF.agg ?_
          | refine VwLF.cons ?_ ?_
          | refine VwLF.nil
          | (refine Req.mk ?_ ?_; (focus first | rfl | decide | exact ⟨rfl, rfl⟩ | exact ⟨rfl, by decide⟩ | exact (fun _ => rfl) | exact (fun h => nomatch h) | (simp; done) | omega | (simp [big]; done) | exact le_big (by omega) | exact lt_big (by omega))))
      all_goals try (exfalso; omega)
      refine LoopP.by (fun a : Nat × Int => a.1 ≤ l.length ∧ cutsE n l = cutsE a.2 (l.drop a.1) ∧ 0 ≤ a.2 ∧ a.2 ≤ 200000) (fun a => [(0, .int .i64 a.2), (17, .int .i64 (a.1 : Nat))]) (fun _ => []) (fun a => l.length - a.1) (0, n) ⟨Nat.zero_le _, rfl, by simp only; omega⟩ rfl ?_
      rintro ⟨i, m⟩ ⟨hi, hd, hm⟩
      dsimp only at hi hd hm ⊢
      by_cases hin : i < l.length
      · have hc0 := ofSp_cell0 (l := l) hin
        have hc1 := ofSp_cell1 (l := l) hin
        have hpt := ofSp_part (l := l) hin
        rw [List.drop_eq_getElem_cons hin] at hd
        generalize l[i] = x at *
        obtain ⟨a, b⟩ := x
        simp only [cutsE] at hd
        simp only at hc0 hc1 hpt
        by_cases q1 : a < 0 ∨ m - 1 < a ∨ b < 0 ∨ m - 1 < b
        · rw [if_pos q1] at hd
          rw [hd]
          repeat' (first
            | (conv => whnf)
              first
              | refine Br.t ?_
              | refine Br.f ?_
              | (refine Br.decT ?_ ?_; (focus first | assumption | omega))
              | (refine Br.decF ?_ ?_; (focus first | assumption | omega))
              | refine Br.dec (fun _ => ?_) (fun _ => ?_)
              | refine Br.not ?_
              | refine Br.and ?_
              | refine Br.or ?_
              | (refine Bnd.i64 ?_ ?_ ?_; (focus omega); (focus omega))
              | refine Get.mk _ hpt ?_
              | refine Get.mk _ hc0 ?_
              | refine Get.mk _ hc1 ?_
              | refine call_fun rfl rfl (outB_any _ _ _) (.inl rfl) ?_
              | (refine Idx.nat ?_ ?_; (focus omega))
              | refine Idx.nat (le_big (by omega)) ?_
              | (refine Idx.int ?_ ?_ ?_; (focus omega); (focus omega))
              | (refine Idx.int ?_ ?_ ?_; (focus decide); (focus decide))
              | refine Ifz.zero ?_
              | (refine Ifz.pos ?_ ?_; (focus omega))
              | refine Get.mk _ rfl ?_
              | refine Leaves.of ?_
              | refine Ends.of ?_
              | refine Vw.bool ?_
              | refine Vw.int ?_
              | refine Vw.nil
              | refine Vw.sl
              | refine Vw.tup ?_
              | refine Vw.agg ?_
              | refine VwL.cons ?_ ?_
              | refine VwL.nil
              | refine LeavesF.of ?_
              | refine VwF.bool ?_
              | refine VwF.int ?_
              | refine VwF.nil
              | refine VwF.sl
              | refine VwF.tup ?_
              | refine VwF.agg ?_
              | refine VwLF.cons ?_ ?_
              | refine VwLF.nil
              | (refine Req.mk ?_ ?_; (focus first | rfl | decide | exact ⟨rfl, rfl⟩ | exact ⟨rfl, by decide⟩ | exact (fun _ => rfl) | exact (fun h => nomatch h) | (simp; done) | omega | (simp [big]; done) | exact le_big (by omega) | exact lt_big (by omega))))
          all_goals first | rfl | (exfalso; omega)
        · rw [if_neg q1] at hd
          by_cases q2 : b < a
          · rw [if_pos q2] at hd
            rw [hd]
            repeat' (first
              | (conv => whnf)
                first
                | refine Br.t ?_
                | refine Br.f ?_
                | (refine Br.decT ?_ ?_; (focus first | assumption | omega))
                | (refine Br.decF ?_ ?_; (focus first | assumption | omega))
                | refine Br.dec (fun _ => ?_) (fun _ => ?_)
                | refine Br.not ?_
                | refine Br.and ?_
                | refine Br.or ?_
                | (refine Bnd.i64 ?_ ?_ ?_; (focus omega); (focus omega))
                | refine Get.mk _ hpt ?_
                | refine Get.mk _ hc0 ?_
                | refine Get.mk _ hc1 ?_
                | refine call_fun rfl rfl (outB_any _ _ _) (.inl rfl) ?_
                | (refine Idx.nat ?_ ?_; (focus omega))
                | refine Idx.nat (le_big (by omega)) ?_
                | (refine Idx.int ?_ ?_ ?_; (focus omega); (focus omega))
                | (refine Idx.int ?_ ?_ ?_; (focus decide); (focus decide))
                | refine Ifz.zero ?_
                | (refine Ifz.pos ?_ ?_; (focus omega))
                | refine Get.mk _ rfl ?_
                | refine Leaves.of ?_
                | refine Ends.of ?_
                | refine Vw.bool ?_
                | refine Vw.int ?_
                | refine Vw.nil
                | refine Vw.sl
                | refine Vw.tup ?_
                | refine Vw.agg ?_
                | refine VwL.cons ?_ ?_
                | refine VwL.nil
                | refine LeavesF.of ?_
                | refine VwF.bool ?_
                | refine VwF.int ?_
                | refine VwF.nil
                | refine VwF.sl
                | refine VwF.tup ?_
                | refine VwF.agg ?_
                | refine VwLF.cons ?_ ?_
                | refine VwLF.nil
                | (refine Req.mk ?_ ?_; (focus first | rfl | decide | exact ⟨rfl, rfl⟩ | exact ⟨rfl, by decide⟩ | exact (fun _ => rfl) | exact (fun h => nomatch h) | (simp; done) | omega | (simp [big]; done) | exact le_big (by omega) | exact lt_big (by omega))))
            all_goals first | rfl | (exfalso; omega)
          · rw [if_neg q2] at hd
            repeat' (first
              | (conv => whnf)
                first
                | refine Br.t ?_
                | refine Br.f ?_
                | (refine Br.decT ?_ ?_; (focus first | assumption | omega))
                | (refine Br.decF ?_ ?_; (focus first | assumption | omega))
                | refine Br.dec (fun _ => ?_) (fun _ => ?_)
                | refine Br.not ?_
                | refine Br.and ?_
                | refine Br.or ?_
                | (refine Bnd.i64 ?_ ?_ ?_; (focus omega); (focus omega))
                | refine Get.mk _ hpt ?_
                | refine Get.mk _ hc0 ?_
                | refine Get.mk _ hc1 ?_
                | refine call_fun rfl rfl (outB_any _ _ _) (.inl rfl) ?_
                | refine call_fun rfl rfl (long_any (by omega)) (.inl rfl) ?_
                | (refine Idx.nat ?_ ?_; (focus omega))
                | refine Idx.nat (le_big (by omega)) ?_
                | (refine Idx.int ?_ ?_ ?_; (focus omega); (focus omega))
                | (refine Idx.int ?_ ?_ ?_; (focus decide); (focus decide))
                | refine Ifz.zero ?_
                | (refine Ifz.pos ?_ ?_; (focus omega))
                | refine Get.mk _ rfl ?_
                | refine Leaves.of ?_
                | refine Ends.of ?_
                | refine Vw.bool ?_
                | refine Vw.int ?_
                | refine Vw.nil
                | refine Vw.sl
                | refine Vw.tup ?_
                | refine Vw.agg ?_
                | refine VwL.cons ?_ ?_
                | refine VwL.nil
                | refine LeavesF.of ?_
                | refine VwF.bool ?_
                | refine VwF.int ?_
                | refine VwF.nil
                | refine VwF.sl
                | refine VwF.tup ?_
                | refine VwF.agg ?_
                | refine VwLF.cons ?_ ?_
                | refine VwLF.nil
                | (refine Req.mk ?_ ?_; (focus first | rfl | decide | exact ⟨rfl, rfl⟩ | exact ⟨rfl, by decide⟩ | exact (fun _ => rfl) | exact (fun h => nomatch h) | (simp; done) | omega | (simp [big]; done) | exact le_big (by omega) | exact lt_big (by omega))))
            all_goals first | exact NextP.mk (i + 1, m - (b - a + 1)) ⟨hin, hd, by simp only; omega⟩ (by simp only; omega) rfl | (exfalso; omega)
      · obtain rfl : i = l.length := by omega
        rw [List.drop_length] at hd
        rw [hd]
        repeat' (first
          | (conv => whnf)
            first
            | refine Br.t ?_
            | refine Br.f ?_
            | (refine Br.decT ?_ ?_; (focus first | assumption | omega))
            | (refine Br.decF ?_ ?_; (focus first | assumption | omega))
            | refine Br.dec (fun _ => ?_) (fun _ => ?_)
            | refine Br.not ?_
            | refine Br.and ?_
            | refine Br.or ?_
            | (refine Bnd.i64 ?_ ?_ ?_; (focus omega); (focus omega))
            | (refine Idx.nat ?_ ?_; (focus omega))
            | refine Idx.nat (le_big (by omega)) ?_
            | (refine Idx.int ?_ ?_ ?_; (focus omega); (focus omega))
            | (refine Idx.int ?_ ?_ ?_; (focus decide); (focus decide))
            | refine Ifz.zero ?_
            | (refine Ifz.pos ?_ ?_; (focus omega))
            | refine Get.mk _ rfl ?_
            | refine Leaves.of ?_
            | refine Ends.of ?_
            | refine Vw.bool ?_
            | refine Vw.int ?_
            | refine Vw.nil
            | refine Vw.sl
            | refine Vw.tup ?_
            | refine Vw.agg ?_
            | refine VwL.cons ?_ ?_
            | refine VwL.nil
            | refine LeavesF.of ?_
            | refine VwF.bool ?_
            | refine VwF.int ?_
            | refine VwF.nil
            | refine VwF.sl
            | refine VwF.tup ?_
            | refine VwF.agg ?_
            | refine VwLF.cons ?_ ?_
            | refine VwLF.nil
            | (refine Req.mk ?_ ?_; (focus first | rfl | decide | exact ⟨rfl, rfl⟩ | exact ⟨rfl, by decide⟩ | exact (fun _ => rfl) | exact (fun h => nomatch h) | (simp; done) | omega | (simp [big]; done) | exact le_big (by omega) | exact lt_big (by omega))))
        all_goals first | rfl | (exfalso; omega)
set_option maxRecDepth 100000 in
set_option maxHeartbeats 20000000 in
theorem madeR_any (n : Int) (c : Bool) (l : List (Int × Int)) : Fun F md 90 [.int .i64 n, .sl c l.length (ofSp l)] (pV (madeE n l)) := by
  unfold madeE
  by_cases h1 : n < 1 ∨ 200000 < n
  · rw [if_pos h1]
    refine fun_of rfl rfl ?_
    repeat' (first
      | (conv => whnf)
        first
        | refine Br.t ?_
        | refine Br.f ?_
        | (refine Br.decT ?_ ?_; (focus first | assumption | omega))
        | (refine Br.decF ?_ ?_; (focus first | assumption | omega))
        | refine Br.dec (fun _ => ?_) (fun _ => ?_)
        | refine Br.not ?_
        | refine Br.and ?_
        | refine Br.or ?_
        | (refine Bnd.i64 ?_ ?_ ?_; (focus omega); (focus omega))
        | refine call_fun rfl rfl (inB_any _ _ _) (.inl rfl) ?_
        | (refine Idx.nat ?_ ?_; (focus omega))
        | refine Idx.nat (le_big (by omega)) ?_
        | (refine Idx.int ?_ ?_ ?_; (focus omega); (focus omega))
        | (refine Idx.int ?_ ?_ ?_; (focus decide); (focus decide))
        | refine Ifz.zero ?_
        | (refine Ifz.pos ?_ ?_; (focus omega))
        | refine Get.mk _ rfl ?_
        | refine Leaves.of ?_
        | refine Ends.of ?_
        | refine Vw.bool ?_
        | refine Vw.int ?_
        | refine Vw.nil
        | refine Vw.sl
        | refine Vw.tup ?_
        | refine Vw.agg ?_
        | refine VwL.cons ?_ ?_
        | refine VwL.nil
        | refine LeavesF.of ?_
        | refine VwF.bool ?_
        | refine VwF.int ?_
        | refine VwF.nil
        | refine VwF.sl
        | refine VwF.tup ?_
        | refine VwF.agg ?_
        | refine VwLF.cons ?_ ?_
        | refine VwLF.nil
        | (refine Req.mk ?_ ?_; (focus first | rfl | decide | exact ⟨rfl, rfl⟩ | exact ⟨rfl, by decide⟩ | exact (fun _ => rfl) | exact (fun h => nomatch h) | (simp; done) | omega | (simp [big]; done) | exact le_big (by omega) | exact lt_big (by omega))))
    all_goals first | rfl | (exfalso; omega)
  · rw [if_neg h1]
    by_cases h2 : 30 < l.length
    · rw [if_pos h2]
      refine fun_of rfl rfl ?_
      repeat' (first
        | (conv => whnf)
          first
          | refine Br.t ?_
          | refine Br.f ?_
          | (refine Br.decT ?_ ?_; (focus first | assumption | omega))
          | (refine Br.decF ?_ ?_; (focus first | assumption | omega))
          | refine Br.dec (fun _ => ?_) (fun _ => ?_)
          | refine Br.not ?_
          | refine Br.and ?_
          | refine Br.or ?_
          | (refine Bnd.i64 ?_ ?_ ?_; (focus omega); (focus omega))
          | refine call_fun rfl rfl (inB_any _ _ _) (.inl rfl) ?_
          | (refine Idx.nat ?_ ?_; (focus omega))
          | refine Idx.nat (le_big (by omega)) ?_
          | (refine Idx.int ?_ ?_ ?_; (focus omega); (focus omega))
          | (refine Idx.int ?_ ?_ ?_; (focus decide); (focus decide))
          | refine Ifz.zero ?_
          | (refine Ifz.pos ?_ ?_; (focus omega))
          | refine Get.mk _ rfl ?_
          | refine Leaves.of ?_
          | refine Ends.of ?_
          | refine Vw.bool ?_
          | refine Vw.int ?_
          | refine Vw.nil
          | refine Vw.sl
          | refine Vw.tup ?_
          | refine Vw.agg ?_
          | refine VwL.cons ?_ ?_
          | refine VwL.nil
          | refine LeavesF.of ?_
          | refine VwF.bool ?_
          | refine VwF.int ?_
          | refine VwF.nil
          | refine VwF.sl
          | refine VwF.tup ?_
          | refine VwF.agg ?_
          | refine VwLF.cons ?_ ?_
          | refine VwLF.nil
          | (refine Req.mk ?_ ?_; (focus first | rfl | decide | exact ⟨rfl, rfl⟩ | exact ⟨rfl, by decide⟩ | exact (fun _ => rfl) | exact (fun h => nomatch h) | (simp; done) | omega | (simp [big]; done) | exact le_big (by omega) | exact lt_big (by omega))))
      all_goals first | rfl | (exfalso; omega)
    · rw [if_neg h2]
      refine fun_of rfl rfl ?_
      repeat' (first
        | (conv => whnf)
          first
          | refine Br.t ?_
          | refine Br.f ?_
          | (refine Br.decT ?_ ?_; (focus first | assumption | omega))
          | (refine Br.decF ?_ ?_; (focus first | assumption | omega))
          | refine Br.dec (fun _ => ?_) (fun _ => ?_)
          | refine Br.not ?_
          | refine Br.and ?_
          | refine Br.or ?_
          | (refine Bnd.i64 ?_ ?_ ?_; (focus omega); (focus omega))
          | refine call_fun rfl rfl (inB_any _ _ _) (.inl rfl) ?_
          | (refine Idx.nat ?_ ?_; (focus omega))
          | refine Idx.nat (le_big (by omega)) ?_
          | (refine Idx.int ?_ ?_ ?_; (focus omega); (focus omega))
          | (refine Idx.int ?_ ?_ ?_; (focus decide); (focus decide))
          | refine Ifz.zero ?_
          | (refine Ifz.pos ?_ ?_; (focus omega))
          | refine Get.mk _ rfl ?_
          | refine Leaves.of ?_
          | refine Ends.of ?_
          | refine Vw.bool ?_
          | refine Vw.int ?_
          | refine Vw.nil
          | refine Vw.sl
          | refine Vw.tup ?_
          | refine Vw.agg ?_
          | refine VwL.cons ?_ ?_
          | refine VwL.nil
          | refine LeavesF.of ?_
          | refine VwF.bool ?_
          | refine VwF.int ?_
          | refine VwF.nil
          | refine VwF.sl
          | refine VwF.tup ?_
          | refine VwF.agg ?_
          | refine VwLF.cons ?_ ?_
          | refine VwLF.nil
          | (refine Req.mk ?_ ?_; (focus first | rfl | decide | exact ⟨rfl, rfl⟩ | exact ⟨rfl, by decide⟩ | exact (fun _ => rfl) | exact (fun h => nomatch h) | (simp; done) | omega | (simp [big]; done) | exact le_big (by omega) | exact lt_big (by omega))))
      all_goals try (exfalso; omega)
      refine LoopP.by (fun a : Nat × Int => a.1 ≤ l.length ∧ cutsE n l = cutsE a.2 (l.drop a.1) ∧ 0 ≤ a.2 ∧ a.2 ≤ 200000) (fun a => [(0, .int .i64 a.2), (6, .int .i64 (a.1 : Nat))]) (fun _ => []) (fun a => l.length - a.1) (0, n) ⟨Nat.zero_le _, rfl, by simp only; omega⟩ rfl ?_
      rintro ⟨i, m⟩ ⟨hi, hd, hm⟩
      dsimp only at hi hd hm ⊢
      by_cases hin : i < l.length
      · have hc0 := ofSp_cell0 (l := l) hin
        have hc1 := ofSp_cell1 (l := l) hin
        have hpt := ofSp_part (l := l) hin
        rw [List.drop_eq_getElem_cons hin] at hd
        generalize l[i] = x at *
        obtain ⟨a, b⟩ := x
        simp only [cutsE] at hd
        simp only at hc0 hc1 hpt
        by_cases q1 : a < 0 ∨ m - 1 < a ∨ b < 0 ∨ m - 1 < b
        · rw [if_pos q1] at hd
          rw [hd]
          repeat' (first
            | (conv => whnf)
              first
              | refine Br.t ?_
              | refine Br.f ?_
              | (refine Br.decT ?_ ?_; (focus first | assumption | omega))
              | (refine Br.decF ?_ ?_; (focus first | assumption | omega))
              | refine Br.dec (fun _ => ?_) (fun _ => ?_)
              | refine Br.not ?_
              | refine Br.and ?_
              | refine Br.or ?_
              | (refine Bnd.i64 ?_ ?_ ?_; (focus omega); (focus omega))
              | refine Get.mk _ hpt ?_
              | refine Get.mk _ hc0 ?_
              | refine Get.mk _ hc1 ?_
              | refine call_fun rfl rfl (inB_any _ _ _) (.inl rfl) ?_
              | (refine Idx.nat ?_ ?_; (focus omega))
              | refine Idx.nat (le_big (by omega)) ?_
              | (refine Idx.int ?_ ?_ ?_; (focus omega); (focus omega))
              | (refine Idx.int ?_ ?_ ?_; (focus decide); (focus decide))
              | refine Ifz.zero ?_
              | (refine Ifz.pos ?_ ?_; (focus omega))
              | refine Get.mk _ rfl ?_
              | refine Leaves.of ?_
              | refine Ends.of ?_
              | refine Vw.bool ?_
              | refine Vw.int ?_
              | refine Vw.nil
              | refine Vw.sl
              | refine Vw.tup ?_
              | refine Vw.agg ?_
              | refine VwL.cons ?_ ?_
              | refine VwL.nil
              | refine LeavesF.of ?_
              | refine VwF.bool ?_
              | refine VwF.int ?_
              | refine VwF.nil
              | refine VwF.sl
              | refine VwF.tup ?_
              | refine VwF.agg ?_
              | refine VwLF.cons ?_ ?_
              | refine VwLF.nil
              | (refine Req.mk ?_ ?_; (focus first | rfl | decide | exact ⟨rfl, rfl⟩ | exact ⟨rfl, by decide⟩ | exact (fun _ => rfl) | exact (fun h => nomatch h) | (simp; done) | omega | (simp [big]; done) | exact le_big (by omega) | exact lt_big (by omega))))
          all_goals first | rfl | (exfalso; omega)
        · rw [if_neg q1] at hd
          by_cases q2 : b < a
          · rw [if_pos q2] at hd
            rw [hd]
            repeat' (first
              | (conv => whnf)
                first
                | refine Br.t ?_
                | refine Br.f ?_
                | (refine Br.decT ?_ ?_; (focus first | assumption | omega))
                | (refine Br.decF ?_ ?_; (focus first | assumption | omega))
                | refine Br.dec (fun _ => ?_) (fun _ => ?_)
                | refine Br.not ?_
                | refine Br.and ?_
                | refine Br.or ?_
                | (refine Bnd.i64 ?_ ?_ ?_; (focus omega); (focus omega))
                | refine Get.mk _ hpt ?_
                | refine Get.mk _ hc0 ?_
                | refine Get.mk _ hc1 ?_
                | refine call_fun rfl rfl (inB_any _ _ _) (.inl rfl) ?_
                | (refine Idx.nat ?_ ?_; (focus omega))
                | refine Idx.nat (le_big (by omega)) ?_
                | (refine Idx.int ?_ ?_ ?_; (focus omega); (focus omega))
                | (refine Idx.int ?_ ?_ ?_; (focus decide); (focus decide))
                | refine Ifz.zero ?_
                | (refine Ifz.pos ?_ ?_; (focus omega))
                | refine Get.mk _ rfl ?_
                | refine Leaves.of ?_
                | refine Ends.of ?_
                | refine Vw.bool ?_
                | refine Vw.int ?_
                | refine Vw.nil
                | refine Vw.sl
                | refine Vw.tup ?_
                | refine Vw.agg ?_
                | refine VwL.cons ?_ ?_
                | refine VwL.nil
                | refine LeavesF.of ?_
                | refine VwF.bool ?_
                | refine VwF.int ?_
                | refine VwF.nil
                | refine VwF.sl
                | refine VwF.tup ?_
                | refine VwF.agg ?_
                | refine VwLF.cons ?_ ?_
                | refine VwLF.nil
                | (refine Req.mk ?_ ?_; (focus first | rfl | decide | exact ⟨rfl, rfl⟩ | exact ⟨rfl, by decide⟩ | exact (fun _ => rfl) | exact (fun h => nomatch h) | (simp; done) | omega | (simp [big]; done) | exact le_big (by omega) | exact lt_big (by omega))))
            all_goals first | rfl | (exfalso; omega)
          · rw [if_neg q2] at hd
            repeat' (first
              | (conv => whnf)
                first
                | refine Br.t ?_
                | refine Br.f ?_
                | (refine Br.decT ?_ ?_; (focus first | assumption | omega))
                | (refine Br.decF ?_ ?_; (focus first | assumption | omega))
                | refine Br.dec (fun _ => ?_) (fun _ => ?_)
                | refine Br.not ?_
                | refine Br.and ?_
                | refine Br.or ?_
                | (refine Bnd.i64 ?_ ?_ ?_; (focus omega); (focus omega))
                | refine Get.mk _ hpt ?_
                | refine Get.mk _ hc0 ?_
                | refine Get.mk _ hc1 ?_
                | refine call_fun rfl rfl (inB_any _ _ _) (.inl rfl) ?_
                | refine call_fun rfl rfl (long_any (by omega)) (.inl rfl) ?_
                | (refine Idx.nat ?_ ?_; (focus omega))
                | refine Idx.nat (le_big (by omega)) ?_
                | (refine Idx.int ?_ ?_ ?_; (focus omega); (focus omega))
                | (refine Idx.int ?_ ?_ ?_; (focus decide); (focus decide))
                | refine Ifz.zero ?_
                | (refine Ifz.pos ?_ ?_; (focus omega))
                | refine Get.mk _ rfl ?_
                | refine Leaves.of ?_
                | refine Ends.of ?_
                | refine Vw.bool ?_
                | refine Vw.int ?_
                | refine Vw.nil
                | refine Vw.sl
                | refine Vw.tup ?_
                | refine Vw.agg ?_
                | refine VwL.cons ?_ ?_
                | refine VwL.nil
                | refine LeavesF.of ?_
                | refine VwF.bool ?_
                | refine VwF.int ?_
                | refine VwF.nil
                | refine VwF.sl
                | refine VwF.tup ?_
                | refine VwF.agg ?_
                | refine VwLF.cons ?_ ?_
                | refine VwLF.nil
                | (refine Req.mk ?_ ?_; (focus first | rfl | decide | exact ⟨rfl, rfl⟩ | exact ⟨rfl, by decide⟩ | exact (fun _ => rfl) | exact (fun h => nomatch h) | (simp; done) | omega | (simp [big]; done) | exact le_big (by omega) | exact lt_big (by omega))))
            all_goals first | exact NextP.mk (i + 1, m - (b - a + 1)) ⟨hin, hd, by simp only; omega⟩ (by simp only; omega) rfl | (exfalso; omega)
      · obtain rfl : i = l.length := by omega
        rw [List.drop_length] at hd
        rw [hd]
        repeat' (first
          | (conv => whnf)
            first
            | refine Br.t ?_
            | refine Br.f ?_
            | (refine Br.decT ?_ ?_; (focus first | assumption | omega))
            | (refine Br.decF ?_ ?_; (focus first | assumption | omega))
            | refine Br.dec (fun _ => ?_) (fun _ => ?_)
            | refine Br.not ?_
            | refine Br.and ?_
            | refine Br.or ?_
            | (refine Bnd.i64 ?_ ?_ ?_; (focus omega); (focus omega))
            | (refine Idx.nat ?_ ?_; (focus omega))
            | refine Idx.nat (le_big (by omega)) ?_
            | (refine Idx.int ?_ ?_ ?_; (focus omega); (focus omega))
            | (refine Idx.int ?_ ?_ ?_; (focus decide); (focus decide))
            | refine Ifz.zero ?_
            | (refine Ifz.pos ?_ ?_; (focus omega))
            | refine Get.mk _ rfl ?_
            | refine Leaves.of ?_
            | refine Ends.of ?_
            | refine Vw.bool ?_
            | refine Vw.int ?_
            | refine Vw.nil
            | refine Vw.sl
            | refine Vw.tup ?_
            | refine Vw.agg ?_
            | refine VwL.cons ?_ ?_
            | refine VwL.nil
            | refine LeavesF.of ?_
            | refine VwF.bool ?_
            | refine VwF.int ?_
            | refine VwF.nil
            | refine VwF.sl
            | refine VwF.tup ?_
            | refine VwF.agg ?_
            | refine VwLF.cons ?_ ?_
            | refine VwLF.nil
            | (refine Req.mk ?_ ?_; (focus first | rfl | decide | exact ⟨rfl, rfl⟩ | exact ⟨rfl, by decide⟩ | exact (fun _ => rfl) | exact (fun h => nomatch h) | (simp; done) | omega | (simp [big]; done) | exact le_big (by omega) | exact lt_big (by omega))))
        all_goals first | rfl | (exfalso; omega)
theorem cutsE_fits : ∀ {l : List (Int × Int)} {n : Int}, 0 ≤ n → n ≤ 200000 → (cutsE n l).2 = 0 → ∀ x ∈ l, 0 ≤ x.1 ∧ x.1 ≤ x.2 ∧ x.2 ≤ 200000
  | [], _, _, _, _, _, hx => by simp at hx
  | (a, b) :: l, n, h0, h1, h2, x, hx => by
    simp only [cutsE] at h2
    split at h2
    · simp at h2
    · split at h2
      · simp at h2
      · rcases List.mem_cons.1 hx with rfl | hx
        · simp only; omega
        · exact cutsE_fits (by omega) (by omega) h2 x hx
theorem made_fits {l : List (Int × Int)} {n : Int} (h : (madeE n l).2 = 0) : 1 ≤ n ∧ n ≤ 200000 ∧ l.length ≤ 30 ∧ ∀ x ∈ l, 0 ≤ x.1 ∧ x.1 ≤ x.2 ∧ x.2 ≤ 200000 := by
  unfold madeE at h
  split at h
  · simp at h
  · split at h
    · simp at h
    · exact ⟨by omega, by omega, by omega, cutsE_fits (by omega) (by omega) h⟩

set_option maxRecDepth 100000 in
set_option maxHeartbeats 20000000 in
theorem afterR_any (n f : Int) (c : Bool) (l : List (Int × Int)) : Fun F md 62 [.int .i64 n, .sl c l.length (ofSp l), .int .i64 f] (pV (aftE n l f)) := by
  have hM := madeR_any n c l
  have hfit := made_fits (l := l) (n := n)
  unfold aftE
  generalize madeE n l = z at *
  obtain ⟨z1, z2⟩ := z
  dsimp only at hfit
  by_cases h1 : z2 = 0
  · subst h1
    obtain ⟨f1, f2, f3, f4⟩ := hfit rfl
    simp only [ne_eq, not_true_eq_false, if_false]
    by_cases h2 : f < 0 ∨ n - 1 < f
    · rw [if_pos h2]
      refine fun_of rfl rfl ?_
      repeat' (first
        | (conv => whnf)
          first
          | refine Br.t ?_
          | refine Br.f ?_
          | (refine Br.decT ?_ ?_; (focus first | assumption | omega))
          | (refine Br.decF ?_ ?_; (focus first | assumption | omega))
          | refine Br.dec (fun _ => ?_) (fun _ => ?_)
          | refine Br.not ?_
          | refine Br.and ?_
          | refine Br.or ?_
          | (refine Bnd.i64 ?_ ?_ ?_; (focus omega); (focus omega))
          | refine call_fun rfl rfl hM (.inl rfl) ?_
          | refine call_fun rfl rfl (inB_any _ _ _) (.inl rfl) ?_
          | (refine Idx.nat ?_ ?_; (focus omega))
          | refine Idx.nat (le_big (by omega)) ?_
          | (refine Idx.int ?_ ?_ ?_; (focus omega); (focus omega))
          | (refine Idx.int ?_ ?_ ?_; (focus decide); (focus decide))
          | refine Ifz.zero ?_
          | (refine Ifz.pos ?_ ?_; (focus omega))
          | refine Get.mk _ rfl ?_
          | refine Leaves.of ?_
          | refine Ends.of ?_
          | refine Vw.bool ?_
          | refine Vw.int ?_
          | refine Vw.nil
          | refine Vw.sl
          | refine Vw.tup ?_
          | refine Vw.agg ?_
          | refine VwL.cons ?_ ?_
          | refine VwL.nil
          | refine LeavesF.of ?_
          | refine VwF.bool ?_
          | refine VwF.int ?_
          | refine VwF.nil
          | refine VwF.sl
          | refine VwF.tup ?_
          | refine VwF.agg ?_
          | refine VwLF.cons ?_ ?_
          | refine VwLF.nil
          | (refine Req.mk ?_ ?_; (focus first | rfl | decide | exact ⟨rfl, rfl⟩ | exact ⟨rfl, by decide⟩ | exact (fun _ => rfl) | exact (fun h => nomatch h) | (simp; done) | omega | (simp [big]; done) | exact le_big (by omega) | exact lt_big (by omega))))
      all_goals first | rfl | (exfalso; omega)
    · rw [if_neg h2]
      refine fun_of rfl rfl ?_
      repeat' (first
        | (conv => whnf)
          first
          | refine Br.t ?_
          | refine Br.f ?_
          | (refine Br.decT ?_ ?_; (focus first | assumption | omega))
          | (refine Br.decF ?_ ?_; (focus first | assumption | omega))
          | refine Br.dec (fun _ => ?_) (fun _ => ?_)
          | refine Br.not ?_
          | refine Br.and ?_
          | refine Br.or ?_
          | (refine Bnd.i64 ?_ ?_ ?_; (focus omega); (focus omega))
          | refine call_fun rfl rfl hM (.inl rfl) ?_
          | refine call_fun rfl rfl (inB_any _ _ _) (.inl rfl) ?_
          | (refine Idx.nat ?_ ?_; (focus omega))
          | refine Idx.nat (le_big (by omega)) ?_
          | (refine Idx.int ?_ ?_ ?_; (focus omega); (focus omega))
          | (refine Idx.int ?_ ?_ ?_; (focus decide); (focus decide))
          | refine Ifz.zero ?_
          | (refine Ifz.pos ?_ ?_; (focus omega))
          | refine Get.mk _ rfl ?_
          | refine Leaves.of ?_
          | refine Ends.of ?_
          | refine Vw.bool ?_
          | refine Vw.int ?_
          | refine Vw.nil
          | refine Vw.sl
          | refine Vw.tup ?_
          | refine Vw.agg ?_
          | refine VwL.cons ?_ ?_
          | refine VwL.nil
          | refine LeavesF.of ?_
          | refine VwF.bool ?_
          | refine VwF.int ?_
          | refine VwF.nil
          | refine VwF.sl
          | refine VwF.tup ?_
          | refine VwF.agg ?_
          | refine VwLF.cons ?_ ?_
          | refine VwLF.nil
          | (refine Req.mk ?_ ?_; (focus first | rfl | decide | exact ⟨rfl, rfl⟩ | exact ⟨rfl, by decide⟩ | exact (fun _ => rfl) | exact (fun h => nomatch h) | (simp; done) | omega | (simp [big]; done) | exact le_big (by omega) | exact lt_big (by omega))))
      all_goals try (exfalso; omega)
      refine LoopP.by (fun a : Nat × Int => a.1 ≤ l.length ∧ afterF f l = afterF a.2 (l.drop a.1) ∧ 0 ≤ a.2 ∧ a.2 ≤ 200000) (fun a => [(2, .int .i64 a.2), (10, .int .i64 (a.1 : Nat))]) (fun _ => []) (fun a => l.length - a.1) (0, f) ⟨Nat.zero_le _, rfl, by simp only; omega⟩ rfl ?_
      rintro ⟨i, g⟩ ⟨hi, hd, hg⟩
      dsimp only at hi hd hg ⊢
      by_cases hin : i < l.length
      · have hc0 := ofSp_cell0 (l := l) hin
        have hc1 := ofSp_cell1 (l := l) hin
        have hx := f4 l[i] (List.getElem_mem hin)
        rw [List.drop_eq_getElem_cons hin] at hd
        generalize l[i] = x at *
        obtain ⟨a, b⟩ := x
        simp only [afterF] at hd
        simp only at hc0 hc1 hx
        by_cases q1 : b < g
        · rw [if_pos q1] at hd
          repeat' (first
            | (conv => whnf)
              first
              | refine Br.t ?_
              | refine Br.f ?_
              | (refine Br.decT ?_ ?_; (focus first | assumption | omega))
              | (refine Br.decF ?_ ?_; (focus first | assumption | omega))
              | refine Br.dec (fun _ => ?_) (fun _ => ?_)
              | refine Br.not ?_
              | refine Br.and ?_
              | refine Br.or ?_
              | (refine Bnd.i64 ?_ ?_ ?_; (focus omega); (focus omega))
              | refine Get.mk _ hc0 ?_
              | refine Get.mk _ hc1 ?_
              | refine call_fun rfl rfl (inB_any _ _ _) (.inl rfl) ?_
              | (refine Idx.nat ?_ ?_; (focus omega))
              | refine Idx.nat (le_big (by omega)) ?_
              | (refine Idx.int ?_ ?_ ?_; (focus omega); (focus omega))
              | (refine Idx.int ?_ ?_ ?_; (focus decide); (focus decide))
              | refine Ifz.zero ?_
              | (refine Ifz.pos ?_ ?_; (focus omega))
              | refine Get.mk _ rfl ?_
              | refine Leaves.of ?_
              | refine Ends.of ?_
              | refine Vw.bool ?_
              | refine Vw.int ?_
              | refine Vw.nil
              | refine Vw.sl
              | refine Vw.tup ?_
              | refine Vw.agg ?_
              | refine VwL.cons ?_ ?_
              | refine VwL.nil
              | refine LeavesF.of ?_
              | refine VwF.bool ?_
              | refine VwF.int ?_
              | refine VwF.nil
              | refine VwF.sl
              | refine VwF.tup ?_
              | refine VwF.agg ?_
              | refine VwLF.cons ?_ ?_
              | refine VwLF.nil
              | (refine Req.mk ?_ ?_; (focus first | rfl | decide | exact ⟨rfl, rfl⟩ | exact ⟨rfl, by decide⟩ | exact (fun _ => rfl) | exact (fun h => nomatch h) | (simp; done) | omega | (simp [big]; done) | exact le_big (by omega) | exact lt_big (by omega))))
          all_goals first | exact NextP.mk (i + 1, g - (b - a + 1)) ⟨hin, hd, by simp only; omega⟩ (by simp only; omega) rfl | (exfalso; omega)
        · rw [if_neg q1] at hd
          by_cases q2 : a ≤ g
          · rw [if_pos q2] at hd
            rw [hd]
            repeat' (first
              | (conv => whnf)
                first
                | refine Br.t ?_
                | refine Br.f ?_
                | (refine Br.decT ?_ ?_; (focus first | assumption | omega))
                | (refine Br.decF ?_ ?_; (focus first | assumption | omega))
                | refine Br.dec (fun _ => ?_) (fun _ => ?_)
                | refine Br.not ?_
                | refine Br.and ?_
                | refine Br.or ?_
                | (refine Bnd.i64 ?_ ?_ ?_; (focus omega); (focus omega))
                | refine Get.mk _ hc0 ?_
                | refine Get.mk _ hc1 ?_
                | refine call_fun rfl rfl (inB_any _ _ _) (.inl rfl) ?_
                | (refine Idx.nat ?_ ?_; (focus omega))
                | refine Idx.nat (le_big (by omega)) ?_
                | (refine Idx.int ?_ ?_ ?_; (focus omega); (focus omega))
                | (refine Idx.int ?_ ?_ ?_; (focus decide); (focus decide))
                | refine Ifz.zero ?_
                | (refine Ifz.pos ?_ ?_; (focus omega))
                | refine Get.mk _ rfl ?_
                | refine Leaves.of ?_
                | refine Ends.of ?_
                | refine Vw.bool ?_
                | refine Vw.int ?_
                | refine Vw.nil
                | refine Vw.sl
                | refine Vw.tup ?_
                | refine Vw.agg ?_
                | refine VwL.cons ?_ ?_
                | refine VwL.nil
                | refine LeavesF.of ?_
                | refine VwF.bool ?_
                | refine VwF.int ?_
                | refine VwF.nil
                | refine VwF.sl
                | refine VwF.tup ?_
                | refine VwF.agg ?_
                | refine VwLF.cons ?_ ?_
                | refine VwLF.nil
                | (refine Req.mk ?_ ?_; (focus first | rfl | decide | exact ⟨rfl, rfl⟩ | exact ⟨rfl, by decide⟩ | exact (fun _ => rfl) | exact (fun h => nomatch h) | (simp; done) | omega | (simp [big]; done) | exact le_big (by omega) | exact lt_big (by omega))))
            all_goals first | rfl | (exfalso; omega)
          · rw [if_neg q2] at hd
            repeat' (first
              | (conv => whnf)
                first
                | refine Br.t ?_
                | refine Br.f ?_
                | (refine Br.decT ?_ ?_; (focus first | assumption | omega))
                | (refine Br.decF ?_ ?_; (focus first | assumption | omega))
                | refine Br.dec (fun _ => ?_) (fun _ => ?_)
                | refine Br.not ?_
                | refine Br.and ?_
                | refine Br.or ?_
                | (refine Bnd.i64 ?_ ?_ ?_; (focus omega); (focus omega))
                | refine Get.mk _ hc0 ?_
                | refine Get.mk _ hc1 ?_
                | refine call_fun rfl rfl (inB_any _ _ _) (.inl rfl) ?_
                | (refine Idx.nat ?_ ?_; (focus omega))
                | refine Idx.nat (le_big (by omega)) ?_
                | (refine Idx.int ?_ ?_ ?_; (focus omega); (focus omega))
                | (refine Idx.int ?_ ?_ ?_; (focus decide); (focus decide))
                | refine Ifz.zero ?_
                | (refine Ifz.pos ?_ ?_; (focus omega))
                | refine Get.mk _ rfl ?_
                | refine Leaves.of ?_
                | refine Ends.of ?_
                | refine Vw.bool ?_
                | refine Vw.int ?_
                | refine Vw.nil
                | refine Vw.sl
                | refine Vw.tup ?_
                | refine Vw.agg ?_
                | refine VwL.cons ?_ ?_
                | refine VwL.nil
                | refine LeavesF.of ?_
                | refine VwF.bool ?_
                | refine VwF.int ?_
                | refine VwF.nil
                | refine VwF.sl
                | refine VwF.tup ?_
                | refine VwF.agg ?_
                | refine VwLF.cons ?_ ?_
                | refine VwLF.nil
                | (refine Req.mk ?_ ?_; (focus first | rfl | decide | exact ⟨rfl, rfl⟩ | exact ⟨rfl, by decide⟩ | exact (fun _ => rfl) | exact (fun h => nomatch h) | (simp; done) | omega | (simp [big]; done) | exact le_big (by omega) | exact lt_big (by omega))))
            all_goals first | exact NextP.mk (i + 1, g) ⟨hin, hd, by simp only; omega⟩ (by simp only; omega) rfl | (exfalso; omega)
      · obtain rfl : i = l.length := by omega
        rw [List.drop_length] at hd
        rw [hd]
        repeat' (first
          | (conv => whnf)
            first
            | refine Br.t ?_
            | refine Br.f ?_
            | (refine Br.decT ?_ ?_; (focus first | assumption | omega))
            | (refine Br.decF ?_ ?_; (focus first | assumption | omega))
            | refine Br.dec (fun _ => ?_) (fun _ => ?_)
            | refine Br.not ?_
            | refine Br.and ?_
            | refine Br.or ?_
            | (refine Bnd.i64 ?_ ?_ ?_; (focus omega); (focus omega))
            | (refine Idx.nat ?_ ?_; (focus omega))
            | refine Idx.nat (le_big (by omega)) ?_
            | (refine Idx.int ?_ ?_ ?_; (focus omega); (focus omega))
            | (refine Idx.int ?_ ?_ ?_; (focus decide); (focus decide))
            | refine Ifz.zero ?_
            | (refine Ifz.pos ?_ ?_; (focus omega))
            | refine Get.mk _ rfl ?_
            | refine Leaves.of ?_
            | refine Ends.of ?_
            | refine Vw.bool ?_
            | refine Vw.int ?_
            | refine Vw.nil
            | refine Vw.sl
            | refine Vw.tup ?_
            | refine Vw.agg ?_
            | refine VwL.cons ?_ ?_
            | refine VwL.nil
            | refine LeavesF.of ?_
            | refine VwF.bool ?_
            | refine VwF.int ?_
            | refine VwF.nil
            | refine VwF.sl
            | refine VwF.tup ?_
            | refine VwF.agg ?_
            | refine VwLF.cons ?_ ?_
            | refine VwLF.nil
            | (refine Req.mk ?_ ?_; (focus first | rfl | decide | exact ⟨rfl, rfl⟩ | exact ⟨rfl, by decide⟩ | exact (fun _ => rfl) | exact (fun h => nomatch h) | (simp; done) | omega | (simp [big]; done) | exact le_big (by omega) | exact lt_big (by omega))))
        all_goals first | rfl | (exfalso; omega)
  · simp only [ne_eq, h1, not_false_eq_true, if_true]
    refine fun_of rfl rfl ?_
    repeat' (first
      | (conv => whnf)
        first
        | refine Br.t ?_
        | refine Br.f ?_
        | (refine Br.decT ?_ ?_; (focus first | assumption | omega))
        | (refine Br.decF ?_ ?_; (focus first | assumption | omega))
        | refine Br.dec (fun _ => ?_) (fun _ => ?_)
        | refine Br.not ?_
        | refine Br.and ?_
        | refine Br.or ?_
        | (refine Bnd.i64 ?_ ?_ ?_; (focus omega); (focus omega))
        | refine call_fun rfl rfl hM (.inl rfl) ?_
        | refine call_fun rfl rfl (inB_any _ _ _) (.inl rfl) ?_
        | (refine Idx.nat ?_ ?_; (focus omega))
        | refine Idx.nat (le_big (by omega)) ?_
        | (refine Idx.int ?_ ?_ ?_; (focus omega); (focus omega))
        | (refine Idx.int ?_ ?_ ?_; (focus decide); (focus decide))
        | refine Ifz.zero ?_
        | (refine Ifz.pos ?_ ?_; (focus omega))
        | refine Get.mk _ rfl ?_
        | refine Leaves.of ?_
        | refine Ends.of ?_
        | refine Vw.bool ?_
        | refine Vw.int ?_
        | refine Vw.nil
        | refine Vw.sl
        | refine Vw.tup ?_
        | refine Vw.agg ?_
        | refine VwL.cons ?_ ?_
        | refine VwL.nil
        | refine LeavesF.of ?_
        | refine VwF.bool ?_
        | refine VwF.int ?_
        | refine VwF.nil
        | refine VwF.sl
        | refine VwF.tup ?_
        | refine VwF.agg ?_
        | refine VwLF.cons ?_ ?_
        | refine VwLF.nil
        | (refine Req.mk ?_ ?_; (focus first | rfl | decide | exact ⟨rfl, rfl⟩ | exact ⟨rfl, by decide⟩ | exact (fun _ => rfl) | exact (fun h => nomatch h) | (simp; done) | omega | (simp [big]; done) | exact le_big (by omega) | exact lt_big (by omega))))
    all_goals first | rfl | (exfalso; omega)

set_option maxRecDepth 100000 in
set_option maxHeartbeats 20000000 in
theorem after_any (n f : Int) (c : Bool) (l : List (Int × Int)) : Fun F md 61 [.int .i64 n, .sl c l.length (ofSp l), .int .i64 f] (pV (aftE n l f)) := by
  have hM := made_any n c l
  have hfit := made_fits (l := l) (n := n)
  unfold aftE
  generalize madeE n l = z at *
  obtain ⟨z1, z2⟩ := z
  dsimp only at hfit
  by_cases h1 : z2 = 0
  · subst h1
    obtain ⟨f1, f2, f3, f4⟩ := hfit rfl
    simp only [ne_eq, not_true_eq_false, if_false]
    by_cases h2 : f < 0 ∨ n - 1 < f
    · rw [if_pos h2]
      refine fun_of rfl rfl ?_
      repeat' (first
        | (conv => whnf)
          first
          | refine Br.t ?_
          | refine Br.f ?_
          | (refine Br.decT ?_ ?_; (focus first | assumption | omega))
          | (refine Br.decF ?_ ?_; (focus first | assumption | omega))
          | refine Br.dec (fun _ => ?_) (fun _ => ?_)
          | refine Br.not ?_
          | refine Br.and ?_
          | refine Br.or ?_
          | (refine Bnd.i64 ?_ ?_ ?_; (focus omega); (focus omega))
          | refine call_fun rfl rfl hM (.inl rfl) ?_
          | refine call_fun rfl rfl (outB_any _ _ _) (.inl rfl) ?_
          | (refine Idx.nat ?_ ?_; (focus omega))
          | refine Idx.nat (le_big (by omega)) ?_
          | (refine Idx.int ?_ ?_ ?_; (focus omega); (focus omega))
          | (refine Idx.int ?_ ?_ ?_; (focus decide); (focus decide))
          | refine Ifz.zero ?_
          | (refine Ifz.pos ?_ ?_; (focus omega))
          | refine Get.mk _ rfl ?_
          | refine Leaves.of ?_
          | refine Ends.of ?_
          | refine Vw.bool ?_
          | refine Vw.int ?_
          | refine Vw.nil
          | refine Vw.sl
          | refine Vw.tup ?_
          | refine Vw.agg ?_
          | refine VwL.cons ?_ ?_
          | refine VwL.nil
          | refine LeavesF.of ?_
          | refine VwF.bool ?_
          | refine VwF.int ?_
          | refine VwF.nil
          | refine VwF.sl
          | refine VwF.tup ?_
          | refine VwF.agg ?_
          | refine VwLF.cons ?_ ?_
          | refine VwLF.nil
          | (refine Req.mk ?_ ?_; (focus first | rfl | decide | exact ⟨rfl, rfl⟩ | exact ⟨rfl, by decide⟩ | exact (fun _ => rfl) | exact (fun h => nomatch h) | (simp; done) | omega | (simp [big]; done) | exact le_big (by omega) | exact lt_big (by omega))))
      all_goals first | rfl | (exfalso; omega)
    · rw [if_neg h2]
      refine fun_of rfl rfl ?_
      repeat' (first
        | (conv => whnf)
          first
          | refine Br.t ?_
          | refine Br.f ?_
          | (refine Br.decT ?_ ?_; (focus first | assumption | omega))
          | (refine Br.decF ?_ ?_; (focus first | assumption | omega))
          | refine Br.dec (fun _ => ?_) (fun _ => ?_)
          | refine Br.not ?_
          | refine Br.and ?_
          | refine Br.or ?_
          | (refine Bnd.i64 ?_ ?_ ?_; (focus omega); (focus omega))
          | refine call_fun rfl rfl hM (.inl rfl) ?_
          | refine call_fun rfl rfl (outB_any _ _ _) (.inl rfl) ?_
          | refine call_one rfl rfl rfl ?_
          | (refine Idx.nat ?_ ?_; (focus omega))
          | refine Idx.nat (le_big (by omega)) ?_
          | (refine Idx.int ?_ ?_ ?_; (focus omega); (focus omega))
          | (refine Idx.int ?_ ?_ ?_; (focus decide); (focus decide))
          | refine Ifz.zero ?_
          | (refine Ifz.pos ?_ ?_; (focus omega))
          | refine Get.mk _ rfl ?_
          | refine Leaves.of ?_
          | refine Ends.of ?_
          | refine Vw.bool ?_
          | refine Vw.int ?_
          | refine Vw.nil
          | refine Vw.sl
          | refine Vw.tup ?_
          | refine Vw.agg ?_
          | refine VwL.cons ?_ ?_
          | refine VwL.nil
          | refine LeavesF.of ?_
          | refine VwF.bool ?_
          | refine VwF.int ?_
          | refine VwF.nil
          | refine VwF.sl
          | refine VwF.tup ?_
          | refine VwF.agg ?_
          | refine VwLF.cons ?_ ?_
          | refine VwLF.nil
          | (refine Req.mk ?_ ?_; (focus first | rfl | decide | exact ⟨rfl, rfl⟩ | exact ⟨rfl, by decide⟩ | exact (fun _ => rfl) | exact (fun h => nomatch h) | (simp; done) | omega | (simp [big]; done) | exact le_big (by omega) | exact lt_big (by omega))))
      all_goals try (exfalso; omega)
      refine LoopP.by (fun a : Nat × Int => a.1 ≤ l.length ∧ afterF f l = afterF a.2 (l.drop a.1) ∧ 0 ≤ a.2 ∧ a.2 ≤ 200000) (fun a => [(8, .int .i64 (a.1 : Nat))]) (fun a => [.blk [.int .i64 a.2] false]) (fun a => l.length - a.1) (0, f) ⟨Nat.zero_le _, rfl, by simp only; omega⟩ rfl ?_
      rintro ⟨i, g⟩ ⟨hi, hd, hg⟩
      dsimp only at hi hd hg ⊢
      by_cases hin : i < l.length
      · have hpt := ofSp_part (l := l) hin
        have hx := f4 l[i] (List.getElem_mem hin)
        rw [List.drop_eq_getElem_cons hin] at hd
        generalize l[i] = x at *
        obtain ⟨a, b⟩ := x
        simp only [afterF] at hd
        simp only at hpt hx
        by_cases q1 : b < g
        · rw [if_pos q1] at hd
          repeat' (first
            | (conv => whnf)
              first
              | refine Br.t ?_
              | refine Br.f ?_
              | (refine Br.decT ?_ ?_; (focus first | assumption | omega))
              | (refine Br.decF ?_ ?_; (focus first | assumption | omega))
              | refine Br.dec (fun _ => ?_) (fun _ => ?_)
              | refine Br.not ?_
              | refine Br.and ?_
              | refine Br.or ?_
              | (refine Bnd.i64 ?_ ?_ ?_; (focus omega); (focus omega))
              | refine Get.mk _ hpt ?_
              | refine call_fun rfl rfl (long_any (by omega)) (.inl rfl) ?_
              | refine call_one rfl rfl rfl ?_
              | (refine Idx.nat ?_ ?_; (focus omega))
              | refine Idx.nat (le_big (by omega)) ?_
              | (refine Idx.int ?_ ?_ ?_; (focus omega); (focus omega))
              | (refine Idx.int ?_ ?_ ?_; (focus decide); (focus decide))
              | refine Ifz.zero ?_
              | (refine Ifz.pos ?_ ?_; (focus omega))
              | refine Get.mk _ rfl ?_
              | refine Leaves.of ?_
              | refine Ends.of ?_
              | refine Vw.bool ?_
              | refine Vw.int ?_
              | refine Vw.nil
              | refine Vw.sl
              | refine Vw.tup ?_
              | refine Vw.agg ?_
              | refine VwL.cons ?_ ?_
              | refine VwL.nil
              | refine LeavesF.of ?_
              | refine VwF.bool ?_
              | refine VwF.int ?_
              | refine VwF.nil
              | refine VwF.sl
              | refine VwF.tup ?_
              | refine VwF.agg ?_
              | refine VwLF.cons ?_ ?_
              | refine VwLF.nil
              | (refine Req.mk ?_ ?_; (focus first | rfl | decide | exact ⟨rfl, rfl⟩ | exact ⟨rfl, by decide⟩ | exact (fun _ => rfl) | exact (fun h => nomatch h) | (simp; done) | omega | (simp [big]; done) | exact le_big (by omega) | exact lt_big (by omega))))
          all_goals first | exact NextP.mk (i + 1, g - (b - a + 1)) ⟨hin, hd, by simp only; omega⟩ (by simp only; omega) rfl | (exfalso; omega)
        · rw [if_neg q1] at hd
          by_cases q2 : a ≤ g
          · rw [if_pos q2] at hd
            rw [hd]
            repeat' (first
              | (conv => whnf)
                first
                | refine Br.t ?_
                | refine Br.f ?_
                | (refine Br.decT ?_ ?_; (focus first | assumption | omega))
                | (refine Br.decF ?_ ?_; (focus first | assumption | omega))
                | refine Br.dec (fun _ => ?_) (fun _ => ?_)
                | refine Br.not ?_
                | refine Br.and ?_
                | refine Br.or ?_
                | (refine Bnd.i64 ?_ ?_ ?_; (focus omega); (focus omega))
                | refine Get.mk _ hpt ?_
                | refine call_one rfl rfl rfl ?_
                | (refine Idx.nat ?_ ?_; (focus omega))
                | refine Idx.nat (le_big (by omega)) ?_
                | (refine Idx.int ?_ ?_ ?_; (focus omega); (focus omega))
                | (refine Idx.int ?_ ?_ ?_; (focus decide); (focus decide))
                | refine Ifz.zero ?_
                | (refine Ifz.pos ?_ ?_; (focus omega))
                | refine Get.mk _ rfl ?_
                | refine Leaves.of ?_
                | refine Ends.of ?_
                | refine Vw.bool ?_
                | refine Vw.int ?_
                | refine Vw.nil
                | refine Vw.sl
                | refine Vw.tup ?_
                | refine Vw.agg ?_
                | refine VwL.cons ?_ ?_
                | refine VwL.nil
                | refine LeavesF.of ?_
                | refine VwF.bool ?_
                | refine VwF.int ?_
                | refine VwF.nil
                | refine VwF.sl
                | refine VwF.tup ?_
                | refine VwF.agg ?_
                | refine VwLF.cons ?_ ?_
                | refine VwLF.nil
                | (refine Req.mk ?_ ?_; (focus first | rfl | decide | exact ⟨rfl, rfl⟩ | exact ⟨rfl, by decide⟩ | exact (fun _ => rfl) | exact (fun h => nomatch h) | (simp; done) | omega | (simp [big]; done) | exact le_big (by omega) | exact lt_big (by omega))))
            all_goals first | rfl | (exfalso; omega)
          · rw [if_neg q2] at hd
            repeat' (first
              | (conv => whnf)
                first
                | refine Br.t ?_
                | refine Br.f ?_
                | (refine Br.decT ?_ ?_; (focus first | assumption | omega))
                | (refine Br.decF ?_ ?_; (focus first | assumption | omega))
                | refine Br.dec (fun _ => ?_) (fun _ => ?_)
                | refine Br.not ?_
                | refine Br.and ?_
                | refine Br.or ?_
                | (refine Bnd.i64 ?_ ?_ ?_; (focus omega); (focus omega))
                | refine Get.mk _ hpt ?_
                | refine call_one rfl rfl rfl ?_
                | (refine Idx.nat ?_ ?_; (focus omega))
                | refine Idx.nat (le_big (by omega)) ?_
                | (refine Idx.int ?_ ?_ ?_; (focus omega); (focus omega))
                | (refine Idx.int ?_ ?_ ?_; (focus decide); (focus decide))
                | refine Ifz.zero ?_
                | (refine Ifz.pos ?_ ?_; (focus omega))
                | refine Get.mk _ rfl ?_
                | refine Leaves.of ?_
                | refine Ends.of ?_
                | refine Vw.bool ?_
                | refine Vw.int ?_
                | refine Vw.nil
                | refine Vw.sl
                | refine Vw.tup ?_
                | refine Vw.agg ?_
                | refine VwL.cons ?_ ?_
                | refine VwL.nil
                | refine LeavesF.of ?_
                | refine VwF.bool ?_
                | refine VwF.int ?_
                | refine VwF.nil
                | refine VwF.sl
                | refine VwF.tup ?_
                | refine VwF.agg ?_
                | refine VwLF.cons ?_ ?_
                | refine VwLF.nil
                | (refine Req.mk ?_ ?_; (focus first | rfl | decide | exact ⟨rfl, rfl⟩ | exact ⟨rfl, by decide⟩ | exact (fun _ => rfl) | exact (fun h => nomatch h) | (simp; done) | omega | (simp [big]; done) | exact le_big (by omega) | exact lt_big (by omega))))
            all_goals first | exact NextP.mk (i + 1, g) ⟨hin, hd, by simp only; omega⟩ (by simp only; omega) rfl | (exfalso; omega)
      · obtain rfl : i = l.length := by omega
        rw [List.drop_length] at hd
        rw [hd]
        repeat' (first
          | (conv => whnf)
            first
            | refine Br.t ?_
            | refine Br.f ?_
            | (refine Br.decT ?_ ?_; (focus first | assumption | omega))
            | (refine Br.decF ?_ ?_; (focus first | assumption | omega))
            | refine Br.dec (fun _ => ?_) (fun _ => ?_)
            | refine Br.not ?_
            | refine Br.and ?_
            | refine Br.or ?_
            | (refine Bnd.i64 ?_ ?_ ?_; (focus omega); (focus omega))
            | (refine Idx.nat ?_ ?_; (focus omega))
            | refine Idx.nat (le_big (by omega)) ?_
            | (refine Idx.int ?_ ?_ ?_; (focus omega); (focus omega))
            | (refine Idx.int ?_ ?_ ?_; (focus decide); (focus decide))
            | refine Ifz.zero ?_
            | (refine Ifz.pos ?_ ?_; (focus omega))
            | refine Get.mk _ rfl ?_
            | refine Leaves.of ?_
            | refine Ends.of ?_
            | refine Vw.bool ?_
            | refine Vw.int ?_
            | refine Vw.nil
            | refine Vw.sl
            | refine Vw.tup ?_
            | refine Vw.agg ?_
            | refine VwL.cons ?_ ?_
            | refine VwL.nil
            | refine LeavesF.of ?_
            | refine VwF.bool ?_
            | refine VwF.int ?_
            | refine VwF.nil
            | refine VwF.sl
            | refine VwF.tup ?_
            | refine VwF.agg ?_
            | refine VwLF.cons ?_ ?_
            | refine VwLF.nil
            | (refine Req.mk ?_ ?_; (focus first | rfl | decide | exact ⟨rfl, rfl⟩ | exact ⟨rfl, by decide⟩ | exact (fun _ => rfl) | exact (fun h => nomatch h) | (simp; done) | omega | (simp [big]; done) | exact le_big (by omega) | exact lt_big (by omega))))
        all_goals first | rfl | (exfalso; omega)
  · simp only [ne_eq, h1, not_false_eq_true, if_true]
    refine fun_of rfl rfl ?_
    repeat' (first
      | (conv => whnf)
        first
        | refine Br.t ?_
        | refine Br.f ?_
        | (refine Br.decT ?_ ?_; (focus first | assumption | omega))
        | (refine Br.decF ?_ ?_; (focus first | assumption | omega))
        | refine Br.dec (fun _ => ?_) (fun _ => ?_)
        | refine Br.not ?_
        | refine Br.and ?_
        | refine Br.or ?_
        | (refine Bnd.i64 ?_ ?_ ?_; (focus omega); (focus omega))
        | refine call_fun rfl rfl hM (.inl rfl) ?_
        | refine call_fun rfl rfl (outB_any _ _ _) (.inl rfl) ?_
        | (refine Idx.nat ?_ ?_; (focus omega))
        | refine Idx.nat (le_big (by omega)) ?_
        | (refine Idx.int ?_ ?_ ?_; (focus omega); (focus omega))
        | (refine Idx.int ?_ ?_ ?_; (focus decide); (focus decide))
        | refine Ifz.zero ?_
        | (refine Ifz.pos ?_ ?_; (focus omega))
        | refine Get.mk _ rfl ?_
        | refine Leaves.of ?_
        | refine Ends.of ?_
        | refine Vw.bool ?_
        | refine Vw.int ?_
        | refine Vw.nil
        | refine Vw.sl
        | refine Vw.tup ?_
        | refine Vw.agg ?_
        | refine VwL.cons ?_ ?_
        | refine VwL.nil
        | refine LeavesF.of ?_
        | refine VwF.bool ?_
        | refine VwF.int ?_
        | refine VwF.nil
        | refine VwF.sl
        | refine VwF.tup ?_
        | refine VwF.agg ?_
        | refine VwLF.cons ?_ ?_
        | refine VwLF.nil
        | (refine Req.mk ?_ ?_; (focus first | rfl | decide | exact ⟨rfl, rfl⟩ | exact ⟨rfl, by decide⟩ | exact (fun _ => rfl) | exact (fun h => nomatch h) | (simp; done) | omega | (simp [big]; done) | exact le_big (by omega) | exact lt_big (by omega))))
    all_goals first | rfl | (exfalso; omega)

theorem afterF_range : ∀ {l : List (Int × Int)} {f : Int}, (∀ x ∈ l, 0 ≤ x.1 ∧ x.1 ≤ x.2 ∧ x.2 ≤ 200000) → 0 ≤ f → 0 ≤ (afterF f l).1 ∧ (afterF f l).1 ≤ f
  | [], f, _, h0 => by simp [afterF, h0]
  | (a, b) :: l, f, h, h0 => by
    have hx := h (a, b) (by simp)
    simp only at hx
    simp only [afterF]
    split
    · have := afterF_range (l := l) (f := f - (b - a + 1)) (fun x hx => h x (by simp [hx])) (by omega)
      omega
    · split
      · simp only; omega
      · exact afterF_range (fun x hx => h x (by simp [hx])) h0
theorem aft_ok {n : Int} {l : List (Int × Int)} {f : Int} (h : (aftE n l f).2 = 0) : 1 ≤ n ∧ n ≤ 200000 ∧ 0 ≤ f ∧ f ≤ n - 1 ∧ 0 ≤ (aftE n l f).1 ∧ (aftE n l f).1 ≤ f := by
  have hfit := made_fits (l := l) (n := n)
  unfold aftE at h ⊢
  split at h
  · rename_i hh; exact absurd h hh
  · rename_i hh
    have hz : (madeE n l).2 = 0 := by omega
    obtain ⟨a1, a2, a3, a4⟩ := hfit hz
    rw [if_neg hh]
    split at h
    · simp at h
    · rename_i h2
      rw [if_neg h2]
      have := afterF_range (f := f) a4 (by omega)
      omega
set_option maxRecDepth 100000 in
set_option maxHeartbeats 20000000 in
theorem slip_any (n lead f : Int) (c : Bool) (l : List (Int × Int)) : Fun F md 21 [.int .i64 n, .int .i64 lead, .sl c l.length (ofSp l), .int .i64 f] (pV (slipE n lead l f)) := by
  have hA := after_any n f c l
  have hB := after_any n (f + lead) c l
  have oA := aft_ok (n := n) (l := l) (f := f)
  have oB := aft_ok (n := n) (l := l) (f := f + lead)
  unfold slipE
  generalize aftE n l f = z at *
  generalize aftE n l (f + lead) = y at *
  obtain ⟨z1, z2⟩ := z
  obtain ⟨y1, y2⟩ := y
  dsimp only at oA oB ⊢
  by_cases h1 : lead < 0 ∨ 100 < lead
  · rw [if_pos h1]
    refine fun_of rfl rfl ?_
    repeat' (first
      | (conv => whnf)
        first
        | refine Br.t ?_
        | refine Br.f ?_
        | (refine Br.decT ?_ ?_; (focus first | assumption | omega))
        | (refine Br.decF ?_ ?_; (focus first | assumption | omega))
        | refine Br.dec (fun _ => ?_) (fun _ => ?_)
        | refine Br.not ?_
        | refine Br.and ?_
        | refine Br.or ?_
        | (refine Bnd.i64 ?_ ?_ ?_; (focus omega); (focus omega))
        | refine call_fun rfl rfl hA (.inl rfl) ?_
        | refine call_fun rfl rfl hB (.inl rfl) ?_
        | refine call_fun rfl rfl (out_any _ _ _) (.inl rfl) ?_
        | (refine Idx.nat ?_ ?_; (focus omega))
        | refine Idx.nat (le_big (by omega)) ?_
        | (refine Idx.int ?_ ?_ ?_; (focus omega); (focus omega))
        | (refine Idx.int ?_ ?_ ?_; (focus decide); (focus decide))
        | refine Ifz.zero ?_
        | (refine Ifz.pos ?_ ?_; (focus omega))
        | refine Get.mk _ rfl ?_
        | refine Leaves.of ?_
        | refine Ends.of ?_
        | refine Vw.bool ?_
        | refine Vw.int ?_
        | refine Vw.nil
        | refine Vw.sl
        | refine Vw.tup ?_
        | refine Vw.agg ?_
        | refine VwL.cons ?_ ?_
        | refine VwL.nil
        | refine LeavesF.of ?_
        | refine VwF.bool ?_
        | refine VwF.int ?_
        | refine VwF.nil
        | refine VwF.sl
        | refine VwF.tup ?_
        | refine VwF.agg ?_
        | refine VwLF.cons ?_ ?_
        | refine VwLF.nil
        | (refine Req.mk ?_ ?_; (focus first | rfl | decide | exact ⟨rfl, rfl⟩ | exact ⟨rfl, by decide⟩ | exact (fun _ => rfl) | exact (fun h => nomatch h) | (simp; done) | omega | (simp [big]; done) | exact le_big (by omega) | exact lt_big (by omega))))
    all_goals first | rfl | (exfalso; omega)
  · rw [if_neg h1]
    by_cases h2 : z2 = 0
    · subst h2
      have oA := oA rfl
      simp only [ne_eq, not_true_eq_false, if_false]
      by_cases h3 : n ≤ f + lead
      · rw [if_pos h3]
        refine fun_of rfl rfl ?_
        repeat' (first
          | (conv => whnf)
            first
            | refine Br.t ?_
            | refine Br.f ?_
            | (refine Br.decT ?_ ?_; (focus first | assumption | omega))
            | (refine Br.decF ?_ ?_; (focus first | assumption | omega))
            | refine Br.dec (fun _ => ?_) (fun _ => ?_)
            | refine Br.not ?_
            | refine Br.and ?_
            | refine Br.or ?_
            | (refine Bnd.i64 ?_ ?_ ?_; (focus omega); (focus omega))
            | refine call_fun rfl rfl hA (.inl rfl) ?_
            | refine call_fun rfl rfl hB (.inl rfl) ?_
            | refine call_fun rfl rfl (out_any _ _ _) (.inl rfl) ?_
            | (refine Idx.nat ?_ ?_; (focus omega))
            | refine Idx.nat (le_big (by omega)) ?_
            | (refine Idx.int ?_ ?_ ?_; (focus omega); (focus omega))
            | (refine Idx.int ?_ ?_ ?_; (focus decide); (focus decide))
            | refine Ifz.zero ?_
            | (refine Ifz.pos ?_ ?_; (focus omega))
            | refine Get.mk _ rfl ?_
            | refine Leaves.of ?_
            | refine Ends.of ?_
            | refine Vw.bool ?_
            | refine Vw.int ?_
            | refine Vw.nil
            | refine Vw.sl
            | refine Vw.tup ?_
            | refine Vw.agg ?_
            | refine VwL.cons ?_ ?_
            | refine VwL.nil
            | refine LeavesF.of ?_
            | refine VwF.bool ?_
            | refine VwF.int ?_
            | refine VwF.nil
            | refine VwF.sl
            | refine VwF.tup ?_
            | refine VwF.agg ?_
            | refine VwLF.cons ?_ ?_
            | refine VwLF.nil
            | (refine Req.mk ?_ ?_; (focus first | rfl | decide | exact ⟨rfl, rfl⟩ | exact ⟨rfl, by decide⟩ | exact (fun _ => rfl) | exact (fun h => nomatch h) | (simp; done) | omega | (simp [big]; done) | exact le_big (by omega) | exact lt_big (by omega))))
        all_goals first | rfl | (exfalso; omega)
      · rw [if_neg h3]
        by_cases h4 : y2 = 0
        · subst h4
          have oB := oB rfl
          simp only [not_true_eq_false, if_false]
          refine fun_of rfl rfl ?_
          repeat' (first
            | (conv => whnf)
              first
              | refine Br.t ?_
              | refine Br.f ?_
              | (refine Br.decT ?_ ?_; (focus first | assumption | omega))
              | (refine Br.decF ?_ ?_; (focus first | assumption | omega))
              | refine Br.dec (fun _ => ?_) (fun _ => ?_)
              | refine Br.not ?_
              | refine Br.and ?_
              | refine Br.or ?_
              | (refine Bnd.i64 ?_ ?_ ?_; (focus omega); (focus omega))
              | refine call_fun rfl rfl hA (.inl rfl) ?_
              | refine call_fun rfl rfl hB (.inl rfl) ?_
              | refine call_fun rfl rfl (out_any _ _ _) (.inl rfl) ?_
              | (refine Idx.nat ?_ ?_; (focus omega))
              | refine Idx.nat (le_big (by omega)) ?_
              | (refine Idx.int ?_ ?_ ?_; (focus omega); (focus omega))
              | (refine Idx.int ?_ ?_ ?_; (focus decide); (focus decide))
              | refine Ifz.zero ?_
              | (refine Ifz.pos ?_ ?_; (focus omega))
              | refine Get.mk _ rfl ?_
              | refine Leaves.of ?_
              | refine Ends.of ?_
              | refine Vw.bool ?_
              | refine Vw.int ?_
              | refine Vw.nil
              | refine Vw.sl
              | refine Vw.tup ?_
              | refine Vw.agg ?_
              | refine VwL.cons ?_ ?_
              | refine VwL.nil
              | refine LeavesF.of ?_
              | refine VwF.bool ?_
              | refine VwF.int ?_
              | refine VwF.nil
              | refine VwF.sl
              | refine VwF.tup ?_
              | refine VwF.agg ?_
              | refine VwLF.cons ?_ ?_
              | refine VwLF.nil
              | (refine Req.mk ?_ ?_; (focus first | rfl | decide | exact ⟨rfl, rfl⟩ | exact ⟨rfl, by decide⟩ | exact (fun _ => rfl) | exact (fun h => nomatch h) | (simp; done) | omega | (simp [big]; done) | exact le_big (by omega) | exact lt_big (by omega))))
          all_goals first | rfl | omega
        · simp only [h4, not_false_eq_true, if_true]
          refine fun_of rfl rfl ?_
          repeat' (first
            | (conv => whnf)
              first
              | refine Br.t ?_
              | refine Br.f ?_
              | (refine Br.decT ?_ ?_; (focus first | assumption | omega))
              | (refine Br.decF ?_ ?_; (focus first | assumption | omega))
              | refine Br.dec (fun _ => ?_) (fun _ => ?_)
              | refine Br.not ?_
              | refine Br.and ?_
              | refine Br.or ?_
              | (refine Bnd.i64 ?_ ?_ ?_; (focus omega); (focus omega))
              | refine call_fun rfl rfl hA (.inl rfl) ?_
              | refine call_fun rfl rfl hB (.inl rfl) ?_
              | refine call_fun rfl rfl (out_any _ _ _) (.inl rfl) ?_
              | (refine Idx.nat ?_ ?_; (focus omega))
              | refine Idx.nat (le_big (by omega)) ?_
              | (refine Idx.int ?_ ?_ ?_; (focus omega); (focus omega))
              | (refine Idx.int ?_ ?_ ?_; (focus decide); (focus decide))
              | refine Ifz.zero ?_
              | (refine Ifz.pos ?_ ?_; (focus omega))
              | refine Get.mk _ rfl ?_
              | refine Leaves.of ?_
              | refine Ends.of ?_
              | refine Vw.bool ?_
              | refine Vw.int ?_
              | refine Vw.nil
              | refine Vw.sl
              | refine Vw.tup ?_
              | refine Vw.agg ?_
              | refine VwL.cons ?_ ?_
              | refine VwL.nil
              | refine LeavesF.of ?_
              | refine VwF.bool ?_
              | refine VwF.int ?_
              | refine VwF.nil
              | refine VwF.sl
              | refine VwF.tup ?_
              | refine VwF.agg ?_
              | refine VwLF.cons ?_ ?_
              | refine VwLF.nil
              | (refine Req.mk ?_ ?_; (focus first | rfl | decide | exact ⟨rfl, rfl⟩ | exact ⟨rfl, by decide⟩ | exact (fun _ => rfl) | exact (fun h => nomatch h) | (simp; done) | omega | (simp [big]; done) | exact le_big (by omega) | exact lt_big (by omega))))
          all_goals first | rfl | (exfalso; omega)
    · simp only [ne_eq, h2, not_false_eq_true, if_true]
      refine fun_of rfl rfl ?_
      repeat' (first
        | (conv => whnf)
          first
          | refine Br.t ?_
          | refine Br.f ?_
          | (refine Br.decT ?_ ?_; (focus first | assumption | omega))
          | (refine Br.decF ?_ ?_; (focus first | assumption | omega))
          | refine Br.dec (fun _ => ?_) (fun _ => ?_)
          | refine Br.not ?_
          | refine Br.and ?_
          | refine Br.or ?_
          | (refine Bnd.i64 ?_ ?_ ?_; (focus omega); (focus omega))
          | refine call_fun rfl rfl hA (.inl rfl) ?_
          | refine call_fun rfl rfl hB (.inl rfl) ?_
          | refine call_fun rfl rfl (out_any _ _ _) (.inl rfl) ?_
          | (refine Idx.nat ?_ ?_; (focus omega))
          | refine Idx.nat (le_big (by omega)) ?_
          | (refine Idx.int ?_ ?_ ?_; (focus omega); (focus omega))
          | (refine Idx.int ?_ ?_ ?_; (focus decide); (focus decide))
          | refine Ifz.zero ?_
          | (refine Ifz.pos ?_ ?_; (focus omega))
          | refine Get.mk _ rfl ?_
          | refine Leaves.of ?_
          | refine Ends.of ?_
          | refine Vw.bool ?_
          | refine Vw.int ?_
          | refine Vw.nil
          | refine Vw.sl
          | refine Vw.tup ?_
          | refine Vw.agg ?_
          | refine VwL.cons ?_ ?_
          | refine VwL.nil
          | refine LeavesF.of ?_
          | refine VwF.bool ?_
          | refine VwF.int ?_
          | refine VwF.nil
          | refine VwF.sl
          | refine VwF.tup ?_
          | refine VwF.agg ?_
          | refine VwLF.cons ?_ ?_
          | refine VwLF.nil
          | (refine Req.mk ?_ ?_; (focus first | rfl | decide | exact ⟨rfl, rfl⟩ | exact ⟨rfl, by decide⟩ | exact (fun _ => rfl) | exact (fun h => nomatch h) | (simp; done) | omega | (simp [big]; done) | exact le_big (by omega) | exact lt_big (by omega))))
      all_goals first | rfl | (exfalso; omega)
set_option maxRecDepth 100000 in
set_option maxHeartbeats 20000000 in
theorem slipR_any (n lead f : Int) (c : Bool) (l : List (Int × Int)) : Fun F md 22 [.int .i64 n, .int .i64 lead, .sl c l.length (ofSp l), .int .i64 f] (pV (slipE n lead l f)) := by
  have hA := afterR_any n f c l
  have hB := afterR_any n (f + lead) c l
  have oA := aft_ok (n := n) (l := l) (f := f)
  have oB := aft_ok (n := n) (l := l) (f := f + lead)
  unfold slipE
  generalize aftE n l f = z at *
  generalize aftE n l (f + lead) = y at *
  obtain ⟨z1, z2⟩ := z
  obtain ⟨y1, y2⟩ := y
  dsimp only at oA oB ⊢
  by_cases h1 : lead < 0 ∨ 100 < lead
  · rw [if_pos h1]
    refine fun_of rfl rfl ?_
    repeat' (first
      | (conv => whnf)
        first
        | refine Br.t ?_
        | refine Br.f ?_
        | (refine Br.decT ?_ ?_; (focus first | assumption | omega))
        | (refine Br.decF ?_ ?_; (focus first | assumption | omega))
        | refine Br.dec (fun _ => ?_) (fun _ => ?_)
        | refine Br.not ?_
        | refine Br.and ?_
        | refine Br.or ?_
        | (refine Bnd.i64 ?_ ?_ ?_; (focus omega); (focus omega))
        | refine call_fun rfl rfl hA (.inl rfl) ?_
        | refine call_fun rfl rfl hB (.inl rfl) ?_
        | refine call_fun rfl rfl (in_any _ _ _) (.inl rfl) ?_
        | (refine Idx.nat ?_ ?_; (focus omega))
        | refine Idx.nat (le_big (by omega)) ?_
        | (refine Idx.int ?_ ?_ ?_; (focus omega); (focus omega))
        | (refine Idx.int ?_ ?_ ?_; (focus decide); (focus decide))
        | refine Ifz.zero ?_
        | (refine Ifz.pos ?_ ?_; (focus omega))
        | refine Get.mk _ rfl ?_
        | refine Leaves.of ?_
        | refine Ends.of ?_
        | refine Vw.bool ?_
        | refine Vw.int ?_
        | refine Vw.nil
        | refine Vw.sl
        | refine Vw.tup ?_
        | refine Vw.agg ?_
        | refine VwL.cons ?_ ?_
        | refine VwL.nil
        | refine LeavesF.of ?_
        | refine VwF.bool ?_
        | refine VwF.int ?_
        | refine VwF.nil
        | refine VwF.sl
        | refine VwF.tup ?_
        | refine VwF.agg ?_
        | refine VwLF.cons ?_ ?_
        | refine VwLF.nil
        | (refine Req.mk ?_ ?_; (focus first | rfl | decide | exact ⟨rfl, rfl⟩ | exact ⟨rfl, by decide⟩ | exact (fun _ => rfl) | exact (fun h => nomatch h) | (simp; done) | omega | (simp [big]; done) | exact le_big (by omega) | exact lt_big (by omega))))
    all_goals first | rfl | (exfalso; omega)
  · rw [if_neg h1]
    by_cases h2 : z2 = 0
    · subst h2
      have oA := oA rfl
      simp only [ne_eq, not_true_eq_false, if_false]
      by_cases h3 : n ≤ f + lead
      · rw [if_pos h3]
        refine fun_of rfl rfl ?_
        repeat' (first
          | (conv => whnf)
            first
            | refine Br.t ?_
            | refine Br.f ?_
            | (refine Br.decT ?_ ?_; (focus first | assumption | omega))
            | (refine Br.decF ?_ ?_; (focus first | assumption | omega))
            | refine Br.dec (fun _ => ?_) (fun _ => ?_)
            | refine Br.not ?_
            | refine Br.and ?_
            | refine Br.or ?_
            | (refine Bnd.i64 ?_ ?_ ?_; (focus omega); (focus omega))
            | refine call_fun rfl rfl hA (.inl rfl) ?_
            | refine call_fun rfl rfl hB (.inl rfl) ?_
            | refine call_fun rfl rfl (in_any _ _ _) (.inl rfl) ?_
            | (refine Idx.nat ?_ ?_; (focus omega))
            | refine Idx.nat (le_big (by omega)) ?_
            | (refine Idx.int ?_ ?_ ?_; (focus omega); (focus omega))
            | (refine Idx.int ?_ ?_ ?_; (focus decide); (focus decide))
            | refine Ifz.zero ?_
            | (refine Ifz.pos ?_ ?_; (focus omega))
            | refine Get.mk _ rfl ?_
            | refine Leaves.of ?_
            | refine Ends.of ?_
            | refine Vw.bool ?_
            | refine Vw.int ?_
            | refine Vw.nil
            | refine Vw.sl
            | refine Vw.tup ?_
            | refine Vw.agg ?_
            | refine VwL.cons ?_ ?_
            | refine VwL.nil
            | refine LeavesF.of ?_
            | refine VwF.bool ?_
            | refine VwF.int ?_
            | refine VwF.nil
            | refine VwF.sl
            | refine VwF.tup ?_
            | refine VwF.agg ?_
            | refine VwLF.cons ?_ ?_
            | refine VwLF.nil
            | (refine Req.mk ?_ ?_; (focus first | rfl | decide | exact ⟨rfl, rfl⟩ | exact ⟨rfl, by decide⟩ | exact (fun _ => rfl) | exact (fun h => nomatch h) | (simp; done) | omega | (simp [big]; done) | exact le_big (by omega) | exact lt_big (by omega))))
        all_goals first | rfl | (exfalso; omega)
      · rw [if_neg h3]
        by_cases h4 : y2 = 0
        · subst h4
          have oB := oB rfl
          simp only [not_true_eq_false, if_false]
          refine fun_of rfl rfl ?_
          repeat' (first
            | (conv => whnf)
              first
              | refine Br.t ?_
              | refine Br.f ?_
              | (refine Br.decT ?_ ?_; (focus first | assumption | omega))
              | (refine Br.decF ?_ ?_; (focus first | assumption | omega))
              | refine Br.dec (fun _ => ?_) (fun _ => ?_)
              | refine Br.not ?_
              | refine Br.and ?_
              | refine Br.or ?_
              | (refine Bnd.i64 ?_ ?_ ?_; (focus omega); (focus omega))
              | refine call_fun rfl rfl hA (.inl rfl) ?_
              | refine call_fun rfl rfl hB (.inl rfl) ?_
              | refine call_fun rfl rfl (in_any _ _ _) (.inl rfl) ?_
              | (refine Idx.nat ?_ ?_; (focus omega))
              | refine Idx.nat (le_big (by omega)) ?_
              | (refine Idx.int ?_ ?_ ?_; (focus omega); (focus omega))
              | (refine Idx.int ?_ ?_ ?_; (focus decide); (focus decide))
              | refine Ifz.zero ?_
              | (refine Ifz.pos ?_ ?_; (focus omega))
              | refine Get.mk _ rfl ?_
              | refine Leaves.of ?_
              | refine Ends.of ?_
              | refine Vw.bool ?_
              | refine Vw.int ?_
              | refine Vw.nil
              | refine Vw.sl
              | refine Vw.tup ?_
              | refine Vw.agg ?_
              | refine VwL.cons ?_ ?_
              | refine VwL.nil
              | refine LeavesF.of ?_
              | refine VwF.bool ?_
              | refine VwF.int ?_
              | refine VwF.nil
              | refine VwF.sl
              | refine VwF.tup ?_
              | refine VwF.agg ?_
              | refine VwLF.cons ?_ ?_
              | refine VwLF.nil
              | (refine Req.mk ?_ ?_; (focus first | rfl | decide | exact ⟨rfl, rfl⟩ | exact ⟨rfl, by decide⟩ | exact (fun _ => rfl) | exact (fun h => nomatch h) | (simp; done) | omega | (simp [big]; done) | exact le_big (by omega) | exact lt_big (by omega))))
          all_goals first | rfl | omega
        · simp only [h4, not_false_eq_true, if_true]
          refine fun_of rfl rfl ?_
          repeat' (first
            | (conv => whnf)
              first
              | refine Br.t ?_
              | refine Br.f ?_
              | (refine Br.decT ?_ ?_; (focus first | assumption | omega))
              | (refine Br.decF ?_ ?_; (focus first | assumption | omega))
              | refine Br.dec (fun _ => ?_) (fun _ => ?_)
              | refine Br.not ?_
              | refine Br.and ?_
              | refine Br.or ?_
              | (refine Bnd.i64 ?_ ?_ ?_; (focus omega); (focus omega))
              | refine call_fun rfl rfl hA (.inl rfl) ?_
              | refine call_fun rfl rfl hB (.inl rfl) ?_
              | refine call_fun rfl rfl (in_any _ _ _) (.inl rfl) ?_
              | (refine Idx.nat ?_ ?_; (focus omega))
              | refine Idx.nat (le_big (by omega)) ?_
              | (refine Idx.int ?_ ?_ ?_; (focus omega); (focus omega))
              | (refine Idx.int ?_ ?_ ?_; (focus decide); (focus decide))
              | refine Ifz.zero ?_
              | (refine Ifz.pos ?_ ?_; (focus omega))
              | refine Get.mk _ rfl ?_
              | refine Leaves.of ?_
              | refine Ends.of ?_
              | refine Vw.bool ?_
              | refine Vw.int ?_
              | refine Vw.nil
              | refine Vw.sl
              | refine Vw.tup ?_
              | refine Vw.agg ?_
              | refine VwL.cons ?_ ?_
              | refine VwL.nil
              | refine LeavesF.of ?_
              | refine VwF.bool ?_
              | refine VwF.int ?_
              | refine VwF.nil
              | refine VwF.sl
              | refine VwF.tup ?_
              | refine VwF.agg ?_
              | refine VwLF.cons ?_ ?_
              | refine VwLF.nil
              | (refine Req.mk ?_ ?_; (focus first | rfl | decide | exact ⟨rfl, rfl⟩ | exact ⟨rfl, by decide⟩ | exact (fun _ => rfl) | exact (fun h => nomatch h) | (simp; done) | omega | (simp [big]; done) | exact le_big (by omega) | exact lt_big (by omega))))
          all_goals first | rfl | (exfalso; omega)
    · simp only [ne_eq, h2, not_false_eq_true, if_true]
      refine fun_of rfl rfl ?_
      repeat' (first
        | (conv => whnf)
          first
          | refine Br.t ?_
          | refine Br.f ?_
          | (refine Br.decT ?_ ?_; (focus first | assumption | omega))
          | (refine Br.decF ?_ ?_; (focus first | assumption | omega))
          | refine Br.dec (fun _ => ?_) (fun _ => ?_)
          | refine Br.not ?_
          | refine Br.and ?_
          | refine Br.or ?_
          | (refine Bnd.i64 ?_ ?_ ?_; (focus omega); (focus omega))
          | refine call_fun rfl rfl hA (.inl rfl) ?_
          | refine call_fun rfl rfl hB (.inl rfl) ?_
          | refine call_fun rfl rfl (in_any _ _ _) (.inl rfl) ?_
          | (refine Idx.nat ?_ ?_; (focus omega))
          | refine Idx.nat (le_big (by omega)) ?_
          | (refine Idx.int ?_ ?_ ?_; (focus omega); (focus omega))
          | (refine Idx.int ?_ ?_ ?_; (focus decide); (focus decide))
          | refine Ifz.zero ?_
          | (refine Ifz.pos ?_ ?_; (focus omega))
          | refine Get.mk _ rfl ?_
          | refine Leaves.of ?_
          | refine Ends.of ?_
          | refine Vw.bool ?_
          | refine Vw.int ?_
          | refine Vw.nil
          | refine Vw.sl
          | refine Vw.tup ?_
          | refine Vw.agg ?_
          | refine VwL.cons ?_ ?_
          | refine VwL.nil
          | refine LeavesF.of ?_
          | refine VwF.bool ?_
          | refine VwF.int ?_
          | refine VwF.nil
          | refine VwF.sl
          | refine VwF.tup ?_
          | refine VwF.agg ?_
          | refine VwLF.cons ?_ ?_
          | refine VwLF.nil
          | (refine Req.mk ?_ ?_; (focus first | rfl | decide | exact ⟨rfl, rfl⟩ | exact ⟨rfl, by decide⟩ | exact (fun _ => rfl) | exact (fun h => nomatch h) | (simp; done) | omega | (simp [big]; done) | exact le_big (by omega) | exact lt_big (by omega))))
      all_goals first | rfl | (exfalso; omega)
set_option maxRecDepth 100000 in
set_option maxHeartbeats 20000000 in
theorem law_slips (n lead f : Int) (c : Bool) (l : List (Int × Int)) : Fun F md 4 [.agg [.int .i64 n, .int .i64 lead, .int .i64 f], .sl c l.length (ofSp l)] (.bool true) := by
  have hA := slip_any n lead f c l
  have hB := slipR_any n lead f c l
  generalize slipE n lead l f = z at *
  refine fun_of rfl rfl ?_
  repeat' (first
    | (conv => whnf)
      first
      | refine Br.t ?_
      | refine Br.f ?_
      | (refine Br.decT ?_ ?_; (focus first | assumption | omega))
      | (refine Br.decF ?_ ?_; (focus first | assumption | omega))
      | refine Br.dec (fun _ => ?_) (fun _ => ?_)
      | refine Br.not ?_
      | refine Br.and ?_
      | refine Br.or ?_
      | (refine Bnd.i64 ?_ ?_ ?_; (focus omega); (focus omega))
      | refine call_fun rfl rfl hA (.inl rfl) ?_
      | refine call_fun rfl rfl hB (.inl rfl) ?_
      | refine call_fun rfl rfl awake (.inl rfl) ?_
      | (refine Idx.nat ?_ ?_; (focus omega))
      | refine Idx.nat (le_big (by omega)) ?_
      | (refine Idx.int ?_ ?_ ?_; (focus omega); (focus omega))
      | (refine Idx.int ?_ ?_ ?_; (focus decide); (focus decide))
      | refine Ifz.zero ?_
      | (refine Ifz.pos ?_ ?_; (focus omega))
      | refine Get.mk _ rfl ?_
      | refine Leaves.of ?_
      | refine Ends.of ?_
      | refine Vw.bool ?_
      | refine Vw.int ?_
      | refine Vw.nil
      | refine Vw.sl
      | refine Vw.tup ?_
      | refine Vw.agg ?_
      | refine VwL.cons ?_ ?_
      | refine VwL.nil
      | refine LeavesF.of ?_
      | refine VwF.bool ?_
      | refine VwF.int ?_
      | refine VwF.nil
      | refine VwF.sl
      | refine VwF.tup ?_
      | refine VwF.agg ?_
      | refine VwLF.cons ?_ ?_
      | refine VwLF.nil
      | (refine Req.mk ?_ ?_; (focus first | rfl | decide | exact ⟨rfl, rfl⟩ | exact ⟨rfl, by decide⟩ | exact (fun _ => rfl) | exact (fun h => nomatch h) | (simp; done) | omega | (simp [big]; done) | exact le_big (by omega) | exact lt_big (by omega))))
  all_goals first | rfl | (exfalso; omega)

end Go.Dr.T
