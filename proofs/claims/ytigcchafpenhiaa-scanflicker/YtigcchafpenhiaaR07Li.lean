/- Chapter 07: the light of a pixel. -/
import Derived.Test.YtigcchafpenhiaaR07Mv
namespace Go.Dr.T

abbrev shV (x : Int × Int) : V := .agg [.int .i64 x.1, .int .i64 x.2]
def ofSh : List (Int × Int) → List V
  | [] => []
  | x :: l => .int .i64 x.1 :: .int .i64 x.2 :: ofSh l

theorem ofSh_length (l : List (Int × Int)) : (ofSh l).length = l.length * 2 := by
  induction l with
  | nil => rfl
  | cons x l ih => simp only [ofSh, List.length_cons, ih]; omega
theorem ofSh_part : ∀ {l : List (Int × Int)} {i : Nat} (h : i < l.length), part (ofSh l) (i * 2) 2 = some [.int .i64 l[i].1, .int .i64 l[i].2]
  | x :: l, 0, _ => by simp [ofSh, part, take', drop']
  | x :: l, i + 1, h => by
    have h1 := ofSh_part (l := l) (i := i) (by simpa using h)
    rw [show (i + 1) * 2 = i * 2 + 1 + 1 by omega]
    simp only [ofSh, part, drop', List.getElem_cons_succ] at h1 ⊢
    exact h1
theorem ofSh_cell0 : ∀ {l : List (Int × Int)} {i : Nat} (h : i < l.length), cellAt (ofSh l) (i * 2) = some (.int .i64 l[i].1)
  | x :: l, 0, _ => rfl
  | x :: l, i + 1, h => by
    rw [show (i + 1) * 2 = i * 2 + 1 + 1 by omega]
    simp only [ofSh, cellAt, List.getElem_cons_succ]
    exact ofSh_cell0 (by simpa using h)
theorem ofSh_cell1 : ∀ {l : List (Int × Int)} {i : Nat} (h : i < l.length), cellAt (ofSh l) (i * 2 + 1) = some (.int .i64 l[i].2)
  | x :: l, 0, _ => rfl
  | x :: l, i + 1, h => by
    rw [show (i + 1) * 2 + 1 = i * 2 + 1 + 1 + 1 by omega]
    simp only [ofSh, cellAt, List.getElem_cons_succ]
    exact ofSh_cell1 (by simpa using h)

theorem tdiv_lo {a b : Int} (h : 0 ≤ a) (hb : 0 ≤ b) : -9223372036854775808 ≤ a.tdiv b := by
  have := Int.tdiv_nonneg h hb; omega
theorem tdiv_hi {a b : Int} (h : 0 ≤ a) (hb : a ≤ 9223372036854775807) : a.tdiv b ≤ 9223372036854775807 :=
  Int.le_trans (Int.tdiv_le_self b h) hb

def loL (x : Int × Int) : Int := (1000000 * x.2 + x.1 - 1).tdiv x.1
def hiL (x : Int × Int) : Int := if x.2 < 255 then min 10000000 ((1000000 * (x.2 + 1) - 1).tdiv x.1) else 10000000
abbrev goodL (x : Int × Int) : Prop := 1 ≤ x.1 ∧ x.1 ≤ 100000 ∧ 0 ≤ x.2 ∧ x.2 ≤ 255

set_option maxRecDepth 100000 in
theorem lights_any {x : Int × Int} (h : goodL x) : Fun F md 71 [shV x] (.agg [.int .i64 (loL x), .int .i64 (hiL x)]) := by
  obtain ⟨e, v⟩ := x
  obtain ⟨h1, h2, h3, h4⟩ := h
  simp only at h1 h2 h3 h4
  refine fun_of rfl rfl ?_
  repeat' (first
    | (conv => whnf)
      first
      | refine Br.t ?_
      | refine Br.f ?_
      | (refine Br.decT ?_ ?_; (focus first | assumption | omega))
      | (refine Br.decF ?_ ?_; (focus first | assumption | omega))
      | refine Br.dec (fun _ => ?_) (fun _ => ?_)
      | refine Br.not ?_
      | refine Br.and ?_
      | refine Br.or ?_
      | (refine Bnd.i64 ?_ ?_ ?_; (focus omega); (focus omega))
      | refine Req.mk (show (_ : Int) ≠ 0 by omega) ?_
      | refine Bnd.i64 (tdiv_lo (by omega) (by omega)) (tdiv_hi (by omega) (by omega)) ?_
      | refine Bnd.any ?_
      | (refine Idx.nat ?_ ?_; (focus omega))
      | refine Idx.nat (le_big (by omega)) ?_
      | (refine Idx.int ?_ ?_ ?_; (focus omega); (focus omega))
      | (refine Idx.int ?_ ?_ ?_; (focus decide); (focus decide))
      | refine Ifz.zero ?_
      | (refine Ifz.pos ?_ ?_; (focus omega))
      | refine Get.mk _ rfl ?_
      | refine Leaves.of ?_
      | refine Ends.of ?_
      | refine Vw.bool ?_
      | refine Vw.int ?_
      | refine Vw.nil
      | refine Vw.sl
      | refine Vw.tup ?_
      | refine Vw.agg ?_
      | refine VwL.cons ?_ ?_
      | refine VwL.nil
      | refine LeavesF.of ?_
      | refine VwF.bool ?_
      | refine VwF.int ?_
      | refine VwF.nil
      | refine VwF.sl
      | refine VwF.tup ?_
      | refine VwF.agg ?_
      | refine VwLF.cons ?_ ?_
      | refine VwLF.nil
      | (refine Req.mk ?_ ?_; (focus first | rfl | decide | exact ⟨rfl, rfl⟩ | exact ⟨rfl, by decide⟩ | exact (fun _ => rfl) | exact (fun h => nomatch h) | (simp; done) | omega | (simp [big]; done) | exact le_big (by omega) | exact lt_big (by omega))))
  all_goals first | rfl | (unfold hiL; simp only []; rw [if_pos (by assumption)]) | (unfold hiL; simp only []; rw [if_neg (by assumption)])
set_option maxRecDepth 100000 in
theorem lightsR_any {x : Int × Int} (h : goodL x) : Fun F md 72 [shV x] (.agg [.int .i64 (loL x), .int .i64 (hiL x)]) := by
  obtain ⟨e, v⟩ := x
  obtain ⟨h1, h2, h3, h4⟩ := h
  simp only at h1 h2 h3 h4
  refine fun_of rfl rfl ?_
  repeat' (first
    | (conv => whnf)
      first
      | refine Br.t ?_
      | refine Br.f ?_
      | (refine Br.decT ?_ ?_; (focus first | assumption | omega))
      | (refine Br.decF ?_ ?_; (focus first | assumption | omega))
      | refine Br.dec (fun _ => ?_) (fun _ => ?_)
      | refine Br.not ?_
      | refine Br.and ?_
      | refine Br.or ?_
      | (refine Bnd.i64 ?_ ?_ ?_; (focus omega); (focus omega))
      | refine Req.mk (show (_ : Int) ≠ 0 by omega) ?_
      | refine Bnd.i64 (tdiv_lo (by omega) (by omega)) (tdiv_hi (by omega) (by omega)) ?_
      | refine Bnd.any ?_
      | (refine Idx.nat ?_ ?_; (focus omega))
      | refine Idx.nat (le_big (by omega)) ?_
      | (refine Idx.int ?_ ?_ ?_; (focus omega); (focus omega))
      | (refine Idx.int ?_ ?_ ?_; (focus decide); (focus decide))
      | refine Ifz.zero ?_
      | (refine Ifz.pos ?_ ?_; (focus omega))
      | refine Get.mk _ rfl ?_
      | refine Leaves.of ?_
      | refine Ends.of ?_
      | refine Vw.bool ?_
      | refine Vw.int ?_
      | refine Vw.nil
      | refine Vw.sl
      | refine Vw.tup ?_
      | refine Vw.agg ?_
      | refine VwL.cons ?_ ?_
      | refine VwL.nil
      | refine LeavesF.of ?_
      | refine VwF.bool ?_
      | refine VwF.int ?_
      | refine VwF.nil
      | refine VwF.sl
      | refine VwF.tup ?_
      | refine VwF.agg ?_
      | refine VwLF.cons ?_ ?_
      | refine VwLF.nil
      | (refine Req.mk ?_ ?_; (focus first | rfl | decide | exact ⟨rfl, rfl⟩ | exact ⟨rfl, by decide⟩ | exact (fun _ => rfl) | exact (fun h => nomatch h) | (simp; done) | omega | (simp [big]; done) | exact le_big (by omega) | exact lt_big (by omega))))
  all_goals first | rfl | (unfold hiL; simp only []; rw [if_pos (by assumption)]) | (unfold hiL; simp only []; rw [if_neg (by assumption)])

theorem common_any (a b c d : Int) : Fun F md 70 [.agg [.int .i64 a, .int .i64 b], .agg [.int .i64 c, .int .i64 d]] (.tup [.agg [.int .i64 (max a c), .int .i64 (min b d)], .bool (decide (max a c ≤ min b d))]) := by
  refine fun_of rfl rfl ?_
  repeat' (first
    | (conv => whnf)
      first
      | refine Br.t ?_
      | refine Br.f ?_
      | (refine Br.decT ?_ ?_; (focus first | assumption | omega))
      | (refine Br.decF ?_ ?_; (focus first | assumption | omega))
      | refine Br.dec (fun _ => ?_) (fun _ => ?_)
      | refine Br.not ?_
      | refine Br.and ?_
      | refine Br.or ?_
      | (refine Bnd.i64 ?_ ?_ ?_; (focus omega); (focus omega))
      | refine Bnd.any ?_
      | (refine Idx.nat ?_ ?_; (focus omega))
      | refine Idx.nat (le_big (by omega)) ?_
      | (refine Idx.int ?_ ?_ ?_; (focus omega); (focus omega))
      | (refine Idx.int ?_ ?_ ?_; (focus decide); (focus decide))
      | refine Ifz.zero ?_
      | (refine Ifz.pos ?_ ?_; (focus omega))
      | refine Get.mk _ rfl ?_
      | refine Leaves.of ?_
      | refine Ends.of ?_
      | refine Vw.bool ?_
      | refine Vw.int ?_
      | refine Vw.nil
      | refine Vw.sl
      | refine Vw.tup ?_
      | refine Vw.agg ?_
      | refine VwL.cons ?_ ?_
      | refine VwL.nil
      | refine LeavesF.of ?_
      | refine VwF.bool ?_
      | refine VwF.int ?_
      | refine VwF.nil
      | refine VwF.sl
      | refine VwF.tup ?_
      | refine VwF.agg ?_
      | refine VwLF.cons ?_ ?_
      | refine VwLF.nil
      | (refine Req.mk ?_ ?_; (focus first | rfl | decide | exact ⟨rfl, rfl⟩ | exact ⟨rfl, by decide⟩ | exact (fun _ => rfl) | exact (fun h => nomatch h) | (simp; done) | omega | (simp [big]; done) | exact le_big (by omega) | exact lt_big (by omega))))
  all_goals rfl

end Go.Dr.T
