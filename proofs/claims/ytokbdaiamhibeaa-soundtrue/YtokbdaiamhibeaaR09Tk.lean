/- Chapter 09: Track of the program. -/
import Derived.Test.YtokbdaiamhibeaaR09Tr
namespace Go.Dr.T

def pB (l : List UInt8) (i : Nat) : Int := ((l.getD i 0).toNat : Int)
theorem pB_range (l : List UInt8) (i : Nat) : 0 ≤ pB l i ∧ pB l i ≤ 255 := by
  have := (l.getD i 0).toNat_lt
  unfold pB; omega
theorem pB_cell {l : List UInt8} {i : Nat} (h : i < l.length) : cellAt (ofBytes l) (i * 1) = some (.int .u8 (pB l i)) := by
  rw [cell_u8 h, pB, List.getD_eq_getElem?_getD, List.getElem?_eq_getElem h]; rfl
def loT (p q : Int) : Int := if q ≠ 0 then 0 else p
def hiT (p q : Int) : Int := if q ≠ 0 then 255 else p
theorem loT_range {p q : Int} (h : 0 ≤ p ∧ p ≤ 255) : 0 ≤ loT p q ∧ loT p q ≤ 255 := by unfold loT; split <;> omega
theorem hiT_range {p q : Int} (h : 0 ≤ p ∧ p ≤ 255) : 0 ≤ hiT p q ∧ hiT p q ≤ 255 := by unfold hiT; split <;> omega
section
variable (kind : Int) (W H : Nat) (l m : List UInt8)
/-- a row's sums. -/
def row (y : Nat) : Nat → Int × Int
  | 0 => (0, 0)
  | x + 1 => ((row y x).1 + lvK kind (loT (pB l (y * W + x)) (pB m (y * W + x))), (row y x).2 + lvK kind (hiT (pB l (y * W + x)) (pB m (y * W + x))))
def trL (y x : Nat) : List (Int × Int) := (List.range H).map fun r => if r < y then row kind W l m r W else if r = y then row kind W l m y x else (0, 0)
end
section
variable {kind : Int} {W H : Nat} {l m : List UInt8}
theorem row_range (y : Nat) : ∀ x, 0 ≤ (row kind W l m y x).1 ∧ (row kind W l m y x).1 ≤ 255 * x ∧ 0 ≤ (row kind W l m y x).2 ∧ (row kind W l m y x).2 ≤ 255 * x
  | 0 => by simp [row]
  | x + 1 => by
    have h := row_range y x
    have h1 := lvK_range (kind := kind) (loT_range (q := pB m (y * W + x)) (pB_range l (y * W + x)))
    have h2 := lvK_range (kind := kind) (hiT_range (q := pB m (y * W + x)) (pB_range l (y * W + x)))
    simp only [row]
    omega
theorem trL_length (y x : Nat) : (trL kind W H l m y x).length = H := by simp [trL]
theorem trL_get {y x : Nat} (h : y < H) : (trL kind W H l m y x)[y]'(by rw [trL_length]; exact h) = row kind W l m y x := by simp [trL]
theorem trL_next {y x : Nat} (_h : y < H) : (trL kind W H l m y x).set y (row kind W l m y (x + 1)) = trL kind W H l m y (x + 1) := by
  refine List.ext_getElem (by simp [trL]) fun i h1 h2 => ?_
  rw [List.getElem_set]
  simp only [trL, List.getElem_map, List.getElem_range]
  by_cases e : y = i
  · subst e; simp
  · simp [e, Ne.symm e]
theorem trL_zero : reps H [V.int .i64 0, .int .i64 0] = ofSp (trL kind W H l m 0 0) := by
  have e : trL kind W H l m 0 0 = List.replicate H (0, 0) := by
    refine List.ext_getElem (by simp [trL]) fun i h1 h2 => ?_
    simp only [trL, List.getElem_map, List.getElem_range, List.getElem_replicate]
    split
    · omega
    · split <;> rfl
  rw [e]
  clear e
  induction H with
  | zero => rfl
  | succ n ih => simp only [reps, List.replicate_succ, ofSp, ih]; rfl
theorem trL_row (y : Nat) : trL kind W H l m y W = trL kind W H l m (y + 1) 0 := by
  refine List.ext_getElem (by simp [trL]) fun i h1 h2 => ?_
  simp only [trL, List.getElem_map, List.getElem_range]
  by_cases e1 : i < y
  · rw [if_pos e1, if_pos (by omega)]
  · by_cases e2 : i = y
    · subst e2; simp
    · rw [if_neg e1, if_neg e2, if_neg (by omega)]
      by_cases e3 : i = y + 1
      · rw [if_pos e3]; rfl
      · rw [if_neg e3]
end
theorem scal_sp (l : List (Int × Int)) : scalars (ofSp l) = true := by
  induction l with
  | nil => rfl
  | cons x l ih => simp [ofSp, scalars, V.scalar, ih]
theorem VwLF.sp {h : List B} {d : Nat} (l : List (Int × Int)) : VwLF h (d + 1) (ofSp l) (ofSp l) := by
  induction l with
  | nil => exact VwLF.nil
  | cons x l ih => exact VwLF.cons (VwF.int rfl) (VwLF.cons (VwF.int rfl) ih)
theorem VwF.sp {h : List B} {d id g len n : Nat} {clip dat : Bool} {cs : List V} {l : List (Int × Int)} (h1 : bget h id = some (.blk cs dat)) (h0 : cs = ofSp l) (h2 : g = 2 * l.length) (h3 : len = l.length) (hn : n = l.length) :
    VwF h (d + 1 + 1) (.ms 2 id g 0 len clip) (.sl clip n (ofSp l)) := by
  subst h0 h2 h3 hn
  exact VwF.ms h1 (ofSp_length l) (part_all (by rw [ofSp_length, Nat.mul_comm])) (VwLF.sp l)
theorem fVeq {l l' : List V} {K : List V → Prop} (e : l = l') (h : K l') : fV l K := fV.mk (e ▸ h)



set_option maxRecDepth 100000 in
set_option maxHeartbeats 20000000 in
theorem track_oneF {W H : Nat} {c c' : Bool} {l m : List UInt8} (h1 : 1 ≤ W) (h2 : W ≤ 48) (h3 : 1 ≤ H) (h4 : H ≤ 48) (hl : l.length = W * H) (hm : m.length = W * H) :
    FunF F md 17 [frV W H c l, frV W H c' m, .int .i64 1] (.tup [.sl (decide (H = H)) H (ofSp (trL 1 W H l m H 0)), .int .i64 0]) := by
  have hck := check_any W H c l
  rw [check_ok h1 h2 h3 h4 hl] at hck
  have hck2 := check_any W H c' m
  rw [check_ok h1 h2 h3 h4 hm] at hck2
  have hWH : W * H ≤ 2304 := Nat.mul_le_mul h2 h4
  refine funF_of rfl rfl ?_
  repeat' (first
    | (conv => whnf)
      first
      | refine Br.t ?_
      | refine Br.f ?_
      | (refine Br.decT ?_ ?_; (focus first | assumption | omega))
      | (refine Br.decF ?_ ?_; (focus first | assumption | omega))
      | refine Br.dec (fun _ => ?_) (fun _ => ?_)
      | refine Br.not ?_
      | refine Br.and ?_
      | refine Br.or ?_
      | (refine Bnd.i64 ?_ ?_ ?_; (focus omega); (focus omega))
      | refine call_fun rfl rfl hck (.inl rfl) ?_
      | refine call_fun rfl rfl hck2 (.inl rfl) ?_
      | refine Idx.nat (le_big (by omega)) ?_
      | (refine Idx.nat ?_ ?_; (focus omega))
      | (refine Idx.nat ?_ ?_; (focus omega))
      | refine Idx.nat (le_big (by omega)) ?_
      | (refine Idx.int ?_ ?_ ?_; (focus omega); (focus omega))
      | (refine Idx.int ?_ ?_ ?_; (focus decide); (focus decide))
      | refine Ifz.zero ?_
      | (refine Ifz.pos ?_ ?_; (focus omega))
      | refine Get.mk _ rfl ?_
      | refine Leaves.of ?_
      | refine Ends.of ?_
      | refine Vw.bool ?_
      | refine Vw.int ?_
      | refine Vw.nil
      | refine Vw.sl
      | refine Vw.tup ?_
      | refine Vw.agg ?_
      | refine VwL.cons ?_ ?_
      | refine VwL.nil
      | refine LeavesF.of ?_
      | refine VwF.bool ?_
      | refine VwF.int ?_
      | refine VwF.nil
      | refine VwF.sl
      | refine VwF.tup ?_
      | refine VwF.agg ?_
      | refine VwLF.cons ?_ ?_
      | refine VwLF.nil
      | (refine Req.mk ?_ ?_; (focus first | rfl | decide | exact ⟨rfl, rfl⟩ | exact ⟨rfl, by decide⟩ | exact (fun _ => rfl) | exact (fun h => nomatch h) | (simp; done) | omega | (simp [big]; done) | exact le_big (by omega) | exact lt_big (by omega))))
  refine LoopP.by (fun y : Nat => y ≤ H) (fun y => [(61, .int .i64 (y : Nat))]) (fun y => [.blk [.int .i64 W, .int .i64 H, .sl c l.length (ofBytes l)] false, .blk [.int .i64 W, .int .i64 H, .sl c' m.length (ofBytes m)] false, .mp [.int .i64 1, .int .i64 2] [.iface 108 (.agg []), .iface 109 (.agg [])], .blk (ofSp (trL 1 W H l m y 0)) true]) (fun y => H - y) 0 (Nat.zero_le _) ?_ ?_
  · rw [← trL_zero]; rfl
  intro y hy
  by_cases hyH : y < H
  · have hyW : y * W + W ≤ W * H := by
      have := Nat.mul_le_mul_right W (show y + 1 ≤ H by omega)
      rw [Nat.add_mul, Nat.one_mul, Nat.mul_comm H W] at this; exact this
    have hmul : IntKind.i64.wrap ((y : Int) * (W : Int)) = ((y * W + 0 : Nat) : Int) := by
      rw [show (y : Int) * (W : Int) = ((y * W : Nat) : Int) by push_cast; rfl]
      exact wrap_i64 (by omega) (by omega)
    have hmul2 : IntKind.i64.wrap (((y : Int) + 1) * (W : Int)) = ((y * W + W : Nat) : Int) := by
      rw [show ((y : Int) + 1) * (W : Int) = ((y * W + W : Nat) : Int) by push_cast; rw [Int.add_mul, Int.one_mul]]
      exact wrap_i64 (by omega) (by omega)
    repeat' (first
      | (conv => whnf)
        first
        | refine Br.t ?_
        | refine Br.f ?_
        | (refine Br.decT ?_ ?_; (focus first | assumption | omega))
        | (refine Br.decF ?_ ?_; (focus first | assumption | omega))
        | refine Br.dec (fun _ => ?_) (fun _ => ?_)
        | refine Br.not ?_
        | refine Br.and ?_
        | refine Br.or ?_
        | (refine Bnd.i64 ?_ ?_ ?_; (focus omega); (focus omega))
        | refine Bnd.eq hmul ?_
        | (refine Idx.nat ?_ ?_; (focus omega))
        | refine Idx.nat (le_big (by omega)) ?_
        | (refine Idx.int ?_ ?_ ?_; (focus omega); (focus omega))
        | (refine Idx.int ?_ ?_ ?_; (focus decide); (focus decide))
        | refine Ifz.zero ?_
        | (refine Ifz.pos ?_ ?_; (focus omega))
        | refine Get.mk _ rfl ?_
        | refine Leaves.of ?_
        | refine Ends.of ?_
        | refine Vw.bool ?_
        | refine Vw.int ?_
        | refine Vw.nil
        | refine Vw.sl
        | refine Vw.tup ?_
        | refine Vw.agg ?_
        | refine VwL.cons ?_ ?_
        | refine VwL.nil
        | refine LeavesF.of ?_
        | refine VwF.bool ?_
        | refine VwF.int ?_
        | refine VwF.nil
        | refine VwF.sl
        | refine VwF.tup ?_
        | refine VwF.agg ?_
        | refine VwLF.cons ?_ ?_
        | refine VwLF.nil
        | (refine Req.mk ?_ ?_; (focus first | rfl | decide | exact ⟨rfl, rfl⟩ | exact ⟨rfl, by decide⟩ | exact (fun _ => rfl) | exact (fun h => nomatch h) | (simp; done) | omega | (simp [big]; done) | exact le_big (by omega) | exact lt_big (by omega))))
    refine LoopP.by (fun x : Nat => x ≤ W) (fun x => [(14, .int .i64 ((y * W + x : Nat) : Int))]) (fun x => [.blk [.int .i64 W, .int .i64 H, .sl c l.length (ofBytes l)] false, .blk [.int .i64 W, .int .i64 H, .sl c' m.length (ofBytes m)] false, .mp [.int .i64 1, .int .i64 2] [.iface 108 (.agg []), .iface 109 (.agg [])], .blk (ofSp (trL 1 W H l m y x)) true]) (fun x => W - x) 0 (Nat.zero_le _) rfl ?_
    intro x hx
    by_cases hxW : x < W
    · have hil : y * W + x < l.length := by omega
      have him : y * W + x < m.length := by omega
      have hcl := pB_cell hil
      have hcm := pB_cell him
      have hpl := pB_range l (y * W + x)
      have hpm := pB_range m (y * W + x)
      have hrr := row_range (kind := 1) (W := W) (l := l) (m := m) y x
      have hlv := area_lv (loT_range (q := pB m (y * W + x)) hpl)
      have hhv := area_lv (hiT_range (q := pB m (y * W + x)) hpl)
      have hlr := lvK_range (kind := 1) (loT_range (q := pB m (y * W + x)) hpl)
      have hhr := lvK_range (kind := 1) (hiT_range (q := pB m (y * W + x)) hpl)
      have hLl := trL_length (kind := 1) (W := W) (H := H) (l := l) (m := m) y x
      have hg := trL_get (kind := 1) (W := W) (H := H) (l := l) (m := m) (x := x) hyH
      have hc0 : cellAt (ofSp (trL 1 W H l m y x)) (0 + y * 2 + 0) = some (.int .i64 (row 1 W l m y x).1) := by
        rw [Nat.add_zero, Nat.zero_add, ofSp_cell0 (by rw [hLl]; exact hyH), hg]
      have hp0 : over (ofSp (trL 1 W H l m y x)) (0 + y * 2 + 0) [.int .i64 ((row 1 W l m y x).1 + lvK 1 (loT (pB l (y * W + x)) (pB m (y * W + x))))] = ofSp ((trL 1 W H l m y x).set y ((row 1 W l m y (x + 1)).1, (row 1 W l m y x).2)) := by
        rw [Nat.add_zero, Nat.zero_add, ofSp_put0 (by rw [hLl]; exact hyH), hg]; rfl
      have hc1 : cellAt (ofSp ((trL 1 W H l m y x).set y ((row 1 W l m y (x + 1)).1, (row 1 W l m y x).2))) (0 + y * 2 + 1) = some (.int .i64 (row 1 W l m y x).2) := by
        rw [Nat.zero_add, ofSp_cell1 (by rw [List.length_set, hLl]; exact hyH), List.getElem_set_self]
      have hp1 : over (ofSp ((trL 1 W H l m y x).set y ((row 1 W l m y (x + 1)).1, (row 1 W l m y x).2))) (0 + y * 2 + 1) [.int .i64 ((row 1 W l m y x).2 + lvK 1 (hiT (pB l (y * W + x)) (pB m (y * W + x))))] = ofSp (trL 1 W H l m y (x + 1)) := by
        rw [Nat.zero_add, ofSp_put1 (by rw [List.length_set, hLl]; exact hyH), List.getElem_set_self, List.set_set, ← trL_next hyH]; rfl
      have hl0 : (ofSp (trL 1 W H l m y x)).length = H * 2 := by rw [ofSp_length, hLl, Nat.mul_comm]
      have hl1 : (ofSp ((trL 1 W H l m y x).set y ((row 1 W l m y (x + 1)).1, (row 1 W l m y x).2))).length = H * 2 := by rw [ofSp_length, List.length_set, hLl, Nat.mul_comm]
      generalize ofSp ((trL 1 W H l m y x).set y ((row 1 W l m y (x + 1)).1, (row 1 W l m y x).2)) = C1 at *
      generalize hC2 : ofSp (trL 1 W H l m y (x + 1)) = C2 at *
      generalize ofSp (trL 1 W H l m y x) = C0 at *
      generalize row 1 W l m y x = r at *
      obtain ⟨r1, r2⟩ := r
      simp only at hrr hc0 hp0 hc1 hp1
      by_cases hq : pB m (y * W + x) = 0
      · have e1 : loT (pB l (y * W + x)) (pB m (y * W + x)) = pB l (y * W + x) := by unfold loT; rw [if_neg (by omega)]
        have e2 : hiT (pB l (y * W + x)) (pB m (y * W + x)) = pB l (y * W + x) := by unfold hiT; rw [if_neg (by omega)]
        rw [e1] at hp0 hlv hlr
        rw [e2] at hp1 hhv hhr
        generalize lvK 1 (pB l (y * W + x)) = v1 at *
        generalize pB l (y * W + x) = p at *
        generalize pB m (y * W + x) = q at *
        repeat' (first
          | (conv => whnf)
            first
            | refine Br.t ?_
            | refine Br.f ?_
            | (refine Br.decT ?_ ?_; (focus first | assumption | omega))
            | (refine Br.decF ?_ ?_; (focus first | assumption | omega))
            | refine Br.dec (fun _ => ?_) (fun _ => ?_)
            | refine Br.not ?_
            | refine Br.and ?_
            | refine Br.or ?_
            | (refine Bnd.i64 ?_ ?_ ?_; (focus omega); (focus omega))
            | refine Bnd.eq hmul2 ?_
            | refine Get.mk _ hcl ?_
            | refine Get.mk _ hcm ?_
            | refine Get.mk _ hc0 ?_
            | refine Get.mk _ hc1 ?_
            | refine call_fun rfl rfl hlv (.inl rfl) ?_
            | refine call_fun rfl rfl hhv (.inl rfl) ?_
            | refine fVeq hp0 ?_
            | refine fVeq hp1 ?_
            | refine Req.mk hl0 ?_
            | refine Req.mk hl1 ?_
            | refine Req.mk ⟨hl0, by omega⟩ ?_
            | refine Req.mk ⟨hl1, by omega⟩ ?_
            | (refine Idx.nat ?_ ?_; (focus omega))
            | refine Idx.nat (le_big (by omega)) ?_
            | (refine Idx.int ?_ ?_ ?_; (focus omega); (focus omega))
            | (refine Idx.int ?_ ?_ ?_; (focus decide); (focus decide))
            | refine Ifz.zero ?_
            | (refine Ifz.pos ?_ ?_; (focus omega))
            | refine Get.mk _ rfl ?_
            | refine Leaves.of ?_
            | refine Ends.of ?_
            | refine Vw.bool ?_
            | refine Vw.int ?_
            | refine Vw.nil
            | refine Vw.sl
            | refine Vw.tup ?_
            | refine Vw.agg ?_
            | refine VwL.cons ?_ ?_
            | refine VwL.nil
            | refine LeavesF.of ?_
            | refine VwF.bool ?_
            | refine VwF.int ?_
            | refine VwF.nil
            | refine VwF.sl
            | refine VwF.tup ?_
            | refine VwF.agg ?_
            | refine VwLF.cons ?_ ?_
            | refine VwLF.nil
            | (refine Req.mk ?_ ?_; (focus first | rfl | decide | exact ⟨rfl, rfl⟩ | exact ⟨rfl, by decide⟩ | exact (fun _ => rfl) | exact (fun h => nomatch h) | (simp; done) | omega | (simp [big]; done) | exact le_big (by omega) | exact lt_big (by omega))))
        all_goals refine NextP.mk (x + 1) (by omega) (by omega) ?_
        all_goals rw [← hC2]
        all_goals rfl
      · have e1 : loT (pB l (y * W + x)) (pB m (y * W + x)) = 0 := by unfold loT; rw [if_pos hq]
        have e2 : hiT (pB l (y * W + x)) (pB m (y * W + x)) = 255 := by unfold hiT; rw [if_pos hq]
        rw [e1] at hp0 hlv hlr
        rw [e2] at hp1 hhv hhr
        generalize lvK 1 0 = v1 at *
        generalize lvK 1 255 = v2 at *
        generalize pB l (y * W + x) = p at *
        generalize pB m (y * W + x) = q at *
        repeat' (first
          | (conv => whnf)
            first
            | refine Br.t ?_
            | refine Br.f ?_
            | (refine Br.decT ?_ ?_; (focus first | assumption | omega))
            | (refine Br.decF ?_ ?_; (focus first | assumption | omega))
            | refine Br.dec (fun _ => ?_) (fun _ => ?_)
            | refine Br.not ?_
            | refine Br.and ?_
            | refine Br.or ?_
            | (refine Bnd.i64 ?_ ?_ ?_; (focus omega); (focus omega))
            | refine Bnd.eq hmul2 ?_
            | refine Get.mk _ hcl ?_
            | refine Get.mk _ hcm ?_
            | refine Get.mk _ hc0 ?_
            | refine Get.mk _ hc1 ?_
            | refine call_fun rfl rfl hlv (.inl rfl) ?_
            | refine call_fun rfl rfl hhv (.inl rfl) ?_
            | refine fVeq hp0 ?_
            | refine fVeq hp1 ?_
            | refine Req.mk hl0 ?_
            | refine Req.mk hl1 ?_
            | refine Req.mk ⟨hl0, by omega⟩ ?_
            | refine Req.mk ⟨hl1, by omega⟩ ?_
            | (refine Idx.nat ?_ ?_; (focus omega))
            | refine Idx.nat (le_big (by omega)) ?_
            | (refine Idx.int ?_ ?_ ?_; (focus omega); (focus omega))
            | (refine Idx.int ?_ ?_ ?_; (focus decide); (focus decide))
            | refine Ifz.zero ?_
            | (refine Ifz.pos ?_ ?_; (focus omega))
            | refine Get.mk _ rfl ?_
            | refine Leaves.of ?_
            | refine Ends.of ?_
            | refine Vw.bool ?_
            | refine Vw.int ?_
            | refine Vw.nil
            | refine Vw.sl
            | refine Vw.tup ?_
            | refine Vw.agg ?_
            | refine VwL.cons ?_ ?_
            | refine VwL.nil
            | refine LeavesF.of ?_
            | refine VwF.bool ?_
            | refine VwF.int ?_
            | refine VwF.nil
            | refine VwF.sl
            | refine VwF.tup ?_
            | refine VwF.agg ?_
            | refine VwLF.cons ?_ ?_
            | refine VwLF.nil
            | (refine Req.mk ?_ ?_; (focus first | rfl | decide | exact ⟨rfl, rfl⟩ | exact ⟨rfl, by decide⟩ | exact (fun _ => rfl) | exact (fun h => nomatch h) | (simp; done) | omega | (simp [big]; done) | exact le_big (by omega) | exact lt_big (by omega))))
        all_goals refine NextP.mk (x + 1) (by omega) (by omega) ?_
        all_goals rw [← hC2]
        all_goals rfl
    · obtain rfl : x = W := by omega
      repeat' (first
        | (conv => whnf)
          first
          | refine Br.t ?_
          | refine Br.f ?_
          | (refine Br.decT ?_ ?_; (focus first | assumption | omega))
          | (refine Br.decF ?_ ?_; (focus first | assumption | omega))
          | refine Br.dec (fun _ => ?_) (fun _ => ?_)
          | refine Br.not ?_
          | refine Br.and ?_
          | refine Br.or ?_
          | (refine Bnd.i64 ?_ ?_ ?_; (focus omega); (focus omega))
          | refine Bnd.eq hmul2 ?_
          | (refine Idx.nat ?_ ?_; (focus omega))
          | refine Idx.nat (le_big (by omega)) ?_
          | (refine Idx.int ?_ ?_ ?_; (focus omega); (focus omega))
          | (refine Idx.int ?_ ?_ ?_; (focus decide); (focus decide))
          | refine Ifz.zero ?_
          | (refine Ifz.pos ?_ ?_; (focus omega))
          | refine Get.mk _ rfl ?_
          | refine Leaves.of ?_
          | refine Ends.of ?_
          | refine Vw.bool ?_
          | refine Vw.int ?_
          | refine Vw.nil
          | refine Vw.sl
          | refine Vw.tup ?_
          | refine Vw.agg ?_
          | refine VwL.cons ?_ ?_
          | refine VwL.nil
          | refine LeavesF.of ?_
          | refine VwF.bool ?_
          | refine VwF.int ?_
          | refine VwF.nil
          | refine VwF.sl
          | refine VwF.tup ?_
          | refine VwF.agg ?_
          | refine VwLF.cons ?_ ?_
          | refine VwLF.nil
          | (refine Req.mk ?_ ?_; (focus first | rfl | decide | exact ⟨rfl, rfl⟩ | exact ⟨rfl, by decide⟩ | exact (fun _ => rfl) | exact (fun h => nomatch h) | (simp; done) | omega | (simp [big]; done) | exact le_big (by omega) | exact lt_big (by omega))))
      all_goals refine NextP.mk (y + 1) (by omega) (by omega) ?_
      all_goals rw [trL_row]
      all_goals rfl
  · obtain rfl : y = H := by omega
    repeat' (first
      | (conv => whnf)
        first
        | refine Br.t ?_
        | refine Br.f ?_
        | (refine Br.decT ?_ ?_; (focus first | assumption | omega))
        | (refine Br.decF ?_ ?_; (focus first | assumption | omega))
        | refine Br.dec (fun _ => ?_) (fun _ => ?_)
        | refine Br.not ?_
        | refine Br.and ?_
        | refine Br.or ?_
        | (refine Bnd.i64 ?_ ?_ ?_; (focus omega); (focus omega))
        | (refine Idx.nat ?_ ?_; (focus omega))
        | refine Idx.nat (le_big (by omega)) ?_
        | (refine Idx.int ?_ ?_ ?_; (focus omega); (focus omega))
        | (refine Idx.int ?_ ?_ ?_; (focus decide); (focus decide))
        | refine Ifz.zero ?_
        | (refine Ifz.pos ?_ ?_; (focus omega))
        | refine Get.mk _ rfl ?_
        | refine Leaves.of ?_
        | refine Ends.of ?_
        | refine Vw.bool ?_
        | refine Vw.int ?_
        | refine Vw.nil
        | refine Vw.sl
        | refine Vw.tup ?_
        | refine Vw.agg ?_
        | refine VwL.cons ?_ ?_
        | refine VwL.nil
        | refine LeavesF.of ?_
        | refine VwF.bool ?_
        | refine VwF.int ?_
        | refine VwF.nil
        | refine VwF.sl
        | refine VwF.tup ?_
        | refine VwF.agg ?_
        | refine VwLF.cons ?_ ?_
        | refine VwLF.nil
        | (refine Req.mk ?_ ?_; (focus first | rfl | decide | exact ⟨rfl, rfl⟩ | exact ⟨rfl, by decide⟩ | exact (fun _ => rfl) | exact (fun h => nomatch h) | (simp; done) | omega | (simp [big]; done) | exact le_big (by omega) | exact lt_big (by omega))))
    · refine VwF.sp rfl rfl (by rw [trL_length, Nat.mul_comm]) (by rw [trL_length]) (by rw [trL_length])
    all_goals rfl
theorem track_one {W H : Nat} {c c' : Bool} {l m : List UInt8} (h1 : 1 ≤ W) (h2 : W ≤ 48) (h3 : 1 ≤ H) (h4 : H ≤ 48) (hl : l.length = W * H) (hm : m.length = W * H) :
    Fun F md 17 [frV W H c l, frV W H c' m, .int .i64 1] (.tup [.sl (decide (H = H)) H (ofSp (trL 1 W H l m H 0)), .int .i64 0]) := (track_oneF h1 h2 h3 h4 hl hm).any

set_option maxRecDepth 100000 in
set_option maxHeartbeats 20000000 in
theorem track_twoF {W H : Nat} {c c' : Bool} {l m : List UInt8} (h1 : 1 ≤ W) (h2 : W ≤ 48) (h3 : 1 ≤ H) (h4 : H ≤ 48) (hl : l.length = W * H) (hm : m.length = W * H) :
    FunF F md 17 [frV W H c l, frV W H c' m, .int .i64 2] (.tup [.sl (decide (H = H)) H (ofSp (trL 2 W H l m H 0)), .int .i64 0]) := by
  have hck := check_any W H c l
  rw [check_ok h1 h2 h3 h4 hl] at hck
  have hck2 := check_any W H c' m
  rw [check_ok h1 h2 h3 h4 hm] at hck2
  have hWH : W * H ≤ 2304 := Nat.mul_le_mul h2 h4
  refine funF_of rfl rfl ?_
  repeat' (first
    | (conv => whnf)
      first
      | refine Br.t ?_
      | refine Br.f ?_
      | (refine Br.decT ?_ ?_; (focus first | assumption | omega))
      | (refine Br.decF ?_ ?_; (focus first | assumption | omega))
      | refine Br.dec (fun _ => ?_) (fun _ => ?_)
      | refine Br.not ?_
      | refine Br.and ?_
      | refine Br.or ?_
      | (refine Bnd.i64 ?_ ?_ ?_; (focus omega); (focus omega))
      | refine call_fun rfl rfl hck (.inl rfl) ?_
      | refine call_fun rfl rfl hck2 (.inl rfl) ?_
      | refine Idx.nat (le_big (by omega)) ?_
      | (refine Idx.nat ?_ ?_; (focus omega))
      | (refine Idx.nat ?_ ?_; (focus omega))
      | refine Idx.nat (le_big (by omega)) ?_
      | (refine Idx.int ?_ ?_ ?_; (focus omega); (focus omega))
      | (refine Idx.int ?_ ?_ ?_; (focus decide); (focus decide))
      | refine Ifz.zero ?_
      | (refine Ifz.pos ?_ ?_; (focus omega))
      | refine Get.mk _ rfl ?_
      | refine Leaves.of ?_
      | refine Ends.of ?_
      | refine Vw.bool ?_
      | refine Vw.int ?_
      | refine Vw.nil
      | refine Vw.sl
      | refine Vw.tup ?_
      | refine Vw.agg ?_
      | refine VwL.cons ?_ ?_
      | refine VwL.nil
      | refine LeavesF.of ?_
      | refine VwF.bool ?_
      | refine VwF.int ?_
      | refine VwF.nil
      | refine VwF.sl
      | refine VwF.tup ?_
      | refine VwF.agg ?_
      | refine VwLF.cons ?_ ?_
      | refine VwLF.nil
      | (refine Req.mk ?_ ?_; (focus first | rfl | decide | exact ⟨rfl, rfl⟩ | exact ⟨rfl, by decide⟩ | exact (fun _ => rfl) | exact (fun h => nomatch h) | (simp; done) | omega | (simp [big]; done) | exact le_big (by omega) | exact lt_big (by omega))))
  refine LoopP.by (fun y : Nat => y ≤ H) (fun y => [(61, .int .i64 (y : Nat))]) (fun y => [.blk [.int .i64 W, .int .i64 H, .sl c l.length (ofBytes l)] false, .blk [.int .i64 W, .int .i64 H, .sl c' m.length (ofBytes m)] false, .mp [.int .i64 1, .int .i64 2] [.iface 108 (.agg []), .iface 109 (.agg [])], .blk (ofSp (trL 2 W H l m y 0)) true]) (fun y => H - y) 0 (Nat.zero_le _) ?_ ?_
  · rw [← trL_zero]; rfl
  intro y hy
  by_cases hyH : y < H
  · have hyW : y * W + W ≤ W * H := by
      have := Nat.mul_le_mul_right W (show y + 1 ≤ H by omega)
      rw [Nat.add_mul, Nat.one_mul, Nat.mul_comm H W] at this; exact this
    have hmul : IntKind.i64.wrap ((y : Int) * (W : Int)) = ((y * W + 0 : Nat) : Int) := by
      rw [show (y : Int) * (W : Int) = ((y * W : Nat) : Int) by push_cast; rfl]
      exact wrap_i64 (by omega) (by omega)
    have hmul2 : IntKind.i64.wrap (((y : Int) + 1) * (W : Int)) = ((y * W + W : Nat) : Int) := by
      rw [show ((y : Int) + 1) * (W : Int) = ((y * W + W : Nat) : Int) by push_cast; rw [Int.add_mul, Int.one_mul]]
      exact wrap_i64 (by omega) (by omega)
    repeat' (first
      | (conv => whnf)
        first
        | refine Br.t ?_
        | refine Br.f ?_
        | (refine Br.decT ?_ ?_; (focus first | assumption | omega))
        | (refine Br.decF ?_ ?_; (focus first | assumption | omega))
        | refine Br.dec (fun _ => ?_) (fun _ => ?_)
        | refine Br.not ?_
        | refine Br.and ?_
        | refine Br.or ?_
        | (refine Bnd.i64 ?_ ?_ ?_; (focus omega); (focus omega))
        | refine Bnd.eq hmul ?_
        | (refine Idx.nat ?_ ?_; (focus omega))
        | refine Idx.nat (le_big (by omega)) ?_
        | (refine Idx.int ?_ ?_ ?_; (focus omega); (focus omega))
        | (refine Idx.int ?_ ?_ ?_; (focus decide); (focus decide))
        | refine Ifz.zero ?_
        | (refine Ifz.pos ?_ ?_; (focus omega))
        | refine Get.mk _ rfl ?_
        | refine Leaves.of ?_
        | refine Ends.of ?_
        | refine Vw.bool ?_
        | refine Vw.int ?_
        | refine Vw.nil
        | refine Vw.sl
        | refine Vw.tup ?_
        | refine Vw.agg ?_
        | refine VwL.cons ?_ ?_
        | refine VwL.nil
        | refine LeavesF.of ?_
        | refine VwF.bool ?_
        | refine VwF.int ?_
        | refine VwF.nil
        | refine VwF.sl
        | refine VwF.tup ?_
        | refine VwF.agg ?_
        | refine VwLF.cons ?_ ?_
        | refine VwLF.nil
        | (refine Req.mk ?_ ?_; (focus first | rfl | decide | exact ⟨rfl, rfl⟩ | exact ⟨rfl, by decide⟩ | exact (fun _ => rfl) | exact (fun h => nomatch h) | (simp; done) | omega | (simp [big]; done) | exact le_big (by omega) | exact lt_big (by omega))))
    refine LoopP.by (fun x : Nat => x ≤ W) (fun x => [(14, .int .i64 ((y * W + x : Nat) : Int))]) (fun x => [.blk [.int .i64 W, .int .i64 H, .sl c l.length (ofBytes l)] false, .blk [.int .i64 W, .int .i64 H, .sl c' m.length (ofBytes m)] false, .mp [.int .i64 1, .int .i64 2] [.iface 108 (.agg []), .iface 109 (.agg [])], .blk (ofSp (trL 2 W H l m y x)) true]) (fun x => W - x) 0 (Nat.zero_le _) rfl ?_
    intro x hx
    by_cases hxW : x < W
    · have hil : y * W + x < l.length := by omega
      have him : y * W + x < m.length := by omega
      have hcl := pB_cell hil
      have hcm := pB_cell him
      have hpl := pB_range l (y * W + x)
      have hpm := pB_range m (y * W + x)
      have hrr := row_range (kind := 2) (W := W) (l := l) (m := m) y x
      have hlv := dens_lv (loT_range (q := pB m (y * W + x)) hpl)
      have hhv := dens_lv (hiT_range (q := pB m (y * W + x)) hpl)
      have hlr := lvK_range (kind := 2) (loT_range (q := pB m (y * W + x)) hpl)
      have hhr := lvK_range (kind := 2) (hiT_range (q := pB m (y * W + x)) hpl)
      have hLl := trL_length (kind := 2) (W := W) (H := H) (l := l) (m := m) y x
      have hg := trL_get (kind := 2) (W := W) (H := H) (l := l) (m := m) (x := x) hyH
      have hc0 : cellAt (ofSp (trL 2 W H l m y x)) (0 + y * 2 + 0) = some (.int .i64 (row 2 W l m y x).1) := by
        rw [Nat.add_zero, Nat.zero_add, ofSp_cell0 (by rw [hLl]; exact hyH), hg]
      have hp0 : over (ofSp (trL 2 W H l m y x)) (0 + y * 2 + 0) [.int .i64 ((row 2 W l m y x).1 + lvK 2 (loT (pB l (y * W + x)) (pB m (y * W + x))))] = ofSp ((trL 2 W H l m y x).set y ((row 2 W l m y (x + 1)).1, (row 2 W l m y x).2)) := by
        rw [Nat.add_zero, Nat.zero_add, ofSp_put0 (by rw [hLl]; exact hyH), hg]; rfl
      have hc1 : cellAt (ofSp ((trL 2 W H l m y x).set y ((row 2 W l m y (x + 1)).1, (row 2 W l m y x).2))) (0 + y * 2 + 1) = some (.int .i64 (row 2 W l m y x).2) := by
        rw [Nat.zero_add, ofSp_cell1 (by rw [List.length_set, hLl]; exact hyH), List.getElem_set_self]
      have hp1 : over (ofSp ((trL 2 W H l m y x).set y ((row 2 W l m y (x + 1)).1, (row 2 W l m y x).2))) (0 + y * 2 + 1) [.int .i64 ((row 2 W l m y x).2 + lvK 2 (hiT (pB l (y * W + x)) (pB m (y * W + x))))] = ofSp (trL 2 W H l m y (x + 1)) := by
        rw [Nat.zero_add, ofSp_put1 (by rw [List.length_set, hLl]; exact hyH), List.getElem_set_self, List.set_set, ← trL_next hyH]; rfl
      have hl0 : (ofSp (trL 2 W H l m y x)).length = H * 2 := by rw [ofSp_length, hLl, Nat.mul_comm]
      have hl1 : (ofSp ((trL 2 W H l m y x).set y ((row 2 W l m y (x + 1)).1, (row 2 W l m y x).2))).length = H * 2 := by rw [ofSp_length, List.length_set, hLl, Nat.mul_comm]
      generalize ofSp ((trL 2 W H l m y x).set y ((row 2 W l m y (x + 1)).1, (row 2 W l m y x).2)) = C1 at *
      generalize hC2 : ofSp (trL 2 W H l m y (x + 1)) = C2 at *
      generalize ofSp (trL 2 W H l m y x) = C0 at *
      generalize row 2 W l m y x = r at *
      obtain ⟨r1, r2⟩ := r
      simp only at hrr hc0 hp0 hc1 hp1
      by_cases hq : pB m (y * W + x) = 0
      · have e1 : loT (pB l (y * W + x)) (pB m (y * W + x)) = pB l (y * W + x) := by unfold loT; rw [if_neg (by omega)]
        have e2 : hiT (pB l (y * W + x)) (pB m (y * W + x)) = pB l (y * W + x) := by unfold hiT; rw [if_neg (by omega)]
        rw [e1] at hp0 hlv hlr
        rw [e2] at hp1 hhv hhr
        generalize lvK 2 (pB l (y * W + x)) = v1 at *
        generalize pB l (y * W + x) = p at *
        generalize pB m (y * W + x) = q at *
        repeat' (first
          | (conv => whnf)
            first
            | refine Br.t ?_
            | refine Br.f ?_
            | (refine Br.decT ?_ ?_; (focus first | assumption | omega))
            | (refine Br.decF ?_ ?_; (focus first | assumption | omega))
            | refine Br.dec (fun _ => ?_) (fun _ => ?_)
            | refine Br.not ?_
            | refine Br.and ?_
            | refine Br.or ?_
            | (refine Bnd.i64 ?_ ?_ ?_; (focus omega); (focus omega))
            | refine Bnd.eq hmul2 ?_
            | refine Get.mk _ hcl ?_
            | refine Get.mk _ hcm ?_
            | refine Get.mk _ hc0 ?_
            | refine Get.mk _ hc1 ?_
            | refine call_fun rfl rfl hlv (.inl rfl) ?_
            | refine call_fun rfl rfl hhv (.inl rfl) ?_
            | refine fVeq hp0 ?_
            | refine fVeq hp1 ?_
            | refine Req.mk hl0 ?_
            | refine Req.mk hl1 ?_
            | refine Req.mk ⟨hl0, by omega⟩ ?_
            | refine Req.mk ⟨hl1, by omega⟩ ?_
            | (refine Idx.nat ?_ ?_; (focus omega))
            | refine Idx.nat (le_big (by omega)) ?_
            | (refine Idx.int ?_ ?_ ?_; (focus omega); (focus omega))
            | (refine Idx.int ?_ ?_ ?_; (focus decide); (focus decide))
            | refine Ifz.zero ?_
            | (refine Ifz.pos ?_ ?_; (focus omega))
            | refine Get.mk _ rfl ?_
            | refine Leaves.of ?_
            | refine Ends.of ?_
            | refine Vw.bool ?_
            | refine Vw.int ?_
            | refine Vw.nil
            | refine Vw.sl
            | refine Vw.tup ?_
            | refine Vw.agg ?_
            | refine VwL.cons ?_ ?_
            | refine VwL.nil
            | refine LeavesF.of ?_
            | refine VwF.bool ?_
            | refine VwF.int ?_
            | refine VwF.nil
            | refine VwF.sl
            | refine VwF.tup ?_
            | refine VwF.agg ?_
            | refine VwLF.cons ?_ ?_
            | refine VwLF.nil
            | (refine Req.mk ?_ ?_; (focus first | rfl | decide | exact ⟨rfl, rfl⟩ | exact ⟨rfl, by decide⟩ | exact (fun _ => rfl) | exact (fun h => nomatch h) | (simp; done) | omega | (simp [big]; done) | exact le_big (by omega) | exact lt_big (by omega))))
        all_goals refine NextP.mk (x + 1) (by omega) (by omega) ?_
        all_goals rw [← hC2]
        all_goals rfl
      · have e1 : loT (pB l (y * W + x)) (pB m (y * W + x)) = 0 := by unfold loT; rw [if_pos hq]
        have e2 : hiT (pB l (y * W + x)) (pB m (y * W + x)) = 255 := by unfold hiT; rw [if_pos hq]
        rw [e1] at hp0 hlv hlr
        rw [e2] at hp1 hhv hhr
        generalize lvK 2 0 = v1 at *
        generalize lvK 2 255 = v2 at *
        generalize pB l (y * W + x) = p at *
        generalize pB m (y * W + x) = q at *
        repeat' (first
          | (conv => whnf)
            first
            | refine Br.t ?_
            | refine Br.f ?_
            | (refine Br.decT ?_ ?_; (focus first | assumption | omega))
            | (refine Br.decF ?_ ?_; (focus first | assumption | omega))
            | refine Br.dec (fun _ => ?_) (fun _ => ?_)
            | refine Br.not ?_
            | refine Br.and ?_
            | refine Br.or ?_
            | (refine Bnd.i64 ?_ ?_ ?_; (focus omega); (focus omega))
            | refine Bnd.eq hmul2 ?_
            | refine Get.mk _ hcl ?_
            | refine Get.mk _ hcm ?_
            | refine Get.mk _ hc0 ?_
            | refine Get.mk _ hc1 ?_
            | refine call_fun rfl rfl hlv (.inl rfl) ?_
            | refine call_fun rfl rfl hhv (.inl rfl) ?_
            | refine fVeq hp0 ?_
            | refine fVeq hp1 ?_
            | refine Req.mk hl0 ?_
            | refine Req.mk hl1 ?_
            | refine Req.mk ⟨hl0, by omega⟩ ?_
            | refine Req.mk ⟨hl1, by omega⟩ ?_
            | (refine Idx.nat ?_ ?_; (focus omega))
            | refine Idx.nat (le_big (by omega)) ?_
            | (refine Idx.int ?_ ?_ ?_; (focus omega); (focus omega))
            | (refine Idx.int ?_ ?_ ?_; (focus decide); (focus decide))
            | refine Ifz.zero ?_
            | (refine Ifz.pos ?_ ?_; (focus omega))
            | refine Get.mk _ rfl ?_
            | refine Leaves.of ?_
            | refine Ends.of ?_
            | refine Vw.bool ?_
            | refine Vw.int ?_
            | refine Vw.nil
            | refine Vw.sl
            | refine Vw.tup ?_
            | refine Vw.agg ?_
            | refine VwL.cons ?_ ?_
            | refine VwL.nil
            | refine LeavesF.of ?_
            | refine VwF.bool ?_
            | refine VwF.int ?_
            | refine VwF.nil
            | refine VwF.sl
            | refine VwF.tup ?_
            | refine VwF.agg ?_
            | refine VwLF.cons ?_ ?_
            | refine VwLF.nil
            | (refine Req.mk ?_ ?_; (focus first | rfl | decide | exact ⟨rfl, rfl⟩ | exact ⟨rfl, by decide⟩ | exact (fun _ => rfl) | exact (fun h => nomatch h) | (simp; done) | omega | (simp [big]; done) | exact le_big (by omega) | exact lt_big (by omega))))
        all_goals refine NextP.mk (x + 1) (by omega) (by omega) ?_
        all_goals rw [← hC2]
        all_goals rfl
    · obtain rfl : x = W := by omega
      repeat' (first
        | (conv => whnf)
          first
          | refine Br.t ?_
          | refine Br.f ?_
          | (refine Br.decT ?_ ?_; (focus first | assumption | omega))
          | (refine Br.decF ?_ ?_; (focus first | assumption | omega))
          | refine Br.dec (fun _ => ?_) (fun _ => ?_)
          | refine Br.not ?_
          | refine Br.and ?_
          | refine Br.or ?_
          | (refine Bnd.i64 ?_ ?_ ?_; (focus omega); (focus omega))
          | refine Bnd.eq hmul2 ?_
          | (refine Idx.nat ?_ ?_; (focus omega))
          | refine Idx.nat (le_big (by omega)) ?_
          | (refine Idx.int ?_ ?_ ?_; (focus omega); (focus omega))
          | (refine Idx.int ?_ ?_ ?_; (focus decide); (focus decide))
          | refine Ifz.zero ?_
          | (refine Ifz.pos ?_ ?_; (focus omega))
          | refine Get.mk _ rfl ?_
          | refine Leaves.of ?_
          | refine Ends.of ?_
          | refine Vw.bool ?_
          | refine Vw.int ?_
          | refine Vw.nil
          | refine Vw.sl
          | refine Vw.tup ?_
          | refine Vw.agg ?_
          | refine VwL.cons ?_ ?_
          | refine VwL.nil
          | refine LeavesF.of ?_
          | refine VwF.bool ?_
          | refine VwF.int ?_
          | refine VwF.nil
          | refine VwF.sl
          | refine VwF.tup ?_
          | refine VwF.agg ?_
          | refine VwLF.cons ?_ ?_
          | refine VwLF.nil
          | (refine Req.mk ?_ ?_; (focus first | rfl | decide | exact ⟨rfl, rfl⟩ | exact ⟨rfl, by decide⟩ | exact (fun _ => rfl) | exact (fun h => nomatch h) | (simp; done) | omega | (simp [big]; done) | exact le_big (by omega) | exact lt_big (by omega))))
      all_goals refine NextP.mk (y + 1) (by omega) (by omega) ?_
      all_goals rw [trL_row]
      all_goals rfl
  · obtain rfl : y = H := by omega
    repeat' (first
      | (conv => whnf)
        first
        | refine Br.t ?_
        | refine Br.f ?_
        | (refine Br.decT ?_ ?_; (focus first | assumption | omega))
        | (refine Br.decF ?_ ?_; (focus first | assumption | omega))
        | refine Br.dec (fun _ => ?_) (fun _ => ?_)
        | refine Br.not ?_
        | refine Br.and ?_
        | refine Br.or ?_
        | (refine Bnd.i64 ?_ ?_ ?_; (focus omega); (focus omega))
        | (refine Idx.nat ?_ ?_; (focus omega))
        | refine Idx.nat (le_big (by omega)) ?_
        | (refine Idx.int ?_ ?_ ?_; (focus omega); (focus omega))
        | (refine Idx.int ?_ ?_ ?_; (focus decide); (focus decide))
        | refine Ifz.zero ?_
        | (refine Ifz.pos ?_ ?_; (focus omega))
        | refine Get.mk _ rfl ?_
        | refine Leaves.of ?_
        | refine Ends.of ?_
        | refine Vw.bool ?_
        | refine Vw.int ?_
        | refine Vw.nil
        | refine Vw.sl
        | refine Vw.tup ?_
        | refine Vw.agg ?_
        | refine VwL.cons ?_ ?_
        | refine VwL.nil
        | refine LeavesF.of ?_
        | refine VwF.bool ?_
        | refine VwF.int ?_
        | refine VwF.nil
        | refine VwF.sl
        | refine VwF.tup ?_
        | refine VwF.agg ?_
        | refine VwLF.cons ?_ ?_
        | refine VwLF.nil
        | (refine Req.mk ?_ ?_; (focus first | rfl | decide | exact ⟨rfl, rfl⟩ | exact ⟨rfl, by decide⟩ | exact (fun _ => rfl) | exact (fun h => nomatch h) | (simp; done) | omega | (simp [big]; done) | exact le_big (by omega) | exact lt_big (by omega))))
    · refine VwF.sp rfl rfl (by rw [trL_length, Nat.mul_comm]) (by rw [trL_length]) (by rw [trL_length])
    all_goals rfl
theorem track_two {W H : Nat} {c c' : Bool} {l m : List UInt8} (h1 : 1 ≤ W) (h2 : W ≤ 48) (h3 : 1 ≤ H) (h4 : H ≤ 48) (hl : l.length = W * H) (hm : m.length = W * H) :
    Fun F md 17 [frV W H c l, frV W H c' m, .int .i64 2] (.tup [.sl (decide (H = H)) H (ofSp (trL 2 W H l m H 0)), .int .i64 0]) := (track_twoF h1 h2 h3 h4 hl hm).any

end Go.Dr.T
