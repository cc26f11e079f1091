/- Chapter 09: the law SoundLevel. -/
import Derived.Test.YtokbdaiamhibeaaR09Tm
import Derived.Test.YtokbdaiamhibeaaR09Gn
namespace Go.Dr.T

theorem row_between {kind : Int} (hk : kind = 1 ∨ kind = 2) {W H : Nat} {l m L z : List UInt8} (hm : m.length = W * H) (hz : ∀ i, pB z i = 0) (hL : ∀ i, i < m.length → pB m i = 0 → pB L i = pB l i) {y : Nat} (hy : y < H) : ∀ {x : Nat}, x ≤ W →
    (row kind W L z y x).1 = (row kind W L z y x).2 ∧ (row kind W l m y x).1 ≤ (row kind W L z y x).1 ∧ (row kind W L z y x).2 ≤ (row kind W l m y x).2
  | 0, _ => by simp [row]
  | x + 1, hx => by
    have ih := row_between hk hm hz hL hy (x := x) (by omega)
    have hp := place_lt (W := W) (H := H) (x := x) (y := y) (by omega) hy
    have hb := hL (y * W + x) (by omega)
    have hpl := pB_range l (y * W + x)
    have hpL := pB_range L (y * W + x)
    simp only [row, hz, loT, hiT, ne_eq, not_true_eq_false, if_false]
    by_cases hq : pB m (y * W + x) = 0
    · rw [hb hq]
      simp only [hq, not_true_eq_false, if_false]
      omega
    · simp only [hq, not_false_eq_true, if_true]
      have h0 : lvK kind 0 ≤ lvK kind (pB L (y * W + x)) ∧ lvK kind (pB L (y * W + x)) ≤ lvK kind 255 := by
        rcases hk with rfl | rfl <;> unfold lvK <;> simp only [show ¬ ((1 : Int) = 2) by decide, if_true, if_false] <;> (try split) <;> omega
      omega
theorem pB_zero (n i : Nat) : pB (List.replicate n 0) i = 0 := by
  unfold pB
  rw [List.getD_eq_getElem?_getD]
  by_cases h : i < n
  · simp [h]
  · rw [List.getElem?_eq_none (by simp; omega)]; rfl
theorem reps_u8 (n : Nat) : reps n [.int .u8 0] = ofBytes (List.replicate n 0) := by
  induction n with
  | zero => rfl
  | succ n ih => simp only [reps, List.replicate_succ, ofBytes, ih]; rfl
theorem put_u8 {l : List UInt8} {i : Nat} {v : UInt8} (h : i < l.length) : over (ofBytes l) (0 + i * 1) [.int .u8 v.toNat] = ofBytes (l.set i v) := by
  rw [Nat.zero_add, Nat.mul_one]
  induction l generalizing i with
  | nil => simp at h
  | cons x l ih => cases i with
    | zero => simp [ofBytes, over]
    | succ i => simp only [ofBytes, over, List.set_cons_succ]; rw [ih (by simpa using h)]
theorem views2 {h : List B} {id g n i2 g2 n2 : Nat} {dat d2 cl : Bool} {cs c2 : List V} {l m : List UInt8} {w k e : Int} (h1 : bget h id = some (.blk cs dat)) (e1 : cs = ofBytes l) (h2 : g = l.length) (h3 : n = l.length)
    (q1 : bget h i2 = some (.blk c2 d2)) (e2 : c2 = ofBytes m) (q2 : g2 = m.length) (q3 : n2 = m.length) :
    views h depth ([.agg [.int .i64 w, .int .i64 k, .ms 1 id g 0 n false], .agg [.int .i64 w, .int .i64 k, .ms 1 i2 g2 0 n2 cl], .int .i64 e] ++ []) = some [frV w k false l, frV w k cl m, .int .i64 e] := by
  subst h2 h3 q2 q3 e1 e2
  exact (VwL.cons (Vw.agg (VwL.cons (Vw.int rfl) (VwL.cons (Vw.int rfl) (VwL.cons (Vw.bytes h1 rfl rfl rfl rfl) VwL.nil)))) (VwL.cons (Vw.agg (VwL.cons (Vw.int rfl) (VwL.cons (Vw.int rfl) (VwL.cons (Vw.bytes q1 rfl rfl rfl rfl) VwL.nil)))) (VwL.cons (Vw.int rfl) VwL.nil)) : VwL h 64 _ _).1

set_option maxRecDepth 100000 in
set_option maxHeartbeats 20000000 in
theorem level_good {W H : Nat} {c c' cp : Bool} {l m p : List UInt8} (h1 : 1 ≤ W) (h2 : W ≤ 48) (h3 : 1 ≤ H) (h4 : H ≤ 48) (hl : l.length = W * H) (hm : m.length = W * H) :
    Fun F md 5 [frV W H c l, frV W H c' m, .sl cp p.length (ofBytes p)] (.bool true) := by
  have b1 := checkR_any W H c l
  have b2 := checkR_any W H c' m
  rw [check_ok h1 h2 h3 h4 hl] at b1
  rw [check_ok h1 h2 h3 h4 hm] at b2
  have hWH : W * H ≤ 2304 := Nat.mul_le_mul h2 h4
  have hWH1 : 1 ≤ W * H := Nat.mul_le_mul h1 h3
  have hlb : (ofBytes l).length = l.length := ofBytes_length l
  have hq1 : (ofBytes l).length = l.length * 1 := by rw [hlb, Nat.mul_one]
  have hq2 : (([] : List V).length + (ofBytes l).length) * (1 + 1) < big := by rw [hlb]; simp [big]; omega
  have hq3 : true = true → scalars (([] : List V) ++ ofBytes l) = true := fun _ => scalars_ofBytes l
  refine fun_of rfl rfl ?_
  repeat' (first
    | (conv => whnf)
      first
      | refine Br.t ?_
      | refine Br.f ?_
      | (refine Br.decT ?_ ?_; (focus first | assumption | omega))
      | (refine Br.decF ?_ ?_; (focus first | assumption | omega))
      | refine Br.dec (fun _ => ?_) (fun _ => ?_)
      | refine Br.not ?_
      | refine Br.and ?_
      | refine Br.or ?_
      | (refine Bnd.i64 ?_ ?_ ?_; (focus omega); (focus omega))
      | refine call_fun rfl rfl b1 (.inl rfl) ?_
      | refine call_fun rfl rfl b2 (.inl rfl) ?_
      | refine Req.mk hq1 ?_
      | refine Req.mk hq2 ?_
      | refine Req.mk hq3 ?_
      | (refine Idx.nat ?_ ?_; (focus omega))
      | refine Idx.nat (le_big (by omega)) ?_
      | (refine Idx.int ?_ ?_ ?_; (focus omega); (focus omega))
      | (refine Idx.int ?_ ?_ ?_; (focus decide); (focus decide))
      | refine Ifz.zero ?_
      | (refine Ifz.pos ?_ ?_; (focus omega))
      | refine Get.mk _ rfl ?_
      | refine Leaves.of ?_
      | refine Ends.of ?_
      | refine Vw.bool ?_
      | refine Vw.int ?_
      | refine Vw.nil
      | refine Vw.sl
      | refine Vw.tup ?_
      | refine Vw.agg ?_
      | refine VwL.cons ?_ ?_
      | refine VwL.nil
      | refine LeavesF.of ?_
      | refine VwF.bool ?_
      | refine VwF.int ?_
      | refine VwF.nil
      | refine VwF.sl
      | refine VwF.tup ?_
      | refine VwF.agg ?_
      | refine VwLF.cons ?_ ?_
      | refine VwLF.nil
      | (refine Req.mk ?_ ?_; (focus first | rfl | decide | exact ⟨rfl, rfl⟩ | exact ⟨rfl, by decide⟩ | exact (fun _ => rfl) | exact (fun h => nomatch h) | (simp; done) | omega | (simp [big]; done) | exact le_big (by omega) | exact lt_big (by omega))))
  all_goals try (exfalso; omega)
  refine LoopP.by (fun a : Nat × List UInt8 => a.1 ≤ l.length ∧ a.2.length = l.length ∧ ∀ i, i < m.length → pB m i = 0 → pB a.2 i = pB l i) (fun a => [(8, .int .i64 (a.1 : Nat))]) (fun a => [.blk [.int .i64 W, .int .i64 H, .sl c l.length (ofBytes l)] false, .blk [.int .i64 W, .int .i64 H, .sl c' m.length (ofBytes m)] false, .blk (ofBytes a.2) true, .blk [.int .i64 W, .int .i64 H, .ms 1 2 (([] : List V).length + (ofBytes l).length) 0 (0 + l.length) false] false]) (fun a => l.length - a.1) (0, l) ⟨Nat.zero_le _, rfl, fun _ _ _ => rfl⟩ rfl ?_
  rintro ⟨i, L⟩ ⟨hi, hLl, hL⟩
  dsimp only at hi hLl hL ⊢
  have hLb : (ofBytes L).length = L.length := ofBytes_length L
  have hgl : (ofBytes L).length = ([] : List V).length + (ofBytes l).length := by rw [hLb, hlb, hLl]; simp
  have hgL : ([] : List V).length + (ofBytes l).length = L.length := by rw [hlb, hLl]; simp
  by_cases hin : i < l.length
  · have hcm := pB_cell (l := m) (i := i) (by omega)
    have hpm := pB_range m i
    by_cases hq : pB m i = 0
    · rw [hq] at hcm
      repeat' (first
        | (conv => whnf)
          first
          | refine Br.t ?_
          | refine Br.f ?_
          | (refine Br.decT ?_ ?_; (focus first | assumption | omega))
          | (refine Br.decF ?_ ?_; (focus first | assumption | omega))
          | refine Br.dec (fun _ => ?_) (fun _ => ?_)
          | refine Br.not ?_
          | refine Br.and ?_
          | refine Br.or ?_
          | (refine Bnd.i64 ?_ ?_ ?_; (focus omega); (focus omega))
          | refine Get.mk _ hcm ?_
          | (refine Idx.nat ?_ ?_; (focus omega))
          | refine Idx.nat (le_big (by omega)) ?_
          | (refine Idx.int ?_ ?_ ?_; (focus omega); (focus omega))
          | (refine Idx.int ?_ ?_ ?_; (focus decide); (focus decide))
          | refine Ifz.zero ?_
          | (refine Ifz.pos ?_ ?_; (focus omega))
          | refine Get.mk _ rfl ?_
          | refine Leaves.of ?_
          | refine Ends.of ?_
          | refine Vw.bool ?_
          | refine Vw.int ?_
          | refine Vw.nil
          | refine Vw.sl
          | refine Vw.tup ?_
          | refine Vw.agg ?_
          | refine VwL.cons ?_ ?_
          | refine VwL.nil
          | refine LeavesF.of ?_
          | refine VwF.bool ?_
          | refine VwF.int ?_
          | refine VwF.nil
          | refine VwF.sl
          | refine VwF.tup ?_
          | refine VwF.agg ?_
          | refine VwLF.cons ?_ ?_
          | refine VwLF.nil
          | (refine Req.mk ?_ ?_; (focus first | rfl | decide | exact ⟨rfl, rfl⟩ | exact ⟨rfl, by decide⟩ | exact (fun _ => rfl) | exact (fun h => nomatch h) | (simp; done) | omega | (simp [big]; done) | exact le_big (by omega) | exact lt_big (by omega))))
      all_goals first | exact NextP.mk (i + 1, L) ⟨hin, hLl, hL⟩ (by simp only; omega) rfl | (exfalso; omega)
    · by_cases hp0 : p.length = 0
      · generalize pB m i = q at *
        repeat' (first
          | (conv => whnf)
            first
            | refine Br.t ?_
            | refine Br.f ?_
            | (refine Br.decT ?_ ?_; (focus first | assumption | omega))
            | (refine Br.decF ?_ ?_; (focus first | assumption | omega))
            | refine Br.dec (fun _ => ?_) (fun _ => ?_)
            | refine Br.not ?_
            | refine Br.and ?_
            | refine Br.or ?_
            | (refine Bnd.i64 ?_ ?_ ?_; (focus omega); (focus omega))
            | refine Get.mk _ hcm ?_
            | (refine Idx.nat ?_ ?_; (focus omega))
            | refine Idx.nat (le_big (by omega)) ?_
            | (refine Idx.int ?_ ?_ ?_; (focus omega); (focus omega))
            | (refine Idx.int ?_ ?_ ?_; (focus decide); (focus decide))
            | refine Ifz.zero ?_
            | (refine Ifz.pos ?_ ?_; (focus omega))
            | refine Get.mk _ rfl ?_
            | refine Leaves.of ?_
            | refine Ends.of ?_
            | refine Vw.bool ?_
            | refine Vw.int ?_
            | refine Vw.nil
            | refine Vw.sl
            | refine Vw.tup ?_
            | refine Vw.agg ?_
            | refine VwL.cons ?_ ?_
            | refine VwL.nil
            | refine LeavesF.of ?_
            | refine VwF.bool ?_
            | refine VwF.int ?_
            | refine VwF.nil
            | refine VwF.sl
            | refine VwF.tup ?_
            | refine VwF.agg ?_
            | refine VwLF.cons ?_ ?_
            | refine VwLF.nil
            | (refine Req.mk ?_ ?_; (focus first | rfl | decide | exact ⟨rfl, rfl⟩ | exact ⟨rfl, by decide⟩ | exact (fun _ => rfl) | exact (fun h => nomatch h) | (simp; done) | omega | (simp [big]; done) | exact le_big (by omega) | exact lt_big (by omega))))
        all_goals first | exact NextP.mk (i + 1, L) ⟨hin, hLl, hL⟩ (by simp only; omega) rfl | (exfalso; omega)
      · have hR : (i : Int).tmod (p.length : Int) = ((i % p.length : Nat) : Int) := Int.ofNat_tmod i p.length
        have hRl : i % p.length < p.length := Nat.mod_lt _ (by omega)
        have hcp := pB_cell hRl
        have hpt := put_u8 (l := L) (i := i) (v := p.getD (i % p.length) 0) (by omega)
        rw [show (V.int .u8 ((p.getD (i % p.length) 0).toNat : Int)) = V.int .u8 (pB p (i % p.length)) from rfl] at hpt
        have hL2 : ∀ j, j < m.length → pB m j = 0 → pB (L.set i (p.getD (i % p.length) 0)) j = pB l j := by
          intro j hj hmj
          rw [← hL j hj hmj]
          simp only [pB, List.getD_eq_getElem?_getD]
          rw [List.getElem?_set_ne (by rintro rfl; exact hq hmj)]
        have hLl2 : (L.set i (p.getD (i % p.length) 0)).length = l.length := by rw [List.length_set, hLl]
        have hsp := pB_range p (i % p.length)
        generalize L.set i (p.getD (i % p.length) 0) = L2 at *
        generalize pB p (i % p.length) = v at *
        generalize pB m i = q at *
        generalize i % p.length = r at *
        generalize hC : ofBytes L2 = C2 at *
        repeat' (first
          | (conv => whnf)
            first
            | refine Bnd.eq hR ?_
            | refine Br.t ?_
            | refine Br.f ?_
            | (refine Br.decT ?_ ?_; (focus first | assumption | omega))
            | (refine Br.decF ?_ ?_; (focus first | assumption | omega))
            | refine Br.dec (fun _ => ?_) (fun _ => ?_)
            | refine Br.not ?_
            | refine Br.and ?_
            | refine Br.or ?_
            | (refine Bnd.i64 ?_ ?_ ?_; (focus omega); (focus omega))
            | refine Get.mk _ hcm ?_
            | refine Get.mk _ hcp ?_
            | refine fVe hpt ?_
            | refine Req.mk (show (_ : Int) ≠ 0 by omega) ?_
            | refine Req.mk ⟨hgl, by omega⟩ ?_
            | (refine Idx.nat ?_ ?_; (focus omega))
            | refine Idx.nat (le_big (by omega)) ?_
            | (refine Idx.int ?_ ?_ ?_; (focus omega); (focus omega))
            | (refine Idx.int ?_ ?_ ?_; (focus decide); (focus decide))
            | refine Ifz.zero ?_
            | (refine Ifz.pos ?_ ?_; (focus omega))
            | refine Get.mk _ rfl ?_
            | refine Leaves.of ?_
            | refine Ends.of ?_
            | refine Vw.bool ?_
            | refine Vw.int ?_
            | refine Vw.nil
            | refine Vw.sl
            | refine Vw.tup ?_
            | refine Vw.agg ?_
            | refine VwL.cons ?_ ?_
            | refine VwL.nil
            | refine LeavesF.of ?_
            | refine VwF.bool ?_
            | refine VwF.int ?_
            | refine VwF.nil
            | refine VwF.sl
            | refine VwF.tup ?_
            | refine VwF.agg ?_
            | refine VwLF.cons ?_ ?_
            | refine VwLF.nil
            | (refine Req.mk ?_ ?_; (focus first | rfl | decide | exact ⟨rfl, rfl⟩ | exact ⟨rfl, by decide⟩ | exact (fun _ => rfl) | exact (fun h => nomatch h) | (simp; done) | omega | (simp [big]; done) | exact le_big (by omega) | exact lt_big (by omega))))
        all_goals first | exact NextP.mk (i + 1, L2) ⟨hin, hLl2, hL2⟩ (by simp only; omega) (by dsimp only; rw [hC]; rfl) | (exfalso; omega)
  · obtain rfl : i = l.length := by omega
    repeat' (first
      | (conv => whnf)
        first
        | refine Br.t ?_
        | refine Br.f ?_
        | (refine Br.decT ?_ ?_; (focus first | assumption | omega))
        | (refine Br.decF ?_ ?_; (focus first | assumption | omega))
        | refine Br.dec (fun _ => ?_) (fun _ => ?_)
        | refine Br.not ?_
        | refine Br.and ?_
        | refine Br.or ?_
        | (refine Bnd.i64 ?_ ?_ ?_; (focus omega); (focus omega))
        | (refine Idx.nat ?_ ?_; (focus omega))
        | refine Idx.nat (le_big (by omega)) ?_
        | (refine Idx.int ?_ ?_ ?_; (focus omega); (focus omega))
        | (refine Idx.int ?_ ?_ ?_; (focus decide); (focus decide))
        | refine Ifz.zero ?_
        | (refine Ifz.pos ?_ ?_; (focus omega))
        | refine Get.mk _ rfl ?_
        | refine Leaves.of ?_
        | refine Ends.of ?_
        | refine Vw.bool ?_
        | refine Vw.int ?_
        | refine Vw.nil
        | refine Vw.sl
        | refine Vw.tup ?_
        | refine Vw.agg ?_
        | refine VwL.cons ?_ ?_
        | refine VwL.nil
        | refine LeavesF.of ?_
        | refine VwF.bool ?_
        | refine VwF.int ?_
        | refine VwF.nil
        | refine VwF.sl
        | refine VwF.tup ?_
        | refine VwF.agg ?_
        | refine VwLF.cons ?_ ?_
        | refine VwLF.nil
        | (refine Req.mk ?_ ?_; (focus first | rfl | decide | exact ⟨rfl, rfl⟩ | exact ⟨rfl, by decide⟩ | exact (fun _ => rfl) | exact (fun h => nomatch h) | (simp; done) | omega | (simp [big]; done) | exact le_big (by omega) | exact lt_big (by omega))))
    all_goals try (exfalso; omega)
    refine LoopP.by (fun k : Nat => 1 ≤ k ∧ k ≤ 3) (fun k => [(9, .int .i64 (k : Nat))]) (fun _ => [.blk [.int .i64 W, .int .i64 H, .sl c l.length (ofBytes l)] false, .blk [.int .i64 W, .int .i64 H, .sl c' m.length (ofBytes m)] false, .blk (ofBytes L) true, .blk [.int .i64 W, .int .i64 H, .ms 1 2 (([] : List V).length + (ofBytes l).length) 0 (0 + l.length) false] false]) (fun k => 3 - k) 1 (by omega) rfl ?_
    intro k hk
    have hvw := fun (h : List B) (hb : bget h 2 = some (.blk (ofBytes L) true)) (hb4 : bget h 4 = some (.blk (reps l.length [.int .u8 0]) true)) (e : Int) => views2 (h := h) (id := 2) (g := ([] : List V).length + (ofBytes l).length) (n := 0 + l.length) (i2 := 4) (g2 := l.length * 1) (n2 := l.length) (cl := decide (l.length = l.length)) (w := W) (k := H) (e := e) hb rfl hgL (by omega) hb4 (reps_u8 l.length) (by simp) (by simp)
    obtain rfl | rfl | rfl : k = 1 ∨ k = 2 ∨ k = 3 := by omega
    · have hA := track_one (c := c) (c' := c') h1 h2 h3 h4 hl hm
      have hB := track_oneF (c := false) (c' := decide (l.length = l.length)) (l := L) (m := List.replicate l.length 0) h1 h2 h3 h4 (by omega) (by simp; omega)
      repeat' (first
        | (conv => whnf)
          first
          | refine Br.t ?_
          | refine Br.f ?_
          | (refine Br.decT ?_ ?_; (focus first | assumption | omega))
          | (refine Br.decF ?_ ?_; (focus first | assumption | omega))
          | refine Br.dec (fun _ => ?_) (fun _ => ?_)
          | refine Br.not ?_
          | refine Br.and ?_
          | refine Br.or ?_
          | (refine Bnd.i64 ?_ ?_ ?_; (focus omega); (focus omega))
          | refine call_fun rfl rfl hA (.inl rfl) ?_
          | refine call_fresh rfl (hvw _ rfl rfl _) hB ?_
          | refine Req.mk hgl ?_
          | (refine Idx.nat ?_ ?_; (focus omega))
          | refine Idx.nat (le_big (by omega)) ?_
          | (refine Idx.int ?_ ?_ ?_; (focus omega); (focus omega))
          | (refine Idx.int ?_ ?_ ?_; (focus decide); (focus decide))
          | refine Ifz.zero ?_
          | (refine Ifz.pos ?_ ?_; (focus omega))
          | refine Get.mk _ rfl ?_
          | refine Leaves.of ?_
          | refine Ends.of ?_
          | refine Vw.bool ?_
          | refine Vw.int ?_
          | refine Vw.nil
          | refine Vw.sl
          | refine Vw.tup ?_
          | refine Vw.agg ?_
          | refine VwL.cons ?_ ?_
          | refine VwL.nil
          | refine LeavesF.of ?_
          | refine VwF.bool ?_
          | refine VwF.int ?_
          | refine VwF.nil
          | refine VwF.sl
          | refine VwF.tup ?_
          | refine VwF.agg ?_
          | refine VwLF.cons ?_ ?_
          | refine VwLF.nil
          | (refine Req.mk ?_ ?_; (focus first | rfl | decide | exact ⟨rfl, rfl⟩ | exact ⟨rfl, by decide⟩ | exact (fun _ => rfl) | exact (fun h => nomatch h) | (simp; done) | omega | (simp [big]; done) | exact le_big (by omega) | exact lt_big (by omega))))
      all_goals try (exfalso; omega)
      refine LoopP.by (fun y : Nat => y ≤ H) (fun y => [(14, .int .i64 (y : Nat))]) (fun _ => [.blk [.int .i64 W, .int .i64 H, .sl c l.length (ofBytes l)] false, .blk [.int .i64 W, .int .i64 H, .sl c' m.length (ofBytes m)] false, .blk (ofBytes L) true, .blk [.int .i64 W, .int .i64 H, .ms 1 2 (([] : List V).length + (ofBytes l).length) 0 (0 + l.length) false] false, .blk (reps l.length [.int .u8 0]) true]) (fun y => H - y) 0 (Nat.zero_le _) rfl ?_
      intro y hy
      by_cases hyH : y < H
      · have hbt := row_between (kind := 1) (l := l) (m := m) (L := L) (z := List.replicate l.length 0) (by omega) hm (pB_zero _) hL hyH (x := W) (Nat.le_refl _)
        have hl1 := trL_length (kind := 1) (W := W) (H := H) (l := l) (m := m) H 0
        have hl2 := trL_length (kind := 1) (W := W) (H := H) (l := L) (m := List.replicate l.length 0) H 0
        have g1 : (trL 1 W H l m H 0)[y]'(by rw [hl1]; exact hyH) = row 1 W l m y W := by simp [trL, hyH]
        have g2 : (trL 1 W H L (List.replicate l.length 0) H 0)[y]'(by rw [hl2]; exact hyH) = row 1 W L (List.replicate l.length 0) y W := by simp [trL, hyH]
        have c1 := ofSp_cell0 (l := trL 1 W H l m H 0) (i := y) (by rw [hl1]; exact hyH)
        have c2 := ofSp_cell1 (l := trL 1 W H l m H 0) (i := y) (by rw [hl1]; exact hyH)
        have c3 := ofSp_cell0 (l := trL 1 W H L (List.replicate l.length 0) H 0) (i := y) (by rw [hl2]; exact hyH)
        have c4 := ofSp_cell1 (l := trL 1 W H L (List.replicate l.length 0) H 0) (i := y) (by rw [hl2]; exact hyH)
        rw [g1] at c1 c2
        rw [g2] at c3 c4
        generalize row 1 W l m y W = r at *
        generalize row 1 W L (List.replicate l.length 0) y W = r' at *
        generalize ofSp (trL 1 W H l m H 0) = C at *
        generalize ofSp (trL 1 W H L (List.replicate l.length 0) H 0) = C' at *
        obtain ⟨r1, r2⟩ := r
        obtain ⟨r3, r4⟩ := r'
        simp only at hbt c1 c2 c3 c4
        repeat' (first
          | (conv => whnf)
            first
            | refine Br.t ?_
            | refine Br.f ?_
            | (refine Br.decT ?_ ?_; (focus first | assumption | omega))
            | (refine Br.decF ?_ ?_; (focus first | assumption | omega))
            | refine Br.dec (fun _ => ?_) (fun _ => ?_)
            | refine Br.not ?_
            | refine Br.and ?_
            | refine Br.or ?_
            | (refine Bnd.i64 ?_ ?_ ?_; (focus omega); (focus omega))
            | refine Get.mk _ c1 ?_
            | refine Get.mk _ c2 ?_
            | refine Get.mk _ c3 ?_
            | refine Get.mk _ c4 ?_
            | (refine Idx.nat ?_ ?_; (focus omega))
            | refine Idx.nat (le_big (by omega)) ?_
            | (refine Idx.int ?_ ?_ ?_; (focus omega); (focus omega))
            | (refine Idx.int ?_ ?_ ?_; (focus decide); (focus decide))
            | refine Ifz.zero ?_
            | (refine Ifz.pos ?_ ?_; (focus omega))
            | refine Get.mk _ rfl ?_
            | refine Leaves.of ?_
            | refine Ends.of ?_
            | refine Vw.bool ?_
            | refine Vw.int ?_
            | refine Vw.nil
            | refine Vw.sl
            | refine Vw.tup ?_
            | refine Vw.agg ?_
            | refine VwL.cons ?_ ?_
            | refine VwL.nil
            | refine LeavesF.of ?_
            | refine VwF.bool ?_
            | refine VwF.int ?_
            | refine VwF.nil
            | refine VwF.sl
            | refine VwF.tup ?_
            | refine VwF.agg ?_
            | refine VwLF.cons ?_ ?_
            | refine VwLF.nil
            | (refine Req.mk ?_ ?_; (focus first | rfl | decide | exact ⟨rfl, rfl⟩ | exact ⟨rfl, by decide⟩ | exact (fun _ => rfl) | exact (fun h => nomatch h) | (simp; done) | omega | (simp [big]; done) | exact le_big (by omega) | exact lt_big (by omega))))
        all_goals first | exact NextP.mk (y + 1) (by omega) (by omega) rfl | (exfalso; omega)
      · obtain rfl : y = H := by omega
        repeat' (first
          | (conv => whnf)
            first
            | refine Br.t ?_
            | refine Br.f ?_
            | (refine Br.decT ?_ ?_; (focus first | assumption | omega))
            | (refine Br.decF ?_ ?_; (focus first | assumption | omega))
            | refine Br.dec (fun _ => ?_) (fun _ => ?_)
            | refine Br.not ?_
            | refine Br.and ?_
            | refine Br.or ?_
            | (refine Bnd.i64 ?_ ?_ ?_; (focus omega); (focus omega))
            | (refine Idx.nat ?_ ?_; (focus omega))
            | refine Idx.nat (le_big (by omega)) ?_
            | (refine Idx.int ?_ ?_ ?_; (focus omega); (focus omega))
            | (refine Idx.int ?_ ?_ ?_; (focus decide); (focus decide))
            | refine Ifz.zero ?_
            | (refine Ifz.pos ?_ ?_; (focus omega))
            | refine Get.mk _ rfl ?_
            | refine Leaves.of ?_
            | refine Ends.of ?_
            | refine Vw.bool ?_
            | refine Vw.int ?_
            | refine Vw.nil
            | refine Vw.sl
            | refine Vw.tup ?_
            | refine Vw.agg ?_
            | refine VwL.cons ?_ ?_
            | refine VwL.nil
            | refine LeavesF.of ?_
            | refine VwF.bool ?_
            | refine VwF.int ?_
            | refine VwF.nil
            | refine VwF.sl
            | refine VwF.tup ?_
            | refine VwF.agg ?_
            | refine VwLF.cons ?_ ?_
            | refine VwLF.nil
            | (refine Req.mk ?_ ?_; (focus first | rfl | decide | exact ⟨rfl, rfl⟩ | exact ⟨rfl, by decide⟩ | exact (fun _ => rfl) | exact (fun h => nomatch h) | (simp; done) | omega | (simp [big]; done) | exact le_big (by omega) | exact lt_big (by omega))))
        all_goals first | exact NextP.mk 2 (by omega) (by omega) rfl | (exfalso; omega)
    · have hA := track_two (c := c) (c' := c') h1 h2 h3 h4 hl hm
      have hB := track_twoF (c := false) (c' := decide (l.length = l.length)) (l := L) (m := List.replicate l.length 0) h1 h2 h3 h4 (by omega) (by simp; omega)
      repeat' (first
        | (conv => whnf)
          first
          | refine Br.t ?_
          | refine Br.f ?_
          | (refine Br.decT ?_ ?_; (focus first | assumption | omega))
          | (refine Br.decF ?_ ?_; (focus first | assumption | omega))
          | refine Br.dec (fun _ => ?_) (fun _ => ?_)
          | refine Br.not ?_
          | refine Br.and ?_
          | refine Br.or ?_
          | (refine Bnd.i64 ?_ ?_ ?_; (focus omega); (focus omega))
          | refine call_fun rfl rfl hA (.inl rfl) ?_
          | refine call_fresh rfl (hvw _ rfl rfl _) hB ?_
          | refine Req.mk hgl ?_
          | (refine Idx.nat ?_ ?_; (focus omega))
          | refine Idx.nat (le_big (by omega)) ?_
          | (refine Idx.int ?_ ?_ ?_; (focus omega); (focus omega))
          | (refine Idx.int ?_ ?_ ?_; (focus decide); (focus decide))
          | refine Ifz.zero ?_
          | (refine Ifz.pos ?_ ?_; (focus omega))
          | refine Get.mk _ rfl ?_
          | refine Leaves.of ?_
          | refine Ends.of ?_
          | refine Vw.bool ?_
          | refine Vw.int ?_
          | refine Vw.nil
          | refine Vw.sl
          | refine Vw.tup ?_
          | refine Vw.agg ?_
          | refine VwL.cons ?_ ?_
          | refine VwL.nil
          | refine LeavesF.of ?_
          | refine VwF.bool ?_
          | refine VwF.int ?_
          | refine VwF.nil
          | refine VwF.sl
          | refine VwF.tup ?_
          | refine VwF.agg ?_
          | refine VwLF.cons ?_ ?_
          | refine VwLF.nil
          | (refine Req.mk ?_ ?_; (focus first | rfl | decide | exact ⟨rfl, rfl⟩ | exact ⟨rfl, by decide⟩ | exact (fun _ => rfl) | exact (fun h => nomatch h) | (simp; done) | omega | (simp [big]; done) | exact le_big (by omega) | exact lt_big (by omega))))
      all_goals try (exfalso; omega)
      refine LoopP.by (fun y : Nat => y ≤ H) (fun y => [(14, .int .i64 (y : Nat))]) (fun _ => [.blk [.int .i64 W, .int .i64 H, .sl c l.length (ofBytes l)] false, .blk [.int .i64 W, .int .i64 H, .sl c' m.length (ofBytes m)] false, .blk (ofBytes L) true, .blk [.int .i64 W, .int .i64 H, .ms 1 2 (([] : List V).length + (ofBytes l).length) 0 (0 + l.length) false] false, .blk (reps l.length [.int .u8 0]) true]) (fun y => H - y) 0 (Nat.zero_le _) rfl ?_
      intro y hy
      by_cases hyH : y < H
      · have hbt := row_between (kind := 2) (l := l) (m := m) (L := L) (z := List.replicate l.length 0) (by omega) hm (pB_zero _) hL hyH (x := W) (Nat.le_refl _)
        have hl1 := trL_length (kind := 2) (W := W) (H := H) (l := l) (m := m) H 0
        have hl2 := trL_length (kind := 2) (W := W) (H := H) (l := L) (m := List.replicate l.length 0) H 0
        have g1 : (trL 2 W H l m H 0)[y]'(by rw [hl1]; exact hyH) = row 2 W l m y W := by simp [trL, hyH]
        have g2 : (trL 2 W H L (List.replicate l.length 0) H 0)[y]'(by rw [hl2]; exact hyH) = row 2 W L (List.replicate l.length 0) y W := by simp [trL, hyH]
        have c1 := ofSp_cell0 (l := trL 2 W H l m H 0) (i := y) (by rw [hl1]; exact hyH)
        have c2 := ofSp_cell1 (l := trL 2 W H l m H 0) (i := y) (by rw [hl1]; exact hyH)
        have c3 := ofSp_cell0 (l := trL 2 W H L (List.replicate l.length 0) H 0) (i := y) (by rw [hl2]; exact hyH)
        have c4 := ofSp_cell1 (l := trL 2 W H L (List.replicate l.length 0) H 0) (i := y) (by rw [hl2]; exact hyH)
        rw [g1] at c1 c2
        rw [g2] at c3 c4
        generalize row 2 W l m y W = r at *
        generalize row 2 W L (List.replicate l.length 0) y W = r' at *
        generalize ofSp (trL 2 W H l m H 0) = C at *
        generalize ofSp (trL 2 W H L (List.replicate l.length 0) H 0) = C' at *
        obtain ⟨r1, r2⟩ := r
        obtain ⟨r3, r4⟩ := r'
        simp only at hbt c1 c2 c3 c4
        repeat' (first
          | (conv => whnf)
            first
            | refine Br.t ?_
            | refine Br.f ?_
            | (refine Br.decT ?_ ?_; (focus first | assumption | omega))
            | (refine Br.decF ?_ ?_; (focus first | assumption | omega))
            | refine Br.dec (fun _ => ?_) (fun _ => ?_)
            | refine Br.not ?_
            | refine Br.and ?_
            | refine Br.or ?_
            | (refine Bnd.i64 ?_ ?_ ?_; (focus omega); (focus omega))
            | refine Get.mk _ c1 ?_
            | refine Get.mk _ c2 ?_
            | refine Get.mk _ c3 ?_
            | refine Get.mk _ c4 ?_
            | (refine Idx.nat ?_ ?_; (focus omega))
            | refine Idx.nat (le_big (by omega)) ?_
            | (refine Idx.int ?_ ?_ ?_; (focus omega); (focus omega))
            | (refine Idx.int ?_ ?_ ?_; (focus decide); (focus decide))
            | refine Ifz.zero ?_
            | (refine Ifz.pos ?_ ?_; (focus omega))
            | refine Get.mk _ rfl ?_
            | refine Leaves.of ?_
            | refine Ends.of ?_
            | refine Vw.bool ?_
            | refine Vw.int ?_
            | refine Vw.nil
            | refine Vw.sl
            | refine Vw.tup ?_
            | refine Vw.agg ?_
            | refine VwL.cons ?_ ?_
            | refine VwL.nil
            | refine LeavesF.of ?_
            | refine VwF.bool ?_
            | refine VwF.int ?_
            | refine VwF.nil
            | refine VwF.sl
            | refine VwF.tup ?_
            | refine VwF.agg ?_
            | refine VwLF.cons ?_ ?_
            | refine VwLF.nil
            | (refine Req.mk ?_ ?_; (focus first | rfl | decide | exact ⟨rfl, rfl⟩ | exact ⟨rfl, by decide⟩ | exact (fun _ => rfl) | exact (fun h => nomatch h) | (simp; done) | omega | (simp [big]; done) | exact le_big (by omega) | exact lt_big (by omega))))
        all_goals first | exact NextP.mk (y + 1) (by omega) (by omega) rfl | (exfalso; omega)
      · obtain rfl : y = H := by omega
        repeat' (first
          | (conv => whnf)
            first
            | refine Br.t ?_
            | refine Br.f ?_
            | (refine Br.decT ?_ ?_; (focus first | assumption | omega))
            | (refine Br.decF ?_ ?_; (focus first | assumption | omega))
            | refine Br.dec (fun _ => ?_) (fun _ => ?_)
            | refine Br.not ?_
            | refine Br.and ?_
            | refine Br.or ?_
            | (refine Bnd.i64 ?_ ?_ ?_; (focus omega); (focus omega))
            | (refine Idx.nat ?_ ?_; (focus omega))
            | refine Idx.nat (le_big (by omega)) ?_
            | (refine Idx.int ?_ ?_ ?_; (focus omega); (focus omega))
            | (refine Idx.int ?_ ?_ ?_; (focus decide); (focus decide))
            | refine Ifz.zero ?_
            | (refine Ifz.pos ?_ ?_; (focus omega))
            | refine Get.mk _ rfl ?_
            | refine Leaves.of ?_
            | refine Ends.of ?_
            | refine Vw.bool ?_
            | refine Vw.int ?_
            | refine Vw.nil
            | refine Vw.sl
            | refine Vw.tup ?_
            | refine Vw.agg ?_
            | refine VwL.cons ?_ ?_
            | refine VwL.nil
            | refine LeavesF.of ?_
            | refine VwF.bool ?_
            | refine VwF.int ?_
            | refine VwF.nil
            | refine VwF.sl
            | refine VwF.tup ?_
            | refine VwF.agg ?_
            | refine VwLF.cons ?_ ?_
            | refine VwLF.nil
            | (refine Req.mk ?_ ?_; (focus first | rfl | decide | exact ⟨rfl, rfl⟩ | exact ⟨rfl, by decide⟩ | exact (fun _ => rfl) | exact (fun h => nomatch h) | (simp; done) | omega | (simp [big]; done) | exact le_big (by omega) | exact lt_big (by omega))))
        all_goals first | exact NextP.mk 3 (by omega) (by omega) rfl | (exfalso; omega)
    · repeat' (first
        | (conv => whnf)
          first
          | refine Br.t ?_
          | refine Br.f ?_
          | (refine Br.decT ?_ ?_; (focus first | assumption | omega))
          | (refine Br.decF ?_ ?_; (focus first | assumption | omega))
          | refine Br.dec (fun _ => ?_) (fun _ => ?_)
          | refine Br.not ?_
          | refine Br.and ?_
          | refine Br.or ?_
          | (refine Bnd.i64 ?_ ?_ ?_; (focus omega); (focus omega))
          | refine call_fun rfl rfl awake (.inl rfl) ?_
          | (refine Idx.nat ?_ ?_; (focus omega))
          | refine Idx.nat (le_big (by omega)) ?_
          | (refine Idx.int ?_ ?_ ?_; (focus omega); (focus omega))
          | (refine Idx.int ?_ ?_ ?_; (focus decide); (focus decide))
          | refine Ifz.zero ?_
          | (refine Ifz.pos ?_ ?_; (focus omega))
          | refine Get.mk _ rfl ?_
          | refine Leaves.of ?_
          | refine Ends.of ?_
          | refine Vw.bool ?_
          | refine Vw.int ?_
          | refine Vw.nil
          | refine Vw.sl
          | refine Vw.tup ?_
          | refine Vw.agg ?_
          | refine VwL.cons ?_ ?_
          | refine VwL.nil
          | refine LeavesF.of ?_
          | refine VwF.bool ?_
          | refine VwF.int ?_
          | refine VwF.nil
          | refine VwF.sl
          | refine VwF.tup ?_
          | refine VwF.agg ?_
          | refine VwLF.cons ?_ ?_
          | refine VwLF.nil
          | (refine Req.mk ?_ ?_; (focus first | rfl | decide | exact ⟨rfl, rfl⟩ | exact ⟨rfl, by decide⟩ | exact (fun _ => rfl) | exact (fun h => nomatch h) | (simp; done) | omega | (simp [big]; done) | exact le_big (by omega) | exact lt_big (by omega))))
      all_goals first | rfl | (exfalso; omega)

set_option maxRecDepth 100000 in
set_option maxHeartbeats 20000000 in
theorem level_bad {w h w' h' : Int} {c c' cp : Bool} {l m p : List UInt8} (hb : checkL w h l.length ≠ 0 ∨ checkL w' h' m.length ≠ 0 ∨ w ≠ w' ∨ h ≠ h') :
    Fun F md 5 [frV w h c l, frV w' h' c' m, .sl cp p.length (ofBytes p)] (.bool true) := by
  have b1 := checkR_any w h c l
  have b2 := checkR_any w' h' c' m
  generalize checkL w h l.length = k1 at *
  generalize checkL w' h' m.length = k2 at *
  have hb' : k1 ≠ 0 ∨ (k1 = 0 ∧ k2 ≠ 0) ∨ (k1 = 0 ∧ k2 = 0 ∧ w ≠ w') ∨ (k1 = 0 ∧ k2 = 0 ∧ w = w' ∧ h ≠ h') := by omega
  rcases hb' with e1 | ⟨rfl, e2⟩ | ⟨rfl, rfl, e3⟩ | ⟨rfl, rfl, rfl, e4⟩
  · refine fun_of rfl rfl ?_
    repeat' (first
      | (conv => whnf)
        first
        | refine Br.t ?_
        | refine Br.f ?_
        | (refine Br.decT ?_ ?_; (focus first | assumption | omega))
        | (refine Br.decF ?_ ?_; (focus first | assumption | omega))
        | refine Br.dec (fun _ => ?_) (fun _ => ?_)
        | refine Br.not ?_
        | refine Br.and ?_
        | refine Br.or ?_
        | (refine Bnd.i64 ?_ ?_ ?_; (focus omega); (focus omega))
        | refine call_fun rfl rfl b1 (.inl rfl) ?_
        | refine call_fun rfl rfl b2 (.inl rfl) ?_
        | refine call_fun rfl rfl awake (.inl rfl) ?_
        | (refine Idx.nat ?_ ?_; (focus omega))
        | refine Idx.nat (le_big (by omega)) ?_
        | (refine Idx.int ?_ ?_ ?_; (focus omega); (focus omega))
        | (refine Idx.int ?_ ?_ ?_; (focus decide); (focus decide))
        | refine Ifz.zero ?_
        | (refine Ifz.pos ?_ ?_; (focus omega))
        | refine Get.mk _ rfl ?_
        | refine Leaves.of ?_
        | refine Ends.of ?_
        | refine Vw.bool ?_
        | refine Vw.int ?_
        | refine Vw.nil
        | refine Vw.sl
        | refine Vw.tup ?_
        | refine Vw.agg ?_
        | refine VwL.cons ?_ ?_
        | refine VwL.nil
        | refine LeavesF.of ?_
        | refine VwF.bool ?_
        | refine VwF.int ?_
        | refine VwF.nil
        | refine VwF.sl
        | refine VwF.tup ?_
        | refine VwF.agg ?_
        | refine VwLF.cons ?_ ?_
        | refine VwLF.nil
        | (refine Req.mk ?_ ?_; (focus first | rfl | decide | exact ⟨rfl, rfl⟩ | exact ⟨rfl, by decide⟩ | exact (fun _ => rfl) | exact (fun h => nomatch h) | (simp; done) | omega | (simp [big]; done) | exact le_big (by omega) | exact lt_big (by omega))))
    all_goals first | rfl | (exfalso; omega)
  · refine fun_of rfl rfl ?_
    repeat' (first
      | (conv => whnf)
        first
        | refine Br.t ?_
        | refine Br.f ?_
        | (refine Br.decT ?_ ?_; (focus first | assumption | omega))
        | (refine Br.decF ?_ ?_; (focus first | assumption | omega))
        | refine Br.dec (fun _ => ?_) (fun _ => ?_)
        | refine Br.not ?_
        | refine Br.and ?_
        | refine Br.or ?_
        | (refine Bnd.i64 ?_ ?_ ?_; (focus omega); (focus omega))
        | refine call_fun rfl rfl b1 (.inl rfl) ?_
        | refine call_fun rfl rfl b2 (.inl rfl) ?_
        | refine call_fun rfl rfl awake (.inl rfl) ?_
        | (refine Idx.nat ?_ ?_; (focus omega))
        | refine Idx.nat (le_big (by omega)) ?_
        | (refine Idx.int ?_ ?_ ?_; (focus omega); (focus omega))
        | (refine Idx.int ?_ ?_ ?_; (focus decide); (focus decide))
        | refine Ifz.zero ?_
        | (refine Ifz.pos ?_ ?_; (focus omega))
        | refine Get.mk _ rfl ?_
        | refine Leaves.of ?_
        | refine Ends.of ?_
        | refine Vw.bool ?_
        | refine Vw.int ?_
        | refine Vw.nil
        | refine Vw.sl
        | refine Vw.tup ?_
        | refine Vw.agg ?_
        | refine VwL.cons ?_ ?_
        | refine VwL.nil
        | refine LeavesF.of ?_
        | refine VwF.bool ?_
        | refine VwF.int ?_
        | refine VwF.nil
        | refine VwF.sl
        | refine VwF.tup ?_
        | refine VwF.agg ?_
        | refine VwLF.cons ?_ ?_
        | refine VwLF.nil
        | (refine Req.mk ?_ ?_; (focus first | rfl | decide | exact ⟨rfl, rfl⟩ | exact ⟨rfl, by decide⟩ | exact (fun _ => rfl) | exact (fun h => nomatch h) | (simp; done) | omega | (simp [big]; done) | exact le_big (by omega) | exact lt_big (by omega))))
    all_goals first | rfl | (exfalso; omega)
  · refine fun_of rfl rfl ?_
    repeat' (first
      | (conv => whnf)
        first
        | refine Br.t ?_
        | refine Br.f ?_
        | (refine Br.decT ?_ ?_; (focus first | assumption | omega))
        | (refine Br.decF ?_ ?_; (focus first | assumption | omega))
        | refine Br.dec (fun _ => ?_) (fun _ => ?_)
        | refine Br.not ?_
        | refine Br.and ?_
        | refine Br.or ?_
        | (refine Bnd.i64 ?_ ?_ ?_; (focus omega); (focus omega))
        | refine call_fun rfl rfl b1 (.inl rfl) ?_
        | refine call_fun rfl rfl b2 (.inl rfl) ?_
        | refine call_fun rfl rfl awake (.inl rfl) ?_
        | (refine Idx.nat ?_ ?_; (focus omega))
        | refine Idx.nat (le_big (by omega)) ?_
        | (refine Idx.int ?_ ?_ ?_; (focus omega); (focus omega))
        | (refine Idx.int ?_ ?_ ?_; (focus decide); (focus decide))
        | refine Ifz.zero ?_
        | (refine Ifz.pos ?_ ?_; (focus omega))
        | refine Get.mk _ rfl ?_
        | refine Leaves.of ?_
        | refine Ends.of ?_
        | refine Vw.bool ?_
        | refine Vw.int ?_
        | refine Vw.nil
        | refine Vw.sl
        | refine Vw.tup ?_
        | refine Vw.agg ?_
        | refine VwL.cons ?_ ?_
        | refine VwL.nil
        | refine LeavesF.of ?_
        | refine VwF.bool ?_
        | refine VwF.int ?_
        | refine VwF.nil
        | refine VwF.sl
        | refine VwF.tup ?_
        | refine VwF.agg ?_
        | refine VwLF.cons ?_ ?_
        | refine VwLF.nil
        | (refine Req.mk ?_ ?_; (focus first | rfl | decide | exact ⟨rfl, rfl⟩ | exact ⟨rfl, by decide⟩ | exact (fun _ => rfl) | exact (fun h => nomatch h) | (simp; done) | omega | (simp [big]; done) | exact le_big (by omega) | exact lt_big (by omega))))
    all_goals first | rfl | (exfalso; omega)
  · refine fun_of rfl rfl ?_
    repeat' (first
      | (conv => whnf)
        first
        | refine Br.t ?_
        | refine Br.f ?_
        | (refine Br.decT ?_ ?_; (focus first | assumption | omega))
        | (refine Br.decF ?_ ?_; (focus first | assumption | omega))
        | refine Br.dec (fun _ => ?_) (fun _ => ?_)
        | refine Br.not ?_
        | refine Br.and ?_
        | refine Br.or ?_
        | (refine Bnd.i64 ?_ ?_ ?_; (focus omega); (focus omega))
        | refine call_fun rfl rfl b1 (.inl rfl) ?_
        | refine call_fun rfl rfl b2 (.inl rfl) ?_
        | refine call_fun rfl rfl awake (.inl rfl) ?_
        | (refine Idx.nat ?_ ?_; (focus omega))
        | refine Idx.nat (le_big (by omega)) ?_
        | (refine Idx.int ?_ ?_ ?_; (focus omega); (focus omega))
        | (refine Idx.int ?_ ?_ ?_; (focus decide); (focus decide))
        | refine Ifz.zero ?_
        | (refine Ifz.pos ?_ ?_; (focus omega))
        | refine Get.mk _ rfl ?_
        | refine Leaves.of ?_
        | refine Ends.of ?_
        | refine Vw.bool ?_
        | refine Vw.int ?_
        | refine Vw.nil
        | refine Vw.sl
        | refine Vw.tup ?_
        | refine Vw.agg ?_
        | refine VwL.cons ?_ ?_
        | refine VwL.nil
        | refine LeavesF.of ?_
        | refine VwF.bool ?_
        | refine VwF.int ?_
        | refine VwF.nil
        | refine VwF.sl
        | refine VwF.tup ?_
        | refine VwF.agg ?_
        | refine VwLF.cons ?_ ?_
        | refine VwLF.nil
        | (refine Req.mk ?_ ?_; (focus first | rfl | decide | exact ⟨rfl, rfl⟩ | exact ⟨rfl, by decide⟩ | exact (fun _ => rfl) | exact (fun h => nomatch h) | (simp; done) | omega | (simp [big]; done) | exact le_big (by omega) | exact lt_big (by omega))))
    all_goals first | rfl | (exfalso; omega)
theorem law_level (w h w' h' : Int) (c c' cp : Bool) (l m p : List UInt8) : Fun F md 5 [frV w h c l, frV w' h' c' m, .sl cp p.length (ofBytes p)] (.bool true) := by
  by_cases hb : checkL w h l.length ≠ 0 ∨ checkL w' h' m.length ≠ 0 ∨ w ≠ w' ∨ h ≠ h'
  · exact level_bad hb
  · have e1 : checkL w h l.length = 0 := by omega
    have e2 : checkL w' h' m.length = 0 := by omega
    obtain rfl : w = w' := by omega
    obtain rfl : h = h' := by omega
    obtain ⟨W, H, rfl, rfl, h1, h2, h3, h4, hl⟩ := checkL_good e1
    obtain ⟨W', H', q1, q2, _, _, _, _, hm⟩ := checkL_good e2
    obtain rfl : W = W' := by omega
    obtain rfl : H = H' := by omega
    exact level_good h1 h2 h3 h4 hl hm

end Go.Dr.T
