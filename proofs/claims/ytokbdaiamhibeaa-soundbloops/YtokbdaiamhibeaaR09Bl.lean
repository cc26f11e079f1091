/- Chapter 09: splices: spans that are bridged; a bridge (the program). -/
import Derived.Test.YtokbdaiamhibeaaR09Cl
namespace Go.Dr.T

/-- the span of a splice. -/
def spF (n : Nat) (r at' : Int) : Int × Int := (max 0 (at' - r), min ((n : Int) - 1) (at' + r))
def spL (n : Nat) (r : Int) (l : List Int) : List (Int × Int) := l.map (spF n r)
/-- how many samples are in them. -/
def spM (n : Nat) (r : Int) : List Int → Int
  | [] => 0
  | a :: l => ((spF n r a).2 - (spF n r a).1 + 1) + spM n r l
def spB (n : Nat) : List Int → Bool
  | [] => true
  | a :: l => decide (0 ≤ a) && decide (a ≤ (n : Int) - 1) && spB n l
def splE (l sp : List Int) (r : Int) : Int := if smpE l 1000000 ≠ 0 then smpE l 1000000 else if r < 0 ∨ 50 < r then 7 else if 60 < sp.length then 3 else if spB l.length sp then 0 else 7
theorem splE_ok {l sp : List Int} {r : Int} (h : splE l sp r = 0) : smpE l 1000000 = 0 ∧ (0 ≤ r ∧ r ≤ 50) ∧ sp.length ≤ 60 ∧ spB l.length sp = true := by
  unfold splE at h
  split at h
  · rename_i q; exact absurd h q
  · split at h
    · cases h
    · split at h
      · cases h
      · split at h
        · rename_i q; exact ⟨by omega, by omega, by omega, q⟩
        · cases h
theorem spB_drop {n : Nat} {l : List Int} {i : Nat} (h : i < l.length) : spB n (l.drop i) = (decide (0 ≤ l[i]) && decide (l[i] ≤ (n : Int) - 1) && spB n (l.drop (i + 1))) := by
  rw [List.drop_eq_getElem_cons h]; rfl
theorem spB_mem {n : Nat} : ∀ {l : List Int}, spB n l = true → ∀ a ∈ l, 0 ≤ a ∧ a ≤ (n : Int) - 1
  | [], _, a, h => by simp at h
  | x :: l, h, a, ha => by
    simp only [spB, Bool.and_eq_true, decide_eq_true_eq] at h
    rcases List.mem_cons.1 ha with rfl | ha
    · exact h.1
    · exact spB_mem h.2 a ha
theorem spF_in {n : Nat} {r a : Int} (hr : 0 ≤ r ∧ r ≤ 50) (ha : 0 ≤ a ∧ a ≤ (n : Int) - 1) : 0 ≤ (spF n r a).1 ∧ (spF n r a).1 ≤ (spF n r a).2 ∧ (spF n r a).2 ≤ (n : Int) - 1 := by
  unfold spF; dsimp only; omega
def spT (n : Nat) (r : Int) (l : List Int) (i : Nat) : Int := spM n r (l.take i)
theorem spM_snoc {n : Nat} {r : Int} : ∀ {l : List Int} {a : Int}, spM n r (l ++ [a]) = spM n r l + ((spF n r a).2 - (spF n r a).1 + 1)
  | [], a => by simp [spM]
  | x :: l, a => by
    simp only [List.cons_append, spM]
    rw [spM_snoc]; omega
theorem spT_next {n : Nat} {r : Int} {l : List Int} {i : Nat} (h : i < l.length) : spT n r l (i + 1) = spT n r l i + ((spF n r l[i]).2 - (spF n r l[i]).1 + 1) := by
  unfold spT
  rw [List.take_succ_eq_append_getElem h, spM_snoc]
theorem spL_next {n : Nat} {r : Int} {l : List Int} {i : Nat} (h : i < l.length) : ofSp (spL n r (l.take i)) ++ [.int .i64 (spF n r l[i]).1, .int .i64 (spF n r l[i]).2] = ofSp (spL n r (l.take (i + 1))) := by
  rw [List.take_succ_eq_append_getElem h]
  unfold spL
  rw [List.map_append, ofSp_append]; rfl
theorem spT_range {n : Nat} (hn : n ≤ 4000) {r : Int} (hr : 0 ≤ r ∧ r ≤ 50) {l : List Int} (hl : spB n l = true) : ∀ {i : Nat}, i ≤ l.length → 0 ≤ spT n r l i ∧ spT n r l i ≤ 4000 * (i : Int)
  | 0, _ => by simp [spT, spM]
  | i + 1, h => by
    have ih := spT_range hn hr hl (i := i) (by omega)
    have hs := spF_in hr (spB_mem hl l[i] (List.getElem_mem (by omega)))
    rw [spT_next (by omega)]
    omega
abbrev splV (c : Bool) (a : List (Int × Int)) (m e : Int) : V := .tup [.sl c a.length (ofSp a), .int .i64 m, .int .i64 e]

set_option maxRecDepth 100000 in
set_option maxHeartbeats 20000000 in
theorem spliced_ok {c c' : Bool} {l sp : List Int} {r : Int} (hE : splE l sp r = 0) :
    Fun F md 77 [.sl c l.length (ofI l), .sl c' sp.length (ofI sp), .int .i64 r] (splV (decide (sp.length = 0)) (spL l.length r sp) (spM l.length r sp) 0) := by
  obtain ⟨e1, hr, hm, hs⟩ := splE_ok hE
  have hst := strange_any (c := c) (l := l) (m := 1000000) (by omega)
  rw [e1] at hst
  obtain ⟨hL, _⟩ := smp_ok e1
  have hen : (spL l.length r sp).length = sp.length := by simp [spL]
  unfold splV
  rw [hen]
  generalize l.length = n at *
  refine fun_of rfl rfl ?_
  repeat' (first
    | (conv => whnf)
      first
      | refine Br.t ?_
      | refine Br.f ?_
      | (refine Br.decT ?_ ?_; (focus first | assumption | omega))
      | (refine Br.decF ?_ ?_; (focus first | assumption | omega))
      | refine Br.dec (fun _ => ?_) (fun _ => ?_)
      | refine Br.not ?_
      | refine Br.and ?_
      | refine Br.or ?_
      | (refine Bnd.i64 ?_ ?_ ?_; (focus omega); (focus omega))
      | refine call_fun rfl rfl hst (.inl rfl) ?_
      | refine call_fun rfl rfl (out_any _ _ _) (.inl rfl) ?_
      | (refine Idx.nat ?_ ?_; (focus omega))
      | refine Idx.nat (le_big (by omega)) ?_
      | (refine Idx.int ?_ ?_ ?_; (focus omega); (focus omega))
      | (refine Idx.int ?_ ?_ ?_; (focus decide); (focus decide))
      | refine Ifz.zero ?_
      | (refine Ifz.pos ?_ ?_; (focus omega))
      | refine Get.mk _ rfl ?_
      | refine Leaves.of ?_
      | refine Ends.of ?_
      | refine Vw.bool ?_
      | refine Vw.int ?_
      | refine Vw.nil
      | refine Vw.sl
      | refine Vw.tup ?_
      | refine Vw.agg ?_
      | refine VwL.cons ?_ ?_
      | refine VwL.nil
      | refine LeavesF.of ?_
      | refine VwF.bool ?_
      | refine VwF.int ?_
      | refine VwF.nil
      | refine VwF.sl
      | refine VwF.tup ?_
      | refine VwF.agg ?_
      | refine VwLF.cons ?_ ?_
      | refine VwLF.nil
      | (refine Req.mk ?_ ?_; (focus first | rfl | decide | exact ⟨rfl, rfl⟩ | exact ⟨rfl, by decide⟩ | exact (fun _ => rfl) | exact (fun h => nomatch h) | (simp; done) | omega | (simp [big]; done) | exact le_big (by omega) | exact lt_big (by omega))))
  all_goals try (exfalso; omega)
  refine LoopP.by (fun i : Nat => i ≤ sp.length) (fun i => match i with
      | 0 => [(6, .nilsl), (7, .int .i64 (spT n r sp 0)), (27, .int .i64 ((0 : Nat) : Int))]
      | i + 1 => [(6, .ms 2 1 (2 * (i + 1)) 0 (i + 1) false), (7, .int .i64 (spT n r sp (i + 1))), (27, .int .i64 ((i + 1 : Nat) : Int))])
    (fun i => match i with
      | 0 => []
      | i + 1 => [.blk [.int .i64 (spF n r (gI sp 0)).1, .int .i64 (spF n r (gI sp 0)).2] false, .blk (ofSp (spL n r (sp.take (i + 1)))) true]) (fun i => sp.length - i) 0 (Nat.zero_le _) rfl ?_
  intro i hi
  cases i with
  | zero =>
    dsimp only
    by_cases hin : 0 < sp.length
    · have hc := gI_cell (l := sp) (i := 0) hin
      have ha := spB_mem hs sp[0] (List.getElem_mem hin)
      have hT := spT_next (n := n) (r := r) hin
      have hT0 : spT n r sp 0 = 0 := rfl
      have hN := spL_next (n := n) (r := r) hin
      have hsf := spF_in hr ha
      rw [← gI_get hin] at ha hT hN hsf
      have hN0 : ofSp (spL n r (sp.take 0)) = [] := rfl
      rw [hN0] at hN
      rw [hT0] at hT
      generalize hC2 : ofSp (spL n r (sp.take (0 + 1))) = C2 at *
      generalize hT1 : spT n r sp (0 + 1) = T1 at *
      rw [hT0]
      have hf1 : max 0 (gI sp 0 - r) = (spF n r (gI sp 0)).1 := rfl
      have hf2 : min ((n : Int) - 1) (gI sp 0 + r) = (spF n r (gI sp 0)).2 := rfl
      generalize hsp0 : spF n r (gI sp 0) = s at *
      obtain ⟨s1, s2⟩ := s
      dsimp only at hf1 hf2 hN hT hsf
      generalize gI sp 0 = a at *
      repeat' (first
        | (conv => whnf)
          first
          | refine Bnd.eq hf1 ?_
          | refine Bnd.eq hf2 ?_
          | refine Bnd.eq ((wrap_i64 (by omega) (by omega)).trans (show _ = T1 by omega)) ?_
          | refine Br.t ?_
          | refine Br.f ?_
          | (refine Br.decT ?_ ?_; (focus first | assumption | omega))
          | (refine Br.decF ?_ ?_; (focus first | assumption | omega))
          | refine Br.dec (fun _ => ?_) (fun _ => ?_)
          | refine Br.not ?_
          | refine Br.and ?_
          | refine Br.or ?_
          | (refine Bnd.i64 ?_ ?_ ?_; (focus omega); (focus omega))
          | refine Get.mk _ hc ?_
          | refine call_fun rfl rfl (out_any _ _ _) (.inl rfl) ?_
          | (refine Idx.nat ?_ ?_; (focus omega))
          | refine Idx.nat (le_big (by omega)) ?_
          | (refine Idx.int ?_ ?_ ?_; (focus omega); (focus omega))
          | (refine Idx.int ?_ ?_ ?_; (focus decide); (focus decide))
          | refine Ifz.zero ?_
          | (refine Ifz.pos ?_ ?_; (focus omega))
          | refine Get.mk _ rfl ?_
          | refine Leaves.of ?_
          | refine Ends.of ?_
          | refine Vw.bool ?_
          | refine Vw.int ?_
          | refine Vw.nil
          | refine Vw.sl
          | refine Vw.tup ?_
          | refine Vw.agg ?_
          | refine VwL.cons ?_ ?_
          | refine VwL.nil
          | refine LeavesF.of ?_
          | refine VwF.bool ?_
          | refine VwF.int ?_
          | refine VwF.nil
          | refine VwF.sl
          | refine VwF.tup ?_
          | refine VwF.agg ?_
          | refine VwLF.cons ?_ ?_
          | refine VwLF.nil
          | (refine Req.mk ?_ ?_; (focus first | rfl | decide | exact ⟨rfl, rfl⟩ | exact ⟨rfl, by decide⟩ | exact (fun _ => rfl) | exact (fun h => nomatch h) | (simp; done) | omega | (simp [big]; done) | exact le_big (by omega) | exact lt_big (by omega))))
      all_goals first | exact NextP.mk 1 (by omega) (by omega) (by dsimp only; rw [hC2, hT1, ← hN]; rfl) | (exfalso; omega)
    · have hl0 : sp = [] := List.length_eq_zero_iff.1 (by omega)
      subst hl0
      repeat' (first
        | (conv => whnf)
          first
          | refine Br.t ?_
          | refine Br.f ?_
          | (refine Br.decT ?_ ?_; (focus first | assumption | omega))
          | (refine Br.decF ?_ ?_; (focus first | assumption | omega))
          | refine Br.dec (fun _ => ?_) (fun _ => ?_)
          | refine Br.not ?_
          | refine Br.and ?_
          | refine Br.or ?_
          | (refine Bnd.i64 ?_ ?_ ?_; (focus omega); (focus omega))
          | (refine Idx.nat ?_ ?_; (focus omega))
          | refine Idx.nat (le_big (by omega)) ?_
          | (refine Idx.int ?_ ?_ ?_; (focus omega); (focus omega))
          | (refine Idx.int ?_ ?_ ?_; (focus decide); (focus decide))
          | refine Ifz.zero ?_
          | (refine Ifz.pos ?_ ?_; (focus omega))
          | refine Get.mk _ rfl ?_
          | refine Leaves.of ?_
          | refine Ends.of ?_
          | refine Vw.bool ?_
          | refine Vw.int ?_
          | refine Vw.nil
          | refine Vw.sl
          | refine Vw.tup ?_
          | refine Vw.agg ?_
          | refine VwL.cons ?_ ?_
          | refine VwL.nil
          | refine LeavesF.of ?_
          | refine VwF.bool ?_
          | refine VwF.int ?_
          | refine VwF.nil
          | refine VwF.sl
          | refine VwF.tup ?_
          | refine VwF.agg ?_
          | refine VwLF.cons ?_ ?_
          | refine VwLF.nil
          | (refine Req.mk ?_ ?_; (focus first | rfl | decide | exact ⟨rfl, rfl⟩ | exact ⟨rfl, by decide⟩ | exact (fun _ => rfl) | exact (fun h => nomatch h) | (simp; done) | omega | (simp [big]; done) | exact le_big (by omega) | exact lt_big (by omega))))
      all_goals first | rfl | (exfalso; omega)
  | succ i =>
    dsimp only
    have hTr := spT_range hL hr hs hi
    by_cases hin : i + 1 < sp.length
    · have hc := gI_cell (l := sp) (i := i + 1) hin
      have ha := spB_mem hs sp[i + 1] (List.getElem_mem hin)
      have hT := spT_next (n := n) (r := r) hin
      have hN := spL_next (n := n) (r := r) hin
      have hsf := spF_in hr ha
      rw [← gI_get hin] at ha hT hN hsf
      have hl0 : (ofSp (spL n r (sp.take (i + 1)))).length = 2 * (i + 1) := by rw [ofSp_length]; simp [spL]; omega
      generalize hC2 : ofSp (spL n r (sp.take (i + 1 + 1))) = C2 at *
      generalize ofSp (spL n r (sp.take (i + 1))) = C0 at *
      generalize hT1 : spT n r sp (i + 1 + 1) = T1 at *
      generalize spT n r sp (i + 1) = T0 at *
      have hf1 : max 0 (gI sp (i + 1) - r) = (spF n r (gI sp (i + 1))).1 := rfl
      have hf2 : min ((n : Int) - 1) (gI sp (i + 1) + r) = (spF n r (gI sp (i + 1))).2 := rfl
      generalize spF n r (gI sp (i + 1)) = s at *
      obtain ⟨s1, s2⟩ := s
      dsimp only at hf1 hf2 hN hT hsf
      generalize gI sp (i + 1) = a at *
      repeat' (first
        | (conv => whnf)
          first
          | refine Bnd.eq hf1 ?_
          | refine Bnd.eq hf2 ?_
          | refine Bnd.eq ((wrap_i64 (by omega) (by omega)).trans (show _ = T1 by omega)) ?_
          | refine Br.t ?_
          | refine Br.f ?_
          | (refine Br.decT ?_ ?_; (focus first | assumption | omega))
          | (refine Br.decF ?_ ?_; (focus first | assumption | omega))
          | refine Br.dec (fun _ => ?_) (fun _ => ?_)
          | refine Br.not ?_
          | refine Br.and ?_
          | refine Br.or ?_
          | (refine Bnd.i64 ?_ ?_ ?_; (focus omega); (focus omega))
          | refine Get.mk _ hc ?_
          | refine call_fun rfl rfl (out_any _ _ _) (.inl rfl) ?_
          | refine Req.mk hl0 ?_
          | refine Req.mk ⟨by omega, by rw [hl0]; show (2 * (i + 1) + 2) * 17 < 68719476736; omega⟩ ?_
          | (refine Idx.nat ?_ ?_; (focus omega))
          | refine Idx.nat (le_big (by omega)) ?_
          | (refine Idx.int ?_ ?_ ?_; (focus omega); (focus omega))
          | (refine Idx.int ?_ ?_ ?_; (focus decide); (focus decide))
          | refine Ifz.zero ?_
          | (refine Ifz.pos ?_ ?_; (focus omega))
          | refine Get.mk _ rfl ?_
          | refine Leaves.of ?_
          | refine Ends.of ?_
          | refine Vw.bool ?_
          | refine Vw.int ?_
          | refine Vw.nil
          | refine Vw.sl
          | refine Vw.tup ?_
          | refine Vw.agg ?_
          | refine VwL.cons ?_ ?_
          | refine VwL.nil
          | refine LeavesF.of ?_
          | refine VwF.bool ?_
          | refine VwF.int ?_
          | refine VwF.nil
          | refine VwF.sl
          | refine VwF.tup ?_
          | refine VwF.agg ?_
          | refine VwLF.cons ?_ ?_
          | refine VwLF.nil
          | (refine Req.mk ?_ ?_; (focus first | rfl | decide | exact ⟨rfl, rfl⟩ | exact ⟨rfl, by decide⟩ | exact (fun _ => rfl) | exact (fun h => nomatch h) | (simp; done) | omega | (simp [big]; done) | exact le_big (by omega) | exact lt_big (by omega))))
      all_goals first | exact NextP.mk (i + 1 + 1) (by omega) (by omega) (by dsimp only; rw [hC2, hT1, ← hN]; rfl) | (exfalso; omega)
    · have hli : sp.length = i + 1 := by omega
      have htk : sp.take (i + 1) = sp := by rw [← hli]; exact List.take_length
      have hTe : spT n r sp (i + 1) = spM n r sp := by unfold spT; rw [htk]
      rw [hTe, htk, hli]
      repeat' (first
        | (conv => whnf)
          first
          | refine Br.t ?_
          | refine Br.f ?_
          | (refine Br.decT ?_ ?_; (focus first | assumption | omega))
          | (refine Br.decF ?_ ?_; (focus first | assumption | omega))
          | refine Br.dec (fun _ => ?_) (fun _ => ?_)
          | refine Br.not ?_
          | refine Br.and ?_
          | refine Br.or ?_
          | (refine Bnd.i64 ?_ ?_ ?_; (focus omega); (focus omega))
          | (refine Idx.nat ?_ ?_; (focus omega))
          | refine Idx.nat (le_big (by omega)) ?_
          | (refine Idx.int ?_ ?_ ?_; (focus omega); (focus omega))
          | (refine Idx.int ?_ ?_ ?_; (focus decide); (focus decide))
          | refine Ifz.zero ?_
          | (refine Ifz.pos ?_ ?_; (focus omega))
          | refine Get.mk _ rfl ?_
          | refine Leaves.of ?_
          | refine Ends.of ?_
          | refine Vw.bool ?_
          | refine Vw.int ?_
          | refine Vw.nil
          | refine Vw.sl
          | refine Vw.tup ?_
          | refine Vw.agg ?_
          | refine VwL.cons ?_ ?_
          | refine VwL.nil
          | refine LeavesF.of ?_
          | refine VwF.bool ?_
          | refine VwF.int ?_
          | refine VwF.nil
          | refine VwF.sl
          | refine VwF.tup ?_
          | refine VwF.agg ?_
          | refine VwLF.cons ?_ ?_
          | refine VwLF.nil
          | (refine Req.mk ?_ ?_; (focus first | rfl | decide | exact ⟨rfl, rfl⟩ | exact ⟨rfl, by decide⟩ | exact (fun _ => rfl) | exact (fun h => nomatch h) | (simp; done) | omega | (simp [big]; done) | exact le_big (by omega) | exact lt_big (by omega))))
      · refine Vw.sp rfl rfl (by rw [hen, hli]) (by rw [hen, hli]) (by rw [hen, hli])
      all_goals first | rfl | (exfalso; omega)

theorem spT_range' {n : Nat} (hn : n ≤ 4000) {r : Int} (hr : 0 ≤ r ∧ r ≤ 50) {l : List Int} {b : Nat} (hb : b ≤ l.length) (hl : ∀ (j : Nat) (hj : j < b), 0 ≤ l[j] ∧ l[j] ≤ (n : Int) - 1) : ∀ {i : Nat}, i ≤ b → 0 ≤ spT n r l i ∧ spT n r l i ≤ 4000 * (i : Int)
  | 0, _ => by simp [spT, spM]
  | i + 1, h => by
    have ih := spT_range' hn hr hb hl (i := i) (by omega)
    have hs := spF_in hr (hl i (by omega))
    rw [spT_next (by omega)]
    omega
theorem spB_first {n : Nat} : ∀ {l : List Int}, spB n l = false → ∃ b, ∃ hb : b < l.length, (∀ (j : Nat) (hj : j < b), 0 ≤ l[j] ∧ l[j] ≤ (n : Int) - 1) ∧ ¬ (0 ≤ l[b] ∧ l[b] ≤ (n : Int) - 1)
  | [], h => by simp [spB] at h
  | x :: l, h => by
    by_cases hx : 0 ≤ x ∧ x ≤ (n : Int) - 1
    · simp only [spB, decide_eq_true hx.1, decide_eq_true hx.2, Bool.true_and] at h
      obtain ⟨b, hb, h1, h2⟩ := spB_first h
      refine ⟨b + 1, by simpa using hb, fun j hj => ?_, h2⟩
      cases j with
      | zero => exact hx
      | succ j => exact h1 j (by omega)
    · exact ⟨0, by simp, fun j hj => by omega, hx⟩
set_option maxRecDepth 100000 in
set_option maxHeartbeats 20000000 in
theorem spliced_far {c c' : Bool} {l sp : List Int} {r : Int} (e1 : smpE l 1000000 = 0) (hr : 0 ≤ r ∧ r ≤ 50) (hm : sp.length ≤ 60) (hf : spB l.length sp = false) :
    Fun F md 77 [.sl c l.length (ofI l), .sl c' sp.length (ofI sp), .int .i64 r] (splV true [] 0 7) := by
  have hst := strange_any (c := c) (l := l) (m := 1000000) (by omega)
  rw [e1] at hst
  obtain ⟨hL, _⟩ := smp_ok e1
  generalize l.length = n at *
  obtain ⟨b, hb, h1, h2⟩ := spB_first hf
  refine fun_of rfl rfl ?_
  repeat' (first
    | (conv => whnf)
      first
      | refine Br.t ?_
      | refine Br.f ?_
      | (refine Br.decT ?_ ?_; (focus first | assumption | omega))
      | (refine Br.decF ?_ ?_; (focus first | assumption | omega))
      | refine Br.dec (fun _ => ?_) (fun _ => ?_)
      | refine Br.not ?_
      | refine Br.and ?_
      | refine Br.or ?_
      | (refine Bnd.i64 ?_ ?_ ?_; (focus omega); (focus omega))
      | refine call_fun rfl rfl hst (.inl rfl) ?_
      | refine call_fun rfl rfl (out_any _ _ _) (.inl rfl) ?_
      | (refine Idx.nat ?_ ?_; (focus omega))
      | refine Idx.nat (le_big (by omega)) ?_
      | (refine Idx.int ?_ ?_ ?_; (focus omega); (focus omega))
      | (refine Idx.int ?_ ?_ ?_; (focus decide); (focus decide))
      | refine Ifz.zero ?_
      | (refine Ifz.pos ?_ ?_; (focus omega))
      | refine Get.mk _ rfl ?_
      | refine Leaves.of ?_
      | refine Ends.of ?_
      | refine Vw.bool ?_
      | refine Vw.int ?_
      | refine Vw.nil
      | refine Vw.sl
      | refine Vw.tup ?_
      | refine Vw.agg ?_
      | refine VwL.cons ?_ ?_
      | refine VwL.nil
      | refine LeavesF.of ?_
      | refine VwF.bool ?_
      | refine VwF.int ?_
      | refine VwF.nil
      | refine VwF.sl
      | refine VwF.tup ?_
      | refine VwF.agg ?_
      | refine VwLF.cons ?_ ?_
      | refine VwLF.nil
      | (refine Req.mk ?_ ?_; (focus first | rfl | decide | exact ⟨rfl, rfl⟩ | exact ⟨rfl, by decide⟩ | exact (fun _ => rfl) | exact (fun h => nomatch h) | (simp; done) | omega | (simp [big]; done) | exact le_big (by omega) | exact lt_big (by omega))))
  all_goals try (exfalso; omega)
  refine LoopP.by (fun i : Nat => i ≤ b) (fun i => match i with
      | 0 => [(6, .nilsl), (7, .int .i64 (spT n r sp 0)), (27, .int .i64 ((0 : Nat) : Int))]
      | i + 1 => [(6, .ms 2 1 (2 * (i + 1)) 0 (i + 1) false), (7, .int .i64 (spT n r sp (i + 1))), (27, .int .i64 ((i + 1 : Nat) : Int))])
    (fun i => match i with
      | 0 => []
      | i + 1 => [.blk [.int .i64 (spF n r (gI sp 0)).1, .int .i64 (spF n r (gI sp 0)).2] false, .blk (ofSp (spL n r (sp.take (i + 1)))) true]) (fun i => b - i) 0 (Nat.zero_le _) rfl ?_
  intro i hi
  cases i with
  | zero =>
    dsimp only
    have hin : 0 < sp.length := by omega
    by_cases hib : 0 < b
    · have hc := gI_cell (l := sp) (i := 0) hin
      have ha := h1 0 hib
      have hT := spT_next (n := n) (r := r) hin
      have hT0 : spT n r sp 0 = 0 := rfl
      have hN := spL_next (n := n) (r := r) hin
      have hsf := spF_in hr ha
      rw [← gI_get hin] at ha hT hN hsf
      have hN0 : ofSp (spL n r (sp.take 0)) = [] := rfl
      rw [hN0] at hN
      rw [hT0] at hT
      generalize hC2 : ofSp (spL n r (sp.take (0 + 1))) = C2 at *
      generalize hT1 : spT n r sp (0 + 1) = T1 at *
      rw [hT0]
      have hf1 : max 0 (gI sp 0 - r) = (spF n r (gI sp 0)).1 := rfl
      have hf2 : min ((n : Int) - 1) (gI sp 0 + r) = (spF n r (gI sp 0)).2 := rfl
      generalize hsp0 : spF n r (gI sp 0) = s at *
      obtain ⟨s1, s2⟩ := s
      dsimp only at hf1 hf2 hN hT hsf
      generalize gI sp 0 = a at *
      repeat' (first
        | (conv => whnf)
          first
          | refine Bnd.eq hf1 ?_
          | refine Bnd.eq hf2 ?_
          | refine Bnd.eq ((wrap_i64 (by omega) (by omega)).trans (show _ = T1 by omega)) ?_
          | refine Br.t ?_
          | refine Br.f ?_
          | (refine Br.decT ?_ ?_; (focus first | assumption | omega))
          | (refine Br.decF ?_ ?_; (focus first | assumption | omega))
          | refine Br.dec (fun _ => ?_) (fun _ => ?_)
          | refine Br.not ?_
          | refine Br.and ?_
          | refine Br.or ?_
          | (refine Bnd.i64 ?_ ?_ ?_; (focus omega); (focus omega))
          | refine Get.mk _ hc ?_
          | refine call_fun rfl rfl (out_any _ _ _) (.inl rfl) ?_
          | (refine Idx.nat ?_ ?_; (focus omega))
          | refine Idx.nat (le_big (by omega)) ?_
          | (refine Idx.int ?_ ?_ ?_; (focus omega); (focus omega))
          | (refine Idx.int ?_ ?_ ?_; (focus decide); (focus decide))
          | refine Ifz.zero ?_
          | (refine Ifz.pos ?_ ?_; (focus omega))
          | refine Get.mk _ rfl ?_
          | refine Leaves.of ?_
          | refine Ends.of ?_
          | refine Vw.bool ?_
          | refine Vw.int ?_
          | refine Vw.nil
          | refine Vw.sl
          | refine Vw.tup ?_
          | refine Vw.agg ?_
          | refine VwL.cons ?_ ?_
          | refine VwL.nil
          | refine LeavesF.of ?_
          | refine VwF.bool ?_
          | refine VwF.int ?_
          | refine VwF.nil
          | refine VwF.sl
          | refine VwF.tup ?_
          | refine VwF.agg ?_
          | refine VwLF.cons ?_ ?_
          | refine VwLF.nil
          | (refine Req.mk ?_ ?_; (focus first | rfl | decide | exact ⟨rfl, rfl⟩ | exact ⟨rfl, by decide⟩ | exact (fun _ => rfl) | exact (fun h => nomatch h) | (simp; done) | omega | (simp [big]; done) | exact le_big (by omega) | exact lt_big (by omega))))
      all_goals first | exact NextP.mk 1 (by omega) (by omega) (by dsimp only; rw [hC2, hT1, ← hN]; rfl) | (exfalso; omega)
    · obtain rfl : b = 0 := by omega
      have hc := gI_cell (l := sp) (i := 0) hin
      rw [← gI_get hin] at h2
      generalize gI sp 0 = a at *
      repeat' (first
        | (conv => whnf)
          first
          | refine Br.t ?_
          | refine Br.f ?_
          | (refine Br.decT ?_ ?_; (focus first | assumption | omega))
          | (refine Br.decF ?_ ?_; (focus first | assumption | omega))
          | refine Br.dec (fun _ => ?_) (fun _ => ?_)
          | refine Br.not ?_
          | refine Br.and ?_
          | refine Br.or ?_
          | (refine Bnd.i64 ?_ ?_ ?_; (focus omega); (focus omega))
          | refine Get.mk _ hc ?_
          | refine call_fun rfl rfl (out_any _ _ _) (.inl rfl) ?_
          | (refine Idx.nat ?_ ?_; (focus omega))
          | refine Idx.nat (le_big (by omega)) ?_
          | (refine Idx.int ?_ ?_ ?_; (focus omega); (focus omega))
          | (refine Idx.int ?_ ?_ ?_; (focus decide); (focus decide))
          | refine Ifz.zero ?_
          | (refine Ifz.pos ?_ ?_; (focus omega))
          | refine Get.mk _ rfl ?_
          | refine Leaves.of ?_
          | refine Ends.of ?_
          | refine Vw.bool ?_
          | refine Vw.int ?_
          | refine Vw.nil
          | refine Vw.sl
          | refine Vw.tup ?_
          | refine Vw.agg ?_
          | refine VwL.cons ?_ ?_
          | refine VwL.nil
          | refine LeavesF.of ?_
          | refine VwF.bool ?_
          | refine VwF.int ?_
          | refine VwF.nil
          | refine VwF.sl
          | refine VwF.tup ?_
          | refine VwF.agg ?_
          | refine VwLF.cons ?_ ?_
          | refine VwLF.nil
          | (refine Req.mk ?_ ?_; (focus first | rfl | decide | exact ⟨rfl, rfl⟩ | exact ⟨rfl, by decide⟩ | exact (fun _ => rfl) | exact (fun h => nomatch h) | (simp; done) | omega | (simp [big]; done) | exact le_big (by omega) | exact lt_big (by omega))))
      all_goals first | rfl | (exfalso; omega)
  | succ i =>
    dsimp only
    have hTr := spT_range' hL hr (by omega) h1 hi
    have hin : i + 1 < sp.length := by omega
    by_cases hib : i + 1 < b
    · have hc := gI_cell (l := sp) (i := i + 1) hin
      have ha := h1 (i + 1) hib
      have hT := spT_next (n := n) (r := r) hin
      have hN := spL_next (n := n) (r := r) hin
      have hsf := spF_in hr ha
      rw [← gI_get hin] at ha hT hN hsf
      have hl0 : (ofSp (spL n r (sp.take (i + 1)))).length = 2 * (i + 1) := by rw [ofSp_length]; simp [spL]; omega
      generalize hC2 : ofSp (spL n r (sp.take (i + 1 + 1))) = C2 at *
      generalize ofSp (spL n r (sp.take (i + 1))) = C0 at *
      generalize hT1 : spT n r sp (i + 1 + 1) = T1 at *
      generalize spT n r sp (i + 1) = T0 at *
      have hf1 : max 0 (gI sp (i + 1) - r) = (spF n r (gI sp (i + 1))).1 := rfl
      have hf2 : min ((n : Int) - 1) (gI sp (i + 1) + r) = (spF n r (gI sp (i + 1))).2 := rfl
      generalize spF n r (gI sp (i + 1)) = s at *
      obtain ⟨s1, s2⟩ := s
      dsimp only at hf1 hf2 hN hT hsf
      generalize gI sp (i + 1) = a at *
      repeat' (first
        | (conv => whnf)
          first
          | refine Bnd.eq hf1 ?_
          | refine Bnd.eq hf2 ?_
          | refine Bnd.eq ((wrap_i64 (by omega) (by omega)).trans (show _ = T1 by omega)) ?_
          | refine Br.t ?_
          | refine Br.f ?_
          | (refine Br.decT ?_ ?_; (focus first | assumption | omega))
          | (refine Br.decF ?_ ?_; (focus first | assumption | omega))
          | refine Br.dec (fun _ => ?_) (fun _ => ?_)
          | refine Br.not ?_
          | refine Br.and ?_
          | refine Br.or ?_
          | (refine Bnd.i64 ?_ ?_ ?_; (focus omega); (focus omega))
          | refine Get.mk _ hc ?_
          | refine call_fun rfl rfl (out_any _ _ _) (.inl rfl) ?_
          | refine Req.mk hl0 ?_
          | refine Req.mk ⟨by omega, by rw [hl0]; show (2 * (i + 1) + 2) * 17 < 68719476736; omega⟩ ?_
          | (refine Idx.nat ?_ ?_; (focus omega))
          | refine Idx.nat (le_big (by omega)) ?_
          | (refine Idx.int ?_ ?_ ?_; (focus omega); (focus omega))
          | (refine Idx.int ?_ ?_ ?_; (focus decide); (focus decide))
          | refine Ifz.zero ?_
          | (refine Ifz.pos ?_ ?_; (focus omega))
          | refine Get.mk _ rfl ?_
          | refine Leaves.of ?_
          | refine Ends.of ?_
          | refine Vw.bool ?_
          | refine Vw.int ?_
          | refine Vw.nil
          | refine Vw.sl
          | refine Vw.tup ?_
          | refine Vw.agg ?_
          | refine VwL.cons ?_ ?_
          | refine VwL.nil
          | refine LeavesF.of ?_
          | refine VwF.bool ?_
          | refine VwF.int ?_
          | refine VwF.nil
          | refine VwF.sl
          | refine VwF.tup ?_
          | refine VwF.agg ?_
          | refine VwLF.cons ?_ ?_
          | refine VwLF.nil
          | (refine Req.mk ?_ ?_; (focus first | rfl | decide | exact ⟨rfl, rfl⟩ | exact ⟨rfl, by decide⟩ | exact (fun _ => rfl) | exact (fun h => nomatch h) | (simp; done) | omega | (simp [big]; done) | exact le_big (by omega) | exact lt_big (by omega))))
      all_goals first | exact NextP.mk (i + 1 + 1) (by omega) (by omega) (by dsimp only; rw [hC2, hT1, ← hN]; rfl) | (exfalso; omega)
    · obtain rfl : b = i + 1 := by omega
      have hc := gI_cell (l := sp) (i := i + 1) hin
      rw [← gI_get hin] at h2
      generalize gI sp (i + 1) = a at *
      repeat' (first
        | (conv => whnf)
          first
          | refine Br.t ?_
          | refine Br.f ?_
          | (refine Br.decT ?_ ?_; (focus first | assumption | omega))
          | (refine Br.decF ?_ ?_; (focus first | assumption | omega))
          | refine Br.dec (fun _ => ?_) (fun _ => ?_)
          | refine Br.not ?_
          | refine Br.and ?_
          | refine Br.or ?_
          | (refine Bnd.i64 ?_ ?_ ?_; (focus omega); (focus omega))
          | refine Get.mk _ hc ?_
          | refine call_fun rfl rfl (out_any _ _ _) (.inl rfl) ?_
          | (refine Idx.nat ?_ ?_; (focus omega))
          | refine Idx.nat (le_big (by omega)) ?_
          | (refine Idx.int ?_ ?_ ?_; (focus omega); (focus omega))
          | (refine Idx.int ?_ ?_ ?_; (focus decide); (focus decide))
          | refine Ifz.zero ?_
          | (refine Ifz.pos ?_ ?_; (focus omega))
          | refine Get.mk _ rfl ?_
          | refine Leaves.of ?_
          | refine Ends.of ?_
          | refine Vw.bool ?_
          | refine Vw.int ?_
          | refine Vw.nil
          | refine Vw.sl
          | refine Vw.tup ?_
          | refine Vw.agg ?_
          | refine VwL.cons ?_ ?_
          | refine VwL.nil
          | refine LeavesF.of ?_
          | refine VwF.bool ?_
          | refine VwF.int ?_
          | refine VwF.nil
          | refine VwF.sl
          | refine VwF.tup ?_
          | refine VwF.agg ?_
          | refine VwLF.cons ?_ ?_
          | refine VwLF.nil
          | (refine Req.mk ?_ ?_; (focus first | rfl | decide | exact ⟨rfl, rfl⟩ | exact ⟨rfl, by decide⟩ | exact (fun _ => rfl) | exact (fun h => nomatch h) | (simp; done) | omega | (simp [big]; done) | exact le_big (by omega) | exact lt_big (by omega))))
      all_goals first | rfl | (exfalso; omega)
set_option maxRecDepth 100000 in
set_option maxHeartbeats 20000000 in
theorem spliced_bad {c c' : Bool} {l sp : List Int} {r k : Int} (hk : splE l sp r = k) (h0 : k ≠ 0) : Fun F md 77 [.sl c l.length (ofI l), .sl c' sp.length (ofI sp), .int .i64 r] (splV true [] 0 k) := by
  have hst := strange_any (c := c) (l := l) (m := 1000000) (by omega)
  have hfar := spliced_far (c := c) (c' := c') (l := l) (sp := sp) (r := r)
  unfold splE at hk
  generalize smpE l 1000000 = k1 at *
  by_cases q1 : k1 = 0
  · subst q1
    rw [if_neg (by simp)] at hk
    by_cases q2 : r < 0 ∨ 50 < r
    · rw [if_pos q2] at hk
      subst hk
      refine fun_of rfl rfl ?_
      repeat' (first
        | (conv => whnf)
          first
          | refine Br.t ?_
          | refine Br.f ?_
          | (refine Br.decT ?_ ?_; (focus first | assumption | omega))
          | (refine Br.decF ?_ ?_; (focus first | assumption | omega))
          | refine Br.dec (fun _ => ?_) (fun _ => ?_)
          | refine Br.not ?_
          | refine Br.and ?_
          | refine Br.or ?_
          | (refine Bnd.i64 ?_ ?_ ?_; (focus omega); (focus omega))
          | refine call_fun rfl rfl hst (.inl rfl) ?_
          | refine call_fun rfl rfl (out_any _ _ _) (.inl rfl) ?_
          | (refine Idx.nat ?_ ?_; (focus omega))
          | refine Idx.nat (le_big (by omega)) ?_
          | (refine Idx.int ?_ ?_ ?_; (focus omega); (focus omega))
          | (refine Idx.int ?_ ?_ ?_; (focus decide); (focus decide))
          | refine Ifz.zero ?_
          | (refine Ifz.pos ?_ ?_; (focus omega))
          | refine Get.mk _ rfl ?_
          | refine Leaves.of ?_
          | refine Ends.of ?_
          | refine Vw.bool ?_
          | refine Vw.int ?_
          | refine Vw.nil
          | refine Vw.sl
          | refine Vw.tup ?_
          | refine Vw.agg ?_
          | refine VwL.cons ?_ ?_
          | refine VwL.nil
          | refine LeavesF.of ?_
          | refine VwF.bool ?_
          | refine VwF.int ?_
          | refine VwF.nil
          | refine VwF.sl
          | refine VwF.tup ?_
          | refine VwF.agg ?_
          | refine VwLF.cons ?_ ?_
          | refine VwLF.nil
          | (refine Req.mk ?_ ?_; (focus first | rfl | decide | exact ⟨rfl, rfl⟩ | exact ⟨rfl, by decide⟩ | exact (fun _ => rfl) | exact (fun h => nomatch h) | (simp; done) | omega | (simp [big]; done) | exact le_big (by omega) | exact lt_big (by omega))))
      all_goals first | rfl | (exfalso; omega)
    · rw [if_neg q2] at hk
      by_cases q3 : 60 < sp.length
      · rw [if_pos q3] at hk
        subst hk
        refine fun_of rfl rfl ?_
        repeat' (first
          | (conv => whnf)
            first
            | refine Br.t ?_
            | refine Br.f ?_
            | (refine Br.decT ?_ ?_; (focus first | assumption | omega))
            | (refine Br.decF ?_ ?_; (focus first | assumption | omega))
            | refine Br.dec (fun _ => ?_) (fun _ => ?_)
            | refine Br.not ?_
            | refine Br.and ?_
            | refine Br.or ?_
            | (refine Bnd.i64 ?_ ?_ ?_; (focus omega); (focus omega))
            | refine call_fun rfl rfl hst (.inl rfl) ?_
            | refine call_fun rfl rfl (out_any _ _ _) (.inl rfl) ?_
            | (refine Idx.nat ?_ ?_; (focus omega))
            | refine Idx.nat (le_big (by omega)) ?_
            | (refine Idx.int ?_ ?_ ?_; (focus omega); (focus omega))
            | (refine Idx.int ?_ ?_ ?_; (focus decide); (focus decide))
            | refine Ifz.zero ?_
            | (refine Ifz.pos ?_ ?_; (focus omega))
            | refine Get.mk _ rfl ?_
            | refine Leaves.of ?_
            | refine Ends.of ?_
            | refine Vw.bool ?_
            | refine Vw.int ?_
            | refine Vw.nil
            | refine Vw.sl
            | refine Vw.tup ?_
            | refine Vw.agg ?_
            | refine VwL.cons ?_ ?_
            | refine VwL.nil
            | refine LeavesF.of ?_
            | refine VwF.bool ?_
            | refine VwF.int ?_
            | refine VwF.nil
            | refine VwF.sl
            | refine VwF.tup ?_
            | refine VwF.agg ?_
            | refine VwLF.cons ?_ ?_
            | refine VwLF.nil
            | (refine Req.mk ?_ ?_; (focus first | rfl | decide | exact ⟨rfl, rfl⟩ | exact ⟨rfl, by decide⟩ | exact (fun _ => rfl) | exact (fun h => nomatch h) | (simp; done) | omega | (simp [big]; done) | exact le_big (by omega) | exact lt_big (by omega))))
        all_goals first | rfl | (exfalso; omega)
      · rw [if_neg q3] at hk
        split at hk
        · exact absurd hk.symm h0
        · rename_i q4
          subst hk
          exact hfar rfl (by omega) (by omega) (by simpa using q4)
  · rw [if_pos q1] at hk
    subst hk
    refine fun_of rfl rfl ?_
    repeat' (first
      | (conv => whnf)
        first
        | refine Br.t ?_
        | refine Br.f ?_
        | (refine Br.decT ?_ ?_; (focus first | assumption | omega))
        | (refine Br.decF ?_ ?_; (focus first | assumption | omega))
        | refine Br.dec (fun _ => ?_) (fun _ => ?_)
        | refine Br.not ?_
        | refine Br.and ?_
        | refine Br.or ?_
        | (refine Bnd.i64 ?_ ?_ ?_; (focus omega); (focus omega))
        | refine call_fun rfl rfl hst (.inl rfl) ?_
        | refine call_fun rfl rfl (out_any _ _ _) (.inl rfl) ?_
        | (refine Idx.nat ?_ ?_; (focus omega))
        | refine Idx.nat (le_big (by omega)) ?_
        | (refine Idx.int ?_ ?_ ?_; (focus omega); (focus omega))
        | (refine Idx.int ?_ ?_ ?_; (focus decide); (focus decide))
        | refine Ifz.zero ?_
        | (refine Ifz.pos ?_ ?_; (focus omega))
        | refine Get.mk _ rfl ?_
        | refine Leaves.of ?_
        | refine Ends.of ?_
        | refine Vw.bool ?_
        | refine Vw.int ?_
        | refine Vw.nil
        | refine Vw.sl
        | refine Vw.tup ?_
        | refine Vw.agg ?_
        | refine VwL.cons ?_ ?_
        | refine VwL.nil
        | refine LeavesF.of ?_
        | refine VwF.bool ?_
        | refine VwF.int ?_
        | refine VwF.nil
        | refine VwF.sl
        | refine VwF.tup ?_
        | refine VwF.agg ?_
        | refine VwLF.cons ?_ ?_
        | refine VwLF.nil
        | (refine Req.mk ?_ ?_; (focus first | rfl | decide | exact ⟨rfl, rfl⟩ | exact ⟨rfl, by decide⟩ | exact (fun _ => rfl) | exact (fun h => nomatch h) | (simp; done) | omega | (simp [big]; done) | exact le_big (by omega) | exact lt_big (by omega))))
    all_goals first | rfl | (exfalso; omega)

end Go.Dr.T
