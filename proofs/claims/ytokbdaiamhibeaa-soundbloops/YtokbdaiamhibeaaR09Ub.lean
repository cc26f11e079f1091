/- Chapter 09: Unbloop of the reference. -/
import Derived.Test.YtokbdaiamhibeaaR09Br
namespace Go.Dr.T

theorem LoopP.byU {w : St → (X → St → Prop) → Prop} {m : List Bool} {hl : Nat} {tm : List V} {h : List B} {Q : X → St → Prop} {α : Type} (P : α → Prop) (us : α → List (Nat × V)) (bs : α → List (Nat × B)) (μ : α → Nat) (a0 : α) (p0 : P a0)
    (h0 : (⟨tm, h⟩ : St) = ⟨upds tm (us a0), bupds h (bs a0)⟩)
    (step : ∀ a, P a → fV (upds tm (us a)) fun tm' => fB (bupds h (bs a)) fun h' => w ⟨tm', h'⟩ fun x s => match x with
      | .nrm => NextP P (fun a => (⟨upds tm (us a), bupds h (bs a)⟩ : St)) μ a (norm m hl s)
      | x => Q x s) : LoopP w m hl ⟨tm, h⟩ Q := LoopP.by P us (fun a => bupds h (bs a)) μ a0 p0 h0 step
theorem Idx.cast {m j : Nat} {k : IntKind} {n : Int} {P : Nat → Prop} (e : n = (j : Int)) (h1 : j ≤ m) (h : P j) : Idx m (.int k n) P := by
  subst e; exact Idx.nat h1 h

theorem spM_append {n : Nat} {r : Int} : ∀ {a b : List Int}, spM n r (a ++ b) = spM n r a + spM n r b
  | [], b => by simp [spM]
  | x :: a, b => by simp only [List.cons_append, spM, spM_append (a := a)]; omega
theorem spM_nonneg {n : Nat} {r : Int} (hr : 0 ≤ r ∧ r ≤ 50) : ∀ {l : List Int}, (∀ a ∈ l, 0 ≤ a ∧ a ≤ (n : Int) - 1) → 0 ≤ spM n r l
  | [], _ => by simp [spM]
  | x :: l, h => by
    have := spM_nonneg hr (l := l) fun a ha => h a (by simp [ha])
    have := spF_in hr (h x (by simp))
    simp only [spM]; omega
/-- how many samples are in the first spans. -/
def tN (n : Nat) (r : Int) (sp : List Int) (j : Nat) : Nat := (spT n r sp j).toNat
section
variable {n : Nat} {r : Int} {sp : List Int}
theorem spT_nonneg (hr : 0 ≤ r ∧ r ≤ 50) (hs : ∀ a ∈ sp, 0 ≤ a ∧ a ≤ (n : Int) - 1) (j : Nat) : 0 ≤ spT n r sp j := spM_nonneg hr fun a ha => hs a (List.mem_of_mem_take ha)
theorem tN_cast (hr : 0 ≤ r ∧ r ≤ 50) (hs : ∀ a ∈ sp, 0 ≤ a ∧ a ≤ (n : Int) - 1) (j : Nat) : spT n r sp j = (tN n r sp j : Int) := by
  have := spT_nonneg hr hs j
  unfold tN; omega
theorem spT_le (hr : 0 ≤ r ∧ r ≤ 50) (hs : ∀ a ∈ sp, 0 ≤ a ∧ a ≤ (n : Int) - 1) (j : Nat) : spT n r sp j ≤ spM n r sp := by
  have e := spM_append (n := n) (r := r) (a := sp.take j) (b := sp.drop j)
  rw [List.take_append_drop] at e
  have := spM_nonneg hr (l := sp.drop j) fun a ha => hs a (List.mem_of_mem_drop ha)
  unfold spT; omega
theorem spT_all : spT n r sp sp.length = spM n r sp := by unfold spT; rw [List.take_length]
end
/-- samples put back. -/
def ubP (now seg : List Int) (a : Nat) : List Int := now.take a ++ seg ++ now.drop (a + seg.length)
def ubSeg (n : Nat) (r : Int) (sp kp : List Int) (j : Nat) : List Int := (kp.drop (tN n r sp j)).take ((spF n r (gI sp j)).2 - (spF n r (gI sp j)).1 + 1).toNat
def ubD (n : Nat) (r : Int) (sp kp l : List Int) : Nat → List Int
  | 0 => l
  | d + 1 => ubP (ubD n r sp kp l d) (ubSeg n r sp kp (sp.length - (d + 1))) (spF n r (gI sp (sp.length - (d + 1)))).1.toNat
def ubE (l sp kp : List Int) (r : Int) : Int := if splE l sp r ≠ 0 then splE l sp r else if spM l.length r sp = (kp.length : Int) then 0 else 2
theorem ubE_ok {l sp kp : List Int} {r : Int} (h : ubE l sp kp r = 0) : splE l sp r = 0 ∧ spM l.length r sp = (kp.length : Int) := by
  unfold ubE at h
  split at h
  · rename_i q; exact absurd h q
  · split at h
    · exact ⟨by omega, by assumption⟩
    · cases h
theorem ubSeg_len {n : Nat} {r : Int} {sp kp : List Int} (hr : 0 ≤ r ∧ r ≤ 50) (hs : ∀ a ∈ sp, 0 ≤ a ∧ a ≤ (n : Int) - 1) (hk : spM n r sp = (kp.length : Int)) {j : Nat} (hj : j < sp.length) :
    ((ubSeg n r sp kp j).length : Int) = (spF n r (gI sp j)).2 - (spF n r (gI sp j)).1 + 1 ∧ (tN n r sp (j + 1) : Int) = (tN n r sp j : Int) + ((spF n r (gI sp j)).2 - (spF n r (gI sp j)).1 + 1) ∧ tN n r sp (j + 1) ≤ kp.length := by
  have h1 := tN_cast hr hs j
  have h2 := tN_cast hr hs (j + 1)
  have h3 := spT_next (n := n) (r := r) hj
  have h4 := spT_le hr hs (j + 1)
  have h5 := spF_in hr (hs sp[j] (List.getElem_mem hj))
  rw [← gI_get hj] at h3 h5
  refine ⟨?_, by omega, by omega⟩
  simp only [ubSeg, List.length_take, List.length_drop]
  omega
theorem ubD_len {n : Nat} {r : Int} {sp kp l : List Int} (hl : l.length = n) (hr : 0 ≤ r ∧ r ≤ 50) (hs : ∀ a ∈ sp, 0 ≤ a ∧ a ≤ (n : Int) - 1) (hk : spM n r sp = (kp.length : Int)) : ∀ {d : Nat}, d ≤ sp.length → (ubD n r sp kp l d).length = n
  | 0, _ => hl
  | d + 1, h => by
    have ih := ubD_len hl hr hs hk (d := d) (by omega)
    have hj : sp.length - (d + 1) < sp.length := by omega
    obtain ⟨q1, _, _⟩ := ubSeg_len hr hs hk hj
    have h5 := spF_in hr (hs _ (List.getElem_mem hj))
    rw [← gI_get hj] at h5
    simp only [ubD, ubP, List.length_append, List.length_take, List.length_drop]
    omega

set_option maxRecDepth 100000 in
set_option maxHeartbeats 20000000 in
theorem unbloopR_bad {c c' c2 : Bool} {l sp kp : List Int} {r k : Int} (hk : ubE l sp kp r = k) (h0 : k ≠ 0) :
    Fun F md 45 [.sl c l.length (ofI l), .sl c2 kp.length (ofI kp), .sl c' sp.length (ofI sp), .int .i64 r] (.tup [.sl true 0 [], .int .i64 k]) := by
  have hsp := splicedR_any (c := c) (c' := c') (l := l) (sp := sp) (r := r)
  unfold ubE at hk
  by_cases q1 : splE l sp r = 0
  · rw [if_neg (by omega)] at hk
    rw [q1] at hsp
    obtain ⟨e1, hr, hm, hs⟩ := splE_ok q1
    obtain ⟨hL, hlin⟩ := smp_ok e1
    have hs' := spB_mem hs
    have hall := spT_all (n := l.length) (r := r) (sp := sp)
    generalize l.length = n at *
    split at hk
    · exact absurd hk.symm h0
    · rename_i q2
      subst hk
      refine fun_of rfl rfl ?_
      repeat' (first
        | (conv => whnf)
          first
          | refine Br.t ?_
          | refine Br.f ?_
          | (refine Br.decT ?_ ?_; (focus first | assumption | omega))
          | (refine Br.decF ?_ ?_; (focus first | assumption | omega))
          | refine Br.dec (fun _ => ?_) (fun _ => ?_)
          | refine Br.not ?_
          | refine Br.and ?_
          | refine Br.or ?_
          | (refine Bnd.i64 ?_ ?_ ?_; (focus omega); (focus omega))
          | refine call_fun rfl rfl hsp (.inl rfl) ?_
          | (refine Idx.nat ?_ ?_; (focus omega))
          | refine Idx.nat (le_big (by omega)) ?_
          | (refine Idx.int ?_ ?_ ?_; (focus omega); (focus omega))
          | (refine Idx.int ?_ ?_ ?_; (focus decide); (focus decide))
          | refine Ifz.zero ?_
          | (refine Ifz.pos ?_ ?_; (focus omega))
          | refine Get.mk _ rfl ?_
          | refine Leaves.of ?_
          | refine Ends.of ?_
          | refine Vw.bool ?_
          | refine Vw.int ?_
          | refine Vw.nil
          | refine Vw.sl
          | refine Vw.tup ?_
          | refine Vw.agg ?_
          | refine VwL.cons ?_ ?_
          | refine VwL.nil
          | refine LeavesF.of ?_
          | refine VwF.bool ?_
          | refine VwF.int ?_
          | refine VwF.nil
          | refine VwF.sl
          | refine VwF.tup ?_
          | refine VwF.agg ?_
          | refine VwLF.cons ?_ ?_
          | refine VwLF.nil
          | (refine Req.mk ?_ ?_; (focus first | rfl | decide | exact ⟨rfl, rfl⟩ | exact ⟨rfl, by decide⟩ | exact (fun _ => rfl) | exact (fun h => nomatch h) | (simp; done) | omega | (simp [big]; done) | exact le_big (by omega) | exact lt_big (by omega))))
      all_goals try (exfalso; omega)
      refine LoopP.byU (fun i : Nat => i ≤ sp.length) (fun i => [(11, .int .i64 (spT n r sp i)), (12, .int .i64 (i : Nat))]) (fun _ => []) (fun i => sp.length - i) 0 (Nat.zero_le _) rfl ?_
      intro i hi
      by_cases hin : i < sp.length
      · have hc := gI_cell (l := sp) (i := i) hin
        have hT := spT_next (n := n) (r := r) hin
        have hsb := hs' (gI sp i) (by rw [gI_get hin]; exact List.getElem_mem hin)
        have hsf := spF_in hr hsb
        rw [← gI_get hin] at hT
        have hTr := spT_range hL hr hs hi
        have hf1 : max 0 (gI sp i - r) = (spF n r (gI sp i)).1 := rfl
        have hf2 : min ((n : Int) - 1) (gI sp i + r) = (spF n r (gI sp i)).2 := rfl
        generalize hT1 : spT n r sp (i + 1) = T1 at *
        generalize spT n r sp i = T0 at *
        generalize spF n r (gI sp i) = s at *
        obtain ⟨s1, s2⟩ := s
        dsimp only at hf1 hf2 hT hsf
        generalize gI sp i = a at *
        repeat' (first
          | (conv => whnf)
            first
            | refine Bnd.eq hf1 ?_
            | refine Bnd.eq hf2 ?_
            | refine Bnd.eq ((wrap_i64 (by omega) (by omega)).trans (show _ = T1 by omega)) ?_
            | refine Br.t ?_
            | refine Br.f ?_
            | (refine Br.decT ?_ ?_; (focus first | assumption | omega))
            | (refine Br.decF ?_ ?_; (focus first | assumption | omega))
            | refine Br.dec (fun _ => ?_) (fun _ => ?_)
            | refine Br.not ?_
            | refine Br.and ?_
            | refine Br.or ?_
            | (refine Bnd.i64 ?_ ?_ ?_; (focus omega); (focus omega))
            | refine Get.mk _ hc ?_
            | (refine Idx.nat ?_ ?_; (focus omega))
            | refine Idx.nat (le_big (by omega)) ?_
            | (refine Idx.int ?_ ?_ ?_; (focus omega); (focus omega))
            | (refine Idx.int ?_ ?_ ?_; (focus decide); (focus decide))
            | refine Ifz.zero ?_
            | (refine Ifz.pos ?_ ?_; (focus omega))
            | refine Get.mk _ rfl ?_
            | refine Leaves.of ?_
            | refine Ends.of ?_
            | refine Vw.bool ?_
            | refine Vw.int ?_
            | refine Vw.nil
            | refine Vw.sl
            | refine Vw.tup ?_
            | refine Vw.agg ?_
            | refine VwL.cons ?_ ?_
            | refine VwL.nil
            | refine LeavesF.of ?_
            | refine VwF.bool ?_
            | refine VwF.int ?_
            | refine VwF.nil
            | refine VwF.sl
            | refine VwF.tup ?_
            | refine VwF.agg ?_
            | refine VwLF.cons ?_ ?_
            | refine VwLF.nil
            | (refine Req.mk ?_ ?_; (focus first | rfl | decide | exact ⟨rfl, rfl⟩ | exact ⟨rfl, by decide⟩ | exact (fun _ => rfl) | exact (fun h => nomatch h) | (simp; done) | omega | (simp [big]; done) | exact le_big (by omega) | exact lt_big (by omega))))
        all_goals first | exact NextP.mk (i + 1) (by omega) (by omega) (by rw [hT1]; rfl) | (exfalso; omega)
      · obtain rfl : i = sp.length := by omega
        rw [hall]
        generalize spM n r sp = M at *
        repeat' (first
          | (conv => whnf)
            first
            | refine Br.t ?_
            | refine Br.f ?_
            | (refine Br.decT ?_ ?_; (focus first | assumption | omega))
            | (refine Br.decF ?_ ?_; (focus first | assumption | omega))
            | refine Br.dec (fun _ => ?_) (fun _ => ?_)
            | refine Br.not ?_
            | refine Br.and ?_
            | refine Br.or ?_
            | (refine Bnd.i64 ?_ ?_ ?_; (focus omega); (focus omega))
            | (refine Idx.nat ?_ ?_; (focus omega))
            | refine Idx.nat (le_big (by omega)) ?_
            | (refine Idx.int ?_ ?_ ?_; (focus omega); (focus omega))
            | (refine Idx.int ?_ ?_ ?_; (focus decide); (focus decide))
            | refine Ifz.zero ?_
            | (refine Ifz.pos ?_ ?_; (focus omega))
            | refine Get.mk _ rfl ?_
            | refine Leaves.of ?_
            | refine Ends.of ?_
            | refine Vw.bool ?_
            | refine Vw.int ?_
            | refine Vw.nil
            | refine Vw.sl
            | refine Vw.tup ?_
            | refine Vw.agg ?_
            | refine VwL.cons ?_ ?_
            | refine VwL.nil
            | refine LeavesF.of ?_
            | refine VwF.bool ?_
            | refine VwF.int ?_
            | refine VwF.nil
            | refine VwF.sl
            | refine VwF.tup ?_
            | refine VwF.agg ?_
            | refine VwLF.cons ?_ ?_
            | refine VwLF.nil
            | (refine Req.mk ?_ ?_; (focus first | rfl | decide | exact ⟨rfl, rfl⟩ | exact ⟨rfl, by decide⟩ | exact (fun _ => rfl) | exact (fun h => nomatch h) | (simp; done) | omega | (simp [big]; done) | exact le_big (by omega) | exact lt_big (by omega))))
        all_goals first | rfl | (exfalso; omega)
  · rw [if_pos q1] at hk
    rw [hk] at hsp
    refine fun_of rfl rfl ?_
    repeat' (first
      | (conv => whnf)
        first
        | refine Br.t ?_
        | refine Br.f ?_
        | (refine Br.decT ?_ ?_; (focus first | assumption | omega))
        | (refine Br.decF ?_ ?_; (focus first | assumption | omega))
        | refine Br.dec (fun _ => ?_) (fun _ => ?_)
        | refine Br.not ?_
        | refine Br.and ?_
        | refine Br.or ?_
        | (refine Bnd.i64 ?_ ?_ ?_; (focus omega); (focus omega))
        | refine call_fun rfl rfl hsp (.inl rfl) ?_
        | (refine Idx.nat ?_ ?_; (focus omega))
        | refine Idx.nat (le_big (by omega)) ?_
        | (refine Idx.int ?_ ?_ ?_; (focus omega); (focus omega))
        | (refine Idx.int ?_ ?_ ?_; (focus decide); (focus decide))
        | refine Ifz.zero ?_
        | (refine Ifz.pos ?_ ?_; (focus omega))
        | refine Get.mk _ rfl ?_
        | refine Leaves.of ?_
        | refine Ends.of ?_
        | refine Vw.bool ?_
        | refine Vw.int ?_
        | refine Vw.nil
        | refine Vw.sl
        | refine Vw.tup ?_
        | refine Vw.agg ?_
        | refine VwL.cons ?_ ?_
        | refine VwL.nil
        | refine LeavesF.of ?_
        | refine VwF.bool ?_
        | refine VwF.int ?_
        | refine VwF.nil
        | refine VwF.sl
        | refine VwF.tup ?_
        | refine VwF.agg ?_
        | refine VwLF.cons ?_ ?_
        | refine VwLF.nil
        | (refine Req.mk ?_ ?_; (focus first | rfl | decide | exact ⟨rfl, rfl⟩ | exact ⟨rfl, by decide⟩ | exact (fun _ => rfl) | exact (fun h => nomatch h) | (simp; done) | omega | (simp [big]; done) | exact le_big (by omega) | exact lt_big (by omega))))
    all_goals try (exfalso; omega)
    refine LoopP.byU (fun _ : Unit => True) (fun _ => [(11, .int .i64 0), (12, .int .i64 ((0 : Nat) : Int))]) (fun _ => []) (fun _ => 0) () trivial rfl ?_
    intro _ _
    repeat' (first
      | (conv => whnf)
        first
        | refine Br.t ?_
        | refine Br.f ?_
        | (refine Br.decT ?_ ?_; (focus first | assumption | omega))
        | (refine Br.decF ?_ ?_; (focus first | assumption | omega))
        | refine Br.dec (fun _ => ?_) (fun _ => ?_)
        | refine Br.not ?_
        | refine Br.and ?_
        | refine Br.or ?_
        | (refine Bnd.i64 ?_ ?_ ?_; (focus omega); (focus omega))
        | (refine Idx.nat ?_ ?_; (focus omega))
        | refine Idx.nat (le_big (by omega)) ?_
        | (refine Idx.int ?_ ?_ ?_; (focus omega); (focus omega))
        | (refine Idx.int ?_ ?_ ?_; (focus decide); (focus decide))
        | refine Ifz.zero ?_
        | (refine Ifz.pos ?_ ?_; (focus omega))
        | refine Get.mk _ rfl ?_
        | refine Leaves.of ?_
        | refine Ends.of ?_
        | refine Vw.bool ?_
        | refine Vw.int ?_
        | refine Vw.nil
        | refine Vw.sl
        | refine Vw.tup ?_
        | refine Vw.agg ?_
        | refine VwL.cons ?_ ?_
        | refine VwL.nil
        | refine LeavesF.of ?_
        | refine VwF.bool ?_
        | refine VwF.int ?_
        | refine VwF.nil
        | refine VwF.sl
        | refine VwF.tup ?_
        | refine VwF.agg ?_
        | refine VwLF.cons ?_ ?_
        | refine VwLF.nil
        | (refine Req.mk ?_ ?_; (focus first | rfl | decide | exact ⟨rfl, rfl⟩ | exact ⟨rfl, by decide⟩ | exact (fun _ => rfl) | exact (fun h => nomatch h) | (simp; done) | omega | (simp [big]; done) | exact le_big (by omega) | exact lt_big (by omega))))
    all_goals first | rfl | (exfalso; omega)

set_option maxRecDepth 100000 in
set_option maxHeartbeats 20000000 in
theorem unbloopR_ok {c c' c2 : Bool} {l sp kp : List Int} {r : Int} (hE : ubE l sp kp r = 0) (h0 : l.length ≠ 0) :
    Fun F md 45 [.sl c l.length (ofI l), .sl c2 kp.length (ofI kp), .sl c' sp.length (ofI sp), .int .i64 r] (.tup [.sl false l.length (ofI (ubD l.length r sp kp l sp.length)), .int .i64 0]) := by
  have hsp := splicedR_any (c := c) (c' := c') (l := l) (sp := sp) (r := r)
  obtain ⟨q1, hkp⟩ := ubE_ok hE
  rw [q1] at hsp
  obtain ⟨e1, hr, hm, hs⟩ := splE_ok q1
  obtain ⟨hL, hlin⟩ := smp_ok e1
  have hs' := spB_mem hs
  have hall := spT_all (n := l.length) (r := r) (sp := sp)
  have hkl : (kp.length : Int) ≤ 240000 := by
    have := spT_range hL hr hs (Nat.le_refl sp.length)
    rw [hall, hkp] at this; omega
  have hlb : (ofI l).length = l.length := ofI_length l
  have hq1 : (ofI l).length = l.length * 1 := by rw [hlb, Nat.mul_one]
  have hq2 : (([] : List V).length + (ofI l).length) * (8 + 1) < big := by rw [hlb]; simp [big]; omega
  have hq3 : true = true → scalars (([] : List V) ++ ofI l) = true := fun _ => scal_ints l
  have hcl := fun j => tN_cast (n := l.length) hr hs' j
  have hseg := fun {j : Nat} (hj : j < sp.length) => ubSeg_len (n := l.length) (kp := kp) hr hs' hkp hj
  have hdl := fun {d : Nat} (hd : d ≤ sp.length) => ubD_len (n := l.length) (l := l) (kp := kp) rfl hr hs' hkp hd
  have hD1 : ∀ d, ubD l.length r sp kp l (d + 1) = ubP (ubD l.length r sp kp l d) (ubSeg l.length r sp kp (sp.length - (d + 1))) (spF l.length r (gI sp (sp.length - (d + 1)))).1.toNat := fun d => rfl
  have hD0 : ubD l.length r sp kp l 0 = l := rfl
  have hSg : ∀ j, ubSeg l.length r sp kp j = (kp.drop (tN l.length r sp j)).take ((spF l.length r (gI sp j)).2 - (spF l.length r (gI sp j)).1 + 1).toNat := fun j => rfl
  have hf0 : ∀ x, max 0 (x - r) = (spF l.length r x).1 := fun _ => rfl
  have hf3 : ∀ x, min ((l.length : Int) - 1) (x + r) = (spF l.length r x).2 := fun _ => rfl
  generalize hn : l.length = n at *
  refine fun_of rfl rfl ?_
  repeat' (first
    | (conv => whnf)
      first
      | refine Br.t ?_
      | refine Br.f ?_
      | (refine Br.decT ?_ ?_; (focus first | assumption | omega))
      | (refine Br.decF ?_ ?_; (focus first | assumption | omega))
      | refine Br.dec (fun _ => ?_) (fun _ => ?_)
      | refine Br.not ?_
      | refine Br.and ?_
      | refine Br.or ?_
      | (refine Bnd.i64 ?_ ?_ ?_; (focus omega); (focus omega))
      | refine call_fun rfl rfl hsp (.inl rfl) ?_
      | (refine Idx.nat ?_ ?_; (focus omega))
      | refine Idx.nat (le_big (by omega)) ?_
      | (refine Idx.int ?_ ?_ ?_; (focus omega); (focus omega))
      | (refine Idx.int ?_ ?_ ?_; (focus decide); (focus decide))
      | refine Ifz.zero ?_
      | (refine Ifz.pos ?_ ?_; (focus omega))
      | refine Get.mk _ rfl ?_
      | refine Leaves.of ?_
      | refine Ends.of ?_
      | refine Vw.bool ?_
      | refine Vw.int ?_
      | refine Vw.nil
      | refine Vw.sl
      | refine Vw.tup ?_
      | refine Vw.agg ?_
      | refine VwL.cons ?_ ?_
      | refine VwL.nil
      | refine LeavesF.of ?_
      | refine VwF.bool ?_
      | refine VwF.int ?_
      | refine VwF.nil
      | refine VwF.sl
      | refine VwF.tup ?_
      | refine VwF.agg ?_
      | refine VwLF.cons ?_ ?_
      | refine VwLF.nil
      | (refine Req.mk ?_ ?_; (focus first | rfl | decide | exact ⟨rfl, rfl⟩ | exact ⟨rfl, by decide⟩ | exact (fun _ => rfl) | exact (fun h => nomatch h) | (simp; done) | omega | (simp [big]; done) | exact le_big (by omega) | exact lt_big (by omega))))
  all_goals try (exfalso; omega)
  refine LoopP.byU (fun i : Nat => i ≤ sp.length) (fun i => [(11, .int .i64 (spT n r sp i)), (12, .int .i64 (i : Nat))]) (fun _ => []) (fun i => sp.length - i) 0 (Nat.zero_le _) rfl ?_
  intro i hi
  by_cases hin : i < sp.length
  · clear hcl hseg hdl hD1 hD0 hSg hf0 hf3 hall
    have hc := gI_cell (l := sp) (i := i) hin
    have hT := spT_next (n := n) (r := r) hin
    have hsb := hs' (gI sp i) (by rw [gI_get hin]; exact List.getElem_mem hin)
    have hsf := spF_in hr hsb
    rw [← gI_get hin] at hT
    have hTr := spT_range hL hr hs hi
    have hf1 : max 0 (gI sp i - r) = (spF n r (gI sp i)).1 := rfl
    have hf2 : min ((n : Int) - 1) (gI sp i + r) = (spF n r (gI sp i)).2 := rfl
    generalize hT1 : spT n r sp (i + 1) = T1 at *
    generalize spT n r sp i = T0 at *
    generalize spF n r (gI sp i) = s at *
    obtain ⟨s1, s2⟩ := s
    dsimp only at hf1 hf2 hT hsf
    generalize gI sp i = a at *
    repeat' (first
      | (conv => whnf)
        first
        | refine Bnd.eq hf1 ?_
        | refine Bnd.eq hf2 ?_
        | refine Bnd.eq ((wrap_i64 (by omega) (by omega)).trans (show _ = T1 by omega)) ?_
        | refine Br.t ?_
        | refine Br.f ?_
        | (refine Br.decT ?_ ?_; (focus first | assumption | omega))
        | (refine Br.decF ?_ ?_; (focus first | assumption | omega))
        | refine Br.dec (fun _ => ?_) (fun _ => ?_)
        | refine Br.not ?_
        | refine Br.and ?_
        | refine Br.or ?_
        | (refine Bnd.i64 ?_ ?_ ?_; (focus omega); (focus omega))
        | refine Get.mk _ hc ?_
        | (refine Idx.nat ?_ ?_; (focus omega))
        | refine Idx.nat (le_big (by omega)) ?_
        | (refine Idx.int ?_ ?_ ?_; (focus omega); (focus omega))
        | (refine Idx.int ?_ ?_ ?_; (focus decide); (focus decide))
        | refine Ifz.zero ?_
        | (refine Ifz.pos ?_ ?_; (focus omega))
        | refine Get.mk _ rfl ?_
        | refine Leaves.of ?_
        | refine Ends.of ?_
        | refine Vw.bool ?_
        | refine Vw.int ?_
        | refine Vw.nil
        | refine Vw.sl
        | refine Vw.tup ?_
        | refine Vw.agg ?_
        | refine VwL.cons ?_ ?_
        | refine VwL.nil
        | refine LeavesF.of ?_
        | refine VwF.bool ?_
        | refine VwF.int ?_
        | refine VwF.nil
        | refine VwF.sl
        | refine VwF.tup ?_
        | refine VwF.agg ?_
        | refine VwLF.cons ?_ ?_
        | refine VwLF.nil
        | (refine Req.mk ?_ ?_; (focus first | rfl | decide | exact ⟨rfl, rfl⟩ | exact ⟨rfl, by decide⟩ | exact (fun _ => rfl) | exact (fun h => nomatch h) | (simp; done) | omega | (simp [big]; done) | exact le_big (by omega) | exact lt_big (by omega))))
    all_goals first | exact NextP.mk (i + 1) (by omega) (by omega) (by rw [hT1]; rfl) | (exfalso; omega)
  · obtain rfl : i = sp.length := by omega
    rw [hall]
    clear hin hi
    repeat' (first
      | (conv => whnf)
        first
        | refine Br.t ?_
        | refine Br.f ?_
        | (refine Br.decT ?_ ?_; (focus first | assumption | omega))
        | (refine Br.decF ?_ ?_; (focus first | assumption | omega))
        | refine Br.dec (fun _ => ?_) (fun _ => ?_)
        | refine Br.not ?_
        | refine Br.and ?_
        | refine Br.or ?_
        | (refine Bnd.i64 ?_ ?_ ?_; (focus omega); (focus omega))
        | refine Req.mk hq1 ?_
        | refine Req.mk hq2 ?_
        | refine Req.mk hq3 ?_
        | (refine Idx.nat ?_ ?_; (focus omega))
        | refine Idx.nat (le_big (by omega)) ?_
        | (refine Idx.int ?_ ?_ ?_; (focus omega); (focus omega))
        | (refine Idx.int ?_ ?_ ?_; (focus decide); (focus decide))
        | refine Ifz.zero ?_
        | (refine Ifz.pos ?_ ?_; (focus omega))
        | refine Get.mk _ rfl ?_
        | refine Leaves.of ?_
        | refine Ends.of ?_
        | refine Vw.bool ?_
        | refine Vw.int ?_
        | refine Vw.nil
        | refine Vw.sl
        | refine Vw.tup ?_
        | refine Vw.agg ?_
        | refine VwL.cons ?_ ?_
        | refine VwL.nil
        | refine LeavesF.of ?_
        | refine VwF.bool ?_
        | refine VwF.int ?_
        | refine VwF.nil
        | refine VwF.sl
        | refine VwF.tup ?_
        | refine VwF.agg ?_
        | refine VwLF.cons ?_ ?_
        | refine VwLF.nil
        | (refine Req.mk ?_ ?_; (focus first | rfl | decide | exact ⟨rfl, rfl⟩ | exact ⟨rfl, by decide⟩ | exact (fun _ => rfl) | exact (fun h => nomatch h) | (simp; done) | omega | (simp [big]; done) | exact le_big (by omega) | exact lt_big (by omega))))
    all_goals try (exfalso; omega)
    refine LoopP.byU (fun j : Nat => j ≤ sp.length) (fun j => [(11, .int .i64 (tN n r sp j)), (14, .int .i64 ((j : Int) - 1))]) (fun j => [(0, .blk (ofI (ubD n r sp kp l (sp.length - j))) true)]) (fun j => j) sp.length (Nat.le_refl _) (by rw [Nat.sub_self, hD0, ← hcl, hall]; rfl) ?_
    intro j hj
    cases j with
    | zero =>
      have hfin := hdl (Nat.le_refl sp.length)
      rw [Nat.sub_zero]
      generalize ubD n r sp kp l sp.length = Z at *
      have hlv : ([] : List V).length + (ofI l).length = Z.length := by rw [hlb, hfin]; simp
      have hlw : 0 + n = Z.length := by rw [hfin]; simp
      repeat' (first
        | (conv => whnf)
          first
          | refine Br.t ?_
          | refine Br.f ?_
          | (refine Br.decT ?_ ?_; (focus first | assumption | omega))
          | (refine Br.decF ?_ ?_; (focus first | assumption | omega))
          | refine Br.dec (fun _ => ?_) (fun _ => ?_)
          | refine Br.not ?_
          | refine Br.and ?_
          | refine Br.or ?_
          | (refine Bnd.i64 ?_ ?_ ?_; (focus omega); (focus omega))
          | refine Vw.ints rfl rfl hlv hlw hfin.symm
          | (refine Idx.nat ?_ ?_; (focus omega))
          | refine Idx.nat (le_big (by omega)) ?_
          | (refine Idx.int ?_ ?_ ?_; (focus omega); (focus omega))
          | (refine Idx.int ?_ ?_ ?_; (focus decide); (focus decide))
          | refine Ifz.zero ?_
          | (refine Ifz.pos ?_ ?_; (focus omega))
          | refine Get.mk _ rfl ?_
          | refine Leaves.of ?_
          | refine Ends.of ?_
          | refine Vw.bool ?_
          | refine Vw.int ?_
          | refine Vw.nil
          | refine Vw.sl
          | refine Vw.tup ?_
          | refine Vw.agg ?_
          | refine VwL.cons ?_ ?_
          | refine VwL.nil
          | refine LeavesF.of ?_
          | refine VwF.bool ?_
          | refine VwF.int ?_
          | refine VwF.nil
          | refine VwF.sl
          | refine VwF.tup ?_
          | refine VwF.agg ?_
          | refine VwLF.cons ?_ ?_
          | refine VwLF.nil
          | (refine Req.mk ?_ ?_; (focus first | rfl | decide | exact ⟨rfl, rfl⟩ | exact ⟨rfl, by decide⟩ | exact (fun _ => rfl) | exact (fun h => nomatch h) | (simp; done) | omega | (simp [big]; done) | exact le_big (by omega) | exact lt_big (by omega))))
      all_goals first | rfl | (exfalso; omega)
    | succ j =>
      have hjl : j < sp.length := by omega
      have hc := gI_cell (l := sp) (i := j) hjl
      obtain ⟨g1, g2, g3⟩ := hseg hjl
      have hsb := hs' (gI sp j) (by rw [gI_get hjl]; exact List.getElem_mem hjl)
      have hsf := spF_in hr hsb
      have hf1 := hf0 (gI sp j)
      have hf2 := hf3 (gI sp j)
      have hnl := hdl (d := sp.length - (j + 1)) (by omega)
      have hnx := hD1 (sp.length - (j + 1))
      have hSgj := hSg j
      rw [show sp.length - (sp.length - (j + 1) + 1) = j by omega, show sp.length - (j + 1) + 1 = sp.length - j by omega] at hnx
      generalize hN2 : ubD n r sp kp l (sp.length - j) = now2 at *
      generalize ubD n r sp kp l (sp.length - (j + 1)) = now at *
      generalize hT1 : tN n r sp j = T1 at *
      generalize tN n r sp (j + 1) = T0 at *
      generalize ubSeg n r sp kp j = R at *
      generalize spF n r (gI sp j) = s at *
      generalize gI sp j = at' at *
      obtain ⟨xa, xb⟩ := s
      dsimp only at hf1 hf2 hsf g1 g2 hnx hSgj
      clear hcl hseg hdl hD1 hD0 hSg hf0 hf3 hall hs'
      obtain ⟨a, rfl⟩ := Int.eq_ofNat_of_zero_le hsf.1
      obtain ⟨b, rfl⟩ := Int.eq_ofNat_of_zero_le (show 0 ≤ xb by omega)
      rw [Int.toNat_natCast] at hnx
      have hR : R.length = b + 1 - a := by omega
      have hTT : IntKind.i64.wrap ((T0 : Int) - ((b : Int) - (a : Int) + 1)) = (T1 : Int) := by rw [wrap_i64 (by omega) (by omega)]; omega
      have hj1 : ((j + 1 : Nat) : Int) - 1 = ((j : Nat) : Int) := by omega
      have hdec : IntKind.i64.wrap (((j + 1 : Nat) : Int) - 1 - 1) = (j : Int) - 1 := by rw [wrap_i64 (by omega) (by omega)]; omega
      have hfull := blM_full (n := n) (now := now) (R := R) (a := a) hnl (by omega)
      have hzero := blM_zero (n := n) (now := now) (R := R) (a := a) hnl
      rw [show now.take a ++ R ++ now.drop (a + R.length) = now2 from hnx.symm, hR] at hfull
      have hgR : ∀ k, k < b + 1 - a → gI R k = gI kp (T1 + k) ∧ T1 + k < kp.length := by
        intro k hk
        have h1 : k < R.length := by omega
        refine ⟨?_, by omega⟩
        rw [gI_get h1, gI_get (by omega)]
        simp [hSgj]
      rw [← hzero]
      repeat' (first
        | (conv => whnf)
          first
          | refine Bnd.eq hf1 ?_
          | refine Bnd.eq hf2 ?_
          | refine Bnd.eq hTT ?_
          | (refine Idx.cast hj1 ?_ ?_; (focus omega))
          | refine Br.t ?_
          | refine Br.f ?_
          | (refine Br.decT ?_ ?_; (focus first | assumption | omega))
          | (refine Br.decF ?_ ?_; (focus first | assumption | omega))
          | refine Br.dec (fun _ => ?_) (fun _ => ?_)
          | refine Br.not ?_
          | refine Br.and ?_
          | refine Br.or ?_
          | (refine Bnd.i64 ?_ ?_ ?_; (focus omega); (focus omega))
          | refine Get.mk _ hc ?_
          | (refine Idx.nat ?_ ?_; (focus omega))
          | refine Idx.nat (le_big (by omega)) ?_
          | (refine Idx.int ?_ ?_ ?_; (focus omega); (focus omega))
          | (refine Idx.int ?_ ?_ ?_; (focus decide); (focus decide))
          | refine Ifz.zero ?_
          | (refine Ifz.pos ?_ ?_; (focus omega))
          | refine Get.mk _ rfl ?_
          | refine Leaves.of ?_
          | refine Ends.of ?_
          | refine Vw.bool ?_
          | refine Vw.int ?_
          | refine Vw.nil
          | refine Vw.sl
          | refine Vw.tup ?_
          | refine Vw.agg ?_
          | refine VwL.cons ?_ ?_
          | refine VwL.nil
          | refine LeavesF.of ?_
          | refine VwF.bool ?_
          | refine VwF.int ?_
          | refine VwF.nil
          | refine VwF.sl
          | refine VwF.tup ?_
          | refine VwF.agg ?_
          | refine VwLF.cons ?_ ?_
          | refine VwLF.nil
          | (refine Req.mk ?_ ?_; (focus first | rfl | decide | exact ⟨rfl, rfl⟩ | exact ⟨rfl, by decide⟩ | exact (fun _ => rfl) | exact (fun h => nomatch h) | (simp; done) | omega | (simp [big]; done) | exact le_big (by omega) | exact lt_big (by omega))))
      all_goals try (exfalso; omega)
      refine LoopP.byU (fun k : Nat => k ≤ b + 1 - a) (fun k => [(17, .int .i64 ((a + k : Nat) : Int))]) (fun k => [(0, .blk (ofI (blM n now R a k)) true)]) (fun k => b + 1 - a - k) 0 (Nat.zero_le _) rfl ?_
      intro k hk
      by_cases hkN : k < b + 1 - a
      · have hput := ofI_put0 (l := blM n now R a k) (i := a + k) (v := gI R k) (by rw [blM_length]; omega)
        rw [blM_set] at hput
        have hg1 : (ofI (blM n now R a k)).length = ([] : List V).length + (ofI l).length := by rw [ofI_length, hlb, blM_length]; simp
        have hgo : 0 + (a + k) * 1 + 1 ≤ (ofI (blM n now R a k)).length := by rw [ofI_length, blM_length]; omega
        obtain ⟨r1, r2⟩ := hgR k hkN
        have hck := gI_cell r2
        rw [← r1] at hck
        have hs1 : IntKind.i64.wrap ((T1 : Int) + ((a + k : Nat) : Int)) = ((T1 + (a + k) : Nat) : Int) := by rw [wrap_i64 (by omega) (by omega)]; omega
        have hs2 : IntKind.i64.wrap (((T1 + (a + k) : Nat) : Int) - (a : Int)) = ((T1 + k : Nat) : Int) := by rw [wrap_i64 (by omega) (by omega)]; omega
        generalize hC2 : ofI (blM n now R a (k + 1)) = C2 at *
        generalize ofI (blM n now R a k) = C0 at *
        generalize gI R k = v at *
        repeat' (first
          | (conv => whnf)
            first
            | refine Bnd.eq hs1 ?_
            | refine Bnd.eq hs2 ?_
            | refine Br.t ?_
            | refine Br.f ?_
            | (refine Br.decT ?_ ?_; (focus first | assumption | omega))
            | (refine Br.decF ?_ ?_; (focus first | assumption | omega))
            | refine Br.dec (fun _ => ?_) (fun _ => ?_)
            | refine Br.not ?_
            | refine Br.and ?_
            | refine Br.or ?_
            | (refine Bnd.i64 ?_ ?_ ?_; (focus omega); (focus omega))
            | refine Get.mk _ hck ?_
            | refine fVe hput ?_
            | refine Req.mk hg1 ?_
            | refine Req.mk ⟨hg1, hgo⟩ ?_
            | (refine Idx.nat ?_ ?_; (focus omega))
            | refine Idx.nat (le_big (by omega)) ?_
            | (refine Idx.int ?_ ?_ ?_; (focus omega); (focus omega))
            | (refine Idx.int ?_ ?_ ?_; (focus decide); (focus decide))
            | refine Ifz.zero ?_
            | (refine Ifz.pos ?_ ?_; (focus omega))
            | refine Get.mk _ rfl ?_
            | refine Leaves.of ?_
            | refine Ends.of ?_
            | refine Vw.bool ?_
            | refine Vw.int ?_
            | refine Vw.nil
            | refine Vw.sl
            | refine Vw.tup ?_
            | refine Vw.agg ?_
            | refine VwL.cons ?_ ?_
            | refine VwL.nil
            | refine LeavesF.of ?_
            | refine VwF.bool ?_
            | refine VwF.int ?_
            | refine VwF.nil
            | refine VwF.sl
            | refine VwF.tup ?_
            | refine VwF.agg ?_
            | refine VwLF.cons ?_ ?_
            | refine VwLF.nil
            | (refine Req.mk ?_ ?_; (focus first | rfl | decide | exact ⟨rfl, rfl⟩ | exact ⟨rfl, by decide⟩ | exact (fun _ => rfl) | exact (fun h => nomatch h) | (simp; done) | omega | (simp [big]; done) | exact le_big (by omega) | exact lt_big (by omega))))
        all_goals first | exact NextP.mk (k + 1) (by omega) (by omega) (by rw [hC2]; rfl) | (exfalso; omega)
      · obtain hkN : k = b + 1 - a := by omega
        subst hkN
        rw [hfull]
        repeat' (first
          | (conv => whnf)
            first
            | refine Bnd.eq hdec ?_
            | refine Br.t ?_
            | refine Br.f ?_
            | (refine Br.decT ?_ ?_; (focus first | assumption | omega))
            | (refine Br.decF ?_ ?_; (focus first | assumption | omega))
            | refine Br.dec (fun _ => ?_) (fun _ => ?_)
            | refine Br.not ?_
            | refine Br.and ?_
            | refine Br.or ?_
            | (refine Bnd.i64 ?_ ?_ ?_; (focus omega); (focus omega))
            | (refine Idx.nat ?_ ?_; (focus omega))
            | refine Idx.nat (le_big (by omega)) ?_
            | (refine Idx.int ?_ ?_ ?_; (focus omega); (focus omega))
            | (refine Idx.int ?_ ?_ ?_; (focus decide); (focus decide))
            | refine Ifz.zero ?_
            | (refine Ifz.pos ?_ ?_; (focus omega))
            | refine Get.mk _ rfl ?_
            | refine Leaves.of ?_
            | refine Ends.of ?_
            | refine Vw.bool ?_
            | refine Vw.int ?_
            | refine Vw.nil
            | refine Vw.sl
            | refine Vw.tup ?_
            | refine Vw.agg ?_
            | refine VwL.cons ?_ ?_
            | refine VwL.nil
            | refine LeavesF.of ?_
            | refine VwF.bool ?_
            | refine VwF.int ?_
            | refine VwF.nil
            | refine VwF.sl
            | refine VwF.tup ?_
            | refine VwF.agg ?_
            | refine VwLF.cons ?_ ?_
            | refine VwLF.nil
            | (refine Req.mk ?_ ?_; (focus first | rfl | decide | exact ⟨rfl, rfl⟩ | exact ⟨rfl, by decide⟩ | exact (fun _ => rfl) | exact (fun h => nomatch h) | (simp; done) | omega | (simp [big]; done) | exact le_big (by omega) | exact lt_big (by omega))))
        all_goals first | exact NextP.mk j (by omega) (by omega) (by rw [hN2, hT1]; rfl) | (exfalso; omega)

end Go.Dr.T
