/- Chapter 09: the law SoundQuiet. -/
import Derived.Test.YtokbdaiamhibeaaR09Qu
namespace Go.Dr.T

theorem LoopP.byQ {w : St → (X → St → Prop) → Prop} {m : List Bool} {hl : Nat} {tm : List V} {h : List B} {Q : X → St → Prop} {α : Type} (P : α → Prop) (us : α → List (Nat × V)) (bs : α → List (Nat × B)) (μ : α → Nat) (a0 : α) (p0 : P a0)
    (h0 : (⟨tm, h⟩ : St) = ⟨upds tm (us a0), bupds h (bs a0)⟩)
    (step : ∀ a, P a → fV (upds tm (us a)) fun tm' => fB (bupds h (bs a)) fun h' => w ⟨tm', h'⟩ fun x s => match x with
      | .nrm => NextP P (fun a => (⟨upds tm (us a), bupds h (bs a)⟩ : St)) μ a (norm m hl s)
      | x => Q x s) : LoopP w m hl ⟨tm, h⟩ Q := LoopP.by P us (fun a => bupds h (bs a)) μ a0 p0 h0 step
theorem sumR_cnt {l : List Int} {p k : Nat} (hg : ∀ i, -1000000 ≤ gI l i ∧ gI l i ≤ 1000000) : ∀ i : Nat, -(1000000 * cntR p k i) ≤ sumR l p k i ∧ sumR l p k i ≤ 1000000 * cntR p k i
  | 0 => by simp [sumR, cntR]
  | i + 1 => by
    have := sumR_cnt (p := p) (k := k) hg i
    have := hg i
    simp only [sumR, cntR]
    split <;> omega
theorem mean_in {l : List Int} {p k : Nat} (hg : ∀ i, -1000000 ≤ gI l i ∧ gI l i ≤ 1000000) (hk : k < p) (hkl : k < l.length) : -1000000 ≤ meanR l k p ∧ meanR l k p ≤ 1000000 := by
  have hs := sumR_cnt (p := p) (k := k) hg l.length
  have hc := cntR_pos (p := p) hk (n := l.length) hkl
  unfold meanR
  constructor
  · refine (Int.le_ediv_iff_mul_le (by omega)).2 ?_
    omega
  · have := Int.ediv_le_ediv (show 0 < cntR p k l.length by omega) hs.2
    rwa [Int.mul_ediv_cancel _ (by omega)] at this
theorem smp_of {l : List Int} {m : Int} (h1 : l.length ≤ 4000) (h2 : ∀ x ∈ l, -m ≤ x ∧ x ≤ m) : smpE l m = 0 := by
  unfold smpE
  rw [if_neg (by omega), if_pos]
  rw [List.all_eq_true]
  intro x hx
  have := h2 x hx
  unfold inM
  rw [decide_eq_true this.1, decide_eq_true this.2]; rfl
theorem hum_fine {l : List Int} {p : Nat} (hE : smpE l 1000000 = 0) (hp : 1 ≤ p) (hp5 : p ≤ 500) (hpl : p ≤ l.length) : humE l (acc (humX l p) p) = 0 := by
  obtain ⟨hL, hin⟩ := smp_ok hE
  have hg := gI_in (m := 1000000) (by omega) hin
  unfold humE
  have a1 : smpE l 4000000 = 0 := smp_of hL fun x hx => by have := hin x hx; omega
  have a2 : smpE (acc (humX l p) p) 2000000 = 0 := by
    refine smp_of (by rw [acc_length]; omega) fun x hx => ?_
    unfold acc at hx
    obtain ⟨k, hk, rfl⟩ := List.mem_map.1 hx
    have hk := List.mem_range.1 hk
    have m1 := mean_in (p := p) hg hk (by omega)
    have m0 := mean_in (p := 1) (k := 0) hg (by omega) (by omega)
    unfold humX; omega
  rw [a1, if_neg (by simp), acc_length, if_neg (by omega), if_neg (by omega), a2]
abbrev plV (b s m : Int) (c2 : Bool) (sp : List Int) (r : Int) (c3 : Bool) (kp : List Int) : V := .agg [.int .i64 b, .int .i64 s, .int .i64 m, .sl c2 sp.length (ofI sp), .int .i64 r, .sl c3 kp.length (ofI kp)]
theorem ms_views {h : List B} {N : Nat} {cl : Bool} {L : List Int} {vs vs' : List V} (h1 : bget h 1 = some (.blk (ofI L) true)) (hN : L.length = N) (hv : VwL h 64 vs vs') : views h depth ([.ms 1 1 (N * 1) 0 N cl] ++ vs ++ []) = some ([.sl cl N (ofI L)] ++ vs') := by
  subst hN
  rw [List.append_nil]
  exact (VwL.cons (Vw.ints h1 rfl (Nat.mul_one _) rfl rfl) hv : VwL h 64 _ _).1

/-! behind the hum: from Pull on -/
theorem ms_views2 {h : List B} {N : Nat} {cl : Bool} {L : List Int} (h1 : bget h 1 = some (.blk (ofI L) true)) (hN : L.length = N) : views h depth ([.sl false N (ofI L), .ms 1 1 (N * 1) 0 N cl] ++ []) = some [.sl false N (ofI L), .sl cl N (ofI L)] := by
  subst hN
  exact (VwL.cons Vw.sl (VwL.cons (Vw.ints h1 rfl (Nat.mul_one _) rfl rfl) VwL.nil) : VwL h 64 _ _).1
set_option maxRecDepth 100000 in
set_option maxHeartbeats 20000000 in
theorem quiet_nohum {c c2 c3 : Bool} {l sp kp : List Int} {p b s r k0 : Int} {n : Nat} (hk0 : k0 ≠ 0) (hbh : BadHm (smpE l 1000000) l.length p k0) (hE : smpE l 1000000 = 0) (hl1 : 0 < l.length) (hb : 0 ≤ b ∧ b ≤ 4000000) (hs : 0 ≤ s ∧ s ≤ 4000000) (hn : n ≤ 4000) :
    Fun F md 15 [.sl c l.length (ofI l), .int .i64 p, plV b s (n : Nat) c2 sp r c3 kp] (.bool true) := by
  have hH := hum_bad (c := c) hbh
  have hPl := pull_ok (c := c) hE hl1 hb hs hn
  have hAg := pull_ok (c := c) (b := 0) (s := 1000) (n := l.length) hE hl1 (by omega) (by omega) (smp_ok hE).1
  rw [acc_same] at hAg
  have hSm := ints_same (c := decide (l.length = l.length)) (c' := c) (l := l) (by have := (smp_ok hE).1; omega)
  have hc0 : cellAt (ofI l) (Int.toNat 0 * 1) = some (.int .i64 (gI l 0)) := gI_cell hl1
  have hcell : ∀ i, i < n → cellAt (ofI (acc (pullX l b s) n)) (i * 1) = some (.int .i64 (pullX l b s i)) := by
    intro i hi
    rw [gI_cell (by rw [acc_length]; exact hi), gI_get (by rw [acc_length]; exact hi)]
    simp [acc]
  have hrep : smpE (List.replicate l.length (gI l 0)) 1000000 = 0 := by
    refine smp_of (by have := (smp_ok hE).1; simpa using this) fun x hx => ?_
    rw [List.eq_of_mem_replicate hx]
    exact gI_in (m := 1000000) (by omega) (smp_ok hE).2 0
  have hrl : (List.replicate l.length (gI l 0)).length = l.length := by simp
  have hFl := pull_okF (c := decide (l.length = l.length)) (l := List.replicate l.length (gI l 0)) hrep (by omega) hb hs hn
  rw [hrl] at hFl
  have hsmp := (smp_ok hE).1
  have hcellF : ∀ i, i < n → cellAt (ofI (acc (pullX (List.replicate l.length (gI l 0)) b s) n)) (i * 1) = some (.int .i64 (gI l 0)) := by
    intro i hi
    rw [gI_cell (by rw [acc_length]; exact hi), gI_get (by rw [acc_length]; exact hi)]
    simp [acc, pull_flat hl1]
  have hNo := hum_okF (c := decide (l.length = l.length)) (l := List.replicate l.length (gI l 0)) (p := 1) hrep (by omega) (by omega) (by omega)
  have hone : acc (humX (List.replicate l.length (gI l 0)) 1) 1 = [0] := by simp [acc, humX]
  rw [hone, hrl] at hNo
  have hOne := fun (c : Bool) => ints_same (c := c) (c' := true) (l := [0]) (by simp)
  have hOne := hOne (decide (1 = 1))
  have hSmR := ints_same (c := false) (c' := decide (l.length = l.length)) (l := List.replicate l.length (gI l 0)) (by omega)
  rw [hrl] at hSmR
  have zE : (∃ k9, k9 ≠ 0 ∧ FunF F md 42 [.sl (decide (l.length = l.length)) l.length (ofI (List.replicate l.length (gI l 0))), .sl c2 sp.length (ofI sp), .int .i64 r] (.tup [.sl true 0 [], .sl true 0 [], .int .i64 k9])) ∨ (∃ k1 : Bool, ∃ kk : List Int, FunF F md 42 [.sl (decide (l.length = l.length)) l.length (ofI (List.replicate l.length (gI l 0))), .sl c2 sp.length (ofI sp), .int .i64 r] (.tup [.sl false l.length (ofI (List.replicate l.length (gI l 0))), .sl k1 kk.length (ofI kk), .int .i64 0])) := by
    by_cases he : splE (List.replicate l.length (gI l 0)) sp r = 0
    · obtain ⟨k1, hB⟩ := bloop_okF (c := decide (l.length = l.length)) (c' := c2) he (by omega)
      obtain ⟨_, er, _, es⟩ := splE_ok he
      rw [hrl] at hB
      have hSS : ∀ x ∈ spL l.length r sp, 0 ≤ x.1 ∧ x.1 ≤ x.2 ∧ x.2 ≤ (l.length : Int) - 1 := by
        intro x hx
        unfold spL at hx
        obtain ⟨a, ha, rfl⟩ := List.mem_map.1 hx
        rw [hrl] at es
        exact spF_in er (spB_mem es a ha)
      rcases blp_flat (n := l.length) (v := gI l 0) (S := spL l.length r sp) (kept := []) hSS with e | ⟨kk, e⟩
      · rw [e] at hB
        exact .inl ⟨9, by omega, hB⟩
      · rw [e] at hB
        dsimp only [blV] at hB
        rw [hrl] at hB
        exact .inr ⟨k1, kk, hB⟩
    · have hB := bloop_badF (c := decide (l.length = l.length)) (c' := c2) (sp := sp) (l := List.replicate l.length (gI l 0)) rfl he
      rw [hrl] at hB
      exact .inl ⟨_, he, hB⟩
  have hone2 : ofI [0] = [V.int .i64 0] := rfl
  generalize ofI (acc (pullX l b s) n) = Cp at *
  generalize ofI (acc (pullX (List.replicate l.length (gI l 0)) b s) n) = Cf at *
  refine fun_of rfl rfl ?_
  repeat' (first
    | (conv => whnf)
      first
      | refine Br.t ?_
      | refine Br.f ?_
      | (refine Br.decT ?_ ?_; (focus first | assumption | omega))
      | (refine Br.decF ?_ ?_; (focus first | assumption | omega))
      | refine Br.dec (fun _ => ?_) (fun _ => ?_)
      | refine Br.not ?_
      | refine Br.and ?_
      | refine Br.or ?_
      | (refine Bnd.i64 ?_ ?_ ?_; (focus omega); (focus omega))
      | refine call_fun rfl rfl hH (.inl rfl) ?_
      | (refine Idx.nat ?_ ?_; (focus omega))
      | refine Idx.nat (le_big (by omega)) ?_
      | (refine Idx.int ?_ ?_ ?_; (focus omega); (focus omega))
      | (refine Idx.int ?_ ?_ ?_; (focus decide); (focus decide))
      | refine Ifz.zero ?_
      | (refine Ifz.pos ?_ ?_; (focus omega))
      | refine Get.mk _ rfl ?_
      | refine Leaves.of ?_
      | refine Ends.of ?_
      | refine Vw.bool ?_
      | refine Vw.int ?_
      | refine Vw.nil
      | refine Vw.sl
      | refine Vw.tup ?_
      | refine Vw.agg ?_
      | refine VwL.cons ?_ ?_
      | refine VwL.nil
      | refine LeavesF.of ?_
      | refine VwF.bool ?_
      | refine VwF.int ?_
      | refine VwF.nil
      | refine VwF.sl
      | refine VwF.tup ?_
      | refine VwF.agg ?_
      | refine VwLF.cons ?_ ?_
      | refine VwLF.nil
      | (refine Req.mk ?_ ?_; (focus first | rfl | decide | exact ⟨rfl, rfl⟩ | exact ⟨rfl, by decide⟩ | exact (fun _ => rfl) | exact (fun h => nomatch h) | (simp; done) | omega | (simp [big]; done) | exact le_big (by omega) | exact lt_big (by omega))))
  all_goals try (exfalso; omega)
  repeat' (first
    | (conv => whnf)
      first
      | refine Br.t ?_
      | refine Br.f ?_
      | (refine Br.decT ?_ ?_; (focus first | assumption | omega))
      | (refine Br.decF ?_ ?_; (focus first | assumption | omega))
      | refine Br.dec (fun _ => ?_) (fun _ => ?_)
      | refine Br.not ?_
      | refine Br.and ?_
      | refine Br.or ?_
      | (refine Bnd.i64 ?_ ?_ ?_; (focus omega); (focus omega))
      | refine call_fun rfl rfl hPl (.inl rfl) ?_
      | refine Get.mk _ hc0 ?_
      | (refine Idx.nat ?_ ?_; (focus omega))
      | refine Idx.nat (le_big (by omega)) ?_
      | (refine Idx.int ?_ ?_ ?_; (focus omega); (focus omega))
      | (refine Idx.int ?_ ?_ ?_; (focus decide); (focus decide))
      | refine Ifz.zero ?_
      | (refine Ifz.pos ?_ ?_; (focus omega))
      | refine Get.mk _ rfl ?_
      | refine Leaves.of ?_
      | refine Ends.of ?_
      | refine Vw.bool ?_
      | refine Vw.int ?_
      | refine Vw.nil
      | refine Vw.sl
      | refine Vw.tup ?_
      | refine Vw.agg ?_
      | refine VwL.cons ?_ ?_
      | refine VwL.nil
      | refine LeavesF.of ?_
      | refine VwF.bool ?_
      | refine VwF.int ?_
      | refine VwF.nil
      | refine VwF.sl
      | refine VwF.tup ?_
      | refine VwF.agg ?_
      | refine VwLF.cons ?_ ?_
      | refine VwLF.nil
      | (refine Req.mk ?_ ?_; (focus first | rfl | decide | exact ⟨rfl, rfl⟩ | exact ⟨rfl, by decide⟩ | exact (fun _ => rfl) | exact (fun h => nomatch h) | (simp; done) | omega | (simp [big]; done) | exact le_big (by omega) | exact lt_big (by omega))))
  all_goals try (exfalso; omega)
  refine LoopP.by (fun a : Nat × Int × Int => a.1 ≤ l.length ∧ ∀ j, j < a.1 → a.2.1 ≤ gI l j ∧ gI l j ≤ a.2.2) (fun a => [(13, .int .i64 a.2.1), (14, .int .i64 a.2.2), (16, .int .i64 (a.1 : Nat))]) (fun a => [.blk [.int .i64 b, .int .i64 s, .int .i64 (n : Nat), .sl c2 sp.length (ofI sp), .int .i64 r, .sl c3 kp.length (ofI kp)] false, .blk (ofI (pfx (fun _ => gI l 0) l.length a.1)) true]) (fun a => l.length - a.1) (0, gI l 0, gI l 0) ⟨Nat.zero_le _, fun j hj => by simp at hj⟩ (by rw [← pfx_zero, ← reps_int]; rfl) ?_
  rintro ⟨i, lo, hi⟩ ⟨hi', hlh⟩
  dsimp only at hi' hlh ⊢
  by_cases hin : i < l.length
  · have hci := gI_cell hin
    have hput := ofI_put0 (l := pfx (fun _ => gI l 0) l.length i) (i := i) (v := gI l 0) (by rw [pfx_length]; exact hin)
    have hps := pfx_set (f := fun _ => gI l 0) hin
    rw [hps] at hput
    have hl0 : (ofI (pfx (fun _ => gI l 0) l.length i)).length = l.length * 1 := by rw [ofI_length, pfx_length, Nat.mul_one]
    have hlh2 : ∀ j, j < i + 1 → min lo (gI l i) ≤ gI l j ∧ gI l j ≤ max hi (gI l i) := by
      intro j hj
      by_cases e : j = i
      · subst e; omega
      · have := hlh j (by omega); omega
    generalize hC2 : ofI (pfx (fun _ => gI l 0) l.length (i + 1)) = C2 at *
    generalize ofI (pfx (fun _ => gI l 0) l.length i) = C0 at *
    repeat' (first
      | (conv => whnf)
        first
        | refine Br.t ?_
        | refine Br.f ?_
        | (refine Br.decT ?_ ?_; (focus first | assumption | omega))
        | (refine Br.decF ?_ ?_; (focus first | assumption | omega))
        | refine Br.dec (fun _ => ?_) (fun _ => ?_)
        | refine Br.not ?_
        | refine Br.and ?_
        | refine Br.or ?_
        | (refine Bnd.i64 ?_ ?_ ?_; (focus omega); (focus omega))
        | refine Get.mk _ hc0 ?_
        | refine Get.mk _ hci ?_
        | refine Bnd.any ?_
        | refine fVe hput ?_
        | refine Req.mk hl0 ?_
        | refine Req.mk ⟨hl0, by omega⟩ ?_
        | (refine Idx.nat ?_ ?_; (focus omega))
        | refine Idx.nat (le_big (by omega)) ?_
        | (refine Idx.int ?_ ?_ ?_; (focus omega); (focus omega))
        | (refine Idx.int ?_ ?_ ?_; (focus decide); (focus decide))
        | refine Ifz.zero ?_
        | (refine Ifz.pos ?_ ?_; (focus omega))
        | refine Get.mk _ rfl ?_
        | refine Leaves.of ?_
        | refine Ends.of ?_
        | refine Vw.bool ?_
        | refine Vw.int ?_
        | refine Vw.nil
        | refine Vw.sl
        | refine Vw.tup ?_
        | refine Vw.agg ?_
        | refine VwL.cons ?_ ?_
        | refine VwL.nil
        | refine LeavesF.of ?_
        | refine VwF.bool ?_
        | refine VwF.int ?_
        | refine VwF.nil
        | refine VwF.sl
        | refine VwF.tup ?_
        | refine VwF.agg ?_
        | refine VwLF.cons ?_ ?_
        | refine VwLF.nil
        | (refine Req.mk ?_ ?_; (focus first | rfl | decide | exact ⟨rfl, rfl⟩ | exact ⟨rfl, by decide⟩ | exact (fun _ => rfl) | exact (fun h => nomatch h) | (simp; done) | omega | (simp [big]; done) | exact le_big (by omega) | exact lt_big (by omega))))
    all_goals first | exact NextP.mk (i + 1, min lo (gI l i), max hi (gI l i)) ⟨hin, hlh2⟩ (by simp only; omega) (by dsimp only; rw [hC2]; rfl) | (exfalso; omega)
  · obtain rfl : i = l.length := by omega
    have hfull : ofI (pfx (fun _ => gI l 0) l.length l.length) = ofI (List.replicate l.length (gI l 0)) := by
      rw [pfx_full]; congr 1
      refine List.ext_getElem (by simp) fun j h1 h2 => ?_
      simp
    rw [hfull]
    clear hfull hin hi'
    have hmsv := fun (h : List B) (h1 : bget h 1 = some (.blk (ofI (List.replicate l.length (gI l 0))) true)) => ms_views (h := h) (N := l.length) (cl := decide (l.length = l.length)) (L := List.replicate l.length (gI l 0)) (vs := [.int .i64 b, .int .i64 s, .int .i64 (n : Nat)]) (vs' := [.int .i64 b, .int .i64 s, .int .i64 (n : Nat)]) h1 (by simp) (VwL.cons (Vw.int rfl) (VwL.cons (Vw.int rfl) (VwL.cons (Vw.int rfl) VwL.nil)))
    have hmsh := fun (h : List B) (h1 : bget h 1 = some (.blk (ofI (List.replicate l.length (gI l 0))) true)) => ms_views (h := h) (N := l.length) (cl := decide (l.length = l.length)) (L := List.replicate l.length (gI l 0)) (vs := [.int .i64 1]) (vs' := [.int .i64 1]) h1 (by simp) (VwL.cons (Vw.int rfl) VwL.nil)
    have hmsb := fun (h : List B) (h1 : bget h 1 = some (.blk (ofI (List.replicate l.length (gI l 0))) true)) => ms_views (h := h) (N := l.length) (cl := decide (l.length = l.length)) (L := List.replicate l.length (gI l 0)) (vs := [.sl c2 sp.length (ofI sp), .int .i64 r]) (vs' := [.sl c2 sp.length (ofI sp), .int .i64 r]) h1 (by simp) (VwL.cons Vw.sl (VwL.cons (Vw.int rfl) VwL.nil))
    have hmsc := fun (h : List B) (h1 : bget h 1 = some (.blk (ofI (List.replicate l.length (gI l 0))) true)) => ms_views2 (h := h) (N := l.length) (cl := decide (l.length = l.length)) (L := List.replicate l.length (gI l 0)) h1 (by simp)
    repeat' (first
      | (conv => whnf)
        first
        | refine Br.t ?_
        | refine Br.f ?_
        | (refine Br.decT ?_ ?_; (focus first | assumption | omega))
        | (refine Br.decF ?_ ?_; (focus first | assumption | omega))
        | refine Br.dec (fun _ => ?_) (fun _ => ?_)
        | refine Br.not ?_
        | refine Br.and ?_
        | refine Br.or ?_
        | (refine Bnd.i64 ?_ ?_ ?_; (focus omega); (focus omega))
        | (refine Idx.nat ?_ ?_; (focus omega))
        | refine Idx.nat (le_big (by omega)) ?_
        | (refine Idx.int ?_ ?_ ?_; (focus omega); (focus omega))
        | (refine Idx.int ?_ ?_ ?_; (focus decide); (focus decide))
        | refine Ifz.zero ?_
        | (refine Ifz.pos ?_ ?_; (focus omega))
        | refine Get.mk _ rfl ?_
        | refine Leaves.of ?_
        | refine Ends.of ?_
        | refine Vw.bool ?_
        | refine Vw.int ?_
        | refine Vw.nil
        | refine Vw.sl
        | refine Vw.tup ?_
        | refine Vw.agg ?_
        | refine VwL.cons ?_ ?_
        | refine VwL.nil
        | refine LeavesF.of ?_
        | refine VwF.bool ?_
        | refine VwF.int ?_
        | refine VwF.nil
        | refine VwF.sl
        | refine VwF.tup ?_
        | refine VwF.agg ?_
        | refine VwLF.cons ?_ ?_
        | refine VwLF.nil
        | (refine Req.mk ?_ ?_; (focus first | rfl | decide | exact ⟨rfl, rfl⟩ | exact ⟨rfl, by decide⟩ | exact (fun _ => rfl) | exact (fun h => nomatch h) | (simp; done) | omega | (simp [big]; done) | exact le_big (by omega) | exact lt_big (by omega))))
    all_goals try (exfalso; omega)
    refine LoopP.byQ (fun i : Nat => i ≤ n) (fun i => [(17, .int .i64 (i : Nat))]) (fun _ => []) (fun i => n - i) 0 (Nat.zero_le _) rfl ?_
    intro i hi2
    by_cases hin : i < n
    · have hch := hcell i hin
      have hpb := pull_between (l := l) (lo := lo) (hi := hi) (b := b) (s := s) (i := i) hl1 hlh
      generalize pullX l b s i = v at *
      repeat' (first
        | (conv => whnf)
          first
          | refine Br.t ?_
          | refine Br.f ?_
          | (refine Br.decT ?_ ?_; (focus first | assumption | omega))
          | (refine Br.decF ?_ ?_; (focus first | assumption | omega))
          | refine Br.dec (fun _ => ?_) (fun _ => ?_)
          | refine Br.not ?_
          | refine Br.and ?_
          | refine Br.or ?_
          | (refine Bnd.i64 ?_ ?_ ?_; (focus omega); (focus omega))
          | refine Get.mk _ hch ?_
          | (refine Idx.nat ?_ ?_; (focus omega))
          | refine Idx.nat (le_big (by omega)) ?_
          | (refine Idx.int ?_ ?_ ?_; (focus omega); (focus omega))
          | (refine Idx.int ?_ ?_ ?_; (focus decide); (focus decide))
          | refine Ifz.zero ?_
          | (refine Ifz.pos ?_ ?_; (focus omega))
          | refine Get.mk _ rfl ?_
          | refine Leaves.of ?_
          | refine Ends.of ?_
          | refine Vw.bool ?_
          | refine Vw.int ?_
          | refine Vw.nil
          | refine Vw.sl
          | refine Vw.tup ?_
          | refine Vw.agg ?_
          | refine VwL.cons ?_ ?_
          | refine VwL.nil
          | refine LeavesF.of ?_
          | refine VwF.bool ?_
          | refine VwF.int ?_
          | refine VwF.nil
          | refine VwF.sl
          | refine VwF.tup ?_
          | refine VwF.agg ?_
          | refine VwLF.cons ?_ ?_
          | refine VwLF.nil
          | (refine Req.mk ?_ ?_; (focus first | rfl | decide | exact ⟨rfl, rfl⟩ | exact ⟨rfl, by decide⟩ | exact (fun _ => rfl) | exact (fun h => nomatch h) | (simp; done) | omega | (simp [big]; done) | exact le_big (by omega) | exact lt_big (by omega))))
      all_goals first | exact NextP.mk (i + 1) (by omega) (by omega) rfl | (exfalso; omega)
    · obtain rfl : i = n := by omega
      repeat' (first
        | (conv => whnf)
          first
          | refine Br.t ?_
          | refine Br.f ?_
          | (refine Br.decT ?_ ?_; (focus first | assumption | omega))
          | (refine Br.decF ?_ ?_; (focus first | assumption | omega))
          | refine Br.dec (fun _ => ?_) (fun _ => ?_)
          | refine Br.not ?_
          | refine Br.and ?_
          | refine Br.or ?_
          | (refine Bnd.i64 ?_ ?_ ?_; (focus omega); (focus omega))
          | refine call_fun rfl rfl hAg (.inl rfl) ?_
          | refine call_fun rfl rfl hSm (.inl rfl) ?_
          | refine call_fresh rfl (hmsv _ rfl) hFl ?_
          | (refine Idx.nat ?_ ?_; (focus omega))
          | refine Idx.nat (le_big (by omega)) ?_
          | (refine Idx.int ?_ ?_ ?_; (focus omega); (focus omega))
          | (refine Idx.int ?_ ?_ ?_; (focus decide); (focus decide))
          | refine Ifz.zero ?_
          | (refine Ifz.pos ?_ ?_; (focus omega))
          | refine Get.mk _ rfl ?_
          | refine Leaves.of ?_
          | refine Ends.of ?_
          | refine Vw.bool ?_
          | refine Vw.int ?_
          | refine Vw.nil
          | refine Vw.sl
          | refine Vw.tup ?_
          | refine Vw.agg ?_
          | refine VwL.cons ?_ ?_
          | refine VwL.nil
          | refine LeavesF.of ?_
          | refine VwF.bool ?_
          | refine VwF.int ?_
          | refine VwF.nil
          | refine VwF.sl
          | refine VwF.tup ?_
          | refine VwF.agg ?_
          | refine VwLF.cons ?_ ?_
          | refine VwLF.nil
          | (refine Req.mk ?_ ?_; (focus first | rfl | decide | exact ⟨rfl, rfl⟩ | exact ⟨rfl, by decide⟩ | exact (fun _ => rfl) | exact (fun h => nomatch h) | (simp; done) | omega | (simp [big]; done) | exact le_big (by omega) | exact lt_big (by omega))))
      all_goals try (exfalso; omega)
      refine LoopP.byQ (fun j : Nat => j ≤ i) (fun j => [(21, .int .i64 (j : Nat))]) (fun _ => []) (fun j => i - j) 0 (Nat.zero_le _) rfl ?_
      intro j hj
      by_cases hjn : j < i
      · have hcf := hcellF j hjn
        repeat' (first
          | (conv => whnf)
            first
            | refine Br.t ?_
            | refine Br.f ?_
            | (refine Br.decT ?_ ?_; (focus first | assumption | omega))
            | (refine Br.decF ?_ ?_; (focus first | assumption | omega))
            | refine Br.dec (fun _ => ?_) (fun _ => ?_)
            | refine Br.not ?_
            | refine Br.and ?_
            | refine Br.or ?_
            | (refine Bnd.i64 ?_ ?_ ?_; (focus omega); (focus omega))
            | refine Get.mk _ hcf ?_
            | refine Get.mk _ hc0 ?_
            | (refine Idx.nat ?_ ?_; (focus omega))
            | refine Idx.nat (le_big (by omega)) ?_
            | (refine Idx.int ?_ ?_ ?_; (focus omega); (focus omega))
            | (refine Idx.int ?_ ?_ ?_; (focus decide); (focus decide))
            | refine Ifz.zero ?_
            | (refine Ifz.pos ?_ ?_; (focus omega))
            | refine Get.mk _ rfl ?_
            | refine Leaves.of ?_
            | refine Ends.of ?_
            | refine Vw.bool ?_
            | refine Vw.int ?_
            | refine Vw.nil
            | refine Vw.sl
            | refine Vw.tup ?_
            | refine Vw.agg ?_
            | refine VwL.cons ?_ ?_
            | refine VwL.nil
            | refine LeavesF.of ?_
            | refine VwF.bool ?_
            | refine VwF.int ?_
            | refine VwF.nil
            | refine VwF.sl
            | refine VwF.tup ?_
            | refine VwF.agg ?_
            | refine VwLF.cons ?_ ?_
            | refine VwLF.nil
            | (refine Req.mk ?_ ?_; (focus first | rfl | decide | exact ⟨rfl, rfl⟩ | exact ⟨rfl, by decide⟩ | exact (fun _ => rfl) | exact (fun h => nomatch h) | (simp; done) | omega | (simp [big]; done) | exact le_big (by omega) | exact lt_big (by omega))))
        all_goals first | exact NextP.mk (j + 1) (by omega) (by omega) rfl | (exfalso; omega)
      · obtain rfl : j = i := by omega
        cases hze : zE with
        | inl hbad =>
          obtain ⟨k9, q1, q2⟩ := hbad
          repeat' (first
            | (conv => whnf)
              first
              | refine Br.t ?_
              | refine Br.f ?_
              | (refine Br.decT ?_ ?_; (focus first | assumption | omega))
              | (refine Br.decF ?_ ?_; (focus first | assumption | omega))
              | refine Br.dec (fun _ => ?_) (fun _ => ?_)
              | refine Br.not ?_
              | refine Br.and ?_
              | refine Br.or ?_
              | (refine Bnd.i64 ?_ ?_ ?_; (focus omega); (focus omega))
              | refine call_fresh rfl (hmsh _ rfl) hNo ?_
              | refine call_fresh rfl (hmsb _ rfl) q2 ?_
              | refine call_fun rfl rfl hOne (.inl rfl) ?_
              | refine call_fun rfl rfl awake (.inl rfl) ?_
              | (refine Idx.nat ?_ ?_; (focus omega))
              | refine Idx.nat (le_big (by omega)) ?_
              | (refine Idx.int ?_ ?_ ?_; (focus omega); (focus omega))
              | (refine Idx.int ?_ ?_ ?_; (focus decide); (focus decide))
              | refine Ifz.zero ?_
              | (refine Ifz.pos ?_ ?_; (focus omega))
              | refine Get.mk _ rfl ?_
              | refine Leaves.of ?_
              | refine Ends.of ?_
              | refine Vw.bool ?_
              | refine Vw.int ?_
              | refine Vw.nil
              | refine Vw.sl
              | refine Vw.tup ?_
              | refine Vw.agg ?_
              | refine VwL.cons ?_ ?_
              | refine VwL.nil
              | refine LeavesF.of ?_
              | refine VwF.bool ?_
              | refine VwF.int ?_
              | refine VwF.nil
              | refine VwF.sl
              | refine VwF.tup ?_
              | refine VwF.agg ?_
              | refine VwLF.cons ?_ ?_
              | refine VwLF.nil
              | (refine Req.mk ?_ ?_; (focus first | rfl | decide | exact ⟨rfl, rfl⟩ | exact ⟨rfl, by decide⟩ | exact (fun _ => rfl) | exact (fun h => nomatch h) | (simp; done) | omega | (simp [big]; done) | exact le_big (by omega) | exact lt_big (by omega))))
          all_goals first | rfl | (exfalso; omega)
        | inr hgood =>
          obtain ⟨k1, kk, q2⟩ := hgood
          repeat' (first
            | (conv => whnf)
              first
              | refine Br.t ?_
              | refine Br.f ?_
              | (refine Br.decT ?_ ?_; (focus first | assumption | omega))
              | (refine Br.decF ?_ ?_; (focus first | assumption | omega))
              | refine Br.dec (fun _ => ?_) (fun _ => ?_)
              | refine Br.not ?_
              | refine Br.and ?_
              | refine Br.or ?_
              | (refine Bnd.i64 ?_ ?_ ?_; (focus omega); (focus omega))
              | refine call_fresh rfl (hmsh _ rfl) hNo ?_
              | refine call_fresh rfl (hmsb _ rfl) q2 ?_
              | refine call_fun rfl rfl hOne (.inl rfl) ?_
              | refine call_fun rfl (hmsc _ rfl) hSmR (.inr rfl) ?_
              | refine call_fun rfl rfl awake (.inl rfl) ?_
              | (refine Idx.nat ?_ ?_; (focus omega))
              | refine Idx.nat (le_big (by omega)) ?_
              | (refine Idx.int ?_ ?_ ?_; (focus omega); (focus omega))
              | (refine Idx.int ?_ ?_ ?_; (focus decide); (focus decide))
              | refine Ifz.zero ?_
              | (refine Ifz.pos ?_ ?_; (focus omega))
              | refine Get.mk _ rfl ?_
              | refine Leaves.of ?_
              | refine Ends.of ?_
              | refine Vw.bool ?_
              | refine Vw.int ?_
              | refine Vw.nil
              | refine Vw.sl
              | refine Vw.tup ?_
              | refine Vw.agg ?_
              | refine VwL.cons ?_ ?_
              | refine VwL.nil
              | refine LeavesF.of ?_
              | refine VwF.bool ?_
              | refine VwF.int ?_
              | refine VwF.nil
              | refine VwF.sl
              | refine VwF.tup ?_
              | refine VwF.agg ?_
              | refine VwLF.cons ?_ ?_
              | refine VwLF.nil
              | (refine Req.mk ?_ ?_; (focus first | rfl | decide | exact ⟨rfl, rfl⟩ | exact ⟨rfl, by decide⟩ | exact (fun _ => rfl) | exact (fun h => nomatch h) | (simp; done) | omega | (simp [big]; done) | exact le_big (by omega) | exact lt_big (by omega))))
          all_goals first | rfl | (exfalso; omega)

set_option maxRecDepth 100000 in
set_option maxHeartbeats 20000000 in
theorem quiet_hum {c c2 c3 : Bool} {l sp kp : List Int} {b s r : Int} {p n : Nat} (hp : 1 ≤ p) (hp5 : p ≤ 500) (hpl : p ≤ l.length) (hE : smpE l 1000000 = 0) (hl1 : 0 < l.length) (hb : 0 ≤ b ∧ b ≤ 4000000) (hs : 0 ≤ s ∧ s ≤ 4000000) (hn : n ≤ 4000) :
    Fun F md 15 [.sl c l.length (ofI l), .int .i64 (p : Nat), plV b s (n : Nat) c2 sp r c3 kp] (.bool true) := by
  have hgl := gI_in (m := 1000000) (by omega) (smp_ok hE).2
  have hgl' : ∀ i, -10000000 ≤ gI l i ∧ gI l i ≤ 10000000 := fun i => by have := hgl i; omega
  have hH := hum_ok (c := c) hE hp hp5 hpl
  have hfine := hum_fine hE hp hp5 hpl
  have hCl := clean_of (f := 48) (c := c) (c' := decide (p = p)) (.inl ⟨rfl, rfl⟩) (humming_ok hfine (by omega) (.inr rfl))
  rw [show (acc (humX l p) p).length = p from acc_length _ _] at hCl
  have hAl : (acc (clX l (acc (humX l p) p) (-1)) l.length).length = l.length := acc_length _ _
  have hMa := fun k (hk : k < p) => mean_any (c := false) (l := acc (clX l (acc (humX l p) p) (-1)) l.length) (k := k) (p := p) (by rw [hAl]; exact (smp_ok hE).1) hk (by rw [hAl]; omega) (by omega) (clean_range (by omega) hpl hgl (fun k hk => by
    have m1 := mean_in (p := p) hgl hk (by omega)
    have m0 := mean_in (p := 1) (k := 0) hgl (by omega) (by omega)
    unfold humX; omega))
  rw [hAl] at hMa
  have hMa2 : ∀ k, k < p → Fun F md 52 [.sl false l.length (ofI (acc (clX l (acc (humX l p) p) (-1)) l.length)), .int .i64 (k : Nat), .int .i64 (p : Nat)] (.int .i64 (meanR l 0 1)) := fun k hk => by
    have := hMa k hk
    rwa [mean_clean hk hpl] at this
  have hMl := mean_any (c := c) (l := l) (k := 0) (p := 1) (smp_ok hE).1 (by omega) (by omega) (by omega) hgl'
  clear hMa
  generalize ofI (acc (clX l (acc (humX l p) p) (-1)) l.length) = Ca at *
  generalize ofI (acc (humX l p) p) = Ch at *
  generalize meanR l 0 1 = m0 at *
  have hPl := pull_ok (c := c) hE hl1 hb hs hn
  have hAg := pull_ok (c := c) (b := 0) (s := 1000) (n := l.length) hE hl1 (by omega) (by omega) (smp_ok hE).1
  rw [acc_same] at hAg
  have hSm := ints_same (c := decide (l.length = l.length)) (c' := c) (l := l) (by have := (smp_ok hE).1; omega)
  have hc0 : cellAt (ofI l) (Int.toNat 0 * 1) = some (.int .i64 (gI l 0)) := gI_cell hl1
  have hcell : ∀ i, i < n → cellAt (ofI (acc (pullX l b s) n)) (i * 1) = some (.int .i64 (pullX l b s i)) := by
    intro i hi
    rw [gI_cell (by rw [acc_length]; exact hi), gI_get (by rw [acc_length]; exact hi)]
    simp [acc]
  have hrep : smpE (List.replicate l.length (gI l 0)) 1000000 = 0 := by
    refine smp_of (by have := (smp_ok hE).1; simpa using this) fun x hx => ?_
    rw [List.eq_of_mem_replicate hx]
    exact gI_in (m := 1000000) (by omega) (smp_ok hE).2 0
  have hrl : (List.replicate l.length (gI l 0)).length = l.length := by simp
  have hFl := pull_okF (c := decide (l.length = l.length)) (l := List.replicate l.length (gI l 0)) hrep (by omega) hb hs hn
  rw [hrl] at hFl
  have hsmp := (smp_ok hE).1
  have hcellF : ∀ i, i < n → cellAt (ofI (acc (pullX (List.replicate l.length (gI l 0)) b s) n)) (i * 1) = some (.int .i64 (gI l 0)) := by
    intro i hi
    rw [gI_cell (by rw [acc_length]; exact hi), gI_get (by rw [acc_length]; exact hi)]
    simp [acc, pull_flat hl1]
  have hNo := hum_okF (c := decide (l.length = l.length)) (l := List.replicate l.length (gI l 0)) (p := 1) hrep (by omega) (by omega) (by omega)
  have hone : acc (humX (List.replicate l.length (gI l 0)) 1) 1 = [0] := by simp [acc, humX]
  rw [hone, hrl] at hNo
  have hOne := fun (c : Bool) => ints_same (c := c) (c' := true) (l := [0]) (by simp)
  have hOne := hOne (decide (1 = 1))
  have hSmR := ints_same (c := false) (c' := decide (l.length = l.length)) (l := List.replicate l.length (gI l 0)) (by omega)
  rw [hrl] at hSmR
  have zE : (∃ k9, k9 ≠ 0 ∧ FunF F md 42 [.sl (decide (l.length = l.length)) l.length (ofI (List.replicate l.length (gI l 0))), .sl c2 sp.length (ofI sp), .int .i64 r] (.tup [.sl true 0 [], .sl true 0 [], .int .i64 k9])) ∨ (∃ k1 : Bool, ∃ kk : List Int, FunF F md 42 [.sl (decide (l.length = l.length)) l.length (ofI (List.replicate l.length (gI l 0))), .sl c2 sp.length (ofI sp), .int .i64 r] (.tup [.sl false l.length (ofI (List.replicate l.length (gI l 0))), .sl k1 kk.length (ofI kk), .int .i64 0])) := by
    by_cases he : splE (List.replicate l.length (gI l 0)) sp r = 0
    · obtain ⟨k1, hB⟩ := bloop_okF (c := decide (l.length = l.length)) (c' := c2) he (by omega)
      obtain ⟨_, er, _, es⟩ := splE_ok he
      rw [hrl] at hB
      have hSS : ∀ x ∈ spL l.length r sp, 0 ≤ x.1 ∧ x.1 ≤ x.2 ∧ x.2 ≤ (l.length : Int) - 1 := by
        intro x hx
        unfold spL at hx
        obtain ⟨a, ha, rfl⟩ := List.mem_map.1 hx
        rw [hrl] at es
        exact spF_in er (spB_mem es a ha)
      rcases blp_flat (n := l.length) (v := gI l 0) (S := spL l.length r sp) (kept := []) hSS with e | ⟨kk, e⟩
      · rw [e] at hB
        exact .inl ⟨9, by omega, hB⟩
      · rw [e] at hB
        dsimp only [blV] at hB
        rw [hrl] at hB
        exact .inr ⟨k1, kk, hB⟩
    · have hB := bloop_badF (c := decide (l.length = l.length)) (c' := c2) (sp := sp) (l := List.replicate l.length (gI l 0)) rfl he
      rw [hrl] at hB
      exact .inl ⟨_, he, hB⟩
  have hone2 : ofI [0] = [V.int .i64 0] := rfl
  generalize ofI (acc (pullX l b s) n) = Cp at *
  generalize ofI (acc (pullX (List.replicate l.length (gI l 0)) b s) n) = Cf at *
  refine fun_of rfl rfl ?_
  repeat' (first
    | (conv => whnf)
      first
      | refine Br.t ?_
      | refine Br.f ?_
      | (refine Br.decT ?_ ?_; (focus first | assumption | omega))
      | (refine Br.decF ?_ ?_; (focus first | assumption | omega))
      | refine Br.dec (fun _ => ?_) (fun _ => ?_)
      | refine Br.not ?_
      | refine Br.and ?_
      | refine Br.or ?_
      | (refine Bnd.i64 ?_ ?_ ?_; (focus omega); (focus omega))
      | refine call_fun rfl rfl hH (.inl rfl) ?_
      | refine call_fun rfl rfl hCl (.inl rfl) ?_
      | (refine Idx.nat ?_ ?_; (focus omega))
      | refine Idx.nat (le_big (by omega)) ?_
      | (refine Idx.int ?_ ?_ ?_; (focus omega); (focus omega))
      | (refine Idx.int ?_ ?_ ?_; (focus decide); (focus decide))
      | refine Ifz.zero ?_
      | (refine Ifz.pos ?_ ?_; (focus omega))
      | refine Get.mk _ rfl ?_
      | refine Leaves.of ?_
      | refine Ends.of ?_
      | refine Vw.bool ?_
      | refine Vw.int ?_
      | refine Vw.nil
      | refine Vw.sl
      | refine Vw.tup ?_
      | refine Vw.agg ?_
      | refine VwL.cons ?_ ?_
      | refine VwL.nil
      | refine LeavesF.of ?_
      | refine VwF.bool ?_
      | refine VwF.int ?_
      | refine VwF.nil
      | refine VwF.sl
      | refine VwF.tup ?_
      | refine VwF.agg ?_
      | refine VwLF.cons ?_ ?_
      | refine VwLF.nil
      | (refine Req.mk ?_ ?_; (focus first | rfl | decide | exact ⟨rfl, rfl⟩ | exact ⟨rfl, by decide⟩ | exact (fun _ => rfl) | exact (fun h => nomatch h) | (simp; done) | omega | (simp [big]; done) | exact le_big (by omega) | exact lt_big (by omega))))
  all_goals try (exfalso; omega)
  refine LoopP.byQ (fun k : Nat => k ≤ p) (fun k => [(11, .int .i64 (k : Nat))]) (fun _ => []) (fun k => p - k) 0 (Nat.zero_le _) rfl ?_
  intro q hq
  by_cases hqp : q < p
  · have hMq := hMa2 q hqp
    repeat' (first
      | (conv => whnf)
        first
        | refine Br.t ?_
        | refine Br.f ?_
        | (refine Br.decT ?_ ?_; (focus first | assumption | omega))
        | (refine Br.decF ?_ ?_; (focus first | assumption | omega))
        | refine Br.dec (fun _ => ?_) (fun _ => ?_)
        | refine Br.not ?_
        | refine Br.and ?_
        | refine Br.or ?_
        | (refine Bnd.i64 ?_ ?_ ?_; (focus omega); (focus omega))
        | refine call_fun rfl rfl hMq (.inl rfl) ?_
        | refine call_fun rfl rfl hMl (.inl rfl) ?_
        | (refine Idx.nat ?_ ?_; (focus omega))
        | refine Idx.nat (le_big (by omega)) ?_
        | (refine Idx.int ?_ ?_ ?_; (focus omega); (focus omega))
        | (refine Idx.int ?_ ?_ ?_; (focus decide); (focus decide))
        | refine Ifz.zero ?_
        | (refine Ifz.pos ?_ ?_; (focus omega))
        | refine Get.mk _ rfl ?_
        | refine Leaves.of ?_
        | refine Ends.of ?_
        | refine Vw.bool ?_
        | refine Vw.int ?_
        | refine Vw.nil
        | refine Vw.sl
        | refine Vw.tup ?_
        | refine Vw.agg ?_
        | refine VwL.cons ?_ ?_
        | refine VwL.nil
        | refine LeavesF.of ?_
        | refine VwF.bool ?_
        | refine VwF.int ?_
        | refine VwF.nil
        | refine VwF.sl
        | refine VwF.tup ?_
        | refine VwF.agg ?_
        | refine VwLF.cons ?_ ?_
        | refine VwLF.nil
        | (refine Req.mk ?_ ?_; (focus first | rfl | decide | exact ⟨rfl, rfl⟩ | exact ⟨rfl, by decide⟩ | exact (fun _ => rfl) | exact (fun h => nomatch h) | (simp; done) | omega | (simp [big]; done) | exact le_big (by omega) | exact lt_big (by omega))))
    all_goals first | exact NextP.mk (q + 1) (by omega) (by omega) rfl | (exfalso; omega)
  · obtain rfl : q = p := by omega
    repeat' (first
      | (conv => whnf)
        first
        | refine Br.t ?_
        | refine Br.f ?_
        | (refine Br.decT ?_ ?_; (focus first | assumption | omega))
        | (refine Br.decF ?_ ?_; (focus first | assumption | omega))
        | refine Br.dec (fun _ => ?_) (fun _ => ?_)
        | refine Br.not ?_
        | refine Br.and ?_
        | refine Br.or ?_
        | (refine Bnd.i64 ?_ ?_ ?_; (focus omega); (focus omega))
        | refine call_fun rfl rfl hPl (.inl rfl) ?_
        | refine Get.mk _ hc0 ?_
        | (refine Idx.nat ?_ ?_; (focus omega))
        | refine Idx.nat (le_big (by omega)) ?_
        | (refine Idx.int ?_ ?_ ?_; (focus omega); (focus omega))
        | (refine Idx.int ?_ ?_ ?_; (focus decide); (focus decide))
        | refine Ifz.zero ?_
        | (refine Ifz.pos ?_ ?_; (focus omega))
        | refine Get.mk _ rfl ?_
        | refine Leaves.of ?_
        | refine Ends.of ?_
        | refine Vw.bool ?_
        | refine Vw.int ?_
        | refine Vw.nil
        | refine Vw.sl
        | refine Vw.tup ?_
        | refine Vw.agg ?_
        | refine VwL.cons ?_ ?_
        | refine VwL.nil
        | refine LeavesF.of ?_
        | refine VwF.bool ?_
        | refine VwF.int ?_
        | refine VwF.nil
        | refine VwF.sl
        | refine VwF.tup ?_
        | refine VwF.agg ?_
        | refine VwLF.cons ?_ ?_
        | refine VwLF.nil
        | (refine Req.mk ?_ ?_; (focus first | rfl | decide | exact ⟨rfl, rfl⟩ | exact ⟨rfl, by decide⟩ | exact (fun _ => rfl) | exact (fun h => nomatch h) | (simp; done) | omega | (simp [big]; done) | exact le_big (by omega) | exact lt_big (by omega))))
    all_goals try (exfalso; omega)
    refine LoopP.by (fun a : Nat × Int × Int => a.1 ≤ l.length ∧ ∀ j, j < a.1 → a.2.1 ≤ gI l j ∧ gI l j ≤ a.2.2) (fun a => [(13, .int .i64 a.2.1), (14, .int .i64 a.2.2), (16, .int .i64 (a.1 : Nat))]) (fun a => [.blk [.int .i64 b, .int .i64 s, .int .i64 (n : Nat), .sl c2 sp.length (ofI sp), .int .i64 r, .sl c3 kp.length (ofI kp)] false, .blk (ofI (pfx (fun _ => gI l 0) l.length a.1)) true]) (fun a => l.length - a.1) (0, gI l 0, gI l 0) ⟨Nat.zero_le _, fun j hj => by simp at hj⟩ (by rw [← pfx_zero, ← reps_int]; rfl) ?_
    rintro ⟨i, lo, hi⟩ ⟨hi', hlh⟩
    dsimp only at hi' hlh ⊢
    by_cases hin : i < l.length
    · have hci := gI_cell hin
      have hput := ofI_put0 (l := pfx (fun _ => gI l 0) l.length i) (i := i) (v := gI l 0) (by rw [pfx_length]; exact hin)
      have hps := pfx_set (f := fun _ => gI l 0) hin
      rw [hps] at hput
      have hl0 : (ofI (pfx (fun _ => gI l 0) l.length i)).length = l.length * 1 := by rw [ofI_length, pfx_length, Nat.mul_one]
      have hlh2 : ∀ j, j < i + 1 → min lo (gI l i) ≤ gI l j ∧ gI l j ≤ max hi (gI l i) := by
        intro j hj
        by_cases e : j = i
        · subst e; omega
        · have := hlh j (by omega); omega
      generalize hC2 : ofI (pfx (fun _ => gI l 0) l.length (i + 1)) = C2 at *
      generalize ofI (pfx (fun _ => gI l 0) l.length i) = C0 at *
      repeat' (first
        | (conv => whnf)
          first
          | refine Br.t ?_
          | refine Br.f ?_
          | (refine Br.decT ?_ ?_; (focus first | assumption | omega))
          | (refine Br.decF ?_ ?_; (focus first | assumption | omega))
          | refine Br.dec (fun _ => ?_) (fun _ => ?_)
          | refine Br.not ?_
          | refine Br.and ?_
          | refine Br.or ?_
          | (refine Bnd.i64 ?_ ?_ ?_; (focus omega); (focus omega))
          | refine Get.mk _ hc0 ?_
          | refine Get.mk _ hci ?_
          | refine Bnd.any ?_
          | refine fVe hput ?_
          | refine Req.mk hl0 ?_
          | refine Req.mk ⟨hl0, by omega⟩ ?_
          | (refine Idx.nat ?_ ?_; (focus omega))
          | refine Idx.nat (le_big (by omega)) ?_
          | (refine Idx.int ?_ ?_ ?_; (focus omega); (focus omega))
          | (refine Idx.int ?_ ?_ ?_; (focus decide); (focus decide))
          | refine Ifz.zero ?_
          | (refine Ifz.pos ?_ ?_; (focus omega))
          | refine Get.mk _ rfl ?_
          | refine Leaves.of ?_
          | refine Ends.of ?_
          | refine Vw.bool ?_
          | refine Vw.int ?_
          | refine Vw.nil
          | refine Vw.sl
          | refine Vw.tup ?_
          | refine Vw.agg ?_
          | refine VwL.cons ?_ ?_
          | refine VwL.nil
          | refine LeavesF.of ?_
          | refine VwF.bool ?_
          | refine VwF.int ?_
          | refine VwF.nil
          | refine VwF.sl
          | refine VwF.tup ?_
          | refine VwF.agg ?_
          | refine VwLF.cons ?_ ?_
          | refine VwLF.nil
          | (refine Req.mk ?_ ?_; (focus first | rfl | decide | exact ⟨rfl, rfl⟩ | exact ⟨rfl, by decide⟩ | exact (fun _ => rfl) | exact (fun h => nomatch h) | (simp; done) | omega | (simp [big]; done) | exact le_big (by omega) | exact lt_big (by omega))))
      all_goals first | exact NextP.mk (i + 1, min lo (gI l i), max hi (gI l i)) ⟨hin, hlh2⟩ (by simp only; omega) (by dsimp only; rw [hC2]; rfl) | (exfalso; omega)
    · obtain rfl : i = l.length := by omega
      have hfull : ofI (pfx (fun _ => gI l 0) l.length l.length) = ofI (List.replicate l.length (gI l 0)) := by
        rw [pfx_full]; congr 1
        refine List.ext_getElem (by simp) fun j h1 h2 => ?_
        simp
      rw [hfull]
      clear hfull hin hi'
      have hmsv := fun (h : List B) (h1 : bget h 1 = some (.blk (ofI (List.replicate l.length (gI l 0))) true)) => ms_views (h := h) (N := l.length) (cl := decide (l.length = l.length)) (L := List.replicate l.length (gI l 0)) (vs := [.int .i64 b, .int .i64 s, .int .i64 (n : Nat)]) (vs' := [.int .i64 b, .int .i64 s, .int .i64 (n : Nat)]) h1 (by simp) (VwL.cons (Vw.int rfl) (VwL.cons (Vw.int rfl) (VwL.cons (Vw.int rfl) VwL.nil)))
      have hmsh := fun (h : List B) (h1 : bget h 1 = some (.blk (ofI (List.replicate l.length (gI l 0))) true)) => ms_views (h := h) (N := l.length) (cl := decide (l.length = l.length)) (L := List.replicate l.length (gI l 0)) (vs := [.int .i64 1]) (vs' := [.int .i64 1]) h1 (by simp) (VwL.cons (Vw.int rfl) VwL.nil)
      have hmsb := fun (h : List B) (h1 : bget h 1 = some (.blk (ofI (List.replicate l.length (gI l 0))) true)) => ms_views (h := h) (N := l.length) (cl := decide (l.length = l.length)) (L := List.replicate l.length (gI l 0)) (vs := [.sl c2 sp.length (ofI sp), .int .i64 r]) (vs' := [.sl c2 sp.length (ofI sp), .int .i64 r]) h1 (by simp) (VwL.cons Vw.sl (VwL.cons (Vw.int rfl) VwL.nil))
      have hmsc := fun (h : List B) (h1 : bget h 1 = some (.blk (ofI (List.replicate l.length (gI l 0))) true)) => ms_views2 (h := h) (N := l.length) (cl := decide (l.length = l.length)) (L := List.replicate l.length (gI l 0)) h1 (by simp)
      repeat' (first
        | (conv => whnf)
          first
          | refine Br.t ?_
          | refine Br.f ?_
          | (refine Br.decT ?_ ?_; (focus first | assumption | omega))
          | (refine Br.decF ?_ ?_; (focus first | assumption | omega))
          | refine Br.dec (fun _ => ?_) (fun _ => ?_)
          | refine Br.not ?_
          | refine Br.and ?_
          | refine Br.or ?_
          | (refine Bnd.i64 ?_ ?_ ?_; (focus omega); (focus omega))
          | (refine Idx.nat ?_ ?_; (focus omega))
          | refine Idx.nat (le_big (by omega)) ?_
          | (refine Idx.int ?_ ?_ ?_; (focus omega); (focus omega))
          | (refine Idx.int ?_ ?_ ?_; (focus decide); (focus decide))
          | refine Ifz.zero ?_
          | (refine Ifz.pos ?_ ?_; (focus omega))
          | refine Get.mk _ rfl ?_
          | refine Leaves.of ?_
          | refine Ends.of ?_
          | refine Vw.bool ?_
          | refine Vw.int ?_
          | refine Vw.nil
          | refine Vw.sl
          | refine Vw.tup ?_
          | refine Vw.agg ?_
          | refine VwL.cons ?_ ?_
          | refine VwL.nil
          | refine LeavesF.of ?_
          | refine VwF.bool ?_
          | refine VwF.int ?_
          | refine VwF.nil
          | refine VwF.sl
          | refine VwF.tup ?_
          | refine VwF.agg ?_
          | refine VwLF.cons ?_ ?_
          | refine VwLF.nil
          | (refine Req.mk ?_ ?_; (focus first | rfl | decide | exact ⟨rfl, rfl⟩ | exact ⟨rfl, by decide⟩ | exact (fun _ => rfl) | exact (fun h => nomatch h) | (simp; done) | omega | (simp [big]; done) | exact le_big (by omega) | exact lt_big (by omega))))
      all_goals try (exfalso; omega)
      refine LoopP.byQ (fun i : Nat => i ≤ n) (fun i => [(17, .int .i64 (i : Nat))]) (fun _ => []) (fun i => n - i) 0 (Nat.zero_le _) rfl ?_
      intro i hi2
      by_cases hin : i < n
      · have hch := hcell i hin
        have hpb := pull_between (l := l) (lo := lo) (hi := hi) (b := b) (s := s) (i := i) hl1 hlh
        generalize pullX l b s i = v at *
        repeat' (first
          | (conv => whnf)
            first
            | refine Br.t ?_
            | refine Br.f ?_
            | (refine Br.decT ?_ ?_; (focus first | assumption | omega))
            | (refine Br.decF ?_ ?_; (focus first | assumption | omega))
            | refine Br.dec (fun _ => ?_) (fun _ => ?_)
            | refine Br.not ?_
            | refine Br.and ?_
            | refine Br.or ?_
            | (refine Bnd.i64 ?_ ?_ ?_; (focus omega); (focus omega))
            | refine Get.mk _ hch ?_
            | (refine Idx.nat ?_ ?_; (focus omega))
            | refine Idx.nat (le_big (by omega)) ?_
            | (refine Idx.int ?_ ?_ ?_; (focus omega); (focus omega))
            | (refine Idx.int ?_ ?_ ?_; (focus decide); (focus decide))
            | refine Ifz.zero ?_
            | (refine Ifz.pos ?_ ?_; (focus omega))
            | refine Get.mk _ rfl ?_
            | refine Leaves.of ?_
            | refine Ends.of ?_
            | refine Vw.bool ?_
            | refine Vw.int ?_
            | refine Vw.nil
            | refine Vw.sl
            | refine Vw.tup ?_
            | refine Vw.agg ?_
            | refine VwL.cons ?_ ?_
            | refine VwL.nil
            | refine LeavesF.of ?_
            | refine VwF.bool ?_
            | refine VwF.int ?_
            | refine VwF.nil
            | refine VwF.sl
            | refine VwF.tup ?_
            | refine VwF.agg ?_
            | refine VwLF.cons ?_ ?_
            | refine VwLF.nil
            | (refine Req.mk ?_ ?_; (focus first | rfl | decide | exact ⟨rfl, rfl⟩ | exact ⟨rfl, by decide⟩ | exact (fun _ => rfl) | exact (fun h => nomatch h) | (simp; done) | omega | (simp [big]; done) | exact le_big (by omega) | exact lt_big (by omega))))
        all_goals first | exact NextP.mk (i + 1) (by omega) (by omega) rfl | (exfalso; omega)
      · obtain rfl : i = n := by omega
        repeat' (first
          | (conv => whnf)
            first
            | refine Br.t ?_
            | refine Br.f ?_
            | (refine Br.decT ?_ ?_; (focus first | assumption | omega))
            | (refine Br.decF ?_ ?_; (focus first | assumption | omega))
            | refine Br.dec (fun _ => ?_) (fun _ => ?_)
            | refine Br.not ?_
            | refine Br.and ?_
            | refine Br.or ?_
            | (refine Bnd.i64 ?_ ?_ ?_; (focus omega); (focus omega))
            | refine call_fun rfl rfl hAg (.inl rfl) ?_
            | refine call_fun rfl rfl hSm (.inl rfl) ?_
            | refine call_fresh rfl (hmsv _ rfl) hFl ?_
            | (refine Idx.nat ?_ ?_; (focus omega))
            | refine Idx.nat (le_big (by omega)) ?_
            | (refine Idx.int ?_ ?_ ?_; (focus omega); (focus omega))
            | (refine Idx.int ?_ ?_ ?_; (focus decide); (focus decide))
            | refine Ifz.zero ?_
            | (refine Ifz.pos ?_ ?_; (focus omega))
            | refine Get.mk _ rfl ?_
            | refine Leaves.of ?_
            | refine Ends.of ?_
            | refine Vw.bool ?_
            | refine Vw.int ?_
            | refine Vw.nil
            | refine Vw.sl
            | refine Vw.tup ?_
            | refine Vw.agg ?_
            | refine VwL.cons ?_ ?_
            | refine VwL.nil
            | refine LeavesF.of ?_
            | refine VwF.bool ?_
            | refine VwF.int ?_
            | refine VwF.nil
            | refine VwF.sl
            | refine VwF.tup ?_
            | refine VwF.agg ?_
            | refine VwLF.cons ?_ ?_
            | refine VwLF.nil
            | (refine Req.mk ?_ ?_; (focus first | rfl | decide | exact ⟨rfl, rfl⟩ | exact ⟨rfl, by decide⟩ | exact (fun _ => rfl) | exact (fun h => nomatch h) | (simp; done) | omega | (simp [big]; done) | exact le_big (by omega) | exact lt_big (by omega))))
        all_goals try (exfalso; omega)
        refine LoopP.byQ (fun j : Nat => j ≤ i) (fun j => [(21, .int .i64 (j : Nat))]) (fun _ => []) (fun j => i - j) 0 (Nat.zero_le _) rfl ?_
        intro j hj
        by_cases hjn : j < i
        · have hcf := hcellF j hjn
          repeat' (first
            | (conv => whnf)
              first
              | refine Br.t ?_
              | refine Br.f ?_
              | (refine Br.decT ?_ ?_; (focus first | assumption | omega))
              | (refine Br.decF ?_ ?_; (focus first | assumption | omega))
              | refine Br.dec (fun _ => ?_) (fun _ => ?_)
              | refine Br.not ?_
              | refine Br.and ?_
              | refine Br.or ?_
              | (refine Bnd.i64 ?_ ?_ ?_; (focus omega); (focus omega))
              | refine Get.mk _ hcf ?_
              | refine Get.mk _ hc0 ?_
              | (refine Idx.nat ?_ ?_; (focus omega))
              | refine Idx.nat (le_big (by omega)) ?_
              | (refine Idx.int ?_ ?_ ?_; (focus omega); (focus omega))
              | (refine Idx.int ?_ ?_ ?_; (focus decide); (focus decide))
              | refine Ifz.zero ?_
              | (refine Ifz.pos ?_ ?_; (focus omega))
              | refine Get.mk _ rfl ?_
              | refine Leaves.of ?_
              | refine Ends.of ?_
              | refine Vw.bool ?_
              | refine Vw.int ?_
              | refine Vw.nil
              | refine Vw.sl
              | refine Vw.tup ?_
              | refine Vw.agg ?_
              | refine VwL.cons ?_ ?_
              | refine VwL.nil
              | refine LeavesF.of ?_
              | refine VwF.bool ?_
              | refine VwF.int ?_
              | refine VwF.nil
              | refine VwF.sl
              | refine VwF.tup ?_
              | refine VwF.agg ?_
              | refine VwLF.cons ?_ ?_
              | refine VwLF.nil
              | (refine Req.mk ?_ ?_; (focus first | rfl | decide | exact ⟨rfl, rfl⟩ | exact ⟨rfl, by decide⟩ | exact (fun _ => rfl) | exact (fun h => nomatch h) | (simp; done) | omega | (simp [big]; done) | exact le_big (by omega) | exact lt_big (by omega))))
          all_goals first | exact NextP.mk (j + 1) (by omega) (by omega) rfl | (exfalso; omega)
        · obtain rfl : j = i := by omega
          cases hze : zE with
          | inl hbad =>
            obtain ⟨k9, q1, q2⟩ := hbad
            repeat' (first
              | (conv => whnf)
                first
                | refine Br.t ?_
                | refine Br.f ?_
                | (refine Br.decT ?_ ?_; (focus first | assumption | omega))
                | (refine Br.decF ?_ ?_; (focus first | assumption | omega))
                | refine Br.dec (fun _ => ?_) (fun _ => ?_)
                | refine Br.not ?_
                | refine Br.and ?_
                | refine Br.or ?_
                | (refine Bnd.i64 ?_ ?_ ?_; (focus omega); (focus omega))
                | refine call_fresh rfl (hmsh _ rfl) hNo ?_
                | refine call_fresh rfl (hmsb _ rfl) q2 ?_
                | refine call_fun rfl rfl hOne (.inl rfl) ?_
                | refine call_fun rfl rfl awake (.inl rfl) ?_
                | (refine Idx.nat ?_ ?_; (focus omega))
                | refine Idx.nat (le_big (by omega)) ?_
                | (refine Idx.int ?_ ?_ ?_; (focus omega); (focus omega))
                | (refine Idx.int ?_ ?_ ?_; (focus decide); (focus decide))
                | refine Ifz.zero ?_
                | (refine Ifz.pos ?_ ?_; (focus omega))
                | refine Get.mk _ rfl ?_
                | refine Leaves.of ?_
                | refine Ends.of ?_
                | refine Vw.bool ?_
                | refine Vw.int ?_
                | refine Vw.nil
                | refine Vw.sl
                | refine Vw.tup ?_
                | refine Vw.agg ?_
                | refine VwL.cons ?_ ?_
                | refine VwL.nil
                | refine LeavesF.of ?_
                | refine VwF.bool ?_
                | refine VwF.int ?_
                | refine VwF.nil
                | refine VwF.sl
                | refine VwF.tup ?_
                | refine VwF.agg ?_
                | refine VwLF.cons ?_ ?_
                | refine VwLF.nil
                | (refine Req.mk ?_ ?_; (focus first | rfl | decide | exact ⟨rfl, rfl⟩ | exact ⟨rfl, by decide⟩ | exact (fun _ => rfl) | exact (fun h => nomatch h) | (simp; done) | omega | (simp [big]; done) | exact le_big (by omega) | exact lt_big (by omega))))
            all_goals first | rfl | (exfalso; omega)
          | inr hgood =>
            obtain ⟨k1, kk, q2⟩ := hgood
            repeat' (first
              | (conv => whnf)
                first
                | refine Br.t ?_
                | refine Br.f ?_
                | (refine Br.decT ?_ ?_; (focus first | assumption | omega))
                | (refine Br.decF ?_ ?_; (focus first | assumption | omega))
                | refine Br.dec (fun _ => ?_) (fun _ => ?_)
                | refine Br.not ?_
                | refine Br.and ?_
                | refine Br.or ?_
                | (refine Bnd.i64 ?_ ?_ ?_; (focus omega); (focus omega))
                | refine call_fresh rfl (hmsh _ rfl) hNo ?_
                | refine call_fresh rfl (hmsb _ rfl) q2 ?_
                | refine call_fun rfl rfl hOne (.inl rfl) ?_
                | refine call_fun rfl (hmsc _ rfl) hSmR (.inr rfl) ?_
                | refine call_fun rfl rfl awake (.inl rfl) ?_
                | (refine Idx.nat ?_ ?_; (focus omega))
                | refine Idx.nat (le_big (by omega)) ?_
                | (refine Idx.int ?_ ?_ ?_; (focus omega); (focus omega))
                | (refine Idx.int ?_ ?_ ?_; (focus decide); (focus decide))
                | refine Ifz.zero ?_
                | (refine Ifz.pos ?_ ?_; (focus omega))
                | refine Get.mk _ rfl ?_
                | refine Leaves.of ?_
                | refine Ends.of ?_
                | refine Vw.bool ?_
                | refine Vw.int ?_
                | refine Vw.nil
                | refine Vw.sl
                | refine Vw.tup ?_
                | refine Vw.agg ?_
                | refine VwL.cons ?_ ?_
                | refine VwL.nil
                | refine LeavesF.of ?_
                | refine VwF.bool ?_
                | refine VwF.int ?_
                | refine VwF.nil
                | refine VwF.sl
                | refine VwF.tup ?_
                | refine VwF.agg ?_
                | refine VwLF.cons ?_ ?_
                | refine VwLF.nil
                | (refine Req.mk ?_ ?_; (focus first | rfl | decide | exact ⟨rfl, rfl⟩ | exact ⟨rfl, by decide⟩ | exact (fun _ => rfl) | exact (fun h => nomatch h) | (simp; done) | omega | (simp [big]; done) | exact le_big (by omega) | exact lt_big (by omega))))
            all_goals first | rfl | (exfalso; omega)
set_option maxRecDepth 100000 in
set_option maxHeartbeats 20000000 in
theorem quiet_bad1 {c c2 c3 : Bool} {l sp kp : List Int} {p b s m r k0 k : Int} (hk0 : k0 ≠ 0) (hbh : BadHm (smpE l 1000000) l.length p k0) (hk : k ≠ 0) (hbp : BadPl (smpE l 1000000) l.length b s m k) :
    Fun F md 15 [.sl c l.length (ofI l), .int .i64 p, plV b s m c2 sp r c3 kp] (.bool true) := by
  have hH := hum_bad (c := c) hbh
  have hPl := pull_bad (c := c) hbp
  refine fun_of rfl rfl ?_
  repeat' (first
    | (conv => whnf)
      first
      | refine Br.t ?_
      | refine Br.f ?_
      | (refine Br.decT ?_ ?_; (focus first | assumption | omega))
      | (refine Br.decF ?_ ?_; (focus first | assumption | omega))
      | refine Br.dec (fun _ => ?_) (fun _ => ?_)
      | refine Br.not ?_
      | refine Br.and ?_
      | refine Br.or ?_
      | (refine Bnd.i64 ?_ ?_ ?_; (focus omega); (focus omega))
      | refine call_fun rfl rfl hH (.inl rfl) ?_
      | (refine Idx.nat ?_ ?_; (focus omega))
      | refine Idx.nat (le_big (by omega)) ?_
      | (refine Idx.int ?_ ?_ ?_; (focus omega); (focus omega))
      | (refine Idx.int ?_ ?_ ?_; (focus decide); (focus decide))
      | refine Ifz.zero ?_
      | (refine Ifz.pos ?_ ?_; (focus omega))
      | refine Get.mk _ rfl ?_
      | refine Leaves.of ?_
      | refine Ends.of ?_
      | refine Vw.bool ?_
      | refine Vw.int ?_
      | refine Vw.nil
      | refine Vw.sl
      | refine Vw.tup ?_
      | refine Vw.agg ?_
      | refine VwL.cons ?_ ?_
      | refine VwL.nil
      | refine LeavesF.of ?_
      | refine VwF.bool ?_
      | refine VwF.int ?_
      | refine VwF.nil
      | refine VwF.sl
      | refine VwF.tup ?_
      | refine VwF.agg ?_
      | refine VwLF.cons ?_ ?_
      | refine VwLF.nil
      | (refine Req.mk ?_ ?_; (focus first | rfl | decide | exact ⟨rfl, rfl⟩ | exact ⟨rfl, by decide⟩ | exact (fun _ => rfl) | exact (fun h => nomatch h) | (simp; done) | omega | (simp [big]; done) | exact le_big (by omega) | exact lt_big (by omega))))
  all_goals try (exfalso; omega)
  repeat' (first
    | (conv => whnf)
      first
      | refine Br.t ?_
      | refine Br.f ?_
      | (refine Br.decT ?_ ?_; (focus first | assumption | omega))
      | (refine Br.decF ?_ ?_; (focus first | assumption | omega))
      | refine Br.dec (fun _ => ?_) (fun _ => ?_)
      | refine Br.not ?_
      | refine Br.and ?_
      | refine Br.or ?_
      | (refine Bnd.i64 ?_ ?_ ?_; (focus omega); (focus omega))
      | refine call_fun rfl rfl hPl (.inl rfl) ?_
      | refine call_fun rfl rfl awake (.inl rfl) ?_
      | (refine Idx.nat ?_ ?_; (focus omega))
      | refine Idx.nat (le_big (by omega)) ?_
      | (refine Idx.int ?_ ?_ ?_; (focus omega); (focus omega))
      | (refine Idx.int ?_ ?_ ?_; (focus decide); (focus decide))
      | refine Ifz.zero ?_
      | (refine Ifz.pos ?_ ?_; (focus omega))
      | refine Get.mk _ rfl ?_
      | refine Leaves.of ?_
      | refine Ends.of ?_
      | refine Vw.bool ?_
      | refine Vw.int ?_
      | refine Vw.nil
      | refine Vw.sl
      | refine Vw.tup ?_
      | refine Vw.agg ?_
      | refine VwL.cons ?_ ?_
      | refine VwL.nil
      | refine LeavesF.of ?_
      | refine VwF.bool ?_
      | refine VwF.int ?_
      | refine VwF.nil
      | refine VwF.sl
      | refine VwF.tup ?_
      | refine VwF.agg ?_
      | refine VwLF.cons ?_ ?_
      | refine VwLF.nil
      | (refine Req.mk ?_ ?_; (focus first | rfl | decide | exact ⟨rfl, rfl⟩ | exact ⟨rfl, by decide⟩ | exact (fun _ => rfl) | exact (fun h => nomatch h) | (simp; done) | omega | (simp [big]; done) | exact le_big (by omega) | exact lt_big (by omega))))
  all_goals first | rfl | (exfalso; omega)
set_option maxRecDepth 100000 in
set_option maxHeartbeats 20000000 in
theorem quiet_bad2 {c c2 c3 : Bool} {l sp kp : List Int} {b s m r k : Int} {p : Nat} (hp : 1 ≤ p) (hp5 : p ≤ 500) (hpl : p ≤ l.length) (hE : smpE l 1000000 = 0) (hk : k ≠ 0) (hbp : BadPl (smpE l 1000000) l.length b s m k) :
    Fun F md 15 [.sl c l.length (ofI l), .int .i64 (p : Nat), plV b s m c2 sp r c3 kp] (.bool true) := by
  have hgl := gI_in (m := 1000000) (by omega) (smp_ok hE).2
  have hgl' : ∀ i, -10000000 ≤ gI l i ∧ gI l i ≤ 10000000 := fun i => by have := hgl i; omega
  have hH := hum_ok (c := c) hE hp hp5 hpl
  have hfine := hum_fine hE hp hp5 hpl
  have hCl := clean_of (f := 48) (c := c) (c' := decide (p = p)) (.inl ⟨rfl, rfl⟩) (humming_ok hfine (by omega) (.inr rfl))
  rw [show (acc (humX l p) p).length = p from acc_length _ _] at hCl
  have hAl : (acc (clX l (acc (humX l p) p) (-1)) l.length).length = l.length := acc_length _ _
  have hMa := fun k (hk : k < p) => mean_any (c := false) (l := acc (clX l (acc (humX l p) p) (-1)) l.length) (k := k) (p := p) (by rw [hAl]; exact (smp_ok hE).1) hk (by rw [hAl]; omega) (by omega) (clean_range (by omega) hpl hgl (fun k hk => by
    have m1 := mean_in (p := p) hgl hk (by omega)
    have m0 := mean_in (p := 1) (k := 0) hgl (by omega) (by omega)
    unfold humX; omega))
  rw [hAl] at hMa
  have hMa2 : ∀ k, k < p → Fun F md 52 [.sl false l.length (ofI (acc (clX l (acc (humX l p) p) (-1)) l.length)), .int .i64 (k : Nat), .int .i64 (p : Nat)] (.int .i64 (meanR l 0 1)) := fun k hk => by
    have := hMa k hk
    rwa [mean_clean hk hpl] at this
  have hMl := mean_any (c := c) (l := l) (k := 0) (p := 1) (smp_ok hE).1 (by omega) (by omega) (by omega) hgl'
  clear hMa
  generalize ofI (acc (clX l (acc (humX l p) p) (-1)) l.length) = Ca at *
  generalize ofI (acc (humX l p) p) = Ch at *
  generalize meanR l 0 1 = m0 at *
  have hPl := pull_bad (c := c) hbp
  refine fun_of rfl rfl ?_
  repeat' (first
    | (conv => whnf)
      first
      | refine Br.t ?_
      | refine Br.f ?_
      | (refine Br.decT ?_ ?_; (focus first | assumption | omega))
      | (refine Br.decF ?_ ?_; (focus first | assumption | omega))
      | refine Br.dec (fun _ => ?_) (fun _ => ?_)
      | refine Br.not ?_
      | refine Br.and ?_
      | refine Br.or ?_
      | (refine Bnd.i64 ?_ ?_ ?_; (focus omega); (focus omega))
      | refine call_fun rfl rfl hH (.inl rfl) ?_
      | refine call_fun rfl rfl hCl (.inl rfl) ?_
      | (refine Idx.nat ?_ ?_; (focus omega))
      | refine Idx.nat (le_big (by omega)) ?_
      | (refine Idx.int ?_ ?_ ?_; (focus omega); (focus omega))
      | (refine Idx.int ?_ ?_ ?_; (focus decide); (focus decide))
      | refine Ifz.zero ?_
      | (refine Ifz.pos ?_ ?_; (focus omega))
      | refine Get.mk _ rfl ?_
      | refine Leaves.of ?_
      | refine Ends.of ?_
      | refine Vw.bool ?_
      | refine Vw.int ?_
      | refine Vw.nil
      | refine Vw.sl
      | refine Vw.tup ?_
      | refine Vw.agg ?_
      | refine VwL.cons ?_ ?_
      | refine VwL.nil
      | refine LeavesF.of ?_
      | refine VwF.bool ?_
      | refine VwF.int ?_
      | refine VwF.nil
      | refine VwF.sl
      | refine VwF.tup ?_
      | refine VwF.agg ?_
      | refine VwLF.cons ?_ ?_
      | refine VwLF.nil
      | (refine Req.mk ?_ ?_; (focus first | rfl | decide | exact ⟨rfl, rfl⟩ | exact ⟨rfl, by decide⟩ | exact (fun _ => rfl) | exact (fun h => nomatch h) | (simp; done) | omega | (simp [big]; done) | exact le_big (by omega) | exact lt_big (by omega))))
  all_goals try (exfalso; omega)
  refine LoopP.byQ (fun k : Nat => k ≤ p) (fun k => [(11, .int .i64 (k : Nat))]) (fun _ => []) (fun k => p - k) 0 (Nat.zero_le _) rfl ?_
  intro q hq
  by_cases hqp : q < p
  · have hMq := hMa2 q hqp
    repeat' (first
      | (conv => whnf)
        first
        | refine Br.t ?_
        | refine Br.f ?_
        | (refine Br.decT ?_ ?_; (focus first | assumption | omega))
        | (refine Br.decF ?_ ?_; (focus first | assumption | omega))
        | refine Br.dec (fun _ => ?_) (fun _ => ?_)
        | refine Br.not ?_
        | refine Br.and ?_
        | refine Br.or ?_
        | (refine Bnd.i64 ?_ ?_ ?_; (focus omega); (focus omega))
        | refine call_fun rfl rfl hMq (.inl rfl) ?_
        | refine call_fun rfl rfl hMl (.inl rfl) ?_
        | (refine Idx.nat ?_ ?_; (focus omega))
        | refine Idx.nat (le_big (by omega)) ?_
        | (refine Idx.int ?_ ?_ ?_; (focus omega); (focus omega))
        | (refine Idx.int ?_ ?_ ?_; (focus decide); (focus decide))
        | refine Ifz.zero ?_
        | (refine Ifz.pos ?_ ?_; (focus omega))
        | refine Get.mk _ rfl ?_
        | refine Leaves.of ?_
        | refine Ends.of ?_
        | refine Vw.bool ?_
        | refine Vw.int ?_
        | refine Vw.nil
        | refine Vw.sl
        | refine Vw.tup ?_
        | refine Vw.agg ?_
        | refine VwL.cons ?_ ?_
        | refine VwL.nil
        | refine LeavesF.of ?_
        | refine VwF.bool ?_
        | refine VwF.int ?_
        | refine VwF.nil
        | refine VwF.sl
        | refine VwF.tup ?_
        | refine VwF.agg ?_
        | refine VwLF.cons ?_ ?_
        | refine VwLF.nil
        | (refine Req.mk ?_ ?_; (focus first | rfl | decide | exact ⟨rfl, rfl⟩ | exact ⟨rfl, by decide⟩ | exact (fun _ => rfl) | exact (fun h => nomatch h) | (simp; done) | omega | (simp [big]; done) | exact le_big (by omega) | exact lt_big (by omega))))
    all_goals first | exact NextP.mk (q + 1) (by omega) (by omega) rfl | (exfalso; omega)
  · obtain rfl : q = p := by omega
    repeat' (first
      | (conv => whnf)
        first
        | refine Br.t ?_
        | refine Br.f ?_
        | (refine Br.decT ?_ ?_; (focus first | assumption | omega))
        | (refine Br.decF ?_ ?_; (focus first | assumption | omega))
        | refine Br.dec (fun _ => ?_) (fun _ => ?_)
        | refine Br.not ?_
        | refine Br.and ?_
        | refine Br.or ?_
        | (refine Bnd.i64 ?_ ?_ ?_; (focus omega); (focus omega))
        | refine call_fun rfl rfl hPl (.inl rfl) ?_
        | refine call_fun rfl rfl awake (.inl rfl) ?_
        | (refine Idx.nat ?_ ?_; (focus omega))
        | refine Idx.nat (le_big (by omega)) ?_
        | (refine Idx.int ?_ ?_ ?_; (focus omega); (focus omega))
        | (refine Idx.int ?_ ?_ ?_; (focus decide); (focus decide))
        | refine Ifz.zero ?_
        | (refine Ifz.pos ?_ ?_; (focus omega))
        | refine Get.mk _ rfl ?_
        | refine Leaves.of ?_
        | refine Ends.of ?_
        | refine Vw.bool ?_
        | refine Vw.int ?_
        | refine Vw.nil
        | refine Vw.sl
        | refine Vw.tup ?_
        | refine Vw.agg ?_
        | refine VwL.cons ?_ ?_
        | refine VwL.nil
        | refine LeavesF.of ?_
        | refine VwF.bool ?_
        | refine VwF.int ?_
        | refine VwF.nil
        | refine VwF.sl
        | refine VwF.tup ?_
        | refine VwF.agg ?_
        | refine VwLF.cons ?_ ?_
        | refine VwLF.nil
        | (refine Req.mk ?_ ?_; (focus first | rfl | decide | exact ⟨rfl, rfl⟩ | exact ⟨rfl, by decide⟩ | exact (fun _ => rfl) | exact (fun h => nomatch h) | (simp; done) | omega | (simp [big]; done) | exact le_big (by omega) | exact lt_big (by omega))))
    all_goals first | rfl | (exfalso; omega)
theorem law_quiet (c c2 c3 : Bool) (l sp kp : List Int) (p b s m r : Int) : Fun F md 15 [.sl c l.length (ofI l), .int .i64 p, plV b s m c2 sp r c3 kp] (.bool true) := by
  rcases hm_cases l p with ⟨k0, hk0, hbh⟩ | ⟨hE, pn, rfl, hp, hp5, hpl⟩
  · rcases pl_cases l b s m with ⟨k, hk, hbp⟩ | ⟨hE, hl1, hb, hs, n, rfl, hn⟩
    · exact quiet_bad1 hk0 hbh hk hbp
    · exact quiet_nohum hk0 hbh hE hl1 hb hs hn
  · rcases pl_cases l b s m with ⟨k, hk, hbp⟩ | ⟨_, hl1, hb, hs, n, rfl, hn⟩
    · exact quiet_bad2 hp hp5 hpl hE hk hbp
    · exact quiet_hum hp hp5 hpl hE hl1 hb hs hn

end Go.Dr.T
