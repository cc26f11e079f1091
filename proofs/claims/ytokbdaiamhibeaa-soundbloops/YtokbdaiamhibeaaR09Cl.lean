/- Chapter 09: samples with and without a hum, both (the program: samples that are there). -/
import Derived.Test.YtokbdaiamhibeaaR09Hn
namespace Go.Dr.T

/-! lists that are changed from the first one on -/
def mix (f g : Nat → Int) (n i : Nat) : List Int := (List.range n).map fun j => if j < i then f j else g j
theorem mix_length (f g : Nat → Int) (n i : Nat) : (mix f g n i).length = n := by simp [mix]
theorem mix_zero (f : Nat → Int) (l : List Int) : mix f (gI l) l.length 0 = l := by
  refine List.ext_getElem (by simp [mix]) fun i h1 h2 => ?_
  simp [mix, gI_get h2]
theorem mix_full (f g : Nat → Int) (n : Nat) : mix f g n n = acc f n := by
  refine List.ext_getElem (by simp [mix, acc]) fun i h1 h2 => ?_
  have : i < n := by simpa [mix] using h1
  simp [mix, acc, this]
theorem mix_set {f g : Nat → Int} {n i : Nat} (_h : i < n) : (mix f g n i).set i (f i) = mix f g n (i + 1) := by
  refine List.ext_getElem (by simp [mix]) fun j h1 h2 => ?_
  rw [List.getElem_set]
  simp only [mix, List.getElem_map, List.getElem_range]
  by_cases e : i = j
  · subst e; simp
  · rw [if_neg e]
    by_cases e2 : j < i
    · rw [if_pos e2, if_pos (by omega)]
    · rw [if_neg e2, if_neg (by omega)]
theorem mix_at {f g : Nat → Int} {n i : Nat} (h : i < n) : gI (mix f g n i) i = g i := by
  rw [gI_get (by rw [mix_length]; exact h)]
  simp [mix]
theorem eq_nil {c : Bool} {n : Nat} {l : List V} (h : n ≠ 0) : eqv2 3 (.sl c n l) .nilsl = some false := by
  unfold eqv2; simp [h]
def clX (l hum : List Int) (s : Int) (i : Nat) : Int := gI l i + s * gI hum (i % hum.length)
def humE (l hum : List Int) : Int := if smpE l 4000000 ≠ 0 then smpE l 4000000 else if 500 < hum.length then 3 else if hum.length = 0 then 9 else smpE hum 2000000
theorem humE_ok {l hum : List Int} (h : humE l hum = 0) : smpE l 4000000 = 0 ∧ 0 < hum.length ∧ hum.length ≤ 500 ∧ smpE hum 2000000 = 0 := by
  unfold humE at h
  split at h
  · rename_i q; exact absurd h q
  · split at h
    · cases h
    · split at h
      · cases h
      · exact ⟨by omega, by omega, by omega, h⟩
set_option maxRecDepth 100000 in
set_option maxHeartbeats 20000000 in
theorem humming_ok {c c' : Bool} {l hum : List Int} {s : Int} (hE : humE l hum = 0) (h0 : l.length ≠ 0) (hs : s = 1 ∨ s = -1) :
    Fun F md 82 [.sl c l.length (ofI l), .sl c' hum.length (ofI hum), .int .i64 s] (.tup [.sl false l.length (ofI (acc (clX l hum s) l.length)), .int .i64 0]) := by
  obtain ⟨e1, e2, e3, e4⟩ := humE_ok hE
  have hst := strange_any (c := c) (l := l) (m := 4000000) (by omega)
  have hst2 := strange_any (c := c') (l := hum) (m := 2000000) (by omega)
  rw [e1] at hst
  rw [e4] at hst2
  obtain ⟨hL, hin⟩ := smp_ok e1
  have hg := gI_in (m := 4000000) (by omega) hin
  obtain ⟨hL2, hin2⟩ := smp_ok e4
  have hg2 := gI_in (m := 2000000) (by omega) hin2
  have hne := eq_nil (c := c) (l := ofI l) h0
  have hlb : (ofI l).length = l.length := ofI_length l
  have hq1 : (ofI l).length = l.length * 1 := by rw [hlb, Nat.mul_one]
  have hq2 : (([] : List V).length + (ofI l).length) * (8 + 1) < big := by rw [hlb]; simp [big]; omega
  have hq3 : true = true → scalars (([] : List V) ++ ofI l) = true := fun _ => scal_ints l
  refine fun_of rfl rfl ?_
  repeat' (first
    | (conv => whnf)
      first
      | refine Br.t ?_
      | refine Br.f ?_
      | (refine Br.decT ?_ ?_; (focus first | assumption | omega))
      | (refine Br.decF ?_ ?_; (focus first | assumption | omega))
      | refine Br.dec (fun _ => ?_) (fun _ => ?_)
      | refine Br.not ?_
      | refine Br.and ?_
      | refine Br.or ?_
      | (refine Bnd.i64 ?_ ?_ ?_; (focus omega); (focus omega))
      | refine call_fun rfl rfl hst (.inl rfl) ?_
      | refine call_fun rfl rfl hst2 (.inl rfl) ?_
      | refine call_one rfl rfl rfl ?_
      | refine Get.mk _ hne ?_
      | refine Req.mk hq1 ?_
      | refine Req.mk hq2 ?_
      | refine Req.mk hq3 ?_
      | (refine Idx.nat ?_ ?_; (focus omega))
      | refine Idx.nat (le_big (by omega)) ?_
      | (refine Idx.int ?_ ?_ ?_; (focus omega); (focus omega))
      | (refine Idx.int ?_ ?_ ?_; (focus decide); (focus decide))
      | refine Ifz.zero ?_
      | (refine Ifz.pos ?_ ?_; (focus omega))
      | refine Get.mk _ rfl ?_
      | refine Leaves.of ?_
      | refine Ends.of ?_
      | refine Vw.bool ?_
      | refine Vw.int ?_
      | refine Vw.nil
      | refine Vw.sl
      | refine Vw.tup ?_
      | refine Vw.agg ?_
      | refine VwL.cons ?_ ?_
      | refine VwL.nil
      | refine LeavesF.of ?_
      | refine VwF.bool ?_
      | refine VwF.int ?_
      | refine VwF.nil
      | refine VwF.sl
      | refine VwF.tup ?_
      | refine VwF.agg ?_
      | refine VwLF.cons ?_ ?_
      | refine VwLF.nil
      | (refine Req.mk ?_ ?_; (focus first | rfl | decide | exact ⟨rfl, rfl⟩ | exact ⟨rfl, by decide⟩ | exact (fun _ => rfl) | exact (fun h => nomatch h) | (simp; done) | omega | (simp [big]; done) | exact le_big (by omega) | exact lt_big (by omega))))
  all_goals try (exfalso; omega)
  refine LoopP.by (fun i : Nat => i ≤ l.length) (fun i => [(34, .int .i64 (i : Nat))]) (fun i => [.blk (ofI (mix (clX l hum s) (gI l) l.length i)) true]) (fun i => l.length - i) 0 (Nat.zero_le _) ?_ ?_
  · rw [mix_zero, Nat.zero_add]; rfl
  intro i hi
  have hlm : (ofI (mix (clX l hum s) (gI l) l.length i)).length = ([] : List V).length + (ofI l).length := by rw [ofI_length, mix_length, hlb]; simp
  by_cases hin' : i < l.length
  · have hc := gI_cell0 (l := mix (clX l hum s) (gI l) l.length i) (i := i) (by rw [mix_length]; exact hin')
    rw [mix_at hin'] at hc
    have hput := ofI_put0 (l := mix (clX l hum s) (gI l) l.length i) (i := i) (v := clX l hum s i) (by rw [mix_length]; exact hin')
    rw [mix_set hin'] at hput
    have hR : (i : Int).tmod (hum.length : Int) = ((i % hum.length : Nat) : Int) := Int.ofNat_tmod _ _
    have hrl : i % hum.length < hum.length := Nat.mod_lt _ e2
    have hch := gI_cell hrl
    have hgi := hg i
    have hgh := hg2 (i % hum.length)
    have hX : clX l hum s i = gI l i + s * gI hum (i % hum.length) := rfl
    generalize hC2 : ofI (mix (clX l hum s) (gI l) l.length (i + 1)) = C2 at *
    generalize ofI (mix (clX l hum s) (gI l) l.length i) = C0 at *
    rw [hX] at hput
    have hsh : -2000000 ≤ s * gI hum (i % hum.length) ∧ s * gI hum (i % hum.length) ≤ 2000000 := by rcases hs with rfl | rfl <;> omega
    have hmul : IntKind.i64.wrap (s * gI hum (i % hum.length)) = s * gI hum (i % hum.length) := wrap_i64 (by omega) (by omega)
    generalize gI hum (i % hum.length) = h at *
    generalize i % hum.length = r at *
    generalize gI l i = x at *
    repeat' (first
      | (conv => whnf)
        first
        | refine Bnd.eq hR ?_
        | refine Bnd.eq hmul ?_
        | refine Br.t ?_
        | refine Br.f ?_
        | (refine Br.decT ?_ ?_; (focus first | assumption | omega))
        | (refine Br.decF ?_ ?_; (focus first | assumption | omega))
        | refine Br.dec (fun _ => ?_) (fun _ => ?_)
        | refine Br.not ?_
        | refine Br.and ?_
        | refine Br.or ?_
        | (refine Bnd.i64 ?_ ?_ ?_; (focus omega); (focus omega))
        | refine Req.mk (show (_ : Int) ≠ 0 by omega) ?_
        | refine Get.mk _ hc ?_
        | refine Get.mk _ hch ?_
        | refine fVe hput ?_
        | refine Req.mk hlm ?_
        | refine Req.mk ⟨hlm, by omega⟩ ?_
        | (refine Idx.nat ?_ ?_; (focus omega))
        | refine Idx.nat (le_big (by omega)) ?_
        | (refine Idx.int ?_ ?_ ?_; (focus omega); (focus omega))
        | (refine Idx.int ?_ ?_ ?_; (focus decide); (focus decide))
        | refine Ifz.zero ?_
        | (refine Ifz.pos ?_ ?_; (focus omega))
        | refine Get.mk _ rfl ?_
        | refine Leaves.of ?_
        | refine Ends.of ?_
        | refine Vw.bool ?_
        | refine Vw.int ?_
        | refine Vw.nil
        | refine Vw.sl
        | refine Vw.tup ?_
        | refine Vw.agg ?_
        | refine VwL.cons ?_ ?_
        | refine VwL.nil
        | refine LeavesF.of ?_
        | refine VwF.bool ?_
        | refine VwF.int ?_
        | refine VwF.nil
        | refine VwF.sl
        | refine VwF.tup ?_
        | refine VwF.agg ?_
        | refine VwLF.cons ?_ ?_
        | refine VwLF.nil
        | (refine Req.mk ?_ ?_; (focus first | rfl | decide | exact ⟨rfl, rfl⟩ | exact ⟨rfl, by decide⟩ | exact (fun _ => rfl) | exact (fun h => nomatch h) | (simp; done) | omega | (simp [big]; done) | exact le_big (by omega) | exact lt_big (by omega))))
    all_goals first | exact NextP.mk (i + 1) (by omega) (by omega) (by rw [hC2]; rfl) | (exfalso; omega)
  · obtain rfl : i = l.length := by omega
    rw [mix_full] at hlm ⊢
    repeat' (first
      | (conv => whnf)
        first
        | refine Br.t ?_
        | refine Br.f ?_
        | (refine Br.decT ?_ ?_; (focus first | assumption | omega))
        | (refine Br.decF ?_ ?_; (focus first | assumption | omega))
        | refine Br.dec (fun _ => ?_) (fun _ => ?_)
        | refine Br.not ?_
        | refine Br.and ?_
        | refine Br.or ?_
        | (refine Bnd.i64 ?_ ?_ ?_; (focus omega); (focus omega))
        | (refine Idx.nat ?_ ?_; (focus omega))
        | refine Idx.nat (le_big (by omega)) ?_
        | (refine Idx.int ?_ ?_ ?_; (focus omega); (focus omega))
        | (refine Idx.int ?_ ?_ ?_; (focus decide); (focus decide))
        | refine Ifz.zero ?_
        | (refine Ifz.pos ?_ ?_; (focus omega))
        | refine Get.mk _ rfl ?_
        | refine Leaves.of ?_
        | refine Ends.of ?_
        | refine Vw.bool ?_
        | refine Vw.int ?_
        | refine Vw.nil
        | refine Vw.sl
        | refine Vw.tup ?_
        | refine Vw.agg ?_
        | refine VwL.cons ?_ ?_
        | refine VwL.nil
        | refine LeavesF.of ?_
        | refine VwF.bool ?_
        | refine VwF.int ?_
        | refine VwF.nil
        | refine VwF.sl
        | refine VwF.tup ?_
        | refine VwF.agg ?_
        | refine VwLF.cons ?_ ?_
        | refine VwLF.nil
        | (refine Req.mk ?_ ?_; (focus first | rfl | decide | exact ⟨rfl, rfl⟩ | exact ⟨rfl, by decide⟩ | exact (fun _ => rfl) | exact (fun h => nomatch h) | (simp; done) | omega | (simp [big]; done) | exact le_big (by omega) | exact lt_big (by omega))))
    · refine Vw.ints rfl rfl (by rw [acc_length, hlb]; simp) (by rw [acc_length]; simp) (by rw [acc_length])
    all_goals first | rfl | (exfalso; omega)

set_option maxRecDepth 100000 in
set_option maxHeartbeats 20000000 in
theorem humming_bad {c c' : Bool} {l hum : List Int} {s k : Int} (hk : humE l hum = k) (h0 : k ≠ 0) :
    Fun F md 82 [.sl c l.length (ofI l), .sl c' hum.length (ofI hum), .int .i64 s] (.tup [.sl true 0 [], .int .i64 k]) := by
  have hst := strange_any (c := c) (l := l) (m := 4000000) (by omega)
  have hst2 := strange_any (c := c') (l := hum) (m := 2000000) (by omega)
  unfold humE at hk
  generalize smpE l 4000000 = k1 at *
  generalize smpE hum 2000000 = k2 at *
  by_cases q1 : k1 = 0
  · subst q1
    rw [if_neg (by simp)] at hk
    by_cases q2 : 500 < hum.length
    · rw [if_pos q2] at hk
      subst hk
      refine fun_of rfl rfl ?_
      repeat' (first
        | (conv => whnf)
          first
          | refine Br.t ?_
          | refine Br.f ?_
          | (refine Br.decT ?_ ?_; (focus first | assumption | omega))
          | (refine Br.decF ?_ ?_; (focus first | assumption | omega))
          | refine Br.dec (fun _ => ?_) (fun _ => ?_)
          | refine Br.not ?_
          | refine Br.and ?_
          | refine Br.or ?_
          | (refine Bnd.i64 ?_ ?_ ?_; (focus omega); (focus omega))
          | refine call_fun rfl rfl hst (.inl rfl) ?_
          | refine call_fun rfl rfl hst2 (.inl rfl) ?_
          | (refine Idx.nat ?_ ?_; (focus omega))
          | refine Idx.nat (le_big (by omega)) ?_
          | (refine Idx.int ?_ ?_ ?_; (focus omega); (focus omega))
          | (refine Idx.int ?_ ?_ ?_; (focus decide); (focus decide))
          | refine Ifz.zero ?_
          | (refine Ifz.pos ?_ ?_; (focus omega))
          | refine Get.mk _ rfl ?_
          | refine Leaves.of ?_
          | refine Ends.of ?_
          | refine Vw.bool ?_
          | refine Vw.int ?_
          | refine Vw.nil
          | refine Vw.sl
          | refine Vw.tup ?_
          | refine Vw.agg ?_
          | refine VwL.cons ?_ ?_
          | refine VwL.nil
          | refine LeavesF.of ?_
          | refine VwF.bool ?_
          | refine VwF.int ?_
          | refine VwF.nil
          | refine VwF.sl
          | refine VwF.tup ?_
          | refine VwF.agg ?_
          | refine VwLF.cons ?_ ?_
          | refine VwLF.nil
          | (refine Req.mk ?_ ?_; (focus first | rfl | decide | exact ⟨rfl, rfl⟩ | exact ⟨rfl, by decide⟩ | exact (fun _ => rfl) | exact (fun h => nomatch h) | (simp; done) | omega | (simp [big]; done) | exact le_big (by omega) | exact lt_big (by omega))))
      all_goals first | rfl | (exfalso; omega)
    · rw [if_neg q2] at hk
      by_cases q3 : hum.length = 0
      · rw [if_pos q3] at hk
        subst hk
        refine fun_of rfl rfl ?_
        repeat' (first
          | (conv => whnf)
            first
            | refine Br.t ?_
            | refine Br.f ?_
            | (refine Br.decT ?_ ?_; (focus first | assumption | omega))
            | (refine Br.decF ?_ ?_; (focus first | assumption | omega))
            | refine Br.dec (fun _ => ?_) (fun _ => ?_)
            | refine Br.not ?_
            | refine Br.and ?_
            | refine Br.or ?_
            | (refine Bnd.i64 ?_ ?_ ?_; (focus omega); (focus omega))
            | refine call_fun rfl rfl hst (.inl rfl) ?_
            | refine call_fun rfl rfl hst2 (.inl rfl) ?_
            | (refine Idx.nat ?_ ?_; (focus omega))
            | refine Idx.nat (le_big (by omega)) ?_
            | (refine Idx.int ?_ ?_ ?_; (focus omega); (focus omega))
            | (refine Idx.int ?_ ?_ ?_; (focus decide); (focus decide))
            | refine Ifz.zero ?_
            | (refine Ifz.pos ?_ ?_; (focus omega))
            | refine Get.mk _ rfl ?_
            | refine Leaves.of ?_
            | refine Ends.of ?_
            | refine Vw.bool ?_
            | refine Vw.int ?_
            | refine Vw.nil
            | refine Vw.sl
            | refine Vw.tup ?_
            | refine Vw.agg ?_
            | refine VwL.cons ?_ ?_
            | refine VwL.nil
            | refine LeavesF.of ?_
            | refine VwF.bool ?_
            | refine VwF.int ?_
            | refine VwF.nil
            | refine VwF.sl
            | refine VwF.tup ?_
            | refine VwF.agg ?_
            | refine VwLF.cons ?_ ?_
            | refine VwLF.nil
            | (refine Req.mk ?_ ?_; (focus first | rfl | decide | exact ⟨rfl, rfl⟩ | exact ⟨rfl, by decide⟩ | exact (fun _ => rfl) | exact (fun h => nomatch h) | (simp; done) | omega | (simp [big]; done) | exact le_big (by omega) | exact lt_big (by omega))))
        all_goals first | rfl | (exfalso; omega)
      · rw [if_neg q3] at hk
        subst hk
        refine fun_of rfl rfl ?_
        repeat' (first
          | (conv => whnf)
            first
            | refine Br.t ?_
            | refine Br.f ?_
            | (refine Br.decT ?_ ?_; (focus first | assumption | omega))
            | (refine Br.decF ?_ ?_; (focus first | assumption | omega))
            | refine Br.dec (fun _ => ?_) (fun _ => ?_)
            | refine Br.not ?_
            | refine Br.and ?_
            | refine Br.or ?_
            | (refine Bnd.i64 ?_ ?_ ?_; (focus omega); (focus omega))
            | refine call_fun rfl rfl hst (.inl rfl) ?_
            | refine call_fun rfl rfl hst2 (.inl rfl) ?_
            | (refine Idx.nat ?_ ?_; (focus omega))
            | refine Idx.nat (le_big (by omega)) ?_
            | (refine Idx.int ?_ ?_ ?_; (focus omega); (focus omega))
            | (refine Idx.int ?_ ?_ ?_; (focus decide); (focus decide))
            | refine Ifz.zero ?_
            | (refine Ifz.pos ?_ ?_; (focus omega))
            | refine Get.mk _ rfl ?_
            | refine Leaves.of ?_
            | refine Ends.of ?_
            | refine Vw.bool ?_
            | refine Vw.int ?_
            | refine Vw.nil
            | refine Vw.sl
            | refine Vw.tup ?_
            | refine Vw.agg ?_
            | refine VwL.cons ?_ ?_
            | refine VwL.nil
            | refine LeavesF.of ?_
            | refine VwF.bool ?_
            | refine VwF.int ?_
            | refine VwF.nil
            | refine VwF.sl
            | refine VwF.tup ?_
            | refine VwF.agg ?_
            | refine VwLF.cons ?_ ?_
            | refine VwLF.nil
            | (refine Req.mk ?_ ?_; (focus first | rfl | decide | exact ⟨rfl, rfl⟩ | exact ⟨rfl, by decide⟩ | exact (fun _ => rfl) | exact (fun h => nomatch h) | (simp; done) | omega | (simp [big]; done) | exact le_big (by omega) | exact lt_big (by omega))))
        all_goals first | rfl | (exfalso; omega)
  · rw [if_pos q1] at hk
    subst hk
    refine fun_of rfl rfl ?_
    repeat' (first
      | (conv => whnf)
        first
        | refine Br.t ?_
        | refine Br.f ?_
        | (refine Br.decT ?_ ?_; (focus first | assumption | omega))
        | (refine Br.decF ?_ ?_; (focus first | assumption | omega))
        | refine Br.dec (fun _ => ?_) (fun _ => ?_)
        | refine Br.not ?_
        | refine Br.and ?_
        | refine Br.or ?_
        | (refine Bnd.i64 ?_ ?_ ?_; (focus omega); (focus omega))
        | refine call_fun rfl rfl hst (.inl rfl) ?_
        | refine call_fun rfl rfl hst2 (.inl rfl) ?_
        | (refine Idx.nat ?_ ?_; (focus omega))
        | refine Idx.nat (le_big (by omega)) ?_
        | (refine Idx.int ?_ ?_ ?_; (focus omega); (focus omega))
        | (refine Idx.int ?_ ?_ ?_; (focus decide); (focus decide))
        | refine Ifz.zero ?_
        | (refine Ifz.pos ?_ ?_; (focus omega))
        | refine Get.mk _ rfl ?_
        | refine Leaves.of ?_
        | refine Ends.of ?_
        | refine Vw.bool ?_
        | refine Vw.int ?_
        | refine Vw.nil
        | refine Vw.sl
        | refine Vw.tup ?_
        | refine Vw.agg ?_
        | refine VwL.cons ?_ ?_
        | refine VwL.nil
        | refine LeavesF.of ?_
        | refine VwF.bool ?_
        | refine VwF.int ?_
        | refine VwF.nil
        | refine VwF.sl
        | refine VwF.tup ?_
        | refine VwF.agg ?_
        | refine VwLF.cons ?_ ?_
        | refine VwLF.nil
        | (refine Req.mk ?_ ?_; (focus first | rfl | decide | exact ⟨rfl, rfl⟩ | exact ⟨rfl, by decide⟩ | exact (fun _ => rfl) | exact (fun h => nomatch h) | (simp; done) | omega | (simp [big]; done) | exact le_big (by omega) | exact lt_big (by omega))))
    all_goals first | rfl | (exfalso; omega)
set_option maxRecDepth 100000 in
set_option maxHeartbeats 20000000 in
theorem humsR_any {c c' : Bool} {l hum : List Int} {k : Int} (hk : humE l hum = k) : Fun F md 83 [.sl c l.length (ofI l), .sl c' hum.length (ofI hum)] (.int .i64 k) := by
  have hst := samples_any (c := c) (l := l) (m := 4000000) (by omega)
  have hst2 := samples_any (c := c') (l := hum) (m := 2000000) (by omega)
  unfold humE at hk
  generalize smpE l 4000000 = k1 at *
  generalize smpE hum 2000000 = k2 at *
  by_cases q1 : k1 = 0
  · subst q1
    rw [if_neg (by simp)] at hk
    by_cases q2 : 500 < hum.length
    · rw [if_pos q2] at hk
      subst hk
      refine fun_of rfl rfl ?_
      repeat' (first
        | (conv => whnf)
          first
          | refine Br.t ?_
          | refine Br.f ?_
          | (refine Br.decT ?_ ?_; (focus first | assumption | omega))
          | (refine Br.decF ?_ ?_; (focus first | assumption | omega))
          | refine Br.dec (fun _ => ?_) (fun _ => ?_)
          | refine Br.not ?_
          | refine Br.and ?_
          | refine Br.or ?_
          | (refine Bnd.i64 ?_ ?_ ?_; (focus omega); (focus omega))
          | refine call_fun rfl rfl hst (.inl rfl) ?_
          | refine call_fun rfl rfl hst2 (.inl rfl) ?_
          | (refine Idx.nat ?_ ?_; (focus omega))
          | refine Idx.nat (le_big (by omega)) ?_
          | (refine Idx.int ?_ ?_ ?_; (focus omega); (focus omega))
          | (refine Idx.int ?_ ?_ ?_; (focus decide); (focus decide))
          | refine Ifz.zero ?_
          | (refine Ifz.pos ?_ ?_; (focus omega))
          | refine Get.mk _ rfl ?_
          | refine Leaves.of ?_
          | refine Ends.of ?_
          | refine Vw.bool ?_
          | refine Vw.int ?_
          | refine Vw.nil
          | refine Vw.sl
          | refine Vw.tup ?_
          | refine Vw.agg ?_
          | refine VwL.cons ?_ ?_
          | refine VwL.nil
          | refine LeavesF.of ?_
          | refine VwF.bool ?_
          | refine VwF.int ?_
          | refine VwF.nil
          | refine VwF.sl
          | refine VwF.tup ?_
          | refine VwF.agg ?_
          | refine VwLF.cons ?_ ?_
          | refine VwLF.nil
          | (refine Req.mk ?_ ?_; (focus first | rfl | decide | exact ⟨rfl, rfl⟩ | exact ⟨rfl, by decide⟩ | exact (fun _ => rfl) | exact (fun h => nomatch h) | (simp; done) | omega | (simp [big]; done) | exact le_big (by omega) | exact lt_big (by omega))))
      all_goals first | rfl | (exfalso; omega)
    · rw [if_neg q2] at hk
      by_cases q3 : hum.length = 0
      · rw [if_pos q3] at hk
        subst hk
        refine fun_of rfl rfl ?_
        repeat' (first
          | (conv => whnf)
            first
            | refine Br.t ?_
            | refine Br.f ?_
            | (refine Br.decT ?_ ?_; (focus first | assumption | omega))
            | (refine Br.decF ?_ ?_; (focus first | assumption | omega))
            | refine Br.dec (fun _ => ?_) (fun _ => ?_)
            | refine Br.not ?_
            | refine Br.and ?_
            | refine Br.or ?_
            | (refine Bnd.i64 ?_ ?_ ?_; (focus omega); (focus omega))
            | refine call_fun rfl rfl hst (.inl rfl) ?_
            | refine call_fun rfl rfl hst2 (.inl rfl) ?_
            | (refine Idx.nat ?_ ?_; (focus omega))
            | refine Idx.nat (le_big (by omega)) ?_
            | (refine Idx.int ?_ ?_ ?_; (focus omega); (focus omega))
            | (refine Idx.int ?_ ?_ ?_; (focus decide); (focus decide))
            | refine Ifz.zero ?_
            | (refine Ifz.pos ?_ ?_; (focus omega))
            | refine Get.mk _ rfl ?_
            | refine Leaves.of ?_
            | refine Ends.of ?_
            | refine Vw.bool ?_
            | refine Vw.int ?_
            | refine Vw.nil
            | refine Vw.sl
            | refine Vw.tup ?_
            | refine Vw.agg ?_
            | refine VwL.cons ?_ ?_
            | refine VwL.nil
            | refine LeavesF.of ?_
            | refine VwF.bool ?_
            | refine VwF.int ?_
            | refine VwF.nil
            | refine VwF.sl
            | refine VwF.tup ?_
            | refine VwF.agg ?_
            | refine VwLF.cons ?_ ?_
            | refine VwLF.nil
            | (refine Req.mk ?_ ?_; (focus first | rfl | decide | exact ⟨rfl, rfl⟩ | exact ⟨rfl, by decide⟩ | exact (fun _ => rfl) | exact (fun h => nomatch h) | (simp; done) | omega | (simp [big]; done) | exact le_big (by omega) | exact lt_big (by omega))))
        all_goals first | rfl | (exfalso; omega)
      · rw [if_neg q3] at hk
        subst hk
        refine fun_of rfl rfl ?_
        repeat' (first
          | (conv => whnf)
            first
            | refine Br.t ?_
            | refine Br.f ?_
            | (refine Br.decT ?_ ?_; (focus first | assumption | omega))
            | (refine Br.decF ?_ ?_; (focus first | assumption | omega))
            | refine Br.dec (fun _ => ?_) (fun _ => ?_)
            | refine Br.not ?_
            | refine Br.and ?_
            | refine Br.or ?_
            | (refine Bnd.i64 ?_ ?_ ?_; (focus omega); (focus omega))
            | refine call_fun rfl rfl hst (.inl rfl) ?_
            | refine call_fun rfl rfl hst2 (.inl rfl) ?_
            | (refine Idx.nat ?_ ?_; (focus omega))
            | refine Idx.nat (le_big (by omega)) ?_
            | (refine Idx.int ?_ ?_ ?_; (focus omega); (focus omega))
            | (refine Idx.int ?_ ?_ ?_; (focus decide); (focus decide))
            | refine Ifz.zero ?_
            | (refine Ifz.pos ?_ ?_; (focus omega))
            | refine Get.mk _ rfl ?_
            | refine Leaves.of ?_
            | refine Ends.of ?_
            | refine Vw.bool ?_
            | refine Vw.int ?_
            | refine Vw.nil
            | refine Vw.sl
            | refine Vw.tup ?_
            | refine Vw.agg ?_
            | refine VwL.cons ?_ ?_
            | refine VwL.nil
            | refine LeavesF.of ?_
            | refine VwF.bool ?_
            | refine VwF.int ?_
            | refine VwF.nil
            | refine VwF.sl
            | refine VwF.tup ?_
            | refine VwF.agg ?_
            | refine VwLF.cons ?_ ?_
            | refine VwLF.nil
            | (refine Req.mk ?_ ?_; (focus first | rfl | decide | exact ⟨rfl, rfl⟩ | exact ⟨rfl, by decide⟩ | exact (fun _ => rfl) | exact (fun h => nomatch h) | (simp; done) | omega | (simp [big]; done) | exact le_big (by omega) | exact lt_big (by omega))))
        all_goals first | rfl | (exfalso; omega)
  · rw [if_pos q1] at hk
    subst hk
    refine fun_of rfl rfl ?_
    repeat' (first
      | (conv => whnf)
        first
        | refine Br.t ?_
        | refine Br.f ?_
        | (refine Br.decT ?_ ?_; (focus first | assumption | omega))
        | (refine Br.decF ?_ ?_; (focus first | assumption | omega))
        | refine Br.dec (fun _ => ?_) (fun _ => ?_)
        | refine Br.not ?_
        | refine Br.and ?_
        | refine Br.or ?_
        | (refine Bnd.i64 ?_ ?_ ?_; (focus omega); (focus omega))
        | refine call_fun rfl rfl hst (.inl rfl) ?_
        | refine call_fun rfl rfl hst2 (.inl rfl) ?_
        | (refine Idx.nat ?_ ?_; (focus omega))
        | refine Idx.nat (le_big (by omega)) ?_
        | (refine Idx.int ?_ ?_ ?_; (focus omega); (focus omega))
        | (refine Idx.int ?_ ?_ ?_; (focus decide); (focus decide))
        | refine Ifz.zero ?_
        | (refine Ifz.pos ?_ ?_; (focus omega))
        | refine Get.mk _ rfl ?_
        | refine Leaves.of ?_
        | refine Ends.of ?_
        | refine Vw.bool ?_
        | refine Vw.int ?_
        | refine Vw.nil
        | refine Vw.sl
        | refine Vw.tup ?_
        | refine Vw.agg ?_
        | refine VwL.cons ?_ ?_
        | refine VwL.nil
        | refine LeavesF.of ?_
        | refine VwF.bool ?_
        | refine VwF.int ?_
        | refine VwF.nil
        | refine VwF.sl
        | refine VwF.tup ?_
        | refine VwF.agg ?_
        | refine VwLF.cons ?_ ?_
        | refine VwLF.nil
        | (refine Req.mk ?_ ?_; (focus first | rfl | decide | exact ⟨rfl, rfl⟩ | exact ⟨rfl, by decide⟩ | exact (fun _ => rfl) | exact (fun h => nomatch h) | (simp; done) | omega | (simp [big]; done) | exact le_big (by omega) | exact lt_big (by omega))))
    all_goals first | rfl | (exfalso; omega)
/-- a function that looks whether its first argument is nil, over one that is not empty. -/
theorem m4 {f n : Nat} {c : Bool} {cs as : List V} (hf : md f = 4) (h0 : n ≠ 0) : mode md (.fn f []) (.sl c n cs :: as) = 0 := by
  have hd : decide (n = 0) = false := by simp [h0]
  cases as <;> simp only [mode, hf, V.empt, hd] <;> rfl
set_option maxRecDepth 100000 in
theorem clean_of {f : Nat} {c c' c1 : Bool} {l hum : List Int} {s k : Int} {n : Nat} {A : List V} (hf : (f = 48 ∧ s = -1) ∨ (f = 50 ∧ s = 1)) (h0 : l.length ≠ 0) (h : Fun F md 82 [.sl c l.length (ofI l), .sl c' hum.length (ofI hum), .int .i64 s] (.tup [.sl c1 n A, .int .i64 k])) :
    Fun F md f [.sl c l.length (ofI l), .sl c' hum.length (ofI hum)] (.tup [.sl c1 n A, .int .i64 k]) := by
  rcases hf with ⟨rfl, rfl⟩ | ⟨rfl, rfl⟩
  · refine fun_of rfl rfl ?_
    repeat' (first
      | (conv => whnf)
        first
        | refine Br.t ?_
        | refine Br.f ?_
        | (refine Br.decT ?_ ?_; (focus first | assumption | omega))
        | (refine Br.decF ?_ ?_; (focus first | assumption | omega))
        | refine Br.dec (fun _ => ?_) (fun _ => ?_)
        | refine Br.not ?_
        | refine Br.and ?_
        | refine Br.or ?_
        | (refine Bnd.i64 ?_ ?_ ?_; (focus omega); (focus omega))
        | refine call_fun (m4 rfl h0) rfl h (.inl rfl) ?_
        | (refine Idx.nat ?_ ?_; (focus omega))
        | refine Idx.nat (le_big (by omega)) ?_
        | (refine Idx.int ?_ ?_ ?_; (focus omega); (focus omega))
        | (refine Idx.int ?_ ?_ ?_; (focus decide); (focus decide))
        | refine Ifz.zero ?_
        | (refine Ifz.pos ?_ ?_; (focus omega))
        | refine Get.mk _ rfl ?_
        | refine Leaves.of ?_
        | refine Ends.of ?_
        | refine Vw.bool ?_
        | refine Vw.int ?_
        | refine Vw.nil
        | refine Vw.sl
        | refine Vw.tup ?_
        | refine Vw.agg ?_
        | refine VwL.cons ?_ ?_
        | refine VwL.nil
        | refine LeavesF.of ?_
        | refine VwF.bool ?_
        | refine VwF.int ?_
        | refine VwF.nil
        | refine VwF.sl
        | refine VwF.tup ?_
        | refine VwF.agg ?_
        | refine VwLF.cons ?_ ?_
        | refine VwLF.nil
        | (refine Req.mk ?_ ?_; (focus first | rfl | decide | exact ⟨rfl, rfl⟩ | exact ⟨rfl, by decide⟩ | exact (fun _ => rfl) | exact (fun h => nomatch h) | (simp; done) | omega | (simp [big]; done) | exact le_big (by omega) | exact lt_big (by omega))))
    all_goals first | rfl | (exfalso; omega)
  · refine fun_of rfl rfl ?_
    repeat' (first
      | (conv => whnf)
        first
        | refine Br.t ?_
        | refine Br.f ?_
        | (refine Br.decT ?_ ?_; (focus first | assumption | omega))
        | (refine Br.decF ?_ ?_; (focus first | assumption | omega))
        | refine Br.dec (fun _ => ?_) (fun _ => ?_)
        | refine Br.not ?_
        | refine Br.and ?_
        | refine Br.or ?_
        | (refine Bnd.i64 ?_ ?_ ?_; (focus omega); (focus omega))
        | refine call_fun (m4 rfl h0) rfl h (.inl rfl) ?_
        | (refine Idx.nat ?_ ?_; (focus omega))
        | refine Idx.nat (le_big (by omega)) ?_
        | (refine Idx.int ?_ ?_ ?_; (focus omega); (focus omega))
        | (refine Idx.int ?_ ?_ ?_; (focus decide); (focus decide))
        | refine Ifz.zero ?_
        | (refine Ifz.pos ?_ ?_; (focus omega))
        | refine Get.mk _ rfl ?_
        | refine Leaves.of ?_
        | refine Ends.of ?_
        | refine Vw.bool ?_
        | refine Vw.int ?_
        | refine Vw.nil
        | refine Vw.sl
        | refine Vw.tup ?_
        | refine Vw.agg ?_
        | refine VwL.cons ?_ ?_
        | refine VwL.nil
        | refine LeavesF.of ?_
        | refine VwF.bool ?_
        | refine VwF.int ?_
        | refine VwF.nil
        | refine VwF.sl
        | refine VwF.tup ?_
        | refine VwF.agg ?_
        | refine VwLF.cons ?_ ?_
        | refine VwLF.nil
        | (refine Req.mk ?_ ?_; (focus first | rfl | decide | exact ⟨rfl, rfl⟩ | exact ⟨rfl, by decide⟩ | exact (fun _ => rfl) | exact (fun h => nomatch h) | (simp; done) | omega | (simp [big]; done) | exact le_big (by omega) | exact lt_big (by omega))))
    all_goals first | rfl | (exfalso; omega)
/-- the error of Clean and Dirty, and what they give. -/
def clE (l hum : List Int) (s : Int) : List Int × Int := if humE l hum ≠ 0 then ([], humE l hum) else (acc (clX l hum s) l.length, 0)
theorem clean_any {f : Nat} {c c' : Bool} {l hum : List Int} {s : Int} (hf : (f = 48 ∧ s = -1) ∨ (f = 50 ∧ s = 1)) (h0 : l.length ≠ 0) : ∃ c1, Fun F md f [.sl c l.length (ofI l), .sl c' hum.length (ofI hum)] (.tup [.sl c1 (clE l hum s).1.length (ofI (clE l hum s).1), .int .i64 (clE l hum s).2]) := by
  unfold clE
  by_cases h : humE l hum = 0
  · rw [if_neg (by omega), acc_length]
    exact ⟨false, clean_of hf h0 (humming_ok h h0 (by omega))⟩
  · rw [if_pos h]
    exact ⟨true, clean_of hf h0 (humming_bad rfl h)⟩

set_option maxRecDepth 100000 in
set_option maxHeartbeats 20000000 in
theorem cleanR_any {c c' : Bool} {l hum : List Int} : ∃ c1, Fun F md 49 [.sl c l.length (ofI l), .sl c' hum.length (ofI hum)] (.tup [.sl c1 (clE l hum (-1)).1.length (ofI (clE l hum (-1)).1), .int .i64 (clE l hum (-1)).2]) := by
  have hst := humsR_any (c := c) (c' := c') (l := l) (hum := hum) rfl
  unfold clE
  by_cases h : humE l hum = 0
  · obtain ⟨e1, e2, e3, e4⟩ := humE_ok h
    obtain ⟨hL, hin⟩ := smp_ok e1
    have hg := gI_in (m := 4000000) (by omega) hin
    obtain ⟨hL2, hin2⟩ := smp_ok e4
    have hg2 := gI_in (m := 2000000) (by omega) hin2
    rw [if_neg (by omega), acc_length]
    rw [h] at hst
    refine ⟨decide (l.length = 0), ?_⟩
    refine fun_of rfl rfl ?_
    repeat' (first
      | (conv => whnf)
        first
        | refine Br.t ?_
        | refine Br.f ?_
        | (refine Br.decT ?_ ?_; (focus first | assumption | omega))
        | (refine Br.decF ?_ ?_; (focus first | assumption | omega))
        | refine Br.dec (fun _ => ?_) (fun _ => ?_)
        | refine Br.not ?_
        | refine Br.and ?_
        | refine Br.or ?_
        | (refine Bnd.i64 ?_ ?_ ?_; (focus omega); (focus omega))
        | refine call_fun rfl rfl hst (.inl rfl) ?_
        | (refine Idx.nat ?_ ?_; (focus omega))
        | refine Idx.nat (le_big (by omega)) ?_
        | (refine Idx.int ?_ ?_ ?_; (focus omega); (focus omega))
        | (refine Idx.int ?_ ?_ ?_; (focus decide); (focus decide))
        | refine Ifz.zero ?_
        | (refine Ifz.pos ?_ ?_; (focus omega))
        | refine Get.mk _ rfl ?_
        | refine Leaves.of ?_
        | refine Ends.of ?_
        | refine Vw.bool ?_
        | refine Vw.int ?_
        | refine Vw.nil
        | refine Vw.sl
        | refine Vw.tup ?_
        | refine Vw.agg ?_
        | refine VwL.cons ?_ ?_
        | refine VwL.nil
        | refine LeavesF.of ?_
        | refine VwF.bool ?_
        | refine VwF.int ?_
        | refine VwF.nil
        | refine VwF.sl
        | refine VwF.tup ?_
        | refine VwF.agg ?_
        | refine VwLF.cons ?_ ?_
        | refine VwLF.nil
        | (refine Req.mk ?_ ?_; (focus first | rfl | decide | exact ⟨rfl, rfl⟩ | exact ⟨rfl, by decide⟩ | exact (fun _ => rfl) | exact (fun h => nomatch h) | (simp; done) | omega | (simp [big]; done) | exact le_big (by omega) | exact lt_big (by omega))))
    all_goals try (exfalso; omega)
    refine LoopP.by (fun i : Nat => i ≤ l.length) (fun i => match i with
        | 0 => [(7, .nilsl), (8, .int .i64 ((0 : Nat) : Int))]
        | i + 1 => [(7, .ms 1 0 (i + 1) 0 (i + 1) false), (8, .int .i64 ((i + 1 : Nat) : Int))])
      (fun i => match i with
        | 0 => []
        | i + 1 => [.blk (ofI (acc (clX l hum (-1)) (i + 1))) true]) (fun i => l.length - i) 0 (Nat.zero_le _) rfl ?_
    intro i hi
    cases i with
    | zero =>
      dsimp only
      by_cases hin' : 0 < l.length
      · have hnx := acc_one (clX l hum (-1))
        generalize hC2 : ofI (acc (clX l hum (-1)) 1) = C2 at *
        have hc := gI_cell (l := l) (i := 0) hin'
        have hR : ((0 : Nat) : Int).tmod (hum.length : Int) = ((0 % hum.length : Nat) : Int) := Int.ofNat_tmod _ _
        have hrl : 0 % hum.length < hum.length := Nat.mod_lt _ e2
        have hch := gI_cell hrl
        have hgi := hg 0
        have hgh := hg2 (0 % hum.length)
        have hX : clX l hum (-1) 0 = gI l 0 + (-1) * gI hum (0 % hum.length) := rfl
        generalize clX l hum (-1) 0 = v at *
        generalize gI hum (0 % hum.length) = h at *
        generalize 0 % hum.length = r at *
        generalize gI l 0 = x at *
        repeat' (first
          | (conv => whnf)
            first
            | refine Bnd.eq hR ?_
            | refine Bnd.eq ((wrap_i64 (by omega) (by omega)).trans (show _ = v by omega)) ?_
            | refine Br.t ?_
            | refine Br.f ?_
            | (refine Br.decT ?_ ?_; (focus first | assumption | omega))
            | (refine Br.decF ?_ ?_; (focus first | assumption | omega))
            | refine Br.dec (fun _ => ?_) (fun _ => ?_)
            | refine Br.not ?_
            | refine Br.and ?_
            | refine Br.or ?_
            | (refine Bnd.i64 ?_ ?_ ?_; (focus omega); (focus omega))
            | refine Req.mk (show (_ : Int) ≠ 0 by omega) ?_
            | refine Get.mk _ hc ?_
            | refine Get.mk _ hch ?_
            | (refine Idx.nat ?_ ?_; (focus omega))
            | refine Idx.nat (le_big (by omega)) ?_
            | (refine Idx.int ?_ ?_ ?_; (focus omega); (focus omega))
            | (refine Idx.int ?_ ?_ ?_; (focus decide); (focus decide))
            | refine Ifz.zero ?_
            | (refine Ifz.pos ?_ ?_; (focus omega))
            | refine Get.mk _ rfl ?_
            | refine Leaves.of ?_
            | refine Ends.of ?_
            | refine Vw.bool ?_
            | refine Vw.int ?_
            | refine Vw.nil
            | refine Vw.sl
            | refine Vw.tup ?_
            | refine Vw.agg ?_
            | refine VwL.cons ?_ ?_
            | refine VwL.nil
            | refine LeavesF.of ?_
            | refine VwF.bool ?_
            | refine VwF.int ?_
            | refine VwF.nil
            | refine VwF.sl
            | refine VwF.tup ?_
            | refine VwF.agg ?_
            | refine VwLF.cons ?_ ?_
            | refine VwLF.nil
            | (refine Req.mk ?_ ?_; (focus first | rfl | decide | exact ⟨rfl, rfl⟩ | exact ⟨rfl, by decide⟩ | exact (fun _ => rfl) | exact (fun h => nomatch h) | (simp; done) | omega | (simp [big]; done) | exact le_big (by omega) | exact lt_big (by omega))))
        all_goals first | exact NextP.mk (0 + 1) (by omega) (by omega) (by dsimp only; rw [hC2, ← hnx]; rfl) | (exfalso; omega)
      · have hl0 : l.length = 0 := by omega
        rw [hl0]
        repeat' (first
          | (conv => whnf)
            first
            | refine Br.t ?_
            | refine Br.f ?_
            | (refine Br.decT ?_ ?_; (focus first | assumption | omega))
            | (refine Br.decF ?_ ?_; (focus first | assumption | omega))
            | refine Br.dec (fun _ => ?_) (fun _ => ?_)
            | refine Br.not ?_
            | refine Br.and ?_
            | refine Br.or ?_
            | (refine Bnd.i64 ?_ ?_ ?_; (focus omega); (focus omega))
            | (refine Idx.nat ?_ ?_; (focus omega))
            | refine Idx.nat (le_big (by omega)) ?_
            | (refine Idx.int ?_ ?_ ?_; (focus omega); (focus omega))
            | (refine Idx.int ?_ ?_ ?_; (focus decide); (focus decide))
            | refine Ifz.zero ?_
            | (refine Ifz.pos ?_ ?_; (focus omega))
            | refine Get.mk _ rfl ?_
            | refine Leaves.of ?_
            | refine Ends.of ?_
            | refine Vw.bool ?_
            | refine Vw.int ?_
            | refine Vw.nil
            | refine Vw.sl
            | refine Vw.tup ?_
            | refine Vw.agg ?_
            | refine VwL.cons ?_ ?_
            | refine VwL.nil
            | refine LeavesF.of ?_
            | refine VwF.bool ?_
            | refine VwF.int ?_
            | refine VwF.nil
            | refine VwF.sl
            | refine VwF.tup ?_
            | refine VwF.agg ?_
            | refine VwLF.cons ?_ ?_
            | refine VwLF.nil
            | (refine Req.mk ?_ ?_; (focus first | rfl | decide | exact ⟨rfl, rfl⟩ | exact ⟨rfl, by decide⟩ | exact (fun _ => rfl) | exact (fun h => nomatch h) | (simp; done) | omega | (simp [big]; done) | exact le_big (by omega) | exact lt_big (by omega))))
        all_goals first | rfl | (exfalso; omega)
    | succ i =>
      dsimp only
      by_cases hin' : i + 1 < l.length
      · have hnx := acc_next (clX l hum (-1)) (i + 1)
        generalize hC2 : ofI (acc (clX l hum (-1)) (i + 1 + 1)) = C2 at *
        have hl0 : (ofI (acc (clX l hum (-1)) (i + 1))).length = i + 1 := by rw [ofI_length, acc_length]
        generalize ofI (acc (clX l hum (-1)) (i + 1)) = C0 at *
        have hc := gI_cell (l := l) (i := (i + 1)) hin'
        have hR : (((i + 1) : Nat) : Int).tmod (hum.length : Int) = (((i + 1) % hum.length : Nat) : Int) := Int.ofNat_tmod _ _
        have hrl : (i + 1) % hum.length < hum.length := Nat.mod_lt _ e2
        have hch := gI_cell hrl
        have hgi := hg (i + 1)
        have hgh := hg2 ((i + 1) % hum.length)
        have hX : clX l hum (-1) (i + 1) = gI l (i + 1) + (-1) * gI hum ((i + 1) % hum.length) := rfl
        generalize clX l hum (-1) (i + 1) = v at *
        generalize gI hum ((i + 1) % hum.length) = h at *
        generalize (i + 1) % hum.length = r at *
        generalize gI l (i + 1) = x at *
        repeat' (first
          | (conv => whnf)
            first
            | refine Bnd.eq hR ?_
            | refine Bnd.eq ((wrap_i64 (by omega) (by omega)).trans (show _ = v by omega)) ?_
            | refine Br.t ?_
            | refine Br.f ?_
            | (refine Br.decT ?_ ?_; (focus first | assumption | omega))
            | (refine Br.decF ?_ ?_; (focus first | assumption | omega))
            | refine Br.dec (fun _ => ?_) (fun _ => ?_)
            | refine Br.not ?_
            | refine Br.and ?_
            | refine Br.or ?_
            | (refine Bnd.i64 ?_ ?_ ?_; (focus omega); (focus omega))
            | refine Req.mk (show (_ : Int) ≠ 0 by omega) ?_
            | refine Get.mk _ hc ?_
            | refine Get.mk _ hch ?_
            | refine Req.mk hl0 ?_
            | refine Req.mk ⟨by omega, by rw [hl0]; show (i + 1 + 1) * 9 < 68719476736; omega⟩ ?_
            | (refine Idx.nat ?_ ?_; (focus omega))
            | refine Idx.nat (le_big (by omega)) ?_
            | (refine Idx.int ?_ ?_ ?_; (focus omega); (focus omega))
            | (refine Idx.int ?_ ?_ ?_; (focus decide); (focus decide))
            | refine Ifz.zero ?_
            | (refine Ifz.pos ?_ ?_; (focus omega))
            | refine Get.mk _ rfl ?_
            | refine Leaves.of ?_
            | refine Ends.of ?_
            | refine Vw.bool ?_
            | refine Vw.int ?_
            | refine Vw.nil
            | refine Vw.sl
            | refine Vw.tup ?_
            | refine Vw.agg ?_
            | refine VwL.cons ?_ ?_
            | refine VwL.nil
            | refine LeavesF.of ?_
            | refine VwF.bool ?_
            | refine VwF.int ?_
            | refine VwF.nil
            | refine VwF.sl
            | refine VwF.tup ?_
            | refine VwF.agg ?_
            | refine VwLF.cons ?_ ?_
            | refine VwLF.nil
            | (refine Req.mk ?_ ?_; (focus first | rfl | decide | exact ⟨rfl, rfl⟩ | exact ⟨rfl, by decide⟩ | exact (fun _ => rfl) | exact (fun h => nomatch h) | (simp; done) | omega | (simp [big]; done) | exact le_big (by omega) | exact lt_big (by omega))))
        all_goals first | exact NextP.mk ((i + 1) + 1) (by omega) (by omega) (by dsimp only; rw [hC2, ← hnx]; rfl) | (exfalso; omega)
      · have hli : l.length = i + 1 := by omega
        rw [hli]
        repeat' (first
          | (conv => whnf)
            first
            | refine Br.t ?_
            | refine Br.f ?_
            | (refine Br.decT ?_ ?_; (focus first | assumption | omega))
            | (refine Br.decF ?_ ?_; (focus first | assumption | omega))
            | refine Br.dec (fun _ => ?_) (fun _ => ?_)
            | refine Br.not ?_
            | refine Br.and ?_
            | refine Br.or ?_
            | (refine Bnd.i64 ?_ ?_ ?_; (focus omega); (focus omega))
            | (refine Idx.nat ?_ ?_; (focus omega))
            | refine Idx.nat (le_big (by omega)) ?_
            | (refine Idx.int ?_ ?_ ?_; (focus omega); (focus omega))
            | (refine Idx.int ?_ ?_ ?_; (focus decide); (focus decide))
            | refine Ifz.zero ?_
            | (refine Ifz.pos ?_ ?_; (focus omega))
            | refine Get.mk _ rfl ?_
            | refine Leaves.of ?_
            | refine Ends.of ?_
            | refine Vw.bool ?_
            | refine Vw.int ?_
            | refine Vw.nil
            | refine Vw.sl
            | refine Vw.tup ?_
            | refine Vw.agg ?_
            | refine VwL.cons ?_ ?_
            | refine VwL.nil
            | refine LeavesF.of ?_
            | refine VwF.bool ?_
            | refine VwF.int ?_
            | refine VwF.nil
            | refine VwF.sl
            | refine VwF.tup ?_
            | refine VwF.agg ?_
            | refine VwLF.cons ?_ ?_
            | refine VwLF.nil
            | (refine Req.mk ?_ ?_; (focus first | rfl | decide | exact ⟨rfl, rfl⟩ | exact ⟨rfl, by decide⟩ | exact (fun _ => rfl) | exact (fun h => nomatch h) | (simp; done) | omega | (simp [big]; done) | exact le_big (by omega) | exact lt_big (by omega))))
        · refine Vw.ints rfl rfl (by rw [acc_length]) (by rw [acc_length]) (by rw [acc_length])
        all_goals rfl
  · rw [if_pos h]
    generalize humE l hum = k at *
    refine ⟨true, fun_of rfl rfl ?_⟩
    repeat' (first
      | (conv => whnf)
        first
        | refine Br.t ?_
        | refine Br.f ?_
        | (refine Br.decT ?_ ?_; (focus first | assumption | omega))
        | (refine Br.decF ?_ ?_; (focus first | assumption | omega))
        | refine Br.dec (fun _ => ?_) (fun _ => ?_)
        | refine Br.not ?_
        | refine Br.and ?_
        | refine Br.or ?_
        | (refine Bnd.i64 ?_ ?_ ?_; (focus omega); (focus omega))
        | refine call_fun rfl rfl hst (.inl rfl) ?_
        | (refine Idx.nat ?_ ?_; (focus omega))
        | refine Idx.nat (le_big (by omega)) ?_
        | (refine Idx.int ?_ ?_ ?_; (focus omega); (focus omega))
        | (refine Idx.int ?_ ?_ ?_; (focus decide); (focus decide))
        | refine Ifz.zero ?_
        | (refine Ifz.pos ?_ ?_; (focus omega))
        | refine Get.mk _ rfl ?_
        | refine Leaves.of ?_
        | refine Ends.of ?_
        | refine Vw.bool ?_
        | refine Vw.int ?_
        | refine Vw.nil
        | refine Vw.sl
        | refine Vw.tup ?_
        | refine Vw.agg ?_
        | refine VwL.cons ?_ ?_
        | refine VwL.nil
        | refine LeavesF.of ?_
        | refine VwF.bool ?_
        | refine VwF.int ?_
        | refine VwF.nil
        | refine VwF.sl
        | refine VwF.tup ?_
        | refine VwF.agg ?_
        | refine VwLF.cons ?_ ?_
        | refine VwLF.nil
        | (refine Req.mk ?_ ?_; (focus first | rfl | decide | exact ⟨rfl, rfl⟩ | exact ⟨rfl, by decide⟩ | exact (fun _ => rfl) | exact (fun h => nomatch h) | (simp; done) | omega | (simp [big]; done) | exact le_big (by omega) | exact lt_big (by omega))))
    all_goals first | rfl | (exfalso; omega)
set_option maxRecDepth 100000 in
set_option maxHeartbeats 20000000 in
theorem dirtyR_any {c c' : Bool} {l hum : List Int} : ∃ c1, Fun F md 51 [.sl c l.length (ofI l), .sl c' hum.length (ofI hum)] (.tup [.sl c1 (clE l hum 1).1.length (ofI (clE l hum 1).1), .int .i64 (clE l hum 1).2]) := by
  have hst := humsR_any (c := c) (c' := c') (l := l) (hum := hum) rfl
  unfold clE
  by_cases h : humE l hum = 0
  · obtain ⟨e1, e2, e3, e4⟩ := humE_ok h
    obtain ⟨hL, hin⟩ := smp_ok e1
    have hg := gI_in (m := 4000000) (by omega) hin
    obtain ⟨hL2, hin2⟩ := smp_ok e4
    have hg2 := gI_in (m := 2000000) (by omega) hin2
    rw [if_neg (by omega), acc_length]
    rw [h] at hst
    refine ⟨decide (l.length = 0), ?_⟩
    refine fun_of rfl rfl ?_
    repeat' (first
      | (conv => whnf)
        first
        | refine Br.t ?_
        | refine Br.f ?_
        | (refine Br.decT ?_ ?_; (focus first | assumption | omega))
        | (refine Br.decF ?_ ?_; (focus first | assumption | omega))
        | refine Br.dec (fun _ => ?_) (fun _ => ?_)
        | refine Br.not ?_
        | refine Br.and ?_
        | refine Br.or ?_
        | (refine Bnd.i64 ?_ ?_ ?_; (focus omega); (focus omega))
        | refine call_fun rfl rfl hst (.inl rfl) ?_
        | (refine Idx.nat ?_ ?_; (focus omega))
        | refine Idx.nat (le_big (by omega)) ?_
        | (refine Idx.int ?_ ?_ ?_; (focus omega); (focus omega))
        | (refine Idx.int ?_ ?_ ?_; (focus decide); (focus decide))
        | refine Ifz.zero ?_
        | (refine Ifz.pos ?_ ?_; (focus omega))
        | refine Get.mk _ rfl ?_
        | refine Leaves.of ?_
        | refine Ends.of ?_
        | refine Vw.bool ?_
        | refine Vw.int ?_
        | refine Vw.nil
        | refine Vw.sl
        | refine Vw.tup ?_
        | refine Vw.agg ?_
        | refine VwL.cons ?_ ?_
        | refine VwL.nil
        | refine LeavesF.of ?_
        | refine VwF.bool ?_
        | refine VwF.int ?_
        | refine VwF.nil
        | refine VwF.sl
        | refine VwF.tup ?_
        | refine VwF.agg ?_
        | refine VwLF.cons ?_ ?_
        | refine VwLF.nil
        | (refine Req.mk ?_ ?_; (focus first | rfl | decide | exact ⟨rfl, rfl⟩ | exact ⟨rfl, by decide⟩ | exact (fun _ => rfl) | exact (fun h => nomatch h) | (simp; done) | omega | (simp [big]; done) | exact le_big (by omega) | exact lt_big (by omega))))
    all_goals try (exfalso; omega)
    refine LoopP.by (fun i : Nat => i ≤ l.length) (fun i => match i with
        | 0 => [(7, .nilsl), (8, .int .i64 ((0 : Nat) : Int))]
        | i + 1 => [(7, .ms 1 0 (i + 1) 0 (i + 1) false), (8, .int .i64 ((i + 1 : Nat) : Int))])
      (fun i => match i with
        | 0 => []
        | i + 1 => [.blk (ofI (acc (clX l hum 1) (i + 1))) true]) (fun i => l.length - i) 0 (Nat.zero_le _) rfl ?_
    intro i hi
    cases i with
    | zero =>
      dsimp only
      by_cases hin' : 0 < l.length
      · have hnx := acc_one (clX l hum 1)
        generalize hC2 : ofI (acc (clX l hum 1) 1) = C2 at *
        have hc := gI_cell (l := l) (i := 0) hin'
        have hR : ((0 : Nat) : Int).tmod (hum.length : Int) = ((0 % hum.length : Nat) : Int) := Int.ofNat_tmod _ _
        have hrl : 0 % hum.length < hum.length := Nat.mod_lt _ e2
        have hch := gI_cell hrl
        have hgi := hg 0
        have hgh := hg2 (0 % hum.length)
        have hX : clX l hum 1 0 = gI l 0 + 1 * gI hum (0 % hum.length) := rfl
        generalize clX l hum 1 0 = v at *
        generalize gI hum (0 % hum.length) = h at *
        generalize 0 % hum.length = r at *
        generalize gI l 0 = x at *
        repeat' (first
          | (conv => whnf)
            first
            | refine Bnd.eq hR ?_
            | refine Bnd.eq ((wrap_i64 (by omega) (by omega)).trans (show _ = v by omega)) ?_
            | refine Br.t ?_
            | refine Br.f ?_
            | (refine Br.decT ?_ ?_; (focus first | assumption | omega))
            | (refine Br.decF ?_ ?_; (focus first | assumption | omega))
            | refine Br.dec (fun _ => ?_) (fun _ => ?_)
            | refine Br.not ?_
            | refine Br.and ?_
            | refine Br.or ?_
            | (refine Bnd.i64 ?_ ?_ ?_; (focus omega); (focus omega))
            | refine Req.mk (show (_ : Int) ≠ 0 by omega) ?_
            | refine Get.mk _ hc ?_
            | refine Get.mk _ hch ?_
            | (refine Idx.nat ?_ ?_; (focus omega))
            | refine Idx.nat (le_big (by omega)) ?_
            | (refine Idx.int ?_ ?_ ?_; (focus omega); (focus omega))
            | (refine Idx.int ?_ ?_ ?_; (focus decide); (focus decide))
            | refine Ifz.zero ?_
            | (refine Ifz.pos ?_ ?_; (focus omega))
            | refine Get.mk _ rfl ?_
            | refine Leaves.of ?_
            | refine Ends.of ?_
            | refine Vw.bool ?_
            | refine Vw.int ?_
            | refine Vw.nil
            | refine Vw.sl
            | refine Vw.tup ?_
            | refine Vw.agg ?_
            | refine VwL.cons ?_ ?_
            | refine VwL.nil
            | refine LeavesF.of ?_
            | refine VwF.bool ?_
            | refine VwF.int ?_
            | refine VwF.nil
            | refine VwF.sl
            | refine VwF.tup ?_
            | refine VwF.agg ?_
            | refine VwLF.cons ?_ ?_
            | refine VwLF.nil
            | (refine Req.mk ?_ ?_; (focus first | rfl | decide | exact ⟨rfl, rfl⟩ | exact ⟨rfl, by decide⟩ | exact (fun _ => rfl) | exact (fun h => nomatch h) | (simp; done) | omega | (simp [big]; done) | exact le_big (by omega) | exact lt_big (by omega))))
        all_goals first | exact NextP.mk (0 + 1) (by omega) (by omega) (by dsimp only; rw [hC2, ← hnx]; rfl) | (exfalso; omega)
      · have hl0 : l.length = 0 := by omega
        rw [hl0]
        repeat' (first
          | (conv => whnf)
            first
            | refine Br.t ?_
            | refine Br.f ?_
            | (refine Br.decT ?_ ?_; (focus first | assumption | omega))
            | (refine Br.decF ?_ ?_; (focus first | assumption | omega))
            | refine Br.dec (fun _ => ?_) (fun _ => ?_)
            | refine Br.not ?_
            | refine Br.and ?_
            | refine Br.or ?_
            | (refine Bnd.i64 ?_ ?_ ?_; (focus omega); (focus omega))
            | (refine Idx.nat ?_ ?_; (focus omega))
            | refine Idx.nat (le_big (by omega)) ?_
            | (refine Idx.int ?_ ?_ ?_; (focus omega); (focus omega))
            | (refine Idx.int ?_ ?_ ?_; (focus decide); (focus decide))
            | refine Ifz.zero ?_
            | (refine Ifz.pos ?_ ?_; (focus omega))
            | refine Get.mk _ rfl ?_
            | refine Leaves.of ?_
            | refine Ends.of ?_
            | refine Vw.bool ?_
            | refine Vw.int ?_
            | refine Vw.nil
            | refine Vw.sl
            | refine Vw.tup ?_
            | refine Vw.agg ?_
            | refine VwL.cons ?_ ?_
            | refine VwL.nil
            | refine LeavesF.of ?_
            | refine VwF.bool ?_
            | refine VwF.int ?_
            | refine VwF.nil
            | refine VwF.sl
            | refine VwF.tup ?_
            | refine VwF.agg ?_
            | refine VwLF.cons ?_ ?_
            | refine VwLF.nil
            | (refine Req.mk ?_ ?_; (focus first | rfl | decide | exact ⟨rfl, rfl⟩ | exact ⟨rfl, by decide⟩ | exact (fun _ => rfl) | exact (fun h => nomatch h) | (simp; done) | omega | (simp [big]; done) | exact le_big (by omega) | exact lt_big (by omega))))
        all_goals first | rfl | (exfalso; omega)
    | succ i =>
      dsimp only
      by_cases hin' : i + 1 < l.length
      · have hnx := acc_next (clX l hum 1) (i + 1)
        generalize hC2 : ofI (acc (clX l hum 1) (i + 1 + 1)) = C2 at *
        have hl0 : (ofI (acc (clX l hum 1) (i + 1))).length = i + 1 := by rw [ofI_length, acc_length]
        generalize ofI (acc (clX l hum 1) (i + 1)) = C0 at *
        have hc := gI_cell (l := l) (i := (i + 1)) hin'
        have hR : (((i + 1) : Nat) : Int).tmod (hum.length : Int) = (((i + 1) % hum.length : Nat) : Int) := Int.ofNat_tmod _ _
        have hrl : (i + 1) % hum.length < hum.length := Nat.mod_lt _ e2
        have hch := gI_cell hrl
        have hgi := hg (i + 1)
        have hgh := hg2 ((i + 1) % hum.length)
        have hX : clX l hum 1 (i + 1) = gI l (i + 1) + 1 * gI hum ((i + 1) % hum.length) := rfl
        generalize clX l hum 1 (i + 1) = v at *
        generalize gI hum ((i + 1) % hum.length) = h at *
        generalize (i + 1) % hum.length = r at *
        generalize gI l (i + 1) = x at *
        repeat' (first
          | (conv => whnf)
            first
            | refine Bnd.eq hR ?_
            | refine Bnd.eq ((wrap_i64 (by omega) (by omega)).trans (show _ = v by omega)) ?_
            | refine Br.t ?_
            | refine Br.f ?_
            | (refine Br.decT ?_ ?_; (focus first | assumption | omega))
            | (refine Br.decF ?_ ?_; (focus first | assumption | omega))
            | refine Br.dec (fun _ => ?_) (fun _ => ?_)
            | refine Br.not ?_
            | refine Br.and ?_
            | refine Br.or ?_
            | (refine Bnd.i64 ?_ ?_ ?_; (focus omega); (focus omega))
            | refine Req.mk (show (_ : Int) ≠ 0 by omega) ?_
            | refine Get.mk _ hc ?_
            | refine Get.mk _ hch ?_
            | refine Req.mk hl0 ?_
            | refine Req.mk ⟨by omega, by rw [hl0]; show (i + 1 + 1) * 9 < 68719476736; omega⟩ ?_
            | (refine Idx.nat ?_ ?_; (focus omega))
            | refine Idx.nat (le_big (by omega)) ?_
            | (refine Idx.int ?_ ?_ ?_; (focus omega); (focus omega))
            | (refine Idx.int ?_ ?_ ?_; (focus decide); (focus decide))
            | refine Ifz.zero ?_
            | (refine Ifz.pos ?_ ?_; (focus omega))
            | refine Get.mk _ rfl ?_
            | refine Leaves.of ?_
            | refine Ends.of ?_
            | refine Vw.bool ?_
            | refine Vw.int ?_
            | refine Vw.nil
            | refine Vw.sl
            | refine Vw.tup ?_
            | refine Vw.agg ?_
            | refine VwL.cons ?_ ?_
            | refine VwL.nil
            | refine LeavesF.of ?_
            | refine VwF.bool ?_
            | refine VwF.int ?_
            | refine VwF.nil
            | refine VwF.sl
            | refine VwF.tup ?_
            | refine VwF.agg ?_
            | refine VwLF.cons ?_ ?_
            | refine VwLF.nil
            | (refine Req.mk ?_ ?_; (focus first | rfl | decide | exact ⟨rfl, rfl⟩ | exact ⟨rfl, by decide⟩ | exact (fun _ => rfl) | exact (fun h => nomatch h) | (simp; done) | omega | (simp [big]; done) | exact le_big (by omega) | exact lt_big (by omega))))
        all_goals first | exact NextP.mk ((i + 1) + 1) (by omega) (by omega) (by dsimp only; rw [hC2, ← hnx]; rfl) | (exfalso; omega)
      · have hli : l.length = i + 1 := by omega
        rw [hli]
        repeat' (first
          | (conv => whnf)
            first
            | refine Br.t ?_
            | refine Br.f ?_
            | (refine Br.decT ?_ ?_; (focus first | assumption | omega))
            | (refine Br.decF ?_ ?_; (focus first | assumption | omega))
            | refine Br.dec (fun _ => ?_) (fun _ => ?_)
            | refine Br.not ?_
            | refine Br.and ?_
            | refine Br.or ?_
            | (refine Bnd.i64 ?_ ?_ ?_; (focus omega); (focus omega))
            | (refine Idx.nat ?_ ?_; (focus omega))
            | refine Idx.nat (le_big (by omega)) ?_
            | (refine Idx.int ?_ ?_ ?_; (focus omega); (focus omega))
            | (refine Idx.int ?_ ?_ ?_; (focus decide); (focus decide))
            | refine Ifz.zero ?_
            | (refine Ifz.pos ?_ ?_; (focus omega))
            | refine Get.mk _ rfl ?_
            | refine Leaves.of ?_
            | refine Ends.of ?_
            | refine Vw.bool ?_
            | refine Vw.int ?_
            | refine Vw.nil
            | refine Vw.sl
            | refine Vw.tup ?_
            | refine Vw.agg ?_
            | refine VwL.cons ?_ ?_
            | refine VwL.nil
            | refine LeavesF.of ?_
            | refine VwF.bool ?_
            | refine VwF.int ?_
            | refine VwF.nil
            | refine VwF.sl
            | refine VwF.tup ?_
            | refine VwF.agg ?_
            | refine VwLF.cons ?_ ?_
            | refine VwLF.nil
            | (refine Req.mk ?_ ?_; (focus first | rfl | decide | exact ⟨rfl, rfl⟩ | exact ⟨rfl, by decide⟩ | exact (fun _ => rfl) | exact (fun h => nomatch h) | (simp; done) | omega | (simp [big]; done) | exact le_big (by omega) | exact lt_big (by omega))))
        · refine Vw.ints rfl rfl (by rw [acc_length]) (by rw [acc_length]) (by rw [acc_length])
        all_goals rfl
  · rw [if_pos h]
    generalize humE l hum = k at *
    refine ⟨true, fun_of rfl rfl ?_⟩
    repeat' (first
      | (conv => whnf)
        first
        | refine Br.t ?_
        | refine Br.f ?_
        | (refine Br.decT ?_ ?_; (focus first | assumption | omega))
        | (refine Br.decF ?_ ?_; (focus first | assumption | omega))
        | refine Br.dec (fun _ => ?_) (fun _ => ?_)
        | refine Br.not ?_
        | refine Br.and ?_
        | refine Br.or ?_
        | (refine Bnd.i64 ?_ ?_ ?_; (focus omega); (focus omega))
        | refine call_fun rfl rfl hst (.inl rfl) ?_
        | (refine Idx.nat ?_ ?_; (focus omega))
        | refine Idx.nat (le_big (by omega)) ?_
        | (refine Idx.int ?_ ?_ ?_; (focus omega); (focus omega))
        | (refine Idx.int ?_ ?_ ?_; (focus decide); (focus decide))
        | refine Ifz.zero ?_
        | (refine Ifz.pos ?_ ?_; (focus omega))
        | refine Get.mk _ rfl ?_
        | refine Leaves.of ?_
        | refine Ends.of ?_
        | refine Vw.bool ?_
        | refine Vw.int ?_
        | refine Vw.nil
        | refine Vw.sl
        | refine Vw.tup ?_
        | refine Vw.agg ?_
        | refine VwL.cons ?_ ?_
        | refine VwL.nil
        | refine LeavesF.of ?_
        | refine VwF.bool ?_
        | refine VwF.int ?_
        | refine VwF.nil
        | refine VwF.sl
        | refine VwF.tup ?_
        | refine VwF.agg ?_
        | refine VwLF.cons ?_ ?_
        | refine VwLF.nil
        | (refine Req.mk ?_ ?_; (focus first | rfl | decide | exact ⟨rfl, rfl⟩ | exact ⟨rfl, by decide⟩ | exact (fun _ => rfl) | exact (fun h => nomatch h) | (simp; done) | omega | (simp [big]; done) | exact le_big (by omega) | exact lt_big (by omega))))
    all_goals first | rfl | (exfalso; omega)

end Go.Dr.T
