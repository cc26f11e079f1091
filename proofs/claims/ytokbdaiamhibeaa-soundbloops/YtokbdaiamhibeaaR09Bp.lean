/- Chapter 09: bridges; Bloop of the program. -/
import Derived.Test.YtokbdaiamhibeaaR09Bl
namespace Go.Dr.T

def brg (a b : Int) (n k : Nat) : Int := a + ((b - a) * ((k : Int) + 1)) / ((n : Int) + 1)
theorem brg_range {a b : Int} {n k : Nat} (ha : -1000000 ≤ a ∧ a ≤ 1000000) (hb : -1000000 ≤ b ∧ b ≤ 1000000) (hk : k < n) : -1000000 ≤ brg a b n k ∧ brg a b n k ≤ 1000000 := by
  unfold brg
  have e := Int.mul_ediv_add_emod ((b - a) * ((k : Int) + 1)) ((n : Int) + 1)
  have h1 := Int.emod_nonneg ((b - a) * ((k : Int) + 1)) (show (n : Int) + 1 ≠ 0 by omega)
  have h2 := Int.emod_lt_of_pos ((b - a) * ((k : Int) + 1)) (show 0 < (n : Int) + 1 by omega)
  generalize hq : ((b - a) * ((k : Int) + 1)) / ((n : Int) + 1) = q at *
  generalize ((b - a) * ((k : Int) + 1)) % ((n : Int) + 1) = rr at *
  rcases Int.le_total a b with hab | hab
  · have p1 : 0 ≤ (b - a) * ((k : Int) + 1) := Int.mul_nonneg (by omega) (by omega)
    have p2 : (b - a) * ((k : Int) + 1) ≤ (b - a) * ((n : Int) + 1) := Int.mul_le_mul_of_nonneg_left (by omega) (by omega)
    have q0 : 0 ≤ q := by rw [← hq]; exact Int.ediv_nonneg p1 (by omega)
    have q1 : q ≤ b - a := by
      rw [← hq]
      have := Int.ediv_le_ediv (show 0 < (n : Int) + 1 by omega) p2
      rwa [Int.mul_ediv_cancel _ (by omega)] at this
    omega
  · have p1 : (a - b) * ((k : Int) + 1) ≤ (a - b) * ((n : Int) + 1) := Int.mul_le_mul_of_nonneg_left (by omega) (by omega)
    have p0 : 0 ≤ (a - b) * ((k : Int) + 1) := Int.mul_nonneg (by omega) (by omega)
    have e1 : (b - a) * ((k : Int) + 1) = -((a - b) * ((k : Int) + 1)) := by rw [← Int.neg_mul]; congr 1; omega
    have q0 : q ≤ 0 := by
      rw [← hq]
      have := Int.ediv_le_ediv (show 0 < (n : Int) + 1 by omega) (show (b - a) * ((k : Int) + 1) ≤ 0 by omega)
      simpa using this
    have q1 : b - a ≤ q := by
      rw [← hq]
      have e2 : (b - a) * ((n : Int) + 1) ≤ (b - a) * ((k : Int) + 1) := by
        rw [e1, show (b - a) * ((n : Int) + 1) = -((a - b) * ((n : Int) + 1)) by rw [← Int.neg_mul]; congr 1; omega]
        omega
      have := Int.ediv_le_ediv (show 0 < (n : Int) + 1 by omega) e2
      rwa [Int.mul_ediv_cancel _ (by omega)] at this
    omega
theorem mul_bd2 {d r : Int} {A B : Int} (hd : -A ≤ d ∧ d ≤ A) (hr : 0 ≤ r ∧ r ≤ B) : -(A * B) ≤ d * r ∧ d * r ≤ A * B := by
  have hA : 0 ≤ A := by omega
  have h3 : A * r ≤ A * B := Int.mul_le_mul_of_nonneg_left hr.2 hA
  have h1 := Int.mul_le_mul_of_nonneg_right hd.1 hr.1
  have h2 := Int.mul_le_mul_of_nonneg_right hd.2 hr.1
  have h4 : -A * r = -(A * r) := Int.neg_mul _ _
  omega
set_option maxRecDepth 100000 in
set_option maxHeartbeats 20000000 in
theorem bridge_ok {a b : Int} {n : Nat} (ha : -1000000 ≤ a ∧ a ≤ 1000000) (hb : -1000000 ≤ b ∧ b ≤ 1000000) (hn : n ≤ 4000) :
    Fun F md 79 [.int .i64 a, .int .i64 b, .int .i64 (n : Nat)] (.sl (decide (n = n)) n (ofI (acc (brg a b n) n))) := by
  refine fun_of rfl rfl ?_
  repeat' (first
    | (conv => whnf)
      first
      | refine Br.t ?_
      | refine Br.f ?_
      | (refine Br.decT ?_ ?_; (focus first | assumption | omega))
      | (refine Br.decF ?_ ?_; (focus first | assumption | omega))
      | refine Br.dec (fun _ => ?_) (fun _ => ?_)
      | refine Br.not ?_
      | refine Br.and ?_
      | refine Br.or ?_
      | (refine Bnd.i64 ?_ ?_ ?_; (focus omega); (focus omega))
      | (refine Idx.nat ?_ ?_; (focus omega))
      | refine Idx.nat (le_big (by omega)) ?_
      | (refine Idx.int ?_ ?_ ?_; (focus omega); (focus omega))
      | (refine Idx.int ?_ ?_ ?_; (focus decide); (focus decide))
      | refine Ifz.zero ?_
      | (refine Ifz.pos ?_ ?_; (focus omega))
      | refine Get.mk _ rfl ?_
      | refine Leaves.of ?_
      | refine Ends.of ?_
      | refine Vw.bool ?_
      | refine Vw.int ?_
      | refine Vw.nil
      | refine Vw.sl
      | refine Vw.tup ?_
      | refine Vw.agg ?_
      | refine VwL.cons ?_ ?_
      | refine VwL.nil
      | refine LeavesF.of ?_
      | refine VwF.bool ?_
      | refine VwF.int ?_
      | refine VwF.nil
      | refine VwF.sl
      | refine VwF.tup ?_
      | refine VwF.agg ?_
      | refine VwLF.cons ?_ ?_
      | refine VwLF.nil
      | (refine Req.mk ?_ ?_; (focus first | rfl | decide | exact ⟨rfl, rfl⟩ | exact ⟨rfl, by decide⟩ | exact (fun _ => rfl) | exact (fun h => nomatch h) | (simp; done) | omega | (simp [big]; done) | exact le_big (by omega) | exact lt_big (by omega))))
  all_goals try (exfalso; omega)
  refine LoopP.by (fun i : Nat => i ≤ n) (fun i => [(12, .int .i64 (i : Nat))]) (fun i => [.blk (ofI (pfx (brg a b n) n i)) true]) (fun i => n - i) 0 (Nat.zero_le _) (by rw [← pfx_zero, ← reps_int]; rfl) ?_
  intro i hi
  by_cases hin : i < n
  · have hl0 : (ofI (pfx (brg a b n) n i)).length = n * 1 := by rw [ofI_length, pfx_length, Nat.mul_one]
    have hput := ofI_put0 (l := pfx (brg a b n) n i) (i := i) (v := brg a b n i) (by rw [pfx_length]; exact hin)
    rw [pfx_set hin] at hput
    have hm := mul_bd2 (d := b - a) (r := (i : Int) + 1) (A := 2000000) (B := 4001) (by omega) (by omega)
    have hD := down_any (a := (b - a) * ((i : Int) + 1)) (b := (n : Int) + 1) (by unfold mid; omega) (by omega)
    have hMul : IntKind.i64.wrap ((b - a) * ((i : Int) + 1)) = (b - a) * ((i : Int) + 1) := wrap_i64 (by omega) (by omega)
    have hX : brg a b n i = a + ((b - a) * ((i : Int) + 1)) / ((n : Int) + 1) := rfl
    have hr := brg_range ha hb hin
    generalize hC2 : ofI (pfx (brg a b n) n (i + 1)) = C2 at *
    generalize ofI (pfx (brg a b n) n i) = C0 at *
    generalize brg a b n i = v at *
    generalize ((b - a) * ((i : Int) + 1)) / ((n : Int) + 1) = dv at *
    subst hX
    repeat' (first
      | (conv => whnf)
        first
        | refine Bnd.eq hMul ?_
        | refine Br.t ?_
        | refine Br.f ?_
        | (refine Br.decT ?_ ?_; (focus first | assumption | omega))
        | (refine Br.decF ?_ ?_; (focus first | assumption | omega))
        | refine Br.dec (fun _ => ?_) (fun _ => ?_)
        | refine Br.not ?_
        | refine Br.and ?_
        | refine Br.or ?_
        | (refine Bnd.i64 ?_ ?_ ?_; (focus omega); (focus omega))
        | refine fVe hput ?_
        | refine Req.mk hl0 ?_
        | refine Req.mk ⟨hl0, by omega⟩ ?_
        | refine call_fun rfl rfl hD (.inl rfl) ?_
        | (refine Idx.nat ?_ ?_; (focus omega))
        | refine Idx.nat (le_big (by omega)) ?_
        | (refine Idx.int ?_ ?_ ?_; (focus omega); (focus omega))
        | (refine Idx.int ?_ ?_ ?_; (focus decide); (focus decide))
        | refine Ifz.zero ?_
        | (refine Ifz.pos ?_ ?_; (focus omega))
        | refine Get.mk _ rfl ?_
        | refine Leaves.of ?_
        | refine Ends.of ?_
        | refine Vw.bool ?_
        | refine Vw.int ?_
        | refine Vw.nil
        | refine Vw.sl
        | refine Vw.tup ?_
        | refine Vw.agg ?_
        | refine VwL.cons ?_ ?_
        | refine VwL.nil
        | refine LeavesF.of ?_
        | refine VwF.bool ?_
        | refine VwF.int ?_
        | refine VwF.nil
        | refine VwF.sl
        | refine VwF.tup ?_
        | refine VwF.agg ?_
        | refine VwLF.cons ?_ ?_
        | refine VwLF.nil
        | (refine Req.mk ?_ ?_; (focus first | rfl | decide | exact ⟨rfl, rfl⟩ | exact ⟨rfl, by decide⟩ | exact (fun _ => rfl) | exact (fun h => nomatch h) | (simp; done) | omega | (simp [big]; done) | exact le_big (by omega) | exact lt_big (by omega))))
    all_goals first | exact NextP.mk (i + 1) (by omega) (by omega) (by rw [hC2]; rfl) | (exfalso; omega)
  · obtain rfl : i = n := by omega
    have hfull := pfx_full (brg a b i) i
    repeat' (first
      | (conv => whnf)
        first
        | refine Br.t ?_
        | refine Br.f ?_
        | (refine Br.decT ?_ ?_; (focus first | assumption | omega))
        | (refine Br.decF ?_ ?_; (focus first | assumption | omega))
        | refine Br.dec (fun _ => ?_) (fun _ => ?_)
        | refine Br.not ?_
        | refine Br.and ?_
        | refine Br.or ?_
        | (refine Bnd.i64 ?_ ?_ ?_; (focus omega); (focus omega))
        | (refine Idx.nat ?_ ?_; (focus omega))
        | refine Idx.nat (le_big (by omega)) ?_
        | (refine Idx.int ?_ ?_ ?_; (focus omega); (focus omega))
        | (refine Idx.int ?_ ?_ ?_; (focus decide); (focus decide))
        | refine Ifz.zero ?_
        | (refine Ifz.pos ?_ ?_; (focus omega))
        | refine Get.mk _ rfl ?_
        | refine Leaves.of ?_
        | refine Ends.of ?_
        | refine Vw.bool ?_
        | refine Vw.int ?_
        | refine Vw.nil
        | refine Vw.sl
        | refine Vw.tup ?_
        | refine Vw.agg ?_
        | refine VwL.cons ?_ ?_
        | refine VwL.nil
        | refine LeavesF.of ?_
        | refine VwF.bool ?_
        | refine VwF.int ?_
        | refine VwF.nil
        | refine VwF.sl
        | refine VwF.tup ?_
        | refine VwF.agg ?_
        | refine VwLF.cons ?_ ?_
        | refine VwLF.nil
        | (refine Req.mk ?_ ?_; (focus first | rfl | decide | exact ⟨rfl, rfl⟩ | exact ⟨rfl, by decide⟩ | exact (fun _ => rfl) | exact (fun h => nomatch h) | (simp; done) | omega | (simp [big]; done) | exact le_big (by omega) | exact lt_big (by omega))))
    · refine Vw.ints rfl (by rw [hfull]; rfl) (by rw [acc_length, Nat.mul_one]) (by rw [acc_length]) (by rw [acc_length])
    all_goals first | rfl | (exfalso; omega)

/-! Bloop -/
def blA (now : List Int) (a b : Nat) : Int := if a = 0 then gI now (b + 1) else gI now (a - 1)
def blB (n : Nat) (now : List Int) (a b : Nat) : Int := if a ≠ 0 ∧ b + 1 = n then gI now (a - 1) else gI now (b + 1)
def blR (n : Nat) (now : List Int) (a b : Nat) : List Int := acc (brg (blA now a b) (blB n now a b) (b + 1 - a)) (b + 1 - a)
def blN (n : Nat) (now : List Int) (a b : Nat) : List Int := now.take a ++ blR n now a b ++ now.drop (a + (blR n now a b).length)
def blK (now : List Int) (a b : Nat) : List Int := (now.drop a).take (b + 1 - a)
def blp (n : Nat) : List (Int × Int) → List Int → List Int → Option (List Int × List Int)
  | [], now, kept => some (now, kept)
  | x :: l, now, kept => if x.1.toNat = 0 ∧ x.2.toNat + 1 = n then none else blp n l (blN n now x.1.toNat x.2.toNat) (kept ++ blK now x.1.toNat x.2.toNat)
theorem blR_len (n : Nat) (now : List Int) (a b : Nat) : (blR n now a b).length = b + 1 - a := by simp [blR, acc_length]
theorem blN_len {n : Nat} {now : List Int} {a b : Nat} (hl : now.length = n) (hb : b < n) (hab : a ≤ b) : (blN n now a b).length = n := by
  simp only [blN, List.length_append, List.length_take, List.length_drop, blR_len]; omega
theorem gI_all {l : List Int} (hg : ∀ i, -1000000 ≤ gI l i ∧ gI l i ≤ 1000000) : ∀ x ∈ l, -1000000 ≤ x ∧ x ≤ 1000000 := by
  intro x hx
  obtain ⟨i, hi, rfl⟩ := List.getElem_of_mem hx
  rw [← gI_get hi]; exact hg i
theorem blN_in {n : Nat} {now : List Int} {a b : Nat} (hg : ∀ i, -1000000 ≤ gI now i ∧ gI now i ≤ 1000000) : ∀ i, -1000000 ≤ gI (blN n now a b) i ∧ gI (blN n now a b) i ≤ 1000000 := by
  have hall := gI_all hg
  refine gI_in (m := 1000000) (by omega) fun x hx => ?_
  unfold blN at hx
  rcases List.mem_append.1 hx with hx | hx
  · rcases List.mem_append.1 hx with hx | hx
    · exact hall x (List.mem_of_mem_take hx)
    · unfold blR acc at hx
      obtain ⟨k, hk, rfl⟩ := List.mem_map.1 hx
      refine brg_range ?_ ?_ (List.mem_range.1 hk)
      · unfold blA; split <;> exact hg _
      · unfold blB; split <;> exact hg _
  · exact hall x (List.mem_of_mem_drop hx)
structure BpS where
  i : Nat
  now : List Int
  kept : List Int
  nk : Nat
def bpU (a : BpS) : List (Nat × V) :=
  match a.i with
  | 0 => [(7, .nilsl), (32, .int .i64 ((0 : Nat) : Int))]
  | i + 1 => [(7, .ms 1 2 a.nk 0 a.nk false), (32, .int .i64 ((i + 1 : Nat) : Int))]
def bpH (x : Int × Int) (a : BpS) : List B :=
  match a.i with
  | 0 => [.blk (ofI a.now) true]
  | _ + 1 => [.blk (ofI a.now) true, .blk [.int .i64 x.1, .int .i64 x.2] false, .blk (ofI a.kept) true]
theorem bpU_one (i : Nat) (now kept : List Int) (nk : Nat) : bpU ⟨i + 1, now, kept, nk⟩ = [(7, .ms 1 2 nk 0 nk false), (32, .int .i64 ((i + 1 : Nat) : Int))] := rfl
theorem bpH_one (x : Int × Int) (i : Nat) (now kept : List Int) (nk : Nat) : bpH x ⟨i + 1, now, kept, nk⟩ = [.blk (ofI now) true, .blk [.int .i64 x.1, .int .i64 x.2] false, .blk (ofI kept) true] := rfl
def BpP (n : Nat) (l : List Int) (S : List (Int × Int)) (a : BpS) : Prop := a.i ≤ S.length ∧ a.now.length = n ∧ (∀ i, -1000000 ≤ gI a.now i ∧ gI a.now i ≤ 1000000) ∧ blp n S l [] = blp n (S.drop a.i) a.now a.kept ∧ a.kept.length = a.nk ∧ a.nk ≤ 4000 * a.i ∧ (a.i = 0 → a.kept = []) ∧ (a.i ≠ 0 → a.nk ≠ 0)
abbrev blV (c c' : Bool) (z : Option (List Int × List Int)) : V :=
  match z with
  | none => .tup [.sl true 0 [], .sl true 0 [], .int .i64 9]
  | some (a, k) => .tup [.sl c a.length (ofI a), .sl c' k.length (ofI k), .int .i64 0]

set_option maxRecDepth 100000 in
set_option maxHeartbeats 20000000 in
theorem bloop_okF {c c' : Bool} {l sp : List Int} {r : Int} (hE : splE l sp r = 0) (h0 : l.length ≠ 0) : ∃ k1, FunF F md 42 [.sl c l.length (ofI l), .sl c' sp.length (ofI sp), .int .i64 r] (blV false k1 (blp l.length (spL l.length r sp) l [])) := by
  have hsp := spliced_ok (c := c) (c' := c') hE
  obtain ⟨e1, hr, hm, hs⟩ := splE_ok hE
  obtain ⟨hL, hlin⟩ := smp_ok e1
  have hg := gI_in (m := 1000000) (by omega) hlin
  have hS : ∀ x ∈ spL l.length r sp, 0 ≤ x.1 ∧ x.1 ≤ x.2 ∧ x.2 ≤ (l.length : Int) - 1 := by
    intro x hx
    unfold spL at hx
    obtain ⟨a, ha, rfl⟩ := List.mem_map.1 hx
    exact spF_in hr (spB_mem hs a ha)
  have hSl : (spL l.length r sp).length = sp.length := by simp [spL]
  have hne := eq_nil (c := c) (l := ofI l) h0
  have hlb : (ofI l).length = l.length := ofI_length l
  have hq1 : (ofI l).length = l.length * 1 := by rw [hlb, Nat.mul_one]
  have hq2 : (([] : List V).length + (ofI l).length) * (8 + 1) < big := by rw [hlb]; simp [big]; omega
  have hq3 : true = true → scalars (([] : List V) ++ ofI l) = true := fun _ => scal_ints l
  dsimp only [splV] at hsp
  generalize spL l.length r sp = S at *
  generalize spM l.length r sp = M at *
  rw [hSl] at hsp
  refine ⟨decide (S.length = 0), ?_⟩
  have hM : S.length ≤ 60 := by omega
  have hnl0 : l.length ≤ 4000 := hL
  have hkc : ∀ k, (ofI l).length = k → ([] : List V).length + (ofI l).length = k := by intro k hk; simp; simpa using hk
  have hll : (ofI l).length = l.length := hlb
  refine funF_of rfl rfl ?_
  repeat' (first
    | (conv => whnf)
      first
      | refine Br.t ?_
      | refine Br.f ?_
      | (refine Br.decT ?_ ?_; (focus first | assumption | omega))
      | (refine Br.decF ?_ ?_; (focus first | assumption | omega))
      | refine Br.dec (fun _ => ?_) (fun _ => ?_)
      | refine Br.not ?_
      | refine Br.and ?_
      | refine Br.or ?_
      | (refine Bnd.i64 ?_ ?_ ?_; (focus omega); (focus omega))
      | refine call_fun rfl rfl hsp (.inl rfl) ?_
      | refine call_one rfl rfl rfl ?_
      | refine Get.mk _ hne ?_
      | refine Req.mk hq1 ?_
      | refine Req.mk hq2 ?_
      | refine Req.mk hq3 ?_
      | (refine Idx.nat ?_ ?_; (focus omega))
      | refine Idx.nat (le_big (by omega)) ?_
      | (refine Idx.int ?_ ?_ ?_; (focus omega); (focus omega))
      | (refine Idx.int ?_ ?_ ?_; (focus decide); (focus decide))
      | refine Ifz.zero ?_
      | (refine Ifz.pos ?_ ?_; (focus omega))
      | refine Get.mk _ rfl ?_
      | refine Leaves.of ?_
      | refine Ends.of ?_
      | refine Vw.bool ?_
      | refine Vw.int ?_
      | refine Vw.nil
      | refine Vw.sl
      | refine Vw.tup ?_
      | refine Vw.agg ?_
      | refine VwL.cons ?_ ?_
      | refine VwL.nil
      | refine LeavesF.of ?_
      | refine VwF.bool ?_
      | refine VwF.int ?_
      | refine VwF.nil
      | refine VwF.sl
      | refine VwF.tup ?_
      | refine VwF.agg ?_
      | refine VwLF.cons ?_ ?_
      | refine VwLF.nil
      | (refine Req.mk ?_ ?_; (focus first | rfl | decide | exact ⟨rfl, rfl⟩ | exact ⟨rfl, by decide⟩ | exact (fun _ => rfl) | exact (fun h => nomatch h) | (simp; done) | omega | (simp [big]; done) | exact le_big (by omega) | exact lt_big (by omega))))
  all_goals try (exfalso; omega)
  refine LoopP.by (BpP l.length l S) bpU (bpH (S.getD 0 (0, 0))) (fun a => S.length - a.i) ⟨0, l, [], 0⟩ ⟨Nat.zero_le _, rfl, hg, rfl, rfl, Nat.zero_le _, fun _ => rfl, by simp⟩ rfl ?_
  rintro ⟨i, now, kept, nk⟩ ⟨hi, hnl, hrg, hd, hkl0, hnk, hk0, hk00⟩
  dsimp only at hi hnl hrg hd hkl0 hnk hk0 hk00 ⊢
  have hn : l.length = l.length := rfl
  by_cases hin : i < S.length
  · cases i with
    | zero =>
      obtain rfl := hk0 rfl
      have hX0 : S.getD 0 (0, 0) = S[0] := by rw [List.getD_eq_getElem?_getD, List.getElem?_eq_getElem hin]; rfl
      have hk1 : True := trivial
      have hk3 : True := trivial
      show fV _ fun tm' => fB [.blk (ofI now) true] _
      have hpt := ofSp_part hin
      have hx := hS S[0] (List.getElem_mem hin)
      rw [List.drop_eq_getElem_cons hin] at hd
      skip
      generalize S[0] = x at *
      obtain ⟨xa, xb⟩ := x
      dsimp only at hx hpt
      obtain ⟨a, rfl⟩ := Int.eq_ofNat_of_zero_le hx.1
      obtain ⟨b, rfl⟩ := Int.eq_ofNat_of_zero_le (show 0 ≤ xb by omega)
      simp only [blp, Int.toNat_natCast] at hd
      have hg0 : (ofI now).length = ([] : List V).length + (ofI l).length := by rw [ofI_length, ofI_length, hnl]; simp
      have hb1 : IntKind.i64.wrap ((b : Int) + 1) = ((b + 1 : Nat) : Int) := by rw [wrap_i64 (by omega) (by omega)]; omega
      by_cases c1 : a = 0 ∧ b + 1 = l.length
      · rw [if_pos c1] at hd
        rw [hd]
        repeat' (first
          | (conv => whnf)
            first
            | refine Br.t ?_
            | refine Br.f ?_
            | (refine Br.decT ?_ ?_; (focus first | assumption | omega))
            | (refine Br.decF ?_ ?_; (focus first | assumption | omega))
            | refine Br.dec (fun _ => ?_) (fun _ => ?_)
            | refine Br.not ?_
            | refine Br.and ?_
            | refine Br.or ?_
            | (refine Bnd.i64 ?_ ?_ ?_; (focus omega); (focus omega))
            | refine Get.mk _ hpt ?_
            | (refine Idx.nat ?_ ?_; (focus omega))
            | refine Idx.nat (le_big (by omega)) ?_
            | (refine Idx.int ?_ ?_ ?_; (focus omega); (focus omega))
            | (refine Idx.int ?_ ?_ ?_; (focus decide); (focus decide))
            | refine Ifz.zero ?_
            | (refine Ifz.pos ?_ ?_; (focus omega))
            | refine Get.mk _ rfl ?_
            | refine Leaves.of ?_
            | refine Ends.of ?_
            | refine Vw.bool ?_
            | refine Vw.int ?_
            | refine Vw.nil
            | refine Vw.sl
            | refine Vw.tup ?_
            | refine Vw.agg ?_
            | refine VwL.cons ?_ ?_
            | refine VwL.nil
            | refine LeavesF.of ?_
            | refine VwF.bool ?_
            | refine VwF.int ?_
            | refine VwF.nil
            | refine VwF.sl
            | refine VwF.tup ?_
            | refine VwF.agg ?_
            | refine VwLF.cons ?_ ?_
            | refine VwLF.nil
            | (refine Req.mk ?_ ?_; (focus first | rfl | decide | exact ⟨rfl, rfl⟩ | exact ⟨rfl, by decide⟩ | exact (fun _ => rfl) | exact (fun h => nomatch h) | (simp; done) | omega | (simp [big]; done) | exact le_big (by omega) | exact lt_big (by omega))))
        all_goals first | rfl | (exfalso; omega)
      · rw [if_neg c1] at hd
        have hpk : part (ofI now) (0 + a * 1) ((b + 1 - a) * 1) = some (ofI (blK now a b)) := by rw [Nat.zero_add]; exact ofI_part (by omega)
        have hkl : (blK now a b).length = b + 1 - a := by simp [blK]; omega
        have hyl : (ofI (blK now a b)).length = b + 1 - a := by rw [ofI_length, hkl]
        have hbl := blR_len l.length now a b
        have hov : over (ofI now) (0 + a * 1) ((ofI (blR l.length now a b)).take (min (b + 1 - a) (0 + l.length - a) * 1)) = ofI (blN l.length now a b) := by
          rw [List.take_of_length_le (by rw [ofI_length, hbl]; omega), Nat.zero_add, ofI_over (by omega)]; rfl
        have htk : (ofI (blR l.length now a b)).take (min (b + 1 - a) (0 + l.length - a) * 1) = ofI (blR l.length now a b) := List.take_of_length_le (by rw [ofI_length, hbl]; omega)
        have hsc : (true = true → scalars ((ofI (blR l.length now a b)).take (min (b + 1 - a) (0 + l.length - a) * 1)) = true) ∧ ones ((ofI (blR l.length now a b)).take (min (b + 1 - a) (0 + l.length - a) * 1)) = true := by
          rw [htk]; exact ⟨fun _ => scal_ints _, ones_ints _⟩
        have hyt : true = true → scalars (ofI (blK now a b)) = true := fun _ => scal_ints _
        have hk2 : (([] : List V).length + (ofI (blK now a b)).length) * (8 + 1) < big := by (rw [hyl]; simp [big]; omega)
        have hBg := @bridge_ok (blA now a b) (blB l.length now a b) (b + 1 - a) (by unfold blA; split <;> exact hrg _) (by unfold blB; split <;> exact hrg _) (by omega)
        change Fun F md 79 _ (.sl _ _ (ofI (blR l.length now a b))) at hBg
        have hRl : (ofI (blR l.length now a b)).length = (b + 1 - a) * 1 := by rw [ofI_length, hbl, Nat.mul_one]
        have hcq : (ofI now).length = ([] : List V).length + (ofI l).length ∧ 0 + a * 1 + (0 + l.length - a) * 1 ≤ ([] : List V).length + (ofI l).length := by
          refine ⟨hg0, ?_⟩
          rw [ofI_length]; simp; omega
        have hnl2 := blN_len hnl (show b < l.length by omega) (show a ≤ b by omega)
        have hin2 := @blN_in l.length now a b hrg
        have hw : ∀ e : Int, e = (b : Int) - a → IntKind.i64.wrap (e + 1) = ((b + 1 - a : Nat) : Int) := by
          intro e he; rw [wrap_i64 (by omega) (by omega)]; omega
        have hw := hw ((b : Int) - a) rfl
        by_cases c2 : a = 0
        · have hA : blA now a b = gI now (b + 1) := by unfold blA; rw [if_pos c2]
          have hB : blB l.length now a b = gI now (b + 1) := by unfold blB; rw [if_neg (by omega)]
          rw [hA, hB] at hBg
          have hcb := gI_cell0 (l := now) (i := b + 1) (by omega)
          have ha1 : True := trivial
          have hca := hcb
          clear hA hB
          repeat' (first
            | (conv => whnf)
              first
              | refine Bnd.eq hb1 ?_
              | refine Bnd.eq ha1 ?_
              | refine Bnd.eq hw ?_
              | refine Br.t ?_
              | refine Br.f ?_
              | (refine Br.decT ?_ ?_; (focus first | assumption | omega))
              | (refine Br.decF ?_ ?_; (focus first | assumption | omega))
              | refine Br.dec (fun _ => ?_) (fun _ => ?_)
              | refine Br.not ?_
              | refine Br.and ?_
              | refine Br.or ?_
              | (refine Bnd.i64 ?_ ?_ ?_; (focus omega); (focus omega))
              | refine Get.mk _ hpt ?_
              | refine Get.mk _ hca ?_
              | refine Get.mk _ hcb ?_
              | refine Get.mk _ hpk ?_
              | refine Req.mk hg0 ?_
              | refine Req.mk hcq ?_
              | refine Req.mk hsc ?_
              | refine Req.mk hRl ?_
              | refine Req.mk hyt ?_
              | refine Req.mk hk1 ?_
              | refine Req.mk hk2 ?_
              | refine Req.mk hk3 ?_
              | refine call_fun rfl rfl hBg (.inl rfl) ?_
              | (refine Idx.nat ?_ ?_; (focus omega))
              | refine Idx.nat (le_big (by omega)) ?_
              | (refine Idx.int ?_ ?_ ?_; (focus omega); (focus omega))
              | (refine Idx.int ?_ ?_ ?_; (focus decide); (focus decide))
              | refine Ifz.zero ?_
              | (refine Ifz.pos ?_ ?_; (focus omega))
              | refine Get.mk _ rfl ?_
              | refine Leaves.of ?_
              | refine Ends.of ?_
              | refine Vw.bool ?_
              | refine Vw.int ?_
              | refine Vw.nil
              | refine Vw.sl
              | refine Vw.tup ?_
              | refine Vw.agg ?_
              | refine VwL.cons ?_ ?_
              | refine VwL.nil
              | refine LeavesF.of ?_
              | refine VwF.bool ?_
              | refine VwF.int ?_
              | refine VwF.nil
              | refine VwF.sl
              | refine VwF.tup ?_
              | refine VwF.agg ?_
              | refine VwLF.cons ?_ ?_
              | refine VwLF.nil
              | (refine Req.mk ?_ ?_; (focus first | rfl | decide | exact ⟨rfl, rfl⟩ | exact ⟨rfl, by decide⟩ | exact (fun _ => rfl) | exact (fun h => nomatch h) | (simp; done) | omega | (simp [big]; done) | exact le_big (by omega) | exact lt_big (by omega))))
          all_goals first | exact NextP.mk ⟨0 + 1, blN l.length now a b, [] ++ blK now a b, 0 + (b + 1 - a)⟩ ⟨hin, hnl2, hin2, hd, (by simp [hkl]), (by dsimp only; omega), (by intro h; simp at h), (by intro _; dsimp only; omega)⟩ (by simp only; omega) (by rw [bpU_one, bpH_one, ← hov, hX0, hyl]; rfl) | (exfalso; omega)
        · have ha1 : IntKind.i64.wrap ((a : Int) - 1) = ((a - 1 : Nat) : Int) := by rw [wrap_i64 (by omega) (by omega)]; omega
          have hA : blA now a b = gI now (a - 1) := by unfold blA; rw [if_neg c2]
          have hca := gI_cell0 (l := now) (i := a - 1) (by omega)
          by_cases c3 : b + 1 = l.length
          · have hB : blB l.length now a b = gI now (a - 1) := by unfold blB; rw [if_pos ⟨c2, c3⟩]
            rw [hA, hB] at hBg
            have hcb := hca
            clear hA hB
            repeat' (first
              | (conv => whnf)
                first
                | refine Bnd.eq hb1 ?_
                | refine Bnd.eq ha1 ?_
                | refine Bnd.eq hw ?_
                | refine Br.t ?_
                | refine Br.f ?_
                | (refine Br.decT ?_ ?_; (focus first | assumption | omega))
                | (refine Br.decF ?_ ?_; (focus first | assumption | omega))
                | refine Br.dec (fun _ => ?_) (fun _ => ?_)
                | refine Br.not ?_
                | refine Br.and ?_
                | refine Br.or ?_
                | (refine Bnd.i64 ?_ ?_ ?_; (focus omega); (focus omega))
                | refine Get.mk _ hpt ?_
                | refine Get.mk _ hca ?_
                | refine Get.mk _ hcb ?_
                | refine Get.mk _ hpk ?_
                | refine Req.mk hg0 ?_
                | refine Req.mk hcq ?_
                | refine Req.mk hsc ?_
                | refine Req.mk hRl ?_
                | refine Req.mk hyt ?_
                | refine Req.mk hk1 ?_
                | refine Req.mk hk2 ?_
                | refine Req.mk hk3 ?_
                | refine call_fun rfl rfl hBg (.inl rfl) ?_
                | (refine Idx.nat ?_ ?_; (focus omega))
                | refine Idx.nat (le_big (by omega)) ?_
                | (refine Idx.int ?_ ?_ ?_; (focus omega); (focus omega))
                | (refine Idx.int ?_ ?_ ?_; (focus decide); (focus decide))
                | refine Ifz.zero ?_
                | (refine Ifz.pos ?_ ?_; (focus omega))
                | refine Get.mk _ rfl ?_
                | refine Leaves.of ?_
                | refine Ends.of ?_
                | refine Vw.bool ?_
                | refine Vw.int ?_
                | refine Vw.nil
                | refine Vw.sl
                | refine Vw.tup ?_
                | refine Vw.agg ?_
                | refine VwL.cons ?_ ?_
                | refine VwL.nil
                | refine LeavesF.of ?_
                | refine VwF.bool ?_
                | refine VwF.int ?_
                | refine VwF.nil
                | refine VwF.sl
                | refine VwF.tup ?_
                | refine VwF.agg ?_
                | refine VwLF.cons ?_ ?_
                | refine VwLF.nil
                | (refine Req.mk ?_ ?_; (focus first | rfl | decide | exact ⟨rfl, rfl⟩ | exact ⟨rfl, by decide⟩ | exact (fun _ => rfl) | exact (fun h => nomatch h) | (simp; done) | omega | (simp [big]; done) | exact le_big (by omega) | exact lt_big (by omega))))
            all_goals first | exact NextP.mk ⟨0 + 1, blN l.length now a b, [] ++ blK now a b, 0 + (b + 1 - a)⟩ ⟨hin, hnl2, hin2, hd, (by simp [hkl]), (by dsimp only; omega), (by intro h; simp at h), (by intro _; dsimp only; omega)⟩ (by simp only; omega) (by rw [bpU_one, bpH_one, ← hov, hX0, hyl]; rfl) | (exfalso; omega)
          · have hB : blB l.length now a b = gI now (b + 1) := by unfold blB; rw [if_neg (by omega)]
            rw [hA, hB] at hBg
            have hcb := gI_cell0 (l := now) (i := b + 1) (by omega)
            clear hA hB
            repeat' (first
              | (conv => whnf)
                first
                | refine Bnd.eq hb1 ?_
                | refine Bnd.eq ha1 ?_
                | refine Bnd.eq hw ?_
                | refine Br.t ?_
                | refine Br.f ?_
                | (refine Br.decT ?_ ?_; (focus first | assumption | omega))
                | (refine Br.decF ?_ ?_; (focus first | assumption | omega))
                | refine Br.dec (fun _ => ?_) (fun _ => ?_)
                | refine Br.not ?_
                | refine Br.and ?_
                | refine Br.or ?_
                | (refine Bnd.i64 ?_ ?_ ?_; (focus omega); (focus omega))
                | refine Get.mk _ hpt ?_
                | refine Get.mk _ hca ?_
                | refine Get.mk _ hcb ?_
                | refine Get.mk _ hpk ?_
                | refine Req.mk hg0 ?_
                | refine Req.mk hcq ?_
                | refine Req.mk hsc ?_
                | refine Req.mk hRl ?_
                | refine Req.mk hyt ?_
                | refine Req.mk hk1 ?_
                | refine Req.mk hk2 ?_
                | refine Req.mk hk3 ?_
                | refine call_fun rfl rfl hBg (.inl rfl) ?_
                | (refine Idx.nat ?_ ?_; (focus omega))
                | refine Idx.nat (le_big (by omega)) ?_
                | (refine Idx.int ?_ ?_ ?_; (focus omega); (focus omega))
                | (refine Idx.int ?_ ?_ ?_; (focus decide); (focus decide))
                | refine Ifz.zero ?_
                | (refine Ifz.pos ?_ ?_; (focus omega))
                | refine Get.mk _ rfl ?_
                | refine Leaves.of ?_
                | refine Ends.of ?_
                | refine Vw.bool ?_
                | refine Vw.int ?_
                | refine Vw.nil
                | refine Vw.sl
                | refine Vw.tup ?_
                | refine Vw.agg ?_
                | refine VwL.cons ?_ ?_
                | refine VwL.nil
                | refine LeavesF.of ?_
                | refine VwF.bool ?_
                | refine VwF.int ?_
                | refine VwF.nil
                | refine VwF.sl
                | refine VwF.tup ?_
                | refine VwF.agg ?_
                | refine VwLF.cons ?_ ?_
                | refine VwLF.nil
                | (refine Req.mk ?_ ?_; (focus first | rfl | decide | exact ⟨rfl, rfl⟩ | exact ⟨rfl, by decide⟩ | exact (fun _ => rfl) | exact (fun h => nomatch h) | (simp; done) | omega | (simp [big]; done) | exact le_big (by omega) | exact lt_big (by omega))))
            all_goals first | exact NextP.mk ⟨0 + 1, blN l.length now a b, [] ++ blK now a b, 0 + (b + 1 - a)⟩ ⟨hin, hnl2, hin2, hd, (by simp [hkl]), (by dsimp only; omega), (by intro h; simp at h), (by intro _; dsimp only; omega)⟩ (by simp only; omega) (by rw [bpU_one, bpH_one, ← hov, hX0, hyl]; rfl) | (exfalso; omega)
    | succ i =>
      have hk1 : (ofI kept).length = nk := by rw [ofI_length, hkl0]
      have hk2 : True := trivial
      rw [bpU_one, bpH_one]
      have hpt := ofSp_part hin
      have hx := hS S[(i + 1)] (List.getElem_mem hin)
      rw [List.drop_eq_getElem_cons hin] at hd
      skip
      generalize S[(i + 1)] = x at *
      obtain ⟨xa, xb⟩ := x
      dsimp only at hx hpt
      obtain ⟨a, rfl⟩ := Int.eq_ofNat_of_zero_le hx.1
      obtain ⟨b, rfl⟩ := Int.eq_ofNat_of_zero_le (show 0 ≤ xb by omega)
      simp only [blp, Int.toNat_natCast] at hd
      have hg0 : (ofI now).length = ([] : List V).length + (ofI l).length := by rw [ofI_length, ofI_length, hnl]; simp
      have hb1 : IntKind.i64.wrap ((b : Int) + 1) = ((b + 1 : Nat) : Int) := by rw [wrap_i64 (by omega) (by omega)]; omega
      by_cases c1 : a = 0 ∧ b + 1 = l.length
      · rw [if_pos c1] at hd
        rw [hd]
        repeat' (first
          | (conv => whnf)
            first
            | refine Br.t ?_
            | refine Br.f ?_
            | (refine Br.decT ?_ ?_; (focus first | assumption | omega))
            | (refine Br.decF ?_ ?_; (focus first | assumption | omega))
            | refine Br.dec (fun _ => ?_) (fun _ => ?_)
            | refine Br.not ?_
            | refine Br.and ?_
            | refine Br.or ?_
            | (refine Bnd.i64 ?_ ?_ ?_; (focus omega); (focus omega))
            | refine Get.mk _ hpt ?_
            | (refine Idx.nat ?_ ?_; (focus omega))
            | refine Idx.nat (le_big (by omega)) ?_
            | (refine Idx.int ?_ ?_ ?_; (focus omega); (focus omega))
            | (refine Idx.int ?_ ?_ ?_; (focus decide); (focus decide))
            | refine Ifz.zero ?_
            | (refine Ifz.pos ?_ ?_; (focus omega))
            | refine Get.mk _ rfl ?_
            | refine Leaves.of ?_
            | refine Ends.of ?_
            | refine Vw.bool ?_
            | refine Vw.int ?_
            | refine Vw.nil
            | refine Vw.sl
            | refine Vw.tup ?_
            | refine Vw.agg ?_
            | refine VwL.cons ?_ ?_
            | refine VwL.nil
            | refine LeavesF.of ?_
            | refine VwF.bool ?_
            | refine VwF.int ?_
            | refine VwF.nil
            | refine VwF.sl
            | refine VwF.tup ?_
            | refine VwF.agg ?_
            | refine VwLF.cons ?_ ?_
            | refine VwLF.nil
            | (refine Req.mk ?_ ?_; (focus first | rfl | decide | exact ⟨rfl, rfl⟩ | exact ⟨rfl, by decide⟩ | exact (fun _ => rfl) | exact (fun h => nomatch h) | (simp; done) | omega | (simp [big]; done) | exact le_big (by omega) | exact lt_big (by omega))))
        all_goals first | rfl | (exfalso; omega)
      · rw [if_neg c1] at hd
        have hpk : part (ofI now) (0 + a * 1) ((b + 1 - a) * 1) = some (ofI (blK now a b)) := by rw [Nat.zero_add]; exact ofI_part (by omega)
        have hkl : (blK now a b).length = b + 1 - a := by simp [blK]; omega
        have hyl : (ofI (blK now a b)).length = b + 1 - a := by rw [ofI_length, hkl]
        have hbl := blR_len l.length now a b
        have hov : over (ofI now) (0 + a * 1) ((ofI (blR l.length now a b)).take (min (b + 1 - a) (0 + l.length - a) * 1)) = ofI (blN l.length now a b) := by
          rw [List.take_of_length_le (by rw [ofI_length, hbl]; omega), Nat.zero_add, ofI_over (by omega)]; rfl
        have htk : (ofI (blR l.length now a b)).take (min (b + 1 - a) (0 + l.length - a) * 1) = ofI (blR l.length now a b) := List.take_of_length_le (by rw [ofI_length, hbl]; omega)
        have hsc : (true = true → scalars ((ofI (blR l.length now a b)).take (min (b + 1 - a) (0 + l.length - a) * 1)) = true) ∧ ones ((ofI (blR l.length now a b)).take (min (b + 1 - a) (0 + l.length - a) * 1)) = true := by
          rw [htk]; exact ⟨fun _ => scal_ints _, ones_ints _⟩
        have hyt : true = true → scalars (ofI (blK now a b)) = true := fun _ => scal_ints _
        have hk3 : 0 + nk * 1 = nk ∧ ((ofI kept).length + (ofI (blK now a b)).length) * (8 + 1) < big := by (refine ⟨by omega, ?_⟩; rw [hk1, hyl]; simp [big]; omega)
        have hBg := @bridge_ok (blA now a b) (blB l.length now a b) (b + 1 - a) (by unfold blA; split <;> exact hrg _) (by unfold blB; split <;> exact hrg _) (by omega)
        change Fun F md 79 _ (.sl _ _ (ofI (blR l.length now a b))) at hBg
        have hRl : (ofI (blR l.length now a b)).length = (b + 1 - a) * 1 := by rw [ofI_length, hbl, Nat.mul_one]
        have hcq : (ofI now).length = ([] : List V).length + (ofI l).length ∧ 0 + a * 1 + (0 + l.length - a) * 1 ≤ ([] : List V).length + (ofI l).length := by
          refine ⟨hg0, ?_⟩
          rw [ofI_length]; simp; omega
        have hnl2 := blN_len hnl (show b < l.length by omega) (show a ≤ b by omega)
        have hin2 := @blN_in l.length now a b hrg
        have hw : ∀ e : Int, e = (b : Int) - a → IntKind.i64.wrap (e + 1) = ((b + 1 - a : Nat) : Int) := by
          intro e he; rw [wrap_i64 (by omega) (by omega)]; omega
        have hw := hw ((b : Int) - a) rfl
        by_cases c2 : a = 0
        · have hA : blA now a b = gI now (b + 1) := by unfold blA; rw [if_pos c2]
          have hB : blB l.length now a b = gI now (b + 1) := by unfold blB; rw [if_neg (by omega)]
          rw [hA, hB] at hBg
          have hcb := gI_cell0 (l := now) (i := b + 1) (by omega)
          have ha1 : True := trivial
          have hca := hcb
          clear hA hB
          repeat' (first
            | (conv => whnf)
              first
              | refine Bnd.eq hb1 ?_
              | refine Bnd.eq ha1 ?_
              | refine Bnd.eq hw ?_
              | refine Br.t ?_
              | refine Br.f ?_
              | (refine Br.decT ?_ ?_; (focus first | assumption | omega))
              | (refine Br.decF ?_ ?_; (focus first | assumption | omega))
              | refine Br.dec (fun _ => ?_) (fun _ => ?_)
              | refine Br.not ?_
              | refine Br.and ?_
              | refine Br.or ?_
              | (refine Bnd.i64 ?_ ?_ ?_; (focus omega); (focus omega))
              | refine Get.mk _ hpt ?_
              | refine Get.mk _ hca ?_
              | refine Get.mk _ hcb ?_
              | refine Get.mk _ hpk ?_
              | refine Req.mk hg0 ?_
              | refine Req.mk hcq ?_
              | refine Req.mk hsc ?_
              | refine Req.mk hRl ?_
              | refine Req.mk hyt ?_
              | refine Req.mk hk1 ?_
              | refine Req.mk hk2 ?_
              | refine Req.mk hk3 ?_
              | refine call_fun rfl rfl hBg (.inl rfl) ?_
              | (refine Idx.nat ?_ ?_; (focus omega))
              | refine Idx.nat (le_big (by omega)) ?_
              | (refine Idx.int ?_ ?_ ?_; (focus omega); (focus omega))
              | (refine Idx.int ?_ ?_ ?_; (focus decide); (focus decide))
              | refine Ifz.zero ?_
              | (refine Ifz.pos ?_ ?_; (focus omega))
              | refine Get.mk _ rfl ?_
              | refine Leaves.of ?_
              | refine Ends.of ?_
              | refine Vw.bool ?_
              | refine Vw.int ?_
              | refine Vw.nil
              | refine Vw.sl
              | refine Vw.tup ?_
              | refine Vw.agg ?_
              | refine VwL.cons ?_ ?_
              | refine VwL.nil
              | refine LeavesF.of ?_
              | refine VwF.bool ?_
              | refine VwF.int ?_
              | refine VwF.nil
              | refine VwF.sl
              | refine VwF.tup ?_
              | refine VwF.agg ?_
              | refine VwLF.cons ?_ ?_
              | refine VwLF.nil
              | (refine Req.mk ?_ ?_; (focus first | rfl | decide | exact ⟨rfl, rfl⟩ | exact ⟨rfl, by decide⟩ | exact (fun _ => rfl) | exact (fun h => nomatch h) | (simp; done) | omega | (simp [big]; done) | exact le_big (by omega) | exact lt_big (by omega))))
          all_goals first | exact NextP.mk ⟨i + 1 + 1, blN l.length now a b, kept ++ blK now a b, nk + (b + 1 - a)⟩ ⟨hin, hnl2, hin2, hd, (by simp [hkl, hkl0]), (by dsimp only; omega), (by intro h; simp at h), (by intro _; dsimp only; omega)⟩ (by simp only; omega) (by rw [bpU_one, bpH_one, ← hov, ofI_append, hyl]; rfl) | (exfalso; omega)
        · have ha1 : IntKind.i64.wrap ((a : Int) - 1) = ((a - 1 : Nat) : Int) := by rw [wrap_i64 (by omega) (by omega)]; omega
          have hA : blA now a b = gI now (a - 1) := by unfold blA; rw [if_neg c2]
          have hca := gI_cell0 (l := now) (i := a - 1) (by omega)
          by_cases c3 : b + 1 = l.length
          · have hB : blB l.length now a b = gI now (a - 1) := by unfold blB; rw [if_pos ⟨c2, c3⟩]
            rw [hA, hB] at hBg
            have hcb := hca
            clear hA hB
            repeat' (first
              | (conv => whnf)
                first
                | refine Bnd.eq hb1 ?_
                | refine Bnd.eq ha1 ?_
                | refine Bnd.eq hw ?_
                | refine Br.t ?_
                | refine Br.f ?_
                | (refine Br.decT ?_ ?_; (focus first | assumption | omega))
                | (refine Br.decF ?_ ?_; (focus first | assumption | omega))
                | refine Br.dec (fun _ => ?_) (fun _ => ?_)
                | refine Br.not ?_
                | refine Br.and ?_
                | refine Br.or ?_
                | (refine Bnd.i64 ?_ ?_ ?_; (focus omega); (focus omega))
                | refine Get.mk _ hpt ?_
                | refine Get.mk _ hca ?_
                | refine Get.mk _ hcb ?_
                | refine Get.mk _ hpk ?_
                | refine Req.mk hg0 ?_
                | refine Req.mk hcq ?_
                | refine Req.mk hsc ?_
                | refine Req.mk hRl ?_
                | refine Req.mk hyt ?_
                | refine Req.mk hk1 ?_
                | refine Req.mk hk2 ?_
                | refine Req.mk hk3 ?_
                | refine call_fun rfl rfl hBg (.inl rfl) ?_
                | (refine Idx.nat ?_ ?_; (focus omega))
                | refine Idx.nat (le_big (by omega)) ?_
                | (refine Idx.int ?_ ?_ ?_; (focus omega); (focus omega))
                | (refine Idx.int ?_ ?_ ?_; (focus decide); (focus decide))
                | refine Ifz.zero ?_
                | (refine Ifz.pos ?_ ?_; (focus omega))
                | refine Get.mk _ rfl ?_
                | refine Leaves.of ?_
                | refine Ends.of ?_
                | refine Vw.bool ?_
                | refine Vw.int ?_
                | refine Vw.nil
                | refine Vw.sl
                | refine Vw.tup ?_
                | refine Vw.agg ?_
                | refine VwL.cons ?_ ?_
                | refine VwL.nil
                | refine LeavesF.of ?_
                | refine VwF.bool ?_
                | refine VwF.int ?_
                | refine VwF.nil
                | refine VwF.sl
                | refine VwF.tup ?_
                | refine VwF.agg ?_
                | refine VwLF.cons ?_ ?_
                | refine VwLF.nil
                | (refine Req.mk ?_ ?_; (focus first | rfl | decide | exact ⟨rfl, rfl⟩ | exact ⟨rfl, by decide⟩ | exact (fun _ => rfl) | exact (fun h => nomatch h) | (simp; done) | omega | (simp [big]; done) | exact le_big (by omega) | exact lt_big (by omega))))
            all_goals first | exact NextP.mk ⟨i + 1 + 1, blN l.length now a b, kept ++ blK now a b, nk + (b + 1 - a)⟩ ⟨hin, hnl2, hin2, hd, (by simp [hkl, hkl0]), (by dsimp only; omega), (by intro h; simp at h), (by intro _; dsimp only; omega)⟩ (by simp only; omega) (by rw [bpU_one, bpH_one, ← hov, ofI_append, hyl]; rfl) | (exfalso; omega)
          · have hB : blB l.length now a b = gI now (b + 1) := by unfold blB; rw [if_neg (by omega)]
            rw [hA, hB] at hBg
            have hcb := gI_cell0 (l := now) (i := b + 1) (by omega)
            clear hA hB
            repeat' (first
              | (conv => whnf)
                first
                | refine Bnd.eq hb1 ?_
                | refine Bnd.eq ha1 ?_
                | refine Bnd.eq hw ?_
                | refine Br.t ?_
                | refine Br.f ?_
                | (refine Br.decT ?_ ?_; (focus first | assumption | omega))
                | (refine Br.decF ?_ ?_; (focus first | assumption | omega))
                | refine Br.dec (fun _ => ?_) (fun _ => ?_)
                | refine Br.not ?_
                | refine Br.and ?_
                | refine Br.or ?_
                | (refine Bnd.i64 ?_ ?_ ?_; (focus omega); (focus omega))
                | refine Get.mk _ hpt ?_
                | refine Get.mk _ hca ?_
                | refine Get.mk _ hcb ?_
                | refine Get.mk _ hpk ?_
                | refine Req.mk hg0 ?_
                | refine Req.mk hcq ?_
                | refine Req.mk hsc ?_
                | refine Req.mk hRl ?_
                | refine Req.mk hyt ?_
                | refine Req.mk hk1 ?_
                | refine Req.mk hk2 ?_
                | refine Req.mk hk3 ?_
                | refine call_fun rfl rfl hBg (.inl rfl) ?_
                | (refine Idx.nat ?_ ?_; (focus omega))
                | refine Idx.nat (le_big (by omega)) ?_
                | (refine Idx.int ?_ ?_ ?_; (focus omega); (focus omega))
                | (refine Idx.int ?_ ?_ ?_; (focus decide); (focus decide))
                | refine Ifz.zero ?_
                | (refine Ifz.pos ?_ ?_; (focus omega))
                | refine Get.mk _ rfl ?_
                | refine Leaves.of ?_
                | refine Ends.of ?_
                | refine Vw.bool ?_
                | refine Vw.int ?_
                | refine Vw.nil
                | refine Vw.sl
                | refine Vw.tup ?_
                | refine Vw.agg ?_
                | refine VwL.cons ?_ ?_
                | refine VwL.nil
                | refine LeavesF.of ?_
                | refine VwF.bool ?_
                | refine VwF.int ?_
                | refine VwF.nil
                | refine VwF.sl
                | refine VwF.tup ?_
                | refine VwF.agg ?_
                | refine VwLF.cons ?_ ?_
                | refine VwLF.nil
                | (refine Req.mk ?_ ?_; (focus first | rfl | decide | exact ⟨rfl, rfl⟩ | exact ⟨rfl, by decide⟩ | exact (fun _ => rfl) | exact (fun h => nomatch h) | (simp; done) | omega | (simp [big]; done) | exact le_big (by omega) | exact lt_big (by omega))))
            all_goals first | exact NextP.mk ⟨i + 1 + 1, blN l.length now a b, kept ++ blK now a b, nk + (b + 1 - a)⟩ ⟨hin, hnl2, hin2, hd, (by simp [hkl, hkl0]), (by dsimp only; omega), (by intro h; simp at h), (by intro _; dsimp only; omega)⟩ (by simp only; omega) (by rw [bpU_one, bpH_one, ← hov, ofI_append, hyl]; rfl) | (exfalso; omega)
  · have hil : S.length = i := by omega
    rw [List.drop_of_length_le (by omega)] at hd
    rw [hd]
    have hlv : ([] : List V).length + (ofI l).length = now.length := by rw [hlb, hnl]; simp
    have hlw : 0 + l.length = now.length := by rw [hnl]; simp
    cases i with
    | zero =>
      obtain rfl := hk0 rfl
      rw [hil]
      show fV _ fun tm' => fB [.blk (ofI now) true] _
      repeat' (first
        | (conv => whnf)
          first
          | refine Br.t ?_
          | refine Br.f ?_
          | (refine Br.decT ?_ ?_; (focus first | assumption | omega))
          | (refine Br.decF ?_ ?_; (focus first | assumption | omega))
          | refine Br.dec (fun _ => ?_) (fun _ => ?_)
          | refine Br.not ?_
          | refine Br.and ?_
          | refine Br.or ?_
          | (refine Bnd.i64 ?_ ?_ ?_; (focus omega); (focus omega))
          | refine VwF.ints rfl rfl hlv hlw rfl
          | (refine Idx.nat ?_ ?_; (focus omega))
          | refine Idx.nat (le_big (by omega)) ?_
          | (refine Idx.int ?_ ?_ ?_; (focus omega); (focus omega))
          | (refine Idx.int ?_ ?_ ?_; (focus decide); (focus decide))
          | refine Ifz.zero ?_
          | (refine Ifz.pos ?_ ?_; (focus omega))
          | refine Get.mk _ rfl ?_
          | refine Leaves.of ?_
          | refine Ends.of ?_
          | refine Vw.bool ?_
          | refine Vw.int ?_
          | refine Vw.nil
          | refine Vw.sl
          | refine Vw.tup ?_
          | refine Vw.agg ?_
          | refine VwL.cons ?_ ?_
          | refine VwL.nil
          | refine LeavesF.of ?_
          | refine VwF.bool ?_
          | refine VwF.int ?_
          | refine VwF.nil
          | refine VwF.sl
          | refine VwF.tup ?_
          | refine VwF.agg ?_
          | refine VwLF.cons ?_ ?_
          | refine VwLF.nil
          | (refine Req.mk ?_ ?_; (focus first | rfl | decide | exact ⟨rfl, rfl⟩ | exact ⟨rfl, by decide⟩ | exact (fun _ => rfl) | exact (fun h => nomatch h) | (simp; done) | omega | (simp [big]; done) | exact le_big (by omega) | exact lt_big (by omega))))
      all_goals first | rfl | (exfalso; omega)
    | succ i =>
      rw [decide_eq_false (show ¬ S.length = 0 by omega), bpU_one, bpH_one]
      repeat' (first
        | (conv => whnf)
          first
          | refine Br.t ?_
          | refine Br.f ?_
          | (refine Br.decT ?_ ?_; (focus first | assumption | omega))
          | (refine Br.decF ?_ ?_; (focus first | assumption | omega))
          | refine Br.dec (fun _ => ?_) (fun _ => ?_)
          | refine Br.not ?_
          | refine Br.and ?_
          | refine Br.or ?_
          | (refine Bnd.i64 ?_ ?_ ?_; (focus omega); (focus omega))
          | refine VwF.ints rfl rfl hlv hlw rfl
          | refine VwF.ints rfl rfl hkl0.symm hkl0.symm rfl
          | (refine Idx.nat ?_ ?_; (focus omega))
          | refine Idx.nat (le_big (by omega)) ?_
          | (refine Idx.int ?_ ?_ ?_; (focus omega); (focus omega))
          | (refine Idx.int ?_ ?_ ?_; (focus decide); (focus decide))
          | refine Ifz.zero ?_
          | (refine Ifz.pos ?_ ?_; (focus omega))
          | refine Get.mk _ rfl ?_
          | refine Leaves.of ?_
          | refine Ends.of ?_
          | refine Vw.bool ?_
          | refine Vw.int ?_
          | refine Vw.nil
          | refine Vw.sl
          | refine Vw.tup ?_
          | refine Vw.agg ?_
          | refine VwL.cons ?_ ?_
          | refine VwL.nil
          | refine LeavesF.of ?_
          | refine VwF.bool ?_
          | refine VwF.int ?_
          | refine VwF.nil
          | refine VwF.sl
          | refine VwF.tup ?_
          | refine VwF.agg ?_
          | refine VwLF.cons ?_ ?_
          | refine VwLF.nil
          | (refine Req.mk ?_ ?_; (focus first | rfl | decide | exact ⟨rfl, rfl⟩ | exact ⟨rfl, by decide⟩ | exact (fun _ => rfl) | exact (fun h => nomatch h) | (simp; done) | omega | (simp [big]; done) | exact le_big (by omega) | exact lt_big (by omega))))
      all_goals first | rfl | (exfalso; omega)

set_option maxRecDepth 100000 in
set_option maxHeartbeats 20000000 in
theorem bloop_badF {c c' : Bool} {l sp : List Int} {r k : Int} (hk : splE l sp r = k) (h0 : k ≠ 0) : FunF F md 42 [.sl c l.length (ofI l), .sl c' sp.length (ofI sp), .int .i64 r] (.tup [.sl true 0 [], .sl true 0 [], .int .i64 k]) := by
  have hsp := spliced_bad (c := c) (c' := c') hk h0
  refine funF_of rfl rfl ?_
  repeat' (first
    | (conv => whnf)
      first
      | refine Br.t ?_
      | refine Br.f ?_
      | (refine Br.decT ?_ ?_; (focus first | assumption | omega))
      | (refine Br.decF ?_ ?_; (focus first | assumption | omega))
      | refine Br.dec (fun _ => ?_) (fun _ => ?_)
      | refine Br.not ?_
      | refine Br.and ?_
      | refine Br.or ?_
      | (refine Bnd.i64 ?_ ?_ ?_; (focus omega); (focus omega))
      | refine call_fun rfl rfl hsp (.inl rfl) ?_
      | (refine Idx.nat ?_ ?_; (focus omega))
      | refine Idx.nat (le_big (by omega)) ?_
      | (refine Idx.int ?_ ?_ ?_; (focus omega); (focus omega))
      | (refine Idx.int ?_ ?_ ?_; (focus decide); (focus decide))
      | refine Ifz.zero ?_
      | (refine Ifz.pos ?_ ?_; (focus omega))
      | refine Get.mk _ rfl ?_
      | refine Leaves.of ?_
      | refine Ends.of ?_
      | refine Vw.bool ?_
      | refine Vw.int ?_
      | refine Vw.nil
      | refine Vw.sl
      | refine Vw.tup ?_
      | refine Vw.agg ?_
      | refine VwL.cons ?_ ?_
      | refine VwL.nil
      | refine LeavesF.of ?_
      | refine VwF.bool ?_
      | refine VwF.int ?_
      | refine VwF.nil
      | refine VwF.sl
      | refine VwF.tup ?_
      | refine VwF.agg ?_
      | refine VwLF.cons ?_ ?_
      | refine VwLF.nil
      | (refine Req.mk ?_ ?_; (focus first | rfl | decide | exact ⟨rfl, rfl⟩ | exact ⟨rfl, by decide⟩ | exact (fun _ => rfl) | exact (fun h => nomatch h) | (simp; done) | omega | (simp [big]; done) | exact le_big (by omega) | exact lt_big (by omega))))
  all_goals first | rfl | (exfalso; omega)

end Go.Dr.T
