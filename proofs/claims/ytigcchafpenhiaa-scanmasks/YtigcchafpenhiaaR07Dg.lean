/- Chapter 07: Parts of the reference, walked. -/
import Derived.Test.YtigcchafpenhiaaR07Df
namespace Go.Dr.T

theorem Idx.cast0 {m : Nat} {k : IntKind} {P : Nat → Prop} (h : P 0) : Idx m (.int k 0) P := Idx.cast (j := 0) rfl (Nat.zero_le _) h
section
variable {W H : Nat} {l : List UInt8}
def bqF (W H : Nat) (l : List UInt8) (vis : List Nat) : Nat → Nat → List Nat → List Nat
  | 0, _, v => v
  | n + 1, k, v => if k < v.length then bqF W H l vis n (k + 1) (rowsB W H l vis ((v.getD k 0 % W : Nat) : Int) ((v.getD k 0 / W : Nat) : Int) 3 v) else v
theorem nodup_le {N : Nat} {v : List Nat} (h : v.Nodup) (hN : ∀ p ∈ v, p < N) : v.length ≤ N := by
  have hp := perm_of (s := (List.range N).filter fun p => v.contains p) (List.nodup_range.filter _) h fun p => by
    rw [List.mem_filter]
    simp only [List.contains_eq_mem, decide_eq_true_eq, List.mem_range]
    exact ⟨fun h => h.2, fun hv => ⟨hN p hv, hv⟩⟩
  rw [← hp.length_eq]
  have := List.length_filter_le (fun p => v.contains p) (List.range N)
  rwa [List.length_range] at this
theorem Que.len (hl : l.length = W * H) {i k : Nat} {vis v : List Nat} (h : Que (nb W H) (dark l) i vis v k) : v.length ≤ W * H := nodup_le h.nodup fun p hp => hl ▸ dark_lt (h.new p hp).1
theorem Que.rows (hl : l.length = W * H) (hW : 0 < W) {i k : Nat} {vis v : List Nat} (h : Que (nb W H) (dark l) i vis v k) (hk : k < v.length) : Que (nb W H) (dark l) i vis (rowsB W H l vis ((v.getD k 0 % W : Nat) : Int) ((v.getD k 0 / W : Nat) : Int) 3 v) (k + 1) := by
  have hn := h.next hk
  have hlt : v[k] < W * H := hl ▸ dark_lt (h.new _ (List.getElem_mem hk)).1
  have e : v.getD k 0 = v[k] := by rw [List.getD_eq_getElem?_getD, List.getElem?_eq_getElem hk]; rfl
  have e2 : v[k] = v[k] / W * W + v[k] % W := by rw [Nat.mul_comm]; exact (Nat.div_add_mod _ _).symm
  rw [e, ← bfs_rows (Nat.mod_lt _ hW) ((Nat.div_lt_iff_lt_mul hW).2 (by rw [Nat.mul_comm]; exact hlt)), ← e2]
  exact hn
theorem bq_que (hl : l.length = W * H) (hW : 0 < W) {i : Nat} {vis : List Nat} : ∀ {n k : Nat} {v : List Nat}, Que (nb W H) (dark l) i vis v k → W * H < n + k → Que (nb W H) (dark l) i vis (bqF W H l vis n k v) (bqF W H l vis n k v).length
  | 0, k, v, h, hn => by have := h.len hl; have := h.le; omega
  | n + 1, k, v, h, hn => by
    simp only [bqF]
    split
    · rename_i hk
      exact bq_que hl hW (h.rows hl hW hk) (by omega)
    · rename_i hk
      have := h.le
      rw [show v.length = k by omega]; exact h
def csF (W H : Nat) (l : List UInt8) : Nat → List (Nat × List Nat)
  | 0 => []
  | i + 1 => if dark l i = true ∧ i ∉ (spS W H l i).1 then csF W H l i ++ [(i, bqF W H l (spS W H l i).1 2305 0 [i])] else csF W H l i
theorem csF_cp (hl : l.length = W * H) (hN : W * H ≤ 2304) (hW : 0 < W) : ∀ i, CP W H l i (csF W H l i)
  | 0 => CP.zero
  | i + 1 => by
    have ih := csF_cp hl hN hW i
    simp only [csF]
    split
    · rename_i h
      have hq := bq_que hl hW (Que.begin (nb := nb W H) h.1 h.2) (n := 2305) (by omega)
      exact ih.add hl hN hW h.1 h.2 hq.nodup (hq.over (nb_symm hW) ih.closed)
    · rename_i h
      exact ih.skip h
theorem csF_len (hl : l.length = W * H) (hN : W * H ≤ 2304) (hW : 0 < W) (i : Nat) : (csF W H l i).length ≤ i := by
  have h := (csF_cp hl hN hW i).spots
  have h2 := (spS_room (W := W) (H := H) hl i).2
  have h3 := congrArg List.length h
  rw [List.length_map] at h3
  omega
theorem pfx_lab (N : Nat) : pfx (fun _ => -1) N N = lbA [] N := by
  rw [pfx_full]; rfl
end

theorem bC_len {W H : Nat} {l : List UInt8} {vis : List Nat} (q : Int × Int) (v : List Nat) : (bC W H l vis q v).length ≤ v.length + 1 := by
  unfold bC
  split
  · split
    · simp
    · omega
  · omega
theorem rowB_len {W H : Nat} {l : List UInt8} {vis : List Nat} (x b : Int) (v : List Nat) : ∀ k, (rowB W H l vis x b k v).length ≤ v.length + k
  | 0 => Nat.le_refl _
  | k + 1 => by
    have := rowB_len (W := W) (H := H) (l := l) (vis := vis) x b v k
    have := bC_len (W := W) (H := H) (l := l) (vis := vis) (x - 1 + (k : Nat), b) (rowB W H l vis x b k v)
    simp only [rowB]; omega
theorem rowsB_len {W H : Nat} {l : List UInt8} {vis : List Nat} (x y : Int) (v : List Nat) : ∀ k, (rowsB W H l vis x y k v).length ≤ v.length + 3 * k
  | 0 => Nat.le_refl _
  | k + 1 => by
    have := rowsB_len (W := W) (H := H) (l := l) (vis := vis) x y v k
    have := rowB_len (W := W) (H := H) (l := l) (vis := vis) x (y - 1 + (k : Nat)) (rowsB W H l vis x y k v) 3
    simp only [rowsB]; omega
theorem bqF_step {W H : Nat} {l : List UInt8} {vis v : List Nat} {n k : Nat} (h : k < v.length) : bqF W H l vis (n + 1) k v = bqF W H l vis n (k + 1) (rowsB W H l vis ((v.getD k 0 % W : Nat) : Int) ((v.getD k 0 / W : Nat) : Int) 3 v) := by
  simp only [bqF]; rw [if_pos h]
theorem bqF_end {W H : Nat} {l : List UInt8} {vis v : List Nat} {k : Nat} (h : ¬ k < v.length) : ∀ n, bqF W H l vis n k v = v
  | 0 => rfl
  | n + 1 => by simp only [bqF]; rw [if_neg h]
/-- The queue's slice, when a round begins. -/
def todoV (i k : Nat) (v : List Nat) : V :=
  match k with
  | 0 => .sl true 1 [.int .i64 ((i : Nat) : Int)]
  | k + 1 => quV k v
set_option maxRecDepth 100000 in
set_option maxHeartbeats 80000000 in
theorem parts_ok {W H : Nat} {c : Bool} {l : List UInt8} (h1 : 1 ≤ W) (h2 : W ≤ 48) (h3 : 1 ≤ H) (h4 : H ≤ 48) (hl : l.length = W * H) : Fun F md 38 [frV W H c l] (.sl true l.length (ofI (lbA (csF W H l l.length) l.length))) := by
  have hn : 1 ≤ W * H ∧ W * H ≤ 2304 := by have := area_le (w := W) (h := H) (by omega) (by omega) (by omega) (by omega); omega
  refine fun_of rfl rfl ?_
  repeat' (first
    | (conv => whnf)
      first
      | refine Br.t ?_
      | refine Br.f ?_
      | (refine Br.decT ?_ ?_; (focus first | assumption | omega))
      | (refine Br.decF ?_ ?_; (focus first | assumption | omega))
      | refine Br.dec (fun _ => ?_) (fun _ => ?_)
      | refine Br.not ?_
      | refine Br.and ?_
      | refine Br.or ?_
      | (refine Bnd.i64 ?_ ?_ ?_; (focus omega); (focus omega))
      | (refine Idx.nat ?_ ?_; (focus simp only [big]; omega))
      | (refine Idx.nat ?_ ?_; (focus omega))
      | refine Idx.nat (le_big (by omega)) ?_
      | (refine Idx.int ?_ ?_ ?_; (focus omega); (focus omega))
      | (refine Idx.int ?_ ?_ ?_; (focus decide); (focus decide))
      | refine Ifz.zero ?_
      | (refine Ifz.pos ?_ ?_; (focus omega))
      | refine Get.mk _ rfl ?_
      | refine Leaves.of ?_
      | refine Ends.of ?_
      | refine Vw.bool ?_
      | refine Vw.int ?_
      | refine Vw.nil
      | refine Vw.sl
      | refine Vw.tup ?_
      | refine Vw.agg ?_
      | refine VwL.cons ?_ ?_
      | refine VwL.nil
      | refine LeavesF.of ?_
      | refine VwF.bool ?_
      | refine VwF.int ?_
      | refine VwF.nil
      | refine VwF.sl
      | refine VwF.tup ?_
      | refine VwF.agg ?_
      | refine VwLF.cons ?_ ?_
      | refine VwLF.nil
      | (refine Req.mk ?_ ?_; (focus first | rfl | decide | exact ⟨rfl, rfl⟩ | exact ⟨rfl, by decide⟩ | exact (fun _ => rfl) | exact (fun h => nomatch h) | (simp; done) | omega | (simp [big]; done) | exact le_big (by omega) | exact lt_big (by omega))))
  all_goals try (exfalso; omega)
  refine LoopP.by (fun i : Nat => i ≤ l.length) (fun i => [(4, .int .i64 (i : Nat))]) (fun i => [.blk [.int .i64 W, .int .i64 H, .sl c l.length (ofBytes l)] false, .blk (ofI (pfx (fun _ => -1) l.length i)) true]) (fun i => l.length - i) 0 (Nat.zero_le _) (by rw [← pfx_zero, ← reps_int]; rfl) ?_
  intro i hi
  by_cases hin : i < l.length
  · have hput := ofI_put0 (l := pfx (fun _ => -1) l.length i) (i := i) (v := -1) (by rw [pfx_length]; exact hin)
    rw [pfx_set (f := fun _ => -1) hin] at hput
    have hl0 : (ofI (pfx (fun _ => -1) l.length i)).length = l.length * 1 := by rw [ofI_length, pfx_length, Nat.mul_one]
    generalize hC2 : ofI (pfx (fun _ => -1) l.length (i + 1)) = C2 at *
    generalize ofI (pfx (fun _ => -1) l.length i) = C0 at *
    repeat' (first
      | (conv => whnf)
        first
        | refine Br.t ?_
        | refine Br.f ?_
        | (refine Br.decT ?_ ?_; (focus first | assumption | omega))
        | (refine Br.decF ?_ ?_; (focus first | assumption | omega))
        | refine Br.dec (fun _ => ?_) (fun _ => ?_)
        | refine Br.not ?_
        | refine Br.and ?_
        | refine Br.or ?_
        | (refine Bnd.i64 ?_ ?_ ?_; (focus omega); (focus omega))
        | refine fVe hput ?_
        | refine Req.mk hl0 ?_
        | refine Req.mk ⟨hl0, by omega⟩ ?_
        | (refine Idx.nat ?_ ?_; (focus omega))
        | refine Idx.nat (le_big (by omega)) ?_
        | (refine Idx.int ?_ ?_ ?_; (focus omega); (focus omega))
        | (refine Idx.int ?_ ?_ ?_; (focus decide); (focus decide))
        | refine Ifz.zero ?_
        | (refine Ifz.pos ?_ ?_; (focus omega))
        | refine Get.mk _ rfl ?_
        | refine Leaves.of ?_
        | refine Ends.of ?_
        | refine Vw.bool ?_
        | refine Vw.int ?_
        | refine Vw.nil
        | refine Vw.sl
        | refine Vw.tup ?_
        | refine Vw.agg ?_
        | refine VwL.cons ?_ ?_
        | refine VwL.nil
        | refine LeavesF.of ?_
        | refine VwF.bool ?_
        | refine VwF.int ?_
        | refine VwF.nil
        | refine VwF.sl
        | refine VwF.tup ?_
        | refine VwF.agg ?_
        | refine VwLF.cons ?_ ?_
        | refine VwLF.nil
        | (refine Req.mk ?_ ?_; (focus first | rfl | decide | exact ⟨rfl, rfl⟩ | exact ⟨rfl, by decide⟩ | exact (fun _ => rfl) | exact (fun h => nomatch h) | (simp; done) | omega | (simp [big]; done) | exact le_big (by omega) | exact lt_big (by omega))))
    all_goals first | exact NextP.mk (i + 1) (by omega) (by omega) (by rw [hC2]; rfl) | (exfalso; omega)
  · obtain rfl : i = l.length := by omega
    rw [pfx_lab]
    clear hin hi
    repeat' (first
      | (conv => whnf)
        first
        | refine Br.t ?_
        | refine Br.f ?_
        | (refine Br.decT ?_ ?_; (focus first | assumption | omega))
        | (refine Br.decF ?_ ?_; (focus first | assumption | omega))
        | refine Br.dec (fun _ => ?_) (fun _ => ?_)
        | refine Br.not ?_
        | refine Br.and ?_
        | refine Br.or ?_
        | (refine Bnd.i64 ?_ ?_ ?_; (focus omega); (focus omega))
        | (refine Idx.nat ?_ ?_; (focus omega))
        | refine Idx.nat (le_big (by omega)) ?_
        | (refine Idx.int ?_ ?_ ?_; (focus omega); (focus omega))
        | (refine Idx.int ?_ ?_ ?_; (focus decide); (focus decide))
        | refine Ifz.zero ?_
        | (refine Ifz.pos ?_ ?_; (focus omega))
        | refine Get.mk _ rfl ?_
        | refine Leaves.of ?_
        | refine Ends.of ?_
        | refine Vw.bool ?_
        | refine Vw.int ?_
        | refine Vw.nil
        | refine Vw.sl
        | refine Vw.tup ?_
        | refine Vw.agg ?_
        | refine VwL.cons ?_ ?_
        | refine VwL.nil
        | refine LeavesF.of ?_
        | refine VwF.bool ?_
        | refine VwF.int ?_
        | refine VwF.nil
        | refine VwF.sl
        | refine VwF.tup ?_
        | refine VwF.agg ?_
        | refine VwLF.cons ?_ ?_
        | refine VwLF.nil
        | (refine Req.mk ?_ ?_; (focus first | rfl | decide | exact ⟨rfl, rfl⟩ | exact ⟨rfl, by decide⟩ | exact (fun _ => rfl) | exact (fun h => nomatch h) | (simp; done) | omega | (simp [big]; done) | exact le_big (by omega) | exact lt_big (by omega))))
    all_goals try (exfalso; omega)
    refine LoopP.by (fun i : Nat => i ≤ l.length) (fun i => [(5, .int .i64 ((csF W H l i).length : Nat)), (6, .int .i64 (i : Nat))]) (fun i => [.blk [.int .i64 W, .int .i64 H, .sl c l.length (ofBytes l)] false, .blk (ofI (lbA (csF W H l i) l.length)) true]) (fun i => l.length - i) 0 (Nat.zero_le _) rfl ?_
    intro i hi
    by_cases hin : i < l.length
    · have hcp := csF_cp hl hn.2 (by omega) i
      have hcl := csF_len hl hn.2 (by omega) i
      have hc8 := cell_u8 hin
      have hco := gI_cell0 (l := lbA (csF W H l i) l.length) (i := i) (by rw [lbA_length]; exact hin)
      rw [lbA_at hin] at hco
      have hlb := lab_vis0 hcp (j := i)
      have hdk : dark l i = true ↔ (l[i].toNat : Int) ≠ 0 := by
        unfold dark
        rw [List.getD_eq_getElem?_getD, List.getElem?_eq_getElem hin]
        simp only [Option.getD_some, ne_eq, decide_eq_true_eq]
        constructor
        · intro h h0; exact h (UInt8.toNat_inj.1 (by rw [show l[i].toNat = 0 by omega]; rfl))
        · intro h h0; exact h (by rw [h0]; rfl)
      have hb := l[i].toNat_lt
      have hlen0 : (ofI (lbA (csF W H l i) l.length)).length = l.length * 1 := by rw [ofI_length, lbA_length, Nat.mul_one]
      have hnx : csF W H l (i + 1) = if dark l i = true ∧ i ∉ (spS W H l i).1 then csF W H l i ++ [(i, bqF W H l (spS W H l i).1 2305 0 [i])] else csF W H l i := rfl
      by_cases hg : dark l i = true ∧ i ∉ (spS W H l i).1
      · rw [if_pos hg] at hnx
        have hW0 : (W : Int) ≠ 0 := by omega
        have hpx0 := hdk.1 hg.1
        have hlt := hlb.2 hg.2
        have hput := ofI_put0 (l := lbA (csF W H l i) l.length) (i := i) (v := ((csF W H l i).length : Int)) (by rw [lbA_length]; exact hin)
        rw [lbA_new hlt] at hput
        have hq0 := Que.begin (nb := nb W H) hg.1 hg.2
        clear hdk hlb hg
        generalize labG (csF W H l i) 0 i = lb at *
        generalize (l[i].toNat : Int) = px at *
        repeat' (first
          | (conv => whnf)
            first
            | refine Br.t ?_
            | refine Br.f ?_
            | (refine Br.decT ?_ ?_; (focus first | assumption | omega))
            | (refine Br.decF ?_ ?_; (focus first | assumption | omega))
            | refine Br.dec (fun _ => ?_) (fun _ => ?_)
            | refine Br.not ?_
            | refine Br.and ?_
            | refine Br.or ?_
            | (refine Bnd.i64 ?_ ?_ ?_; (focus omega); (focus omega))
            | refine Get.mk _ hc8 ?_
            | refine Get.mk _ hco ?_
            | refine fVe hput ?_
            | refine Req.mk hlen0 ?_
            | refine Req.mk ⟨hlen0, by rw [hlen0]; omega⟩ ?_
            | (refine Idx.nat ?_ ?_; (focus omega))
            | refine Idx.nat (le_big (by omega)) ?_
            | (refine Idx.int ?_ ?_ ?_; (focus omega); (focus omega))
            | (refine Idx.int ?_ ?_ ?_; (focus decide); (focus decide))
            | refine Ifz.zero ?_
            | (refine Ifz.pos ?_ ?_; (focus omega))
            | refine Get.mk _ rfl ?_
            | refine Leaves.of ?_
            | refine Ends.of ?_
            | refine Vw.bool ?_
            | refine Vw.int ?_
            | refine Vw.nil
            | refine Vw.sl
            | refine Vw.tup ?_
            | refine Vw.agg ?_
            | refine VwL.cons ?_ ?_
            | refine VwL.nil
            | refine LeavesF.of ?_
            | refine VwF.bool ?_
            | refine VwF.int ?_
            | refine VwF.nil
            | refine VwF.sl
            | refine VwF.tup ?_
            | refine VwF.agg ?_
            | refine VwLF.cons ?_ ?_
            | refine VwLF.nil
            | (refine Req.mk ?_ ?_; (focus first | rfl | decide | exact ⟨rfl, rfl⟩ | exact ⟨rfl, by decide⟩ | exact (fun _ => rfl) | exact (fun h => nomatch h) | (simp; done) | omega | (simp [big]; done) | exact le_big (by omega) | exact lt_big (by omega))))
        all_goals try (exfalso; omega)
        clear hput hco hc8 hlen0 hpx0 hlt
        refine LoopP.by (fun a : Nat × List Nat => Que (nb W H) (dark l) i (spS W H l i).1 a.2 a.1 ∧ bqF W H l (spS W H l i).1 (2305 - a.1) a.1 a.2 = bqF W H l (spS W H l i).1 2305 0 [i] ∧ (∃ r, a.2 = i :: r) ∧ (a.1 = 0 → a.2 = [i])) (fun a => [(7, todoV i a.1 a.2)]) (fun a => quH (.blk [.int .i64 W, .int .i64 H, .sl c l.length (ofBytes l)] false) (csF W H l i) l.length i a.2) (fun a => l.length + 1 - a.1) (0, [i]) ⟨hq0, rfl, ⟨[], rfl⟩, fun _ => rfl⟩ rfl ?_
        rintro ⟨k, v⟩ ⟨hQ, hf, ⟨r, rfl⟩, hk0⟩
        dsimp only at hQ hf hk0 ⊢
        have hvl := hQ.len hl
        have hkl := hQ.le
        generalize hfin : bqF W H l (spS W H l i).1 2305 0 [i] = fin at *
        cases k with
        | zero =>
          obtain rfl : r = [] := by simpa using hk0 rfl
          have hPlt : i < W * H := by omega
          have hQn : Que (nb W H) (dark l) i (spS W H l i).1 (rowsB W H l (spS W H l i).1 ((i % W : Nat) : Int) ((i / W : Nat) : Int) 3 [i]) 1 := hQ.rows hl (by omega) (by simp)
          have hfn : bqF W H l (spS W H l i).1 (2305 - 1) 1 (rowsB W H l (spS W H l i).1 ((i % W : Nat) : Int) ((i / W : Nat) : Int) 3 [i]) = fin := by
            rw [← hf]
            exact (bqF_step (n := 2304) (k := 0) (v := [i]) (by simp)).symm
          have hqc : True := trivial
          have hqg : True := trivial
          have hX : i % W < W := Nat.mod_lt _ (by omega)
          have hY : i / W < H := (Nat.div_lt_iff_lt_mul (by omega)).2 (by rw [Nat.mul_comm]; exact hPlt)
          have hqe : ((i : Nat) : Int).tdiv (W : Int) = ((i / W : Nat) : Int) := (Int.ofNat_tdiv _ _).symm
          have hqm : ((i : Nat) : Int).tmod (W : Int) = ((i % W : Nat) : Int) := Int.ofNat_tmod _ _
          generalize i % W = X at *
          generalize i / W = Y at *
          have hqd : IntKind.i64.wrap (((i : Nat) : Int).tdiv (W : Int)) = (Y : Int) := by rw [hqe]; exact wrap_i64 (by omega) (by omega)
          have hY0 : IntKind.i64.wrap ((Y : Int) - 1) = (Y : Int) - 1 + ((0 : Nat) : Int) := by rw [wrap_i64 (by omega) (by omega)]; omega
          have hX0 : IntKind.i64.wrap ((X : Int) - 1) = (X : Int) - 1 + ((0 : Nat) : Int) := by rw [wrap_i64 (by omega) (by omega)]; omega
          repeat' (first
            | (conv => whnf)
              first
              | refine Bnd.eq hqd ?_
              | refine Bnd.eq hqm ?_
              | refine Bnd.eq hY0 ?_
              | refine Br.t ?_
              | refine Br.f ?_
              | (refine Br.decT ?_ ?_; (focus first | assumption | omega))
              | (refine Br.decF ?_ ?_; (focus first | assumption | omega))
              | refine Br.dec (fun _ => ?_) (fun _ => ?_)
              | refine Br.not ?_
              | refine Br.and ?_
              | refine Br.or ?_
              | (refine Bnd.i64 ?_ ?_ ?_; (focus omega); (focus omega))
              | refine Get.mk _ hqc ?_
              | refine Req.mk hqg ?_
              | refine Idx.cast0 ?_
              | refine Req.mk hW0 ?_
              | (refine Idx.nat ?_ ?_; (focus omega))
              | refine Idx.nat (le_big (by omega)) ?_
              | (refine Idx.int ?_ ?_ ?_; (focus omega); (focus omega))
              | (refine Idx.int ?_ ?_ ?_; (focus decide); (focus decide))
              | refine Ifz.zero ?_
              | (refine Ifz.pos ?_ ?_; (focus omega))
              | refine Get.mk _ rfl ?_
              | refine Leaves.of ?_
              | refine Ends.of ?_
              | refine Vw.bool ?_
              | refine Vw.int ?_
              | refine Vw.nil
              | refine Vw.sl
              | refine Vw.tup ?_
              | refine Vw.agg ?_
              | refine VwL.cons ?_ ?_
              | refine VwL.nil
              | refine LeavesF.of ?_
              | refine VwF.bool ?_
              | refine VwF.int ?_
              | refine VwF.nil
              | refine VwF.sl
              | refine VwF.tup ?_
              | refine VwF.agg ?_
              | refine VwLF.cons ?_ ?_
              | refine VwLF.nil
              | (refine Req.mk ?_ ?_; (focus first | rfl | decide | exact ⟨rfl, rfl⟩ | exact ⟨rfl, by decide⟩ | exact (fun _ => rfl) | exact (fun h => nomatch h) | (simp; done) | omega | (simp [big]; done) | exact le_big (by omega) | exact lt_big (by omega))))
          all_goals try (exfalso; omega)
          refine LoopP.by (fun kb : Nat => kb ≤ 3) (fun kb => [(7, quV 0 (rowsB W H l (spS W H l i).1 X Y kb ([i]))), (9, .int .i64 ((Y : Int) - 1 + ((kb : Nat) : Int)))]) (fun kb => quH (.blk [.int .i64 W, .int .i64 H, .sl c l.length (ofBytes l)] false) (csF W H l i) l.length i (rowsB W H l (spS W H l i).1 X Y kb ([i]))) (fun kb => 3 - kb) 0 (Nat.zero_le _) rfl ?_
          intro kb hkb
          obtain ⟨tt, et⟩ := rowsB_ext (W := W) (H := H) (l := l) (vis := (spS W H l i).1) (X : Int) (Y : Int) ([i]) kb
          by_cases hkb3 : kb < 3
          · have hY1 : IntKind.i64.wrap ((Y : Int) - 1 + ((kb : Nat) : Int) + 1) = (Y : Int) - 1 + ((kb + 1 : Nat) : Int) := by rw [wrap_i64 (by omega) (by omega)]; omega
            cases hR : rowsB W H l (spS W H l i).1 X Y kb ([i]) with
            | nil => rw [hR] at et; simp at et
            | cons i2 R =>
              obtain rfl : i = i2 := by rw [hR] at et; exact (List.cons.inj et).1.symm
              cases R with
              | nil =>
                skip
                repeat' (first
                  | (conv => whnf)
                    first
                    | refine Bnd.eq hqd ?_
                    | refine Bnd.eq hqm ?_
                    | refine Bnd.eq hX0 ?_
                    | refine Br.t ?_
                    | refine Br.f ?_
                    | (refine Br.decT ?_ ?_; (focus first | assumption | omega))
                    | (refine Br.decF ?_ ?_; (focus first | assumption | omega))
                    | refine Br.dec (fun _ => ?_) (fun _ => ?_)
                    | refine Br.not ?_
                    | refine Br.and ?_
                    | refine Br.or ?_
                    | (refine Bnd.i64 ?_ ?_ ?_; (focus omega); (focus omega))
                    | refine Req.mk hW0 ?_
                    | (refine Idx.nat ?_ ?_; (focus omega))
                    | refine Idx.nat (le_big (by omega)) ?_
                    | (refine Idx.int ?_ ?_ ?_; (focus omega); (focus omega))
                    | (refine Idx.int ?_ ?_ ?_; (focus decide); (focus decide))
                    | refine Ifz.zero ?_
                    | (refine Ifz.pos ?_ ?_; (focus omega))
                    | refine Get.mk _ rfl ?_
                    | refine Leaves.of ?_
                    | refine Ends.of ?_
                    | refine Vw.bool ?_
                    | refine Vw.int ?_
                    | refine Vw.nil
                    | refine Vw.sl
                    | refine Vw.tup ?_
                    | refine Vw.agg ?_
                    | refine VwL.cons ?_ ?_
                    | refine VwL.nil
                    | refine LeavesF.of ?_
                    | refine VwF.bool ?_
                    | refine VwF.int ?_
                    | refine VwF.nil
                    | refine VwF.sl
                    | refine VwF.tup ?_
                    | refine VwF.agg ?_
                    | refine VwLF.cons ?_ ?_
                    | refine VwLF.nil
                    | (refine Req.mk ?_ ?_; (focus first | rfl | decide | exact ⟨rfl, rfl⟩ | exact ⟨rfl, by decide⟩ | exact (fun _ => rfl) | exact (fun h => nomatch h) | (simp; done) | omega | (simp [big]; done) | exact le_big (by omega) | exact lt_big (by omega))))
                all_goals try (exfalso; omega)
                refine LoopP.by (fun ka : Nat => ka ≤ 3) (fun ka => [(7, quV 0 (rowB W H l (spS W H l i).1 X ((Y : Int) - 1 + ((kb : Nat) : Int)) ka (rowsB W H l (spS W H l i).1 X Y kb ([i])))), (10, .int .i64 ((X : Int) - 1 + ((ka : Nat) : Int)))]) (fun ka => quH (.blk [.int .i64 W, .int .i64 H, .sl c l.length (ofBytes l)] false) (csF W H l i) l.length i (rowB W H l (spS W H l i).1 X ((Y : Int) - 1 + ((kb : Nat) : Int)) ka (rowsB W H l (spS W H l i).1 X Y kb ([i])))) (fun ka => 3 - ka) 0 (Nat.zero_le _) (by simp only [rowB, hR]; rfl) ?_
                intro ka hka
                obtain ⟨tt2, et2⟩ := rowB_ext (W := W) (H := H) (l := l) (vis := (spS W H l i).1) (X : Int) ((Y : Int) - 1 + ((kb : Nat) : Int)) (rowsB W H l (spS W H l i).1 X Y kb ([i])) ka
                cases hS : rowB W H l (spS W H l i).1 X ((Y : Int) - 1 + ((kb : Nat) : Int)) ka (rowsB W H l (spS W H l i).1 X Y kb ([i])) with
                | nil => rw [hS, hR] at et2; simp at et2
                | cons i9 S =>
                  obtain rfl : i = i9 := by rw [hS, hR] at et2; exact (List.cons.inj et2).1.symm
                  by_cases hka3 : ka < 3
                  · cases S with
                    | nil =>
                      skip
                      have hpx := pixel_any (c := c) (l := l) h2 h4 hl ((X : Int) - 1 + ((ka : Nat) : Int)) ((Y : Int) - 1 + ((kb : Nat) : Int))
                      have hX1 : IntKind.i64.wrap ((X : Int) - 1 + ((ka : Nat) : Int) + 1) = (X : Int) - 1 + ((ka + 1 : Nat) : Int) := by rw [wrap_i64 (by omega) (by omega)]; omega
                      have hnxt : rowB W H l (spS W H l i).1 X ((Y : Int) - 1 + ((kb : Nat) : Int)) (ka + 1) (rowsB W H l (spS W H l i).1 X Y kb ([i])) = bC W H l (spS W H l i).1 ((X : Int) - 1 + ((ka : Nat) : Int), (Y : Int) - 1 + ((kb : Nat) : Int)) (rowB W H l (spS W H l i).1 X ((Y : Int) - 1 + ((kb : Nat) : Int)) ka (rowsB W H l (spS W H l i).1 X Y kb ([i]))) := rfl
                      rw [hS] at hnxt
                      by_cases hp : pixB W H ((X : Int) - 1 + ((ka : Nat) : Int)) ((Y : Int) - 1 + ((kb : Nat) : Int))
                      · rw [decide_eq_true hp] at hpx
                        have hp' := hp
                        obtain ⟨p1, p2, p3, p4⟩ := hp'
                        obtain ⟨A, hA⟩ := Int.eq_ofNat_of_zero_le p1
                        obtain ⟨B', hB⟩ := Int.eq_ofNat_of_zero_le p3
                        have hAW : A < W := by omega
                        have hBH : B' < H := by omega
                        have hJ := place_lt hAW hBH
                        have hBW : B' * W ≤ 2304 := Nat.mul_le_mul (show B' ≤ 48 by omega) h2
                        have e1 : ((B' : Int) * (W : Int) + (A : Int)) = ((B' * W + A : Nat) : Int) := by push_cast; rfl
                        have hplc : placeOf W H ((X : Int) - 1 + ((ka : Nat) : Int), (Y : Int) - 1 + ((kb : Nat) : Int)) = some (B' * W + A) := by
                          unfold placeOf
                          rw [if_pos ⟨p1, p2, p3, p4⟩]
                          dsimp only
                          rw [hA, hB, e1, Int.toNat_natCast]
                        have hpv : pixV W H l ((X : Int) - 1 + ((ka : Nat) : Int)) ((Y : Int) - 1 + ((kb : Nat) : Int)) = ((l.getD (B' * W + A) 0).toNat : Int) := by
                          unfold pixV
                          rw [if_pos hp, hA, hB, e1, Int.toNat_natCast]
                        simp only [bC, hplc] at hnxt
                        have hbm : IntKind.i64.wrap (((Y : Int) - 1 + ((kb : Nat) : Int)) * (W : Int)) = ((B' * W : Nat) : Int) := by
                          rw [hB, show (B' : Int) * (W : Int) = ((B' * W : Nat) : Int) by push_cast; rfl]
                          exact wrap_i64 (by omega) (by omega)
                        have hba : IntKind.i64.wrap (((B' * W : Nat) : Int) + ((X : Int) - 1 + ((ka : Nat) : Int))) = ((B' * W + A : Nat) : Int) := by
                          rw [hA, wrap_i64 (by omega) (by omega)]; omega
                        have hJl : B' * W + A < l.length := by rw [hl]; exact hJ
                        have hco2 := gI_cell0 (l := lbA (csF W H l i ++ [(i, [i])]) l.length) (i := B' * W + A) (by rw [lbA_length]; exact hJl)
                        rw [lbA_at hJl] at hco2
                        have hlv := lab_vis hcp (v := [i]) (j := B' * W + A)
                        have hlen2 : (ofI (lbA (csF W H l i ++ [(i, [i])]) l.length)).length = l.length * 1 := by rw [ofI_length, lbA_length, Nat.mul_one]
                        by_cases hdk2 : dark l (B' * W + A) = true
                        · have hpp : 0 < pixV W H l ((X : Int) - 1 + ((ka : Nat) : Int)) ((Y : Int) - 1 + ((kb : Nat) : Int)) := by
                            rw [hpv]
                            have := hdk2
                            unfold dark at this
                            simp only [ne_eq, decide_eq_true_eq] at this
                            have : (l.getD (B' * W + A) 0).toNat ≠ 0 := fun h0 => this (UInt8.toNat_inj.1 (by rw [h0]; rfl))
                            omega
                          clear hpv
                          generalize pixV W H l ((X : Int) - 1 + ((ka : Nat) : Int)) ((Y : Int) - 1 + ((kb : Nat) : Int)) = px at *
                          by_cases hvv : B' * W + A ∈ (spS W H l i).1 ++ [i]
                          · rw [if_neg (by intro h; simp only [Bool.and_eq_true, Bool.not_eq_true', List.contains_eq_mem, decide_eq_false_iff_not] at h; exact h.2 hvv)] at hnxt
                            have hge : 0 ≤ labG (csF W H l i ++ [(i, [i])]) 0 (B' * W + A) := by
                              have : ¬ labG (csF W H l i ++ [(i, [i])]) 0 (B' * W + A) < 0 := fun h => hlv.1 h hvv
                              omega
                            generalize labG (csF W H l i ++ [(i, [i])]) 0 (B' * W + A) = lb at *
                            repeat' (first
                              | (conv => whnf)
                                first
                                | refine Bnd.eq hqd ?_
                                | refine Bnd.eq hqm ?_
                                | refine Bnd.eq hbm ?_
                                | refine Bnd.eq hba ?_
                                | refine Bnd.eq hX1 ?_
                                | refine Br.t ?_
                                | refine Br.f ?_
                                | (refine Br.decT ?_ ?_; (focus first | assumption | omega))
                                | (refine Br.decF ?_ ?_; (focus first | assumption | omega))
                                | refine Br.dec (fun _ => ?_) (fun _ => ?_)
                                | refine Br.not ?_
                                | refine Br.and ?_
                                | refine Br.or ?_
                                | (refine Bnd.i64 ?_ ?_ ?_; (focus omega); (focus omega))
                                | refine call_fun rfl rfl hpx (.inl rfl) ?_
                                | refine Get.mk _ hco2 ?_
                                | refine Req.mk hlen2 ?_
                                | refine Req.mk hW0 ?_
                                | (refine Idx.nat ?_ ?_; (focus omega))
                                | refine Idx.nat (le_big (by omega)) ?_
                                | (refine Idx.int ?_ ?_ ?_; (focus omega); (focus omega))
                                | (refine Idx.int ?_ ?_ ?_; (focus decide); (focus decide))
                                | refine Ifz.zero ?_
                                | (refine Ifz.pos ?_ ?_; (focus omega))
                                | refine Get.mk _ rfl ?_
                                | refine Leaves.of ?_
                                | refine Ends.of ?_
                                | refine Vw.bool ?_
                                | refine Vw.int ?_
                                | refine Vw.nil
                                | refine Vw.sl
                                | refine Vw.tup ?_
                                | refine Vw.agg ?_
                                | refine VwL.cons ?_ ?_
                                | refine VwL.nil
                                | refine LeavesF.of ?_
                                | refine VwF.bool ?_
                                | refine VwF.int ?_
                                | refine VwF.nil
                                | refine VwF.sl
                                | refine VwF.tup ?_
                                | refine VwF.agg ?_
                                | refine VwLF.cons ?_ ?_
                                | refine VwLF.nil
                                | (refine Req.mk ?_ ?_; (focus first | rfl | decide | exact ⟨rfl, rfl⟩ | exact ⟨rfl, by decide⟩ | exact (fun _ => rfl) | exact (fun h => nomatch h) | (simp; done) | omega | (simp [big]; done) | exact le_big (by omega) | exact lt_big (by omega))))
                            all_goals first | exact NextP.mk (ka + 1) (by omega) (by omega) (by rw [hnxt]; rfl) | (exfalso; omega)
                          · rw [if_pos (by simp only [Bool.and_eq_true, Bool.not_eq_true', List.contains_eq_mem, decide_eq_false_iff_not]; exact ⟨hdk2, hvv⟩)] at hnxt
                            have hlt0 := hlv.2 hvv
                            have hput2 := ofI_put0 (l := lbA (csF W H l i ++ [(i, [i])]) l.length) (i := B' * W + A) (v := ((csF W H l i).length : Int)) (by rw [lbA_length]; exact hJl)
                            rw [lbA_mark hlt0] at hput2
                            have hgo : 0 + (B' * W + A) * 1 + 1 ≤ (ofI (lbA (csF W H l i ++ [(i, [i])]) l.length)).length := by rw [hlen2]; omega
                            have hqa := trivial; have hqb := trivial
                            generalize labG (csF W H l i ++ [(i, [i])]) 0 (B' * W + A) = lb at *
                            repeat' (first
                              | (conv => whnf)
                                first
                                | refine Bnd.eq hqd ?_
                                | refine Bnd.eq hqm ?_
                                | refine Bnd.eq hbm ?_
                                | refine Bnd.eq hba ?_
                                | refine Bnd.eq hX1 ?_
                                | refine Br.t ?_
                                | refine Br.f ?_
                                | (refine Br.decT ?_ ?_; (focus first | assumption | omega))
                                | (refine Br.decF ?_ ?_; (focus first | assumption | omega))
                                | refine Br.dec (fun _ => ?_) (fun _ => ?_)
                                | refine Br.not ?_
                                | refine Br.and ?_
                                | refine Br.or ?_
                                | (refine Bnd.i64 ?_ ?_ ?_; (focus omega); (focus omega))
                                | refine call_fun rfl rfl hpx (.inl rfl) ?_
                                | refine Get.mk _ hco2 ?_
                                | refine fVe hput2 ?_
                                | refine Req.mk hlen2 ?_
                                | refine Req.mk ⟨hlen2, hgo⟩ ?_
                                | refine Req.mk hqa ?_
                                | refine Req.mk hqb ?_
                                | refine Req.mk hW0 ?_
                                | (refine Idx.nat ?_ ?_; (focus omega))
                                | refine Idx.nat (le_big (by omega)) ?_
                                | (refine Idx.int ?_ ?_ ?_; (focus omega); (focus omega))
                                | (refine Idx.int ?_ ?_ ?_; (focus decide); (focus decide))
                                | refine Ifz.zero ?_
                                | (refine Ifz.pos ?_ ?_; (focus omega))
                                | refine Get.mk _ rfl ?_
                                | refine Leaves.of ?_
                                | refine Ends.of ?_
                                | refine Vw.bool ?_
                                | refine Vw.int ?_
                                | refine Vw.nil
                                | refine Vw.sl
                                | refine Vw.tup ?_
                                | refine Vw.agg ?_
                                | refine VwL.cons ?_ ?_
                                | refine VwL.nil
                                | refine LeavesF.of ?_
                                | refine VwF.bool ?_
                                | refine VwF.int ?_
                                | refine VwF.nil
                                | refine VwF.sl
                                | refine VwF.tup ?_
                                | refine VwF.agg ?_
                                | refine VwLF.cons ?_ ?_
                                | refine VwLF.nil
                                | (refine Req.mk ?_ ?_; (focus first | rfl | decide | exact ⟨rfl, rfl⟩ | exact ⟨rfl, by decide⟩ | exact (fun _ => rfl) | exact (fun h => nomatch h) | (simp; done) | omega | (simp [big]; done) | exact le_big (by omega) | exact lt_big (by omega))))
                            all_goals first | exact NextP.mk (ka + 1) (by omega) (by omega) (by rw [hnxt]; rfl) | (exfalso; omega)
                        · have hpz : pixV W H l ((X : Int) - 1 + ((ka : Nat) : Int)) ((Y : Int) - 1 + ((kb : Nat) : Int)) = 0 := by
                            rw [hpv]
                            have := hdk2
                            unfold dark at this
                            simp only [ne_eq, decide_eq_true_eq, Classical.not_not] at this
                            rw [this]; rfl
                          rw [hpz] at hpx
                          rw [if_neg (by intro h; simp only [Bool.and_eq_true] at h; exact hdk2 h.1)] at hnxt
                          repeat' (first
                            | (conv => whnf)
                              first
                              | refine Bnd.eq hqd ?_
                              | refine Bnd.eq hqm ?_
                              | refine Bnd.eq hX1 ?_
                              | refine Br.t ?_
                              | refine Br.f ?_
                              | (refine Br.decT ?_ ?_; (focus first | assumption | omega))
                              | (refine Br.decF ?_ ?_; (focus first | assumption | omega))
                              | refine Br.dec (fun _ => ?_) (fun _ => ?_)
                              | refine Br.not ?_
                              | refine Br.and ?_
                              | refine Br.or ?_
                              | (refine Bnd.i64 ?_ ?_ ?_; (focus omega); (focus omega))
                              | refine call_fun rfl rfl hpx (.inl rfl) ?_
                              | refine Req.mk hW0 ?_
                              | (refine Idx.nat ?_ ?_; (focus omega))
                              | refine Idx.nat (le_big (by omega)) ?_
                              | (refine Idx.int ?_ ?_ ?_; (focus omega); (focus omega))
                              | (refine Idx.int ?_ ?_ ?_; (focus decide); (focus decide))
                              | refine Ifz.zero ?_
                              | (refine Ifz.pos ?_ ?_; (focus omega))
                              | refine Get.mk _ rfl ?_
                              | refine Leaves.of ?_
                              | refine Ends.of ?_
                              | refine Vw.bool ?_
                              | refine Vw.int ?_
                              | refine Vw.nil
                              | refine Vw.sl
                              | refine Vw.tup ?_
                              | refine Vw.agg ?_
                              | refine VwL.cons ?_ ?_
                              | refine VwL.nil
                              | refine LeavesF.of ?_
                              | refine VwF.bool ?_
                              | refine VwF.int ?_
                              | refine VwF.nil
                              | refine VwF.sl
                              | refine VwF.tup ?_
                              | refine VwF.agg ?_
                              | refine VwLF.cons ?_ ?_
                              | refine VwLF.nil
                              | (refine Req.mk ?_ ?_; (focus first | rfl | decide | exact ⟨rfl, rfl⟩ | exact ⟨rfl, by decide⟩ | exact (fun _ => rfl) | exact (fun h => nomatch h) | (simp; done) | omega | (simp [big]; done) | exact le_big (by omega) | exact lt_big (by omega))))
                          all_goals first | exact NextP.mk (ka + 1) (by omega) (by omega) (by rw [hnxt]; rfl) | (exfalso; omega)
                      · rw [decide_eq_false hp] at hpx
                        have hplc : placeOf W H ((X : Int) - 1 + ((ka : Nat) : Int), (Y : Int) - 1 + ((kb : Nat) : Int)) = none := by
                          unfold placeOf
                          rw [if_neg (fun h => hp ⟨h.1, h.2.1, h.2.2.1, h.2.2.2⟩)]
                        simp only [bC, hplc] at hnxt
                        generalize pixV W H l ((X : Int) - 1 + ((ka : Nat) : Int)) ((Y : Int) - 1 + ((kb : Nat) : Int)) = px at *
                        repeat' (first
                          | (conv => whnf)
                            first
                            | refine Bnd.eq hqd ?_
                            | refine Bnd.eq hqm ?_
                            | refine Bnd.eq hX1 ?_
                            | refine Br.t ?_
                            | refine Br.f ?_
                            | (refine Br.decT ?_ ?_; (focus first | assumption | omega))
                            | (refine Br.decF ?_ ?_; (focus first | assumption | omega))
                            | refine Br.dec (fun _ => ?_) (fun _ => ?_)
                            | refine Br.not ?_
                            | refine Br.and ?_
                            | refine Br.or ?_
                            | (refine Bnd.i64 ?_ ?_ ?_; (focus omega); (focus omega))
                            | refine call_fun rfl rfl hpx (.inl rfl) ?_
                            | refine Req.mk hW0 ?_
                            | (refine Idx.nat ?_ ?_; (focus omega))
                            | refine Idx.nat (le_big (by omega)) ?_
                            | (refine Idx.int ?_ ?_ ?_; (focus omega); (focus omega))
                            | (refine Idx.int ?_ ?_ ?_; (focus decide); (focus decide))
                            | refine Ifz.zero ?_
                            | (refine Ifz.pos ?_ ?_; (focus omega))
                            | refine Get.mk _ rfl ?_
                            | refine Leaves.of ?_
                            | refine Ends.of ?_
                            | refine Vw.bool ?_
                            | refine Vw.int ?_
                            | refine Vw.nil
                            | refine Vw.sl
                            | refine Vw.tup ?_
                            | refine Vw.agg ?_
                            | refine VwL.cons ?_ ?_
                            | refine VwL.nil
                            | refine LeavesF.of ?_
                            | refine VwF.bool ?_
                            | refine VwF.int ?_
                            | refine VwF.nil
                            | refine VwF.sl
                            | refine VwF.tup ?_
                            | refine VwF.agg ?_
                            | refine VwLF.cons ?_ ?_
                            | refine VwLF.nil
                            | (refine Req.mk ?_ ?_; (focus first | rfl | decide | exact ⟨rfl, rfl⟩ | exact ⟨rfl, by decide⟩ | exact (fun _ => rfl) | exact (fun h => nomatch h) | (simp; done) | omega | (simp [big]; done) | exact le_big (by omega) | exact lt_big (by omega))))
                        all_goals first | exact NextP.mk (ka + 1) (by omega) (by omega) (by rw [hnxt]; rfl) | (exfalso; omega)
                    | cons s2 S2 =>
                      have hKS : 0 ≤ S2.length + 1 := by
                        have e4 := congrArg List.length et2
                        have e5 := congrArg List.length et
                        rw [hS, List.length_append] at e4
                        rw [List.length_append] at e5
                        simp only [List.length_cons] at e4 e5
                        omega
                      have hSb : S2.length ≤ 2400 := by
                        have e6 := rowB_len (W := W) (H := H) (l := l) (vis := (spS W H l i).1) (X : Int) ((Y : Int) - 1 + ((kb : Nat) : Int)) (rowsB W H l (spS W H l i).1 X Y kb ([i])) ka
                        have e7 := rowsB_len (W := W) (H := H) (l := l) (vis := (spS W H l i).1) (X : Int) (Y : Int) ([i]) kb
                        rw [hS] at e6
                        simp only [List.length_cons] at e6 e7 hvl
                        omega
                      have hpx := pixel_any (c := c) (l := l) h2 h4 hl ((X : Int) - 1 + ((ka : Nat) : Int)) ((Y : Int) - 1 + ((kb : Nat) : Int))
                      have hX1 : IntKind.i64.wrap ((X : Int) - 1 + ((ka : Nat) : Int) + 1) = (X : Int) - 1 + ((ka + 1 : Nat) : Int) := by rw [wrap_i64 (by omega) (by omega)]; omega
                      have hnxt : rowB W H l (spS W H l i).1 X ((Y : Int) - 1 + ((kb : Nat) : Int)) (ka + 1) (rowsB W H l (spS W H l i).1 X Y kb ([i])) = bC W H l (spS W H l i).1 ((X : Int) - 1 + ((ka : Nat) : Int), (Y : Int) - 1 + ((kb : Nat) : Int)) (rowB W H l (spS W H l i).1 X ((Y : Int) - 1 + ((kb : Nat) : Int)) ka (rowsB W H l (spS W H l i).1 X Y kb ([i]))) := rfl
                      rw [hS] at hnxt
                      by_cases hp : pixB W H ((X : Int) - 1 + ((ka : Nat) : Int)) ((Y : Int) - 1 + ((kb : Nat) : Int))
                      · rw [decide_eq_true hp] at hpx
                        have hp' := hp
                        obtain ⟨p1, p2, p3, p4⟩ := hp'
                        obtain ⟨A, hA⟩ := Int.eq_ofNat_of_zero_le p1
                        obtain ⟨B', hB⟩ := Int.eq_ofNat_of_zero_le p3
                        have hAW : A < W := by omega
                        have hBH : B' < H := by omega
                        have hJ := place_lt hAW hBH
                        have hBW : B' * W ≤ 2304 := Nat.mul_le_mul (show B' ≤ 48 by omega) h2
                        have e1 : ((B' : Int) * (W : Int) + (A : Int)) = ((B' * W + A : Nat) : Int) := by push_cast; rfl
                        have hplc : placeOf W H ((X : Int) - 1 + ((ka : Nat) : Int), (Y : Int) - 1 + ((kb : Nat) : Int)) = some (B' * W + A) := by
                          unfold placeOf
                          rw [if_pos ⟨p1, p2, p3, p4⟩]
                          dsimp only
                          rw [hA, hB, e1, Int.toNat_natCast]
                        have hpv : pixV W H l ((X : Int) - 1 + ((ka : Nat) : Int)) ((Y : Int) - 1 + ((kb : Nat) : Int)) = ((l.getD (B' * W + A) 0).toNat : Int) := by
                          unfold pixV
                          rw [if_pos hp, hA, hB, e1, Int.toNat_natCast]
                        simp only [bC, hplc] at hnxt
                        have hbm : IntKind.i64.wrap (((Y : Int) - 1 + ((kb : Nat) : Int)) * (W : Int)) = ((B' * W : Nat) : Int) := by
                          rw [hB, show (B' : Int) * (W : Int) = ((B' * W : Nat) : Int) by push_cast; rfl]
                          exact wrap_i64 (by omega) (by omega)
                        have hba : IntKind.i64.wrap (((B' * W : Nat) : Int) + ((X : Int) - 1 + ((ka : Nat) : Int))) = ((B' * W + A : Nat) : Int) := by
                          rw [hA, wrap_i64 (by omega) (by omega)]; omega
                        have hJl : B' * W + A < l.length := by rw [hl]; exact hJ
                        have hco2 := gI_cell0 (l := lbA (csF W H l i ++ [(i, (i :: s2 :: S2))]) l.length) (i := B' * W + A) (by rw [lbA_length]; exact hJl)
                        rw [lbA_at hJl] at hco2
                        have hlv := lab_vis hcp (v := (i :: s2 :: S2)) (j := B' * W + A)
                        have hlen2 : (ofI (lbA (csF W H l i ++ [(i, (i :: s2 :: S2))]) l.length)).length = l.length * 1 := by rw [ofI_length, lbA_length, Nat.mul_one]
                        by_cases hdk2 : dark l (B' * W + A) = true
                        · have hpp : 0 < pixV W H l ((X : Int) - 1 + ((ka : Nat) : Int)) ((Y : Int) - 1 + ((kb : Nat) : Int)) := by
                            rw [hpv]
                            have := hdk2
                            unfold dark at this
                            simp only [ne_eq, decide_eq_true_eq] at this
                            have : (l.getD (B' * W + A) 0).toNat ≠ 0 := fun h0 => this (UInt8.toNat_inj.1 (by rw [h0]; rfl))
                            omega
                          clear hpv
                          generalize pixV W H l ((X : Int) - 1 + ((ka : Nat) : Int)) ((Y : Int) - 1 + ((kb : Nat) : Int)) = px at *
                          by_cases hvv : B' * W + A ∈ (spS W H l i).1 ++ (i :: s2 :: S2)
                          · rw [if_neg (by intro h; simp only [Bool.and_eq_true, Bool.not_eq_true', List.contains_eq_mem, decide_eq_false_iff_not] at h; exact h.2 hvv)] at hnxt
                            have hge : 0 ≤ labG (csF W H l i ++ [(i, (i :: s2 :: S2))]) 0 (B' * W + A) := by
                              have : ¬ labG (csF W H l i ++ [(i, (i :: s2 :: S2))]) 0 (B' * W + A) < 0 := fun h => hlv.1 h hvv
                              omega
                            generalize labG (csF W H l i ++ [(i, (i :: s2 :: S2))]) 0 (B' * W + A) = lb at *
                            repeat' (first
                              | (conv => whnf)
                                first
                                | refine Bnd.eq hqd ?_
                                | refine Bnd.eq hqm ?_
                                | refine Bnd.eq hbm ?_
                                | refine Bnd.eq hba ?_
                                | refine Bnd.eq hX1 ?_
                                | refine Br.t ?_
                                | refine Br.f ?_
                                | (refine Br.decT ?_ ?_; (focus first | assumption | omega))
                                | (refine Br.decF ?_ ?_; (focus first | assumption | omega))
                                | refine Br.dec (fun _ => ?_) (fun _ => ?_)
                                | refine Br.not ?_
                                | refine Br.and ?_
                                | refine Br.or ?_
                                | (refine Bnd.i64 ?_ ?_ ?_; (focus omega); (focus omega))
                                | refine call_fun rfl rfl hpx (.inl rfl) ?_
                                | refine Get.mk _ hco2 ?_
                                | refine Req.mk hlen2 ?_
                                | refine Req.mk hW0 ?_
                                | (refine Idx.nat ?_ ?_; (focus omega))
                                | refine Idx.nat (le_big (by omega)) ?_
                                | (refine Idx.int ?_ ?_ ?_; (focus omega); (focus omega))
                                | (refine Idx.int ?_ ?_ ?_; (focus decide); (focus decide))
                                | refine Ifz.zero ?_
                                | (refine Ifz.pos ?_ ?_; (focus omega))
                                | refine Get.mk _ rfl ?_
                                | refine Leaves.of ?_
                                | refine Ends.of ?_
                                | refine Vw.bool ?_
                                | refine Vw.int ?_
                                | refine Vw.nil
                                | refine Vw.sl
                                | refine Vw.tup ?_
                                | refine Vw.agg ?_
                                | refine VwL.cons ?_ ?_
                                | refine VwL.nil
                                | refine LeavesF.of ?_
                                | refine VwF.bool ?_
                                | refine VwF.int ?_
                                | refine VwF.nil
                                | refine VwF.sl
                                | refine VwF.tup ?_
                                | refine VwF.agg ?_
                                | refine VwLF.cons ?_ ?_
                                | refine VwLF.nil
                                | (refine Req.mk ?_ ?_; (focus first | rfl | decide | exact ⟨rfl, rfl⟩ | exact ⟨rfl, by decide⟩ | exact (fun _ => rfl) | exact (fun h => nomatch h) | (simp; done) | omega | (simp [big]; done) | exact le_big (by omega) | exact lt_big (by omega))))
                            all_goals first | exact NextP.mk (ka + 1) (by omega) (by omega) (by rw [hnxt]; rfl) | (exfalso; omega)
                          · rw [if_pos (by simp only [Bool.and_eq_true, Bool.not_eq_true', List.contains_eq_mem, decide_eq_false_iff_not]; exact ⟨hdk2, hvv⟩)] at hnxt
                            have hlt0 := hlv.2 hvv
                            have hput2 := ofI_put0 (l := lbA (csF W H l i ++ [(i, (i :: s2 :: S2))]) l.length) (i := B' * W + A) (v := ((csF W H l i).length : Int)) (by rw [lbA_length]; exact hJl)
                            rw [lbA_mark hlt0] at hput2
                            have hgo : 0 + (B' * W + A) * 1 + 1 ≤ (ofI (lbA (csF W H l i ++ [(i, (i :: s2 :: S2))]) l.length)).length := by rw [hlen2]; omega
                            have hqa : (ofN (s2 :: S2)).length = S2.length + 1 := ofN_length _; have hqb : 0 + (S2.length + 1 - 0) * 1 = S2.length + 1 ∧ ((ofN (s2 :: S2)).length + 1) * (8 + 1) < big := ⟨by omega, by rw [hqa]; simp only [big]; omega⟩; have hk2 : S2.length + 1 + 1 - 0 = S2.length + 1 - 0 + 1 := by omega
                            generalize labG (csF W H l i ++ [(i, (i :: s2 :: S2))]) 0 (B' * W + A) = lb at *
                            repeat' (first
                              | (conv => whnf)
                                first
                                | refine Bnd.eq hqd ?_
                                | refine Bnd.eq hqm ?_
                                | refine Bnd.eq hbm ?_
                                | refine Bnd.eq hba ?_
                                | refine Bnd.eq hX1 ?_
                                | refine Br.t ?_
                                | refine Br.f ?_
                                | (refine Br.decT ?_ ?_; (focus first | assumption | omega))
                                | (refine Br.decF ?_ ?_; (focus first | assumption | omega))
                                | refine Br.dec (fun _ => ?_) (fun _ => ?_)
                                | refine Br.not ?_
                                | refine Br.and ?_
                                | refine Br.or ?_
                                | (refine Bnd.i64 ?_ ?_ ?_; (focus omega); (focus omega))
                                | refine call_fun rfl rfl hpx (.inl rfl) ?_
                                | refine Get.mk _ hco2 ?_
                                | refine fVe hput2 ?_
                                | refine Req.mk hlen2 ?_
                                | refine Req.mk ⟨hlen2, hgo⟩ ?_
                                | refine Req.mk hqa ?_
                                | refine Req.mk hqb ?_
                                | refine Req.mk hW0 ?_
                                | (refine Idx.nat ?_ ?_; (focus omega))
                                | refine Idx.nat (le_big (by omega)) ?_
                                | (refine Idx.int ?_ ?_ ?_; (focus omega); (focus omega))
                                | (refine Idx.int ?_ ?_ ?_; (focus decide); (focus decide))
                                | refine Ifz.zero ?_
                                | (refine Ifz.pos ?_ ?_; (focus omega))
                                | refine Get.mk _ rfl ?_
                                | refine Leaves.of ?_
                                | refine Ends.of ?_
                                | refine Vw.bool ?_
                                | refine Vw.int ?_
                                | refine Vw.nil
                                | refine Vw.sl
                                | refine Vw.tup ?_
                                | refine Vw.agg ?_
                                | refine VwL.cons ?_ ?_
                                | refine VwL.nil
                                | refine LeavesF.of ?_
                                | refine VwF.bool ?_
                                | refine VwF.int ?_
                                | refine VwF.nil
                                | refine VwF.sl
                                | refine VwF.tup ?_
                                | refine VwF.agg ?_
                                | refine VwLF.cons ?_ ?_
                                | refine VwLF.nil
                                | (refine Req.mk ?_ ?_; (focus first | rfl | decide | exact ⟨rfl, rfl⟩ | exact ⟨rfl, by decide⟩ | exact (fun _ => rfl) | exact (fun h => nomatch h) | (simp; done) | omega | (simp [big]; done) | exact le_big (by omega) | exact lt_big (by omega))))
                            all_goals first | exact NextP.mk (ka + 1) (by omega) (by omega) (by rw [hnxt]; rw [show (i :: s2 :: S2) ++ [B' * W + A] = i :: s2 :: (S2 ++ [B' * W + A]) from rfl, quV_two, quH_two, hk2]; rfl) | (exfalso; omega)
                        · have hpz : pixV W H l ((X : Int) - 1 + ((ka : Nat) : Int)) ((Y : Int) - 1 + ((kb : Nat) : Int)) = 0 := by
                            rw [hpv]
                            have := hdk2
                            unfold dark at this
                            simp only [ne_eq, decide_eq_true_eq, Classical.not_not] at this
                            rw [this]; rfl
                          rw [hpz] at hpx
                          rw [if_neg (by intro h; simp only [Bool.and_eq_true] at h; exact hdk2 h.1)] at hnxt
                          repeat' (first
                            | (conv => whnf)
                              first
                              | refine Bnd.eq hqd ?_
                              | refine Bnd.eq hqm ?_
                              | refine Bnd.eq hX1 ?_
                              | refine Br.t ?_
                              | refine Br.f ?_
                              | (refine Br.decT ?_ ?_; (focus first | assumption | omega))
                              | (refine Br.decF ?_ ?_; (focus first | assumption | omega))
                              | refine Br.dec (fun _ => ?_) (fun _ => ?_)
                              | refine Br.not ?_
                              | refine Br.and ?_
                              | refine Br.or ?_
                              | (refine Bnd.i64 ?_ ?_ ?_; (focus omega); (focus omega))
                              | refine call_fun rfl rfl hpx (.inl rfl) ?_
                              | refine Req.mk hW0 ?_
                              | (refine Idx.nat ?_ ?_; (focus omega))
                              | refine Idx.nat (le_big (by omega)) ?_
                              | (refine Idx.int ?_ ?_ ?_; (focus omega); (focus omega))
                              | (refine Idx.int ?_ ?_ ?_; (focus decide); (focus decide))
                              | refine Ifz.zero ?_
                              | (refine Ifz.pos ?_ ?_; (focus omega))
                              | refine Get.mk _ rfl ?_
                              | refine Leaves.of ?_
                              | refine Ends.of ?_
                              | refine Vw.bool ?_
                              | refine Vw.int ?_
                              | refine Vw.nil
                              | refine Vw.sl
                              | refine Vw.tup ?_
                              | refine Vw.agg ?_
                              | refine VwL.cons ?_ ?_
                              | refine VwL.nil
                              | refine LeavesF.of ?_
                              | refine VwF.bool ?_
                              | refine VwF.int ?_
                              | refine VwF.nil
                              | refine VwF.sl
                              | refine VwF.tup ?_
                              | refine VwF.agg ?_
                              | refine VwLF.cons ?_ ?_
                              | refine VwLF.nil
                              | (refine Req.mk ?_ ?_; (focus first | rfl | decide | exact ⟨rfl, rfl⟩ | exact ⟨rfl, by decide⟩ | exact (fun _ => rfl) | exact (fun h => nomatch h) | (simp; done) | omega | (simp [big]; done) | exact le_big (by omega) | exact lt_big (by omega))))
                          all_goals first | exact NextP.mk (ka + 1) (by omega) (by omega) (by rw [hnxt]; rfl) | (exfalso; omega)
                      · rw [decide_eq_false hp] at hpx
                        have hplc : placeOf W H ((X : Int) - 1 + ((ka : Nat) : Int), (Y : Int) - 1 + ((kb : Nat) : Int)) = none := by
                          unfold placeOf
                          rw [if_neg (fun h => hp ⟨h.1, h.2.1, h.2.2.1, h.2.2.2⟩)]
                        simp only [bC, hplc] at hnxt
                        generalize pixV W H l ((X : Int) - 1 + ((ka : Nat) : Int)) ((Y : Int) - 1 + ((kb : Nat) : Int)) = px at *
                        repeat' (first
                          | (conv => whnf)
                            first
                            | refine Bnd.eq hqd ?_
                            | refine Bnd.eq hqm ?_
                            | refine Bnd.eq hX1 ?_
                            | refine Br.t ?_
                            | refine Br.f ?_
                            | (refine Br.decT ?_ ?_; (focus first | assumption | omega))
                            | (refine Br.decF ?_ ?_; (focus first | assumption | omega))
                            | refine Br.dec (fun _ => ?_) (fun _ => ?_)
                            | refine Br.not ?_
                            | refine Br.and ?_
                            | refine Br.or ?_
                            | (refine Bnd.i64 ?_ ?_ ?_; (focus omega); (focus omega))
                            | refine call_fun rfl rfl hpx (.inl rfl) ?_
                            | refine Req.mk hW0 ?_
                            | (refine Idx.nat ?_ ?_; (focus omega))
                            | refine Idx.nat (le_big (by omega)) ?_
                            | (refine Idx.int ?_ ?_ ?_; (focus omega); (focus omega))
                            | (refine Idx.int ?_ ?_ ?_; (focus decide); (focus decide))
                            | refine Ifz.zero ?_
                            | (refine Ifz.pos ?_ ?_; (focus omega))
                            | refine Get.mk _ rfl ?_
                            | refine Leaves.of ?_
                            | refine Ends.of ?_
                            | refine Vw.bool ?_
                            | refine Vw.int ?_
                            | refine Vw.nil
                            | refine Vw.sl
                            | refine Vw.tup ?_
                            | refine Vw.agg ?_
                            | refine VwL.cons ?_ ?_
                            | refine VwL.nil
                            | refine LeavesF.of ?_
                            | refine VwF.bool ?_
                            | refine VwF.int ?_
                            | refine VwF.nil
                            | refine VwF.sl
                            | refine VwF.tup ?_
                            | refine VwF.agg ?_
                            | refine VwLF.cons ?_ ?_
                            | refine VwLF.nil
                            | (refine Req.mk ?_ ?_; (focus first | rfl | decide | exact ⟨rfl, rfl⟩ | exact ⟨rfl, by decide⟩ | exact (fun _ => rfl) | exact (fun h => nomatch h) | (simp; done) | omega | (simp [big]; done) | exact le_big (by omega) | exact lt_big (by omega))))
                        all_goals first | exact NextP.mk (ka + 1) (by omega) (by omega) (by rw [hnxt]; rfl) | (exfalso; omega)
                  · obtain rfl : ka = 3 := by omega
                    have hro : rowsB W H l (spS W H l i).1 X Y (kb + 1) ([i]) = i :: S := hS
                    cases S with
                    | nil =>
                      skip
                      repeat' (first
                        | (conv => whnf)
                          first
                          | refine Bnd.eq hqd ?_
                          | refine Bnd.eq hqm ?_
                          | refine Bnd.eq hY1 ?_
                          | refine Br.t ?_
                          | refine Br.f ?_
                          | (refine Br.decT ?_ ?_; (focus first | assumption | omega))
                          | (refine Br.decF ?_ ?_; (focus first | assumption | omega))
                          | refine Br.dec (fun _ => ?_) (fun _ => ?_)
                          | refine Br.not ?_
                          | refine Br.and ?_
                          | refine Br.or ?_
                          | (refine Bnd.i64 ?_ ?_ ?_; (focus omega); (focus omega))
                          | refine Req.mk hW0 ?_
                          | (refine Idx.nat ?_ ?_; (focus omega))
                          | refine Idx.nat (le_big (by omega)) ?_
                          | (refine Idx.int ?_ ?_ ?_; (focus omega); (focus omega))
                          | (refine Idx.int ?_ ?_ ?_; (focus decide); (focus decide))
                          | refine Ifz.zero ?_
                          | (refine Ifz.pos ?_ ?_; (focus omega))
                          | refine Get.mk _ rfl ?_
                          | refine Leaves.of ?_
                          | refine Ends.of ?_
                          | refine Vw.bool ?_
                          | refine Vw.int ?_
                          | refine Vw.nil
                          | refine Vw.sl
                          | refine Vw.tup ?_
                          | refine Vw.agg ?_
                          | refine VwL.cons ?_ ?_
                          | refine VwL.nil
                          | refine LeavesF.of ?_
                          | refine VwF.bool ?_
                          | refine VwF.int ?_
                          | refine VwF.nil
                          | refine VwF.sl
                          | refine VwF.tup ?_
                          | refine VwF.agg ?_
                          | refine VwLF.cons ?_ ?_
                          | refine VwLF.nil
                          | (refine Req.mk ?_ ?_; (focus first | rfl | decide | exact ⟨rfl, rfl⟩ | exact ⟨rfl, by decide⟩ | exact (fun _ => rfl) | exact (fun h => nomatch h) | (simp; done) | omega | (simp [big]; done) | exact le_big (by omega) | exact lt_big (by omega))))
                      all_goals first | exact NextP.mk (kb + 1) (by omega) (by omega) (by rw [hro]; rfl) | (exfalso; omega)
                    | cons s2 S2 =>
                      repeat' (first
                        | (conv => whnf)
                          first
                          | refine Bnd.eq hqd ?_
                          | refine Bnd.eq hqm ?_
                          | refine Bnd.eq hY1 ?_
                          | refine Br.t ?_
                          | refine Br.f ?_
                          | (refine Br.decT ?_ ?_; (focus first | assumption | omega))
                          | (refine Br.decF ?_ ?_; (focus first | assumption | omega))
                          | refine Br.dec (fun _ => ?_) (fun _ => ?_)
                          | refine Br.not ?_
                          | refine Br.and ?_
                          | refine Br.or ?_
                          | (refine Bnd.i64 ?_ ?_ ?_; (focus omega); (focus omega))
                          | refine Req.mk hW0 ?_
                          | (refine Idx.nat ?_ ?_; (focus omega))
                          | refine Idx.nat (le_big (by omega)) ?_
                          | (refine Idx.int ?_ ?_ ?_; (focus omega); (focus omega))
                          | (refine Idx.int ?_ ?_ ?_; (focus decide); (focus decide))
                          | refine Ifz.zero ?_
                          | (refine Ifz.pos ?_ ?_; (focus omega))
                          | refine Get.mk _ rfl ?_
                          | refine Leaves.of ?_
                          | refine Ends.of ?_
                          | refine Vw.bool ?_
                          | refine Vw.int ?_
                          | refine Vw.nil
                          | refine Vw.sl
                          | refine Vw.tup ?_
                          | refine Vw.agg ?_
                          | refine VwL.cons ?_ ?_
                          | refine VwL.nil
                          | refine LeavesF.of ?_
                          | refine VwF.bool ?_
                          | refine VwF.int ?_
                          | refine VwF.nil
                          | refine VwF.sl
                          | refine VwF.tup ?_
                          | refine VwF.agg ?_
                          | refine VwLF.cons ?_ ?_
                          | refine VwLF.nil
                          | (refine Req.mk ?_ ?_; (focus first | rfl | decide | exact ⟨rfl, rfl⟩ | exact ⟨rfl, by decide⟩ | exact (fun _ => rfl) | exact (fun h => nomatch h) | (simp; done) | omega | (simp [big]; done) | exact le_big (by omega) | exact lt_big (by omega))))
                      all_goals first | exact NextP.mk (kb + 1) (by omega) (by omega) (by rw [hro]; rfl) | (exfalso; omega)
              | cons s1 S1 =>
                repeat' (first
                  | (conv => whnf)
                    first
                    | refine Bnd.eq hqd ?_
                    | refine Bnd.eq hqm ?_
                    | refine Bnd.eq hX0 ?_
                    | refine Br.t ?_
                    | refine Br.f ?_
                    | (refine Br.decT ?_ ?_; (focus first | assumption | omega))
                    | (refine Br.decF ?_ ?_; (focus first | assumption | omega))
                    | refine Br.dec (fun _ => ?_) (fun _ => ?_)
                    | refine Br.not ?_
                    | refine Br.and ?_
                    | refine Br.or ?_
                    | (refine Bnd.i64 ?_ ?_ ?_; (focus omega); (focus omega))
                    | refine Req.mk hW0 ?_
                    | (refine Idx.nat ?_ ?_; (focus omega))
                    | refine Idx.nat (le_big (by omega)) ?_
                    | (refine Idx.int ?_ ?_ ?_; (focus omega); (focus omega))
                    | (refine Idx.int ?_ ?_ ?_; (focus decide); (focus decide))
                    | refine Ifz.zero ?_
                    | (refine Ifz.pos ?_ ?_; (focus omega))
                    | refine Get.mk _ rfl ?_
                    | refine Leaves.of ?_
                    | refine Ends.of ?_
                    | refine Vw.bool ?_
                    | refine Vw.int ?_
                    | refine Vw.nil
                    | refine Vw.sl
                    | refine Vw.tup ?_
                    | refine Vw.agg ?_
                    | refine VwL.cons ?_ ?_
                    | refine VwL.nil
                    | refine LeavesF.of ?_
                    | refine VwF.bool ?_
                    | refine VwF.int ?_
                    | refine VwF.nil
                    | refine VwF.sl
                    | refine VwF.tup ?_
                    | refine VwF.agg ?_
                    | refine VwLF.cons ?_ ?_
                    | refine VwLF.nil
                    | (refine Req.mk ?_ ?_; (focus first | rfl | decide | exact ⟨rfl, rfl⟩ | exact ⟨rfl, by decide⟩ | exact (fun _ => rfl) | exact (fun h => nomatch h) | (simp; done) | omega | (simp [big]; done) | exact le_big (by omega) | exact lt_big (by omega))))
                all_goals try (exfalso; omega)
                refine LoopP.by (fun ka : Nat => ka ≤ 3) (fun ka => [(7, quV 0 (rowB W H l (spS W H l i).1 X ((Y : Int) - 1 + ((kb : Nat) : Int)) ka (rowsB W H l (spS W H l i).1 X Y kb ([i])))), (10, .int .i64 ((X : Int) - 1 + ((ka : Nat) : Int)))]) (fun ka => quH (.blk [.int .i64 W, .int .i64 H, .sl c l.length (ofBytes l)] false) (csF W H l i) l.length i (rowB W H l (spS W H l i).1 X ((Y : Int) - 1 + ((kb : Nat) : Int)) ka (rowsB W H l (spS W H l i).1 X Y kb ([i])))) (fun ka => 3 - ka) 0 (Nat.zero_le _) (by simp only [rowB, hR]; rfl) ?_
                intro ka hka
                obtain ⟨tt2, et2⟩ := rowB_ext (W := W) (H := H) (l := l) (vis := (spS W H l i).1) (X : Int) ((Y : Int) - 1 + ((kb : Nat) : Int)) (rowsB W H l (spS W H l i).1 X Y kb ([i])) ka
                cases hS : rowB W H l (spS W H l i).1 X ((Y : Int) - 1 + ((kb : Nat) : Int)) ka (rowsB W H l (spS W H l i).1 X Y kb ([i])) with
                | nil => rw [hS, hR] at et2; simp at et2
                | cons i9 S =>
                  obtain rfl : i = i9 := by rw [hS, hR] at et2; exact (List.cons.inj et2).1.symm
                  by_cases hka3 : ka < 3
                  · cases S with
                    | nil =>
                      skip
                      have hpx := pixel_any (c := c) (l := l) h2 h4 hl ((X : Int) - 1 + ((ka : Nat) : Int)) ((Y : Int) - 1 + ((kb : Nat) : Int))
                      have hX1 : IntKind.i64.wrap ((X : Int) - 1 + ((ka : Nat) : Int) + 1) = (X : Int) - 1 + ((ka + 1 : Nat) : Int) := by rw [wrap_i64 (by omega) (by omega)]; omega
                      have hnxt : rowB W H l (spS W H l i).1 X ((Y : Int) - 1 + ((kb : Nat) : Int)) (ka + 1) (rowsB W H l (spS W H l i).1 X Y kb ([i])) = bC W H l (spS W H l i).1 ((X : Int) - 1 + ((ka : Nat) : Int), (Y : Int) - 1 + ((kb : Nat) : Int)) (rowB W H l (spS W H l i).1 X ((Y : Int) - 1 + ((kb : Nat) : Int)) ka (rowsB W H l (spS W H l i).1 X Y kb ([i]))) := rfl
                      rw [hS] at hnxt
                      by_cases hp : pixB W H ((X : Int) - 1 + ((ka : Nat) : Int)) ((Y : Int) - 1 + ((kb : Nat) : Int))
                      · rw [decide_eq_true hp] at hpx
                        have hp' := hp
                        obtain ⟨p1, p2, p3, p4⟩ := hp'
                        obtain ⟨A, hA⟩ := Int.eq_ofNat_of_zero_le p1
                        obtain ⟨B', hB⟩ := Int.eq_ofNat_of_zero_le p3
                        have hAW : A < W := by omega
                        have hBH : B' < H := by omega
                        have hJ := place_lt hAW hBH
                        have hBW : B' * W ≤ 2304 := Nat.mul_le_mul (show B' ≤ 48 by omega) h2
                        have e1 : ((B' : Int) * (W : Int) + (A : Int)) = ((B' * W + A : Nat) : Int) := by push_cast; rfl
                        have hplc : placeOf W H ((X : Int) - 1 + ((ka : Nat) : Int), (Y : Int) - 1 + ((kb : Nat) : Int)) = some (B' * W + A) := by
                          unfold placeOf
                          rw [if_pos ⟨p1, p2, p3, p4⟩]
                          dsimp only
                          rw [hA, hB, e1, Int.toNat_natCast]
                        have hpv : pixV W H l ((X : Int) - 1 + ((ka : Nat) : Int)) ((Y : Int) - 1 + ((kb : Nat) : Int)) = ((l.getD (B' * W + A) 0).toNat : Int) := by
                          unfold pixV
                          rw [if_pos hp, hA, hB, e1, Int.toNat_natCast]
                        simp only [bC, hplc] at hnxt
                        have hbm : IntKind.i64.wrap (((Y : Int) - 1 + ((kb : Nat) : Int)) * (W : Int)) = ((B' * W : Nat) : Int) := by
                          rw [hB, show (B' : Int) * (W : Int) = ((B' * W : Nat) : Int) by push_cast; rfl]
                          exact wrap_i64 (by omega) (by omega)
                        have hba : IntKind.i64.wrap (((B' * W : Nat) : Int) + ((X : Int) - 1 + ((ka : Nat) : Int))) = ((B' * W + A : Nat) : Int) := by
                          rw [hA, wrap_i64 (by omega) (by omega)]; omega
                        have hJl : B' * W + A < l.length := by rw [hl]; exact hJ
                        have hco2 := gI_cell0 (l := lbA (csF W H l i ++ [(i, [i])]) l.length) (i := B' * W + A) (by rw [lbA_length]; exact hJl)
                        rw [lbA_at hJl] at hco2
                        have hlv := lab_vis hcp (v := [i]) (j := B' * W + A)
                        have hlen2 : (ofI (lbA (csF W H l i ++ [(i, [i])]) l.length)).length = l.length * 1 := by rw [ofI_length, lbA_length, Nat.mul_one]
                        by_cases hdk2 : dark l (B' * W + A) = true
                        · have hpp : 0 < pixV W H l ((X : Int) - 1 + ((ka : Nat) : Int)) ((Y : Int) - 1 + ((kb : Nat) : Int)) := by
                            rw [hpv]
                            have := hdk2
                            unfold dark at this
                            simp only [ne_eq, decide_eq_true_eq] at this
                            have : (l.getD (B' * W + A) 0).toNat ≠ 0 := fun h0 => this (UInt8.toNat_inj.1 (by rw [h0]; rfl))
                            omega
                          clear hpv
                          generalize pixV W H l ((X : Int) - 1 + ((ka : Nat) : Int)) ((Y : Int) - 1 + ((kb : Nat) : Int)) = px at *
                          by_cases hvv : B' * W + A ∈ (spS W H l i).1 ++ [i]
                          · rw [if_neg (by intro h; simp only [Bool.and_eq_true, Bool.not_eq_true', List.contains_eq_mem, decide_eq_false_iff_not] at h; exact h.2 hvv)] at hnxt
                            have hge : 0 ≤ labG (csF W H l i ++ [(i, [i])]) 0 (B' * W + A) := by
                              have : ¬ labG (csF W H l i ++ [(i, [i])]) 0 (B' * W + A) < 0 := fun h => hlv.1 h hvv
                              omega
                            generalize labG (csF W H l i ++ [(i, [i])]) 0 (B' * W + A) = lb at *
                            repeat' (first
                              | (conv => whnf)
                                first
                                | refine Bnd.eq hqd ?_
                                | refine Bnd.eq hqm ?_
                                | refine Bnd.eq hbm ?_
                                | refine Bnd.eq hba ?_
                                | refine Bnd.eq hX1 ?_
                                | refine Br.t ?_
                                | refine Br.f ?_
                                | (refine Br.decT ?_ ?_; (focus first | assumption | omega))
                                | (refine Br.decF ?_ ?_; (focus first | assumption | omega))
                                | refine Br.dec (fun _ => ?_) (fun _ => ?_)
                                | refine Br.not ?_
                                | refine Br.and ?_
                                | refine Br.or ?_
                                | (refine Bnd.i64 ?_ ?_ ?_; (focus omega); (focus omega))
                                | refine call_fun rfl rfl hpx (.inl rfl) ?_
                                | refine Get.mk _ hco2 ?_
                                | refine Req.mk hlen2 ?_
                                | refine Req.mk hW0 ?_
                                | (refine Idx.nat ?_ ?_; (focus omega))
                                | refine Idx.nat (le_big (by omega)) ?_
                                | (refine Idx.int ?_ ?_ ?_; (focus omega); (focus omega))
                                | (refine Idx.int ?_ ?_ ?_; (focus decide); (focus decide))
                                | refine Ifz.zero ?_
                                | (refine Ifz.pos ?_ ?_; (focus omega))
                                | refine Get.mk _ rfl ?_
                                | refine Leaves.of ?_
                                | refine Ends.of ?_
                                | refine Vw.bool ?_
                                | refine Vw.int ?_
                                | refine Vw.nil
                                | refine Vw.sl
                                | refine Vw.tup ?_
                                | refine Vw.agg ?_
                                | refine VwL.cons ?_ ?_
                                | refine VwL.nil
                                | refine LeavesF.of ?_
                                | refine VwF.bool ?_
                                | refine VwF.int ?_
                                | refine VwF.nil
                                | refine VwF.sl
                                | refine VwF.tup ?_
                                | refine VwF.agg ?_
                                | refine VwLF.cons ?_ ?_
                                | refine VwLF.nil
                                | (refine Req.mk ?_ ?_; (focus first | rfl | decide | exact ⟨rfl, rfl⟩ | exact ⟨rfl, by decide⟩ | exact (fun _ => rfl) | exact (fun h => nomatch h) | (simp; done) | omega | (simp [big]; done) | exact le_big (by omega) | exact lt_big (by omega))))
                            all_goals first | exact NextP.mk (ka + 1) (by omega) (by omega) (by rw [hnxt]; rfl) | (exfalso; omega)
                          · rw [if_pos (by simp only [Bool.and_eq_true, Bool.not_eq_true', List.contains_eq_mem, decide_eq_false_iff_not]; exact ⟨hdk2, hvv⟩)] at hnxt
                            have hlt0 := hlv.2 hvv
                            have hput2 := ofI_put0 (l := lbA (csF W H l i ++ [(i, [i])]) l.length) (i := B' * W + A) (v := ((csF W H l i).length : Int)) (by rw [lbA_length]; exact hJl)
                            rw [lbA_mark hlt0] at hput2
                            have hgo : 0 + (B' * W + A) * 1 + 1 ≤ (ofI (lbA (csF W H l i ++ [(i, [i])]) l.length)).length := by rw [hlen2]; omega
                            have hqa := trivial; have hqb := trivial
                            generalize labG (csF W H l i ++ [(i, [i])]) 0 (B' * W + A) = lb at *
                            repeat' (first
                              | (conv => whnf)
                                first
                                | refine Bnd.eq hqd ?_
                                | refine Bnd.eq hqm ?_
                                | refine Bnd.eq hbm ?_
                                | refine Bnd.eq hba ?_
                                | refine Bnd.eq hX1 ?_
                                | refine Br.t ?_
                                | refine Br.f ?_
                                | (refine Br.decT ?_ ?_; (focus first | assumption | omega))
                                | (refine Br.decF ?_ ?_; (focus first | assumption | omega))
                                | refine Br.dec (fun _ => ?_) (fun _ => ?_)
                                | refine Br.not ?_
                                | refine Br.and ?_
                                | refine Br.or ?_
                                | (refine Bnd.i64 ?_ ?_ ?_; (focus omega); (focus omega))
                                | refine call_fun rfl rfl hpx (.inl rfl) ?_
                                | refine Get.mk _ hco2 ?_
                                | refine fVe hput2 ?_
                                | refine Req.mk hlen2 ?_
                                | refine Req.mk ⟨hlen2, hgo⟩ ?_
                                | refine Req.mk hqa ?_
                                | refine Req.mk hqb ?_
                                | refine Req.mk hW0 ?_
                                | (refine Idx.nat ?_ ?_; (focus omega))
                                | refine Idx.nat (le_big (by omega)) ?_
                                | (refine Idx.int ?_ ?_ ?_; (focus omega); (focus omega))
                                | (refine Idx.int ?_ ?_ ?_; (focus decide); (focus decide))
                                | refine Ifz.zero ?_
                                | (refine Ifz.pos ?_ ?_; (focus omega))
                                | refine Get.mk _ rfl ?_
                                | refine Leaves.of ?_
                                | refine Ends.of ?_
                                | refine Vw.bool ?_
                                | refine Vw.int ?_
                                | refine Vw.nil
                                | refine Vw.sl
                                | refine Vw.tup ?_
                                | refine Vw.agg ?_
                                | refine VwL.cons ?_ ?_
                                | refine VwL.nil
                                | refine LeavesF.of ?_
                                | refine VwF.bool ?_
                                | refine VwF.int ?_
                                | refine VwF.nil
                                | refine VwF.sl
                                | refine VwF.tup ?_
                                | refine VwF.agg ?_
                                | refine VwLF.cons ?_ ?_
                                | refine VwLF.nil
                                | (refine Req.mk ?_ ?_; (focus first | rfl | decide | exact ⟨rfl, rfl⟩ | exact ⟨rfl, by decide⟩ | exact (fun _ => rfl) | exact (fun h => nomatch h) | (simp; done) | omega | (simp [big]; done) | exact le_big (by omega) | exact lt_big (by omega))))
                            all_goals first | exact NextP.mk (ka + 1) (by omega) (by omega) (by rw [hnxt]; rfl) | (exfalso; omega)
                        · have hpz : pixV W H l ((X : Int) - 1 + ((ka : Nat) : Int)) ((Y : Int) - 1 + ((kb : Nat) : Int)) = 0 := by
                            rw [hpv]
                            have := hdk2
                            unfold dark at this
                            simp only [ne_eq, decide_eq_true_eq, Classical.not_not] at this
                            rw [this]; rfl
                          rw [hpz] at hpx
                          rw [if_neg (by intro h; simp only [Bool.and_eq_true] at h; exact hdk2 h.1)] at hnxt
                          repeat' (first
                            | (conv => whnf)
                              first
                              | refine Bnd.eq hqd ?_
                              | refine Bnd.eq hqm ?_
                              | refine Bnd.eq hX1 ?_
                              | refine Br.t ?_
                              | refine Br.f ?_
                              | (refine Br.decT ?_ ?_; (focus first | assumption | omega))
                              | (refine Br.decF ?_ ?_; (focus first | assumption | omega))
                              | refine Br.dec (fun _ => ?_) (fun _ => ?_)
                              | refine Br.not ?_
                              | refine Br.and ?_
                              | refine Br.or ?_
                              | (refine Bnd.i64 ?_ ?_ ?_; (focus omega); (focus omega))
                              | refine call_fun rfl rfl hpx (.inl rfl) ?_
                              | refine Req.mk hW0 ?_
                              | (refine Idx.nat ?_ ?_; (focus omega))
                              | refine Idx.nat (le_big (by omega)) ?_
                              | (refine Idx.int ?_ ?_ ?_; (focus omega); (focus omega))
                              | (refine Idx.int ?_ ?_ ?_; (focus decide); (focus decide))
                              | refine Ifz.zero ?_
                              | (refine Ifz.pos ?_ ?_; (focus omega))
                              | refine Get.mk _ rfl ?_
                              | refine Leaves.of ?_
                              | refine Ends.of ?_
                              | refine Vw.bool ?_
                              | refine Vw.int ?_
                              | refine Vw.nil
                              | refine Vw.sl
                              | refine Vw.tup ?_
                              | refine Vw.agg ?_
                              | refine VwL.cons ?_ ?_
                              | refine VwL.nil
                              | refine LeavesF.of ?_
                              | refine VwF.bool ?_
                              | refine VwF.int ?_
                              | refine VwF.nil
                              | refine VwF.sl
                              | refine VwF.tup ?_
                              | refine VwF.agg ?_
                              | refine VwLF.cons ?_ ?_
                              | refine VwLF.nil
                              | (refine Req.mk ?_ ?_; (focus first | rfl | decide | exact ⟨rfl, rfl⟩ | exact ⟨rfl, by decide⟩ | exact (fun _ => rfl) | exact (fun h => nomatch h) | (simp; done) | omega | (simp [big]; done) | exact le_big (by omega) | exact lt_big (by omega))))
                          all_goals first | exact NextP.mk (ka + 1) (by omega) (by omega) (by rw [hnxt]; rfl) | (exfalso; omega)
                      · rw [decide_eq_false hp] at hpx
                        have hplc : placeOf W H ((X : Int) - 1 + ((ka : Nat) : Int), (Y : Int) - 1 + ((kb : Nat) : Int)) = none := by
                          unfold placeOf
                          rw [if_neg (fun h => hp ⟨h.1, h.2.1, h.2.2.1, h.2.2.2⟩)]
                        simp only [bC, hplc] at hnxt
                        generalize pixV W H l ((X : Int) - 1 + ((ka : Nat) : Int)) ((Y : Int) - 1 + ((kb : Nat) : Int)) = px at *
                        repeat' (first
                          | (conv => whnf)
                            first
                            | refine Bnd.eq hqd ?_
                            | refine Bnd.eq hqm ?_
                            | refine Bnd.eq hX1 ?_
                            | refine Br.t ?_
                            | refine Br.f ?_
                            | (refine Br.decT ?_ ?_; (focus first | assumption | omega))
                            | (refine Br.decF ?_ ?_; (focus first | assumption | omega))
                            | refine Br.dec (fun _ => ?_) (fun _ => ?_)
                            | refine Br.not ?_
                            | refine Br.and ?_
                            | refine Br.or ?_
                            | (refine Bnd.i64 ?_ ?_ ?_; (focus omega); (focus omega))
                            | refine call_fun rfl rfl hpx (.inl rfl) ?_
                            | refine Req.mk hW0 ?_
                            | (refine Idx.nat ?_ ?_; (focus omega))
                            | refine Idx.nat (le_big (by omega)) ?_
                            | (refine Idx.int ?_ ?_ ?_; (focus omega); (focus omega))
                            | (refine Idx.int ?_ ?_ ?_; (focus decide); (focus decide))
                            | refine Ifz.zero ?_
                            | (refine Ifz.pos ?_ ?_; (focus omega))
                            | refine Get.mk _ rfl ?_
                            | refine Leaves.of ?_
                            | refine Ends.of ?_
                            | refine Vw.bool ?_
                            | refine Vw.int ?_
                            | refine Vw.nil
                            | refine Vw.sl
                            | refine Vw.tup ?_
                            | refine Vw.agg ?_
                            | refine VwL.cons ?_ ?_
                            | refine VwL.nil
                            | refine LeavesF.of ?_
                            | refine VwF.bool ?_
                            | refine VwF.int ?_
                            | refine VwF.nil
                            | refine VwF.sl
                            | refine VwF.tup ?_
                            | refine VwF.agg ?_
                            | refine VwLF.cons ?_ ?_
                            | refine VwLF.nil
                            | (refine Req.mk ?_ ?_; (focus first | rfl | decide | exact ⟨rfl, rfl⟩ | exact ⟨rfl, by decide⟩ | exact (fun _ => rfl) | exact (fun h => nomatch h) | (simp; done) | omega | (simp [big]; done) | exact le_big (by omega) | exact lt_big (by omega))))
                        all_goals first | exact NextP.mk (ka + 1) (by omega) (by omega) (by rw [hnxt]; rfl) | (exfalso; omega)
                    | cons s2 S2 =>
                      have hKS : 0 ≤ S2.length + 1 := by
                        have e4 := congrArg List.length et2
                        have e5 := congrArg List.length et
                        rw [hS, List.length_append] at e4
                        rw [List.length_append] at e5
                        simp only [List.length_cons] at e4 e5
                        omega
                      have hSb : S2.length ≤ 2400 := by
                        have e6 := rowB_len (W := W) (H := H) (l := l) (vis := (spS W H l i).1) (X : Int) ((Y : Int) - 1 + ((kb : Nat) : Int)) (rowsB W H l (spS W H l i).1 X Y kb ([i])) ka
                        have e7 := rowsB_len (W := W) (H := H) (l := l) (vis := (spS W H l i).1) (X : Int) (Y : Int) ([i]) kb
                        rw [hS] at e6
                        simp only [List.length_cons] at e6 e7 hvl
                        omega
                      have hpx := pixel_any (c := c) (l := l) h2 h4 hl ((X : Int) - 1 + ((ka : Nat) : Int)) ((Y : Int) - 1 + ((kb : Nat) : Int))
                      have hX1 : IntKind.i64.wrap ((X : Int) - 1 + ((ka : Nat) : Int) + 1) = (X : Int) - 1 + ((ka + 1 : Nat) : Int) := by rw [wrap_i64 (by omega) (by omega)]; omega
                      have hnxt : rowB W H l (spS W H l i).1 X ((Y : Int) - 1 + ((kb : Nat) : Int)) (ka + 1) (rowsB W H l (spS W H l i).1 X Y kb ([i])) = bC W H l (spS W H l i).1 ((X : Int) - 1 + ((ka : Nat) : Int), (Y : Int) - 1 + ((kb : Nat) : Int)) (rowB W H l (spS W H l i).1 X ((Y : Int) - 1 + ((kb : Nat) : Int)) ka (rowsB W H l (spS W H l i).1 X Y kb ([i]))) := rfl
                      rw [hS] at hnxt
                      by_cases hp : pixB W H ((X : Int) - 1 + ((ka : Nat) : Int)) ((Y : Int) - 1 + ((kb : Nat) : Int))
                      · rw [decide_eq_true hp] at hpx
                        have hp' := hp
                        obtain ⟨p1, p2, p3, p4⟩ := hp'
                        obtain ⟨A, hA⟩ := Int.eq_ofNat_of_zero_le p1
                        obtain ⟨B', hB⟩ := Int.eq_ofNat_of_zero_le p3
                        have hAW : A < W := by omega
                        have hBH : B' < H := by omega
                        have hJ := place_lt hAW hBH
                        have hBW : B' * W ≤ 2304 := Nat.mul_le_mul (show B' ≤ 48 by omega) h2
                        have e1 : ((B' : Int) * (W : Int) + (A : Int)) = ((B' * W + A : Nat) : Int) := by push_cast; rfl
                        have hplc : placeOf W H ((X : Int) - 1 + ((ka : Nat) : Int), (Y : Int) - 1 + ((kb : Nat) : Int)) = some (B' * W + A) := by
                          unfold placeOf
                          rw [if_pos ⟨p1, p2, p3, p4⟩]
                          dsimp only
                          rw [hA, hB, e1, Int.toNat_natCast]
                        have hpv : pixV W H l ((X : Int) - 1 + ((ka : Nat) : Int)) ((Y : Int) - 1 + ((kb : Nat) : Int)) = ((l.getD (B' * W + A) 0).toNat : Int) := by
                          unfold pixV
                          rw [if_pos hp, hA, hB, e1, Int.toNat_natCast]
                        simp only [bC, hplc] at hnxt
                        have hbm : IntKind.i64.wrap (((Y : Int) - 1 + ((kb : Nat) : Int)) * (W : Int)) = ((B' * W : Nat) : Int) := by
                          rw [hB, show (B' : Int) * (W : Int) = ((B' * W : Nat) : Int) by push_cast; rfl]
                          exact wrap_i64 (by omega) (by omega)
                        have hba : IntKind.i64.wrap (((B' * W : Nat) : Int) + ((X : Int) - 1 + ((ka : Nat) : Int))) = ((B' * W + A : Nat) : Int) := by
                          rw [hA, wrap_i64 (by omega) (by omega)]; omega
                        have hJl : B' * W + A < l.length := by rw [hl]; exact hJ
                        have hco2 := gI_cell0 (l := lbA (csF W H l i ++ [(i, (i :: s2 :: S2))]) l.length) (i := B' * W + A) (by rw [lbA_length]; exact hJl)
                        rw [lbA_at hJl] at hco2
                        have hlv := lab_vis hcp (v := (i :: s2 :: S2)) (j := B' * W + A)
                        have hlen2 : (ofI (lbA (csF W H l i ++ [(i, (i :: s2 :: S2))]) l.length)).length = l.length * 1 := by rw [ofI_length, lbA_length, Nat.mul_one]
                        by_cases hdk2 : dark l (B' * W + A) = true
                        · have hpp : 0 < pixV W H l ((X : Int) - 1 + ((ka : Nat) : Int)) ((Y : Int) - 1 + ((kb : Nat) : Int)) := by
                            rw [hpv]
                            have := hdk2
                            unfold dark at this
                            simp only [ne_eq, decide_eq_true_eq] at this
                            have : (l.getD (B' * W + A) 0).toNat ≠ 0 := fun h0 => this (UInt8.toNat_inj.1 (by rw [h0]; rfl))
                            omega
                          clear hpv
                          generalize pixV W H l ((X : Int) - 1 + ((ka : Nat) : Int)) ((Y : Int) - 1 + ((kb : Nat) : Int)) = px at *
                          by_cases hvv : B' * W + A ∈ (spS W H l i).1 ++ (i :: s2 :: S2)
                          · rw [if_neg (by intro h; simp only [Bool.and_eq_true, Bool.not_eq_true', List.contains_eq_mem, decide_eq_false_iff_not] at h; exact h.2 hvv)] at hnxt
                            have hge : 0 ≤ labG (csF W H l i ++ [(i, (i :: s2 :: S2))]) 0 (B' * W + A) := by
                              have : ¬ labG (csF W H l i ++ [(i, (i :: s2 :: S2))]) 0 (B' * W + A) < 0 := fun h => hlv.1 h hvv
                              omega
                            generalize labG (csF W H l i ++ [(i, (i :: s2 :: S2))]) 0 (B' * W + A) = lb at *
                            repeat' (first
                              | (conv => whnf)
                                first
                                | refine Bnd.eq hqd ?_
                                | refine Bnd.eq hqm ?_
                                | refine Bnd.eq hbm ?_
                                | refine Bnd.eq hba ?_
                                | refine Bnd.eq hX1 ?_
                                | refine Br.t ?_
                                | refine Br.f ?_
                                | (refine Br.decT ?_ ?_; (focus first | assumption | omega))
                                | (refine Br.decF ?_ ?_; (focus first | assumption | omega))
                                | refine Br.dec (fun _ => ?_) (fun _ => ?_)
                                | refine Br.not ?_
                                | refine Br.and ?_
                                | refine Br.or ?_
                                | (refine Bnd.i64 ?_ ?_ ?_; (focus omega); (focus omega))
                                | refine call_fun rfl rfl hpx (.inl rfl) ?_
                                | refine Get.mk _ hco2 ?_
                                | refine Req.mk hlen2 ?_
                                | refine Req.mk hW0 ?_
                                | (refine Idx.nat ?_ ?_; (focus omega))
                                | refine Idx.nat (le_big (by omega)) ?_
                                | (refine Idx.int ?_ ?_ ?_; (focus omega); (focus omega))
                                | (refine Idx.int ?_ ?_ ?_; (focus decide); (focus decide))
                                | refine Ifz.zero ?_
                                | (refine Ifz.pos ?_ ?_; (focus omega))
                                | refine Get.mk _ rfl ?_
                                | refine Leaves.of ?_
                                | refine Ends.of ?_
                                | refine Vw.bool ?_
                                | refine Vw.int ?_
                                | refine Vw.nil
                                | refine Vw.sl
                                | refine Vw.tup ?_
                                | refine Vw.agg ?_
                                | refine VwL.cons ?_ ?_
                                | refine VwL.nil
                                | refine LeavesF.of ?_
                                | refine VwF.bool ?_
                                | refine VwF.int ?_
                                | refine VwF.nil
                                | refine VwF.sl
                                | refine VwF.tup ?_
                                | refine VwF.agg ?_
                                | refine VwLF.cons ?_ ?_
                                | refine VwLF.nil
                                | (refine Req.mk ?_ ?_; (focus first | rfl | decide | exact ⟨rfl, rfl⟩ | exact ⟨rfl, by decide⟩ | exact (fun _ => rfl) | exact (fun h => nomatch h) | (simp; done) | omega | (simp [big]; done) | exact le_big (by omega) | exact lt_big (by omega))))
                            all_goals first | exact NextP.mk (ka + 1) (by omega) (by omega) (by rw [hnxt]; rfl) | (exfalso; omega)
                          · rw [if_pos (by simp only [Bool.and_eq_true, Bool.not_eq_true', List.contains_eq_mem, decide_eq_false_iff_not]; exact ⟨hdk2, hvv⟩)] at hnxt
                            have hlt0 := hlv.2 hvv
                            have hput2 := ofI_put0 (l := lbA (csF W H l i ++ [(i, (i :: s2 :: S2))]) l.length) (i := B' * W + A) (v := ((csF W H l i).length : Int)) (by rw [lbA_length]; exact hJl)
                            rw [lbA_mark hlt0] at hput2
                            have hgo : 0 + (B' * W + A) * 1 + 1 ≤ (ofI (lbA (csF W H l i ++ [(i, (i :: s2 :: S2))]) l.length)).length := by rw [hlen2]; omega
                            have hqa : (ofN (s2 :: S2)).length = S2.length + 1 := ofN_length _; have hqb : 0 + (S2.length + 1 - 0) * 1 = S2.length + 1 ∧ ((ofN (s2 :: S2)).length + 1) * (8 + 1) < big := ⟨by omega, by rw [hqa]; simp only [big]; omega⟩; have hk2 : S2.length + 1 + 1 - 0 = S2.length + 1 - 0 + 1 := by omega
                            generalize labG (csF W H l i ++ [(i, (i :: s2 :: S2))]) 0 (B' * W + A) = lb at *
                            repeat' (first
                              | (conv => whnf)
                                first
                                | refine Bnd.eq hqd ?_
                                | refine Bnd.eq hqm ?_
                                | refine Bnd.eq hbm ?_
                                | refine Bnd.eq hba ?_
                                | refine Bnd.eq hX1 ?_
                                | refine Br.t ?_
                                | refine Br.f ?_
                                | (refine Br.decT ?_ ?_; (focus first | assumption | omega))
                                | (refine Br.decF ?_ ?_; (focus first | assumption | omega))
                                | refine Br.dec (fun _ => ?_) (fun _ => ?_)
                                | refine Br.not ?_
                                | refine Br.and ?_
                                | refine Br.or ?_
                                | (refine Bnd.i64 ?_ ?_ ?_; (focus omega); (focus omega))
                                | refine call_fun rfl rfl hpx (.inl rfl) ?_
                                | refine Get.mk _ hco2 ?_
                                | refine fVe hput2 ?_
                                | refine Req.mk hlen2 ?_
                                | refine Req.mk ⟨hlen2, hgo⟩ ?_
                                | refine Req.mk hqa ?_
                                | refine Req.mk hqb ?_
                                | refine Req.mk hW0 ?_
                                | (refine Idx.nat ?_ ?_; (focus omega))
                                | refine Idx.nat (le_big (by omega)) ?_
                                | (refine Idx.int ?_ ?_ ?_; (focus omega); (focus omega))
                                | (refine Idx.int ?_ ?_ ?_; (focus decide); (focus decide))
                                | refine Ifz.zero ?_
                                | (refine Ifz.pos ?_ ?_; (focus omega))
                                | refine Get.mk _ rfl ?_
                                | refine Leaves.of ?_
                                | refine Ends.of ?_
                                | refine Vw.bool ?_
                                | refine Vw.int ?_
                                | refine Vw.nil
                                | refine Vw.sl
                                | refine Vw.tup ?_
                                | refine Vw.agg ?_
                                | refine VwL.cons ?_ ?_
                                | refine VwL.nil
                                | refine LeavesF.of ?_
                                | refine VwF.bool ?_
                                | refine VwF.int ?_
                                | refine VwF.nil
                                | refine VwF.sl
                                | refine VwF.tup ?_
                                | refine VwF.agg ?_
                                | refine VwLF.cons ?_ ?_
                                | refine VwLF.nil
                                | (refine Req.mk ?_ ?_; (focus first | rfl | decide | exact ⟨rfl, rfl⟩ | exact ⟨rfl, by decide⟩ | exact (fun _ => rfl) | exact (fun h => nomatch h) | (simp; done) | omega | (simp [big]; done) | exact le_big (by omega) | exact lt_big (by omega))))
                            all_goals first | exact NextP.mk (ka + 1) (by omega) (by omega) (by rw [hnxt]; rw [show (i :: s2 :: S2) ++ [B' * W + A] = i :: s2 :: (S2 ++ [B' * W + A]) from rfl, quV_two, quH_two, hk2]; rfl) | (exfalso; omega)
                        · have hpz : pixV W H l ((X : Int) - 1 + ((ka : Nat) : Int)) ((Y : Int) - 1 + ((kb : Nat) : Int)) = 0 := by
                            rw [hpv]
                            have := hdk2
                            unfold dark at this
                            simp only [ne_eq, decide_eq_true_eq, Classical.not_not] at this
                            rw [this]; rfl
                          rw [hpz] at hpx
                          rw [if_neg (by intro h; simp only [Bool.and_eq_true] at h; exact hdk2 h.1)] at hnxt
                          repeat' (first
                            | (conv => whnf)
                              first
                              | refine Bnd.eq hqd ?_
                              | refine Bnd.eq hqm ?_
                              | refine Bnd.eq hX1 ?_
                              | refine Br.t ?_
                              | refine Br.f ?_
                              | (refine Br.decT ?_ ?_; (focus first | assumption | omega))
                              | (refine Br.decF ?_ ?_; (focus first | assumption | omega))
                              | refine Br.dec (fun _ => ?_) (fun _ => ?_)
                              | refine Br.not ?_
                              | refine Br.and ?_
                              | refine Br.or ?_
                              | (refine Bnd.i64 ?_ ?_ ?_; (focus omega); (focus omega))
                              | refine call_fun rfl rfl hpx (.inl rfl) ?_
                              | refine Req.mk hW0 ?_
                              | (refine Idx.nat ?_ ?_; (focus omega))
                              | refine Idx.nat (le_big (by omega)) ?_
                              | (refine Idx.int ?_ ?_ ?_; (focus omega); (focus omega))
                              | (refine Idx.int ?_ ?_ ?_; (focus decide); (focus decide))
                              | refine Ifz.zero ?_
                              | (refine Ifz.pos ?_ ?_; (focus omega))
                              | refine Get.mk _ rfl ?_
                              | refine Leaves.of ?_
                              | refine Ends.of ?_
                              | refine Vw.bool ?_
                              | refine Vw.int ?_
                              | refine Vw.nil
                              | refine Vw.sl
                              | refine Vw.tup ?_
                              | refine Vw.agg ?_
                              | refine VwL.cons ?_ ?_
                              | refine VwL.nil
                              | refine LeavesF.of ?_
                              | refine VwF.bool ?_
                              | refine VwF.int ?_
                              | refine VwF.nil
                              | refine VwF.sl
                              | refine VwF.tup ?_
                              | refine VwF.agg ?_
                              | refine VwLF.cons ?_ ?_
                              | refine VwLF.nil
                              | (refine Req.mk ?_ ?_; (focus first | rfl | decide | exact ⟨rfl, rfl⟩ | exact ⟨rfl, by decide⟩ | exact (fun _ => rfl) | exact (fun h => nomatch h) | (simp; done) | omega | (simp [big]; done) | exact le_big (by omega) | exact lt_big (by omega))))
                          all_goals first | exact NextP.mk (ka + 1) (by omega) (by omega) (by rw [hnxt]; rfl) | (exfalso; omega)
                      · rw [decide_eq_false hp] at hpx
                        have hplc : placeOf W H ((X : Int) - 1 + ((ka : Nat) : Int), (Y : Int) - 1 + ((kb : Nat) : Int)) = none := by
                          unfold placeOf
                          rw [if_neg (fun h => hp ⟨h.1, h.2.1, h.2.2.1, h.2.2.2⟩)]
                        simp only [bC, hplc] at hnxt
                        generalize pixV W H l ((X : Int) - 1 + ((ka : Nat) : Int)) ((Y : Int) - 1 + ((kb : Nat) : Int)) = px at *
                        repeat' (first
                          | (conv => whnf)
                            first
                            | refine Bnd.eq hqd ?_
                            | refine Bnd.eq hqm ?_
                            | refine Bnd.eq hX1 ?_
                            | refine Br.t ?_
                            | refine Br.f ?_
                            | (refine Br.decT ?_ ?_; (focus first | assumption | omega))
                            | (refine Br.decF ?_ ?_; (focus first | assumption | omega))
                            | refine Br.dec (fun _ => ?_) (fun _ => ?_)
                            | refine Br.not ?_
                            | refine Br.and ?_
                            | refine Br.or ?_
                            | (refine Bnd.i64 ?_ ?_ ?_; (focus omega); (focus omega))
                            | refine call_fun rfl rfl hpx (.inl rfl) ?_
                            | refine Req.mk hW0 ?_
                            | (refine Idx.nat ?_ ?_; (focus omega))
                            | refine Idx.nat (le_big (by omega)) ?_
                            | (refine Idx.int ?_ ?_ ?_; (focus omega); (focus omega))
                            | (refine Idx.int ?_ ?_ ?_; (focus decide); (focus decide))
                            | refine Ifz.zero ?_
                            | (refine Ifz.pos ?_ ?_; (focus omega))
                            | refine Get.mk _ rfl ?_
                            | refine Leaves.of ?_
                            | refine Ends.of ?_
                            | refine Vw.bool ?_
                            | refine Vw.int ?_
                            | refine Vw.nil
                            | refine Vw.sl
                            | refine Vw.tup ?_
                            | refine Vw.agg ?_
                            | refine VwL.cons ?_ ?_
                            | refine VwL.nil
                            | refine LeavesF.of ?_
                            | refine VwF.bool ?_
                            | refine VwF.int ?_
                            | refine VwF.nil
                            | refine VwF.sl
                            | refine VwF.tup ?_
                            | refine VwF.agg ?_
                            | refine VwLF.cons ?_ ?_
                            | refine VwLF.nil
                            | (refine Req.mk ?_ ?_; (focus first | rfl | decide | exact ⟨rfl, rfl⟩ | exact ⟨rfl, by decide⟩ | exact (fun _ => rfl) | exact (fun h => nomatch h) | (simp; done) | omega | (simp [big]; done) | exact le_big (by omega) | exact lt_big (by omega))))
                        all_goals first | exact NextP.mk (ka + 1) (by omega) (by omega) (by rw [hnxt]; rfl) | (exfalso; omega)
                  · obtain rfl : ka = 3 := by omega
                    have hro : rowsB W H l (spS W H l i).1 X Y (kb + 1) ([i]) = i :: S := hS
                    cases S with
                    | nil =>
                      skip
                      repeat' (first
                        | (conv => whnf)
                          first
                          | refine Bnd.eq hqd ?_
                          | refine Bnd.eq hqm ?_
                          | refine Bnd.eq hY1 ?_
                          | refine Br.t ?_
                          | refine Br.f ?_
                          | (refine Br.decT ?_ ?_; (focus first | assumption | omega))
                          | (refine Br.decF ?_ ?_; (focus first | assumption | omega))
                          | refine Br.dec (fun _ => ?_) (fun _ => ?_)
                          | refine Br.not ?_
                          | refine Br.and ?_
                          | refine Br.or ?_
                          | (refine Bnd.i64 ?_ ?_ ?_; (focus omega); (focus omega))
                          | refine Req.mk hW0 ?_
                          | (refine Idx.nat ?_ ?_; (focus omega))
                          | refine Idx.nat (le_big (by omega)) ?_
                          | (refine Idx.int ?_ ?_ ?_; (focus omega); (focus omega))
                          | (refine Idx.int ?_ ?_ ?_; (focus decide); (focus decide))
                          | refine Ifz.zero ?_
                          | (refine Ifz.pos ?_ ?_; (focus omega))
                          | refine Get.mk _ rfl ?_
                          | refine Leaves.of ?_
                          | refine Ends.of ?_
                          | refine Vw.bool ?_
                          | refine Vw.int ?_
                          | refine Vw.nil
                          | refine Vw.sl
                          | refine Vw.tup ?_
                          | refine Vw.agg ?_
                          | refine VwL.cons ?_ ?_
                          | refine VwL.nil
                          | refine LeavesF.of ?_
                          | refine VwF.bool ?_
                          | refine VwF.int ?_
                          | refine VwF.nil
                          | refine VwF.sl
                          | refine VwF.tup ?_
                          | refine VwF.agg ?_
                          | refine VwLF.cons ?_ ?_
                          | refine VwLF.nil
                          | (refine Req.mk ?_ ?_; (focus first | rfl | decide | exact ⟨rfl, rfl⟩ | exact ⟨rfl, by decide⟩ | exact (fun _ => rfl) | exact (fun h => nomatch h) | (simp; done) | omega | (simp [big]; done) | exact le_big (by omega) | exact lt_big (by omega))))
                      all_goals first | exact NextP.mk (kb + 1) (by omega) (by omega) (by rw [hro]; rfl) | (exfalso; omega)
                    | cons s2 S2 =>
                      repeat' (first
                        | (conv => whnf)
                          first
                          | refine Bnd.eq hqd ?_
                          | refine Bnd.eq hqm ?_
                          | refine Bnd.eq hY1 ?_
                          | refine Br.t ?_
                          | refine Br.f ?_
                          | (refine Br.decT ?_ ?_; (focus first | assumption | omega))
                          | (refine Br.decF ?_ ?_; (focus first | assumption | omega))
                          | refine Br.dec (fun _ => ?_) (fun _ => ?_)
                          | refine Br.not ?_
                          | refine Br.and ?_
                          | refine Br.or ?_
                          | (refine Bnd.i64 ?_ ?_ ?_; (focus omega); (focus omega))
                          | refine Req.mk hW0 ?_
                          | (refine Idx.nat ?_ ?_; (focus omega))
                          | refine Idx.nat (le_big (by omega)) ?_
                          | (refine Idx.int ?_ ?_ ?_; (focus omega); (focus omega))
                          | (refine Idx.int ?_ ?_ ?_; (focus decide); (focus decide))
                          | refine Ifz.zero ?_
                          | (refine Ifz.pos ?_ ?_; (focus omega))
                          | refine Get.mk _ rfl ?_
                          | refine Leaves.of ?_
                          | refine Ends.of ?_
                          | refine Vw.bool ?_
                          | refine Vw.int ?_
                          | refine Vw.nil
                          | refine Vw.sl
                          | refine Vw.tup ?_
                          | refine Vw.agg ?_
                          | refine VwL.cons ?_ ?_
                          | refine VwL.nil
                          | refine LeavesF.of ?_
                          | refine VwF.bool ?_
                          | refine VwF.int ?_
                          | refine VwF.nil
                          | refine VwF.sl
                          | refine VwF.tup ?_
                          | refine VwF.agg ?_
                          | refine VwLF.cons ?_ ?_
                          | refine VwLF.nil
                          | (refine Req.mk ?_ ?_; (focus first | rfl | decide | exact ⟨rfl, rfl⟩ | exact ⟨rfl, by decide⟩ | exact (fun _ => rfl) | exact (fun h => nomatch h) | (simp; done) | omega | (simp [big]; done) | exact le_big (by omega) | exact lt_big (by omega))))
                      all_goals first | exact NextP.mk (kb + 1) (by omega) (by omega) (by rw [hro]; rfl) | (exfalso; omega)
          · obtain rfl : kb = 3 := by omega
            cases hR : rowsB W H l (spS W H l i).1 X Y 3 ([i]) with
            | nil => rw [hR] at et; simp at et
            | cons i2 R =>
              obtain rfl : i = i2 := by rw [hR] at et; exact (List.cons.inj et).1.symm
              rw [hR] at hQn hfn
              cases R with
              | nil =>
                skip
                repeat' (first
                  | (conv => whnf)
                    first
                    | refine Bnd.eq hqd ?_
                    | refine Bnd.eq hqm ?_
                    | refine Br.t ?_
                    | refine Br.f ?_
                    | (refine Br.decT ?_ ?_; (focus first | assumption | omega))
                    | (refine Br.decF ?_ ?_; (focus first | assumption | omega))
                    | refine Br.dec (fun _ => ?_) (fun _ => ?_)
                    | refine Br.not ?_
                    | refine Br.and ?_
                    | refine Br.or ?_
                    | (refine Bnd.i64 ?_ ?_ ?_; (focus omega); (focus omega))
                    | refine Req.mk hW0 ?_
                    | (refine Idx.nat ?_ ?_; (focus omega))
                    | refine Idx.nat (le_big (by omega)) ?_
                    | (refine Idx.int ?_ ?_ ?_; (focus omega); (focus omega))
                    | (refine Idx.int ?_ ?_ ?_; (focus decide); (focus decide))
                    | refine Ifz.zero ?_
                    | (refine Ifz.pos ?_ ?_; (focus omega))
                    | refine Get.mk _ rfl ?_
                    | refine Leaves.of ?_
                    | refine Ends.of ?_
                    | refine Vw.bool ?_
                    | refine Vw.int ?_
                    | refine Vw.nil
                    | refine Vw.sl
                    | refine Vw.tup ?_
                    | refine Vw.agg ?_
                    | refine VwL.cons ?_ ?_
                    | refine VwL.nil
                    | refine LeavesF.of ?_
                    | refine VwF.bool ?_
                    | refine VwF.int ?_
                    | refine VwF.nil
                    | refine VwF.sl
                    | refine VwF.tup ?_
                    | refine VwF.agg ?_
                    | refine VwLF.cons ?_ ?_
                    | refine VwLF.nil
                    | (refine Req.mk ?_ ?_; (focus first | rfl | decide | exact ⟨rfl, rfl⟩ | exact ⟨rfl, by decide⟩ | exact (fun _ => rfl) | exact (fun h => nomatch h) | (simp; done) | omega | (simp [big]; done) | exact le_big (by omega) | exact lt_big (by omega))))
                all_goals first | exact NextP.mk (0 + 1, [i]) ⟨hQn, hfn, ⟨[], rfl⟩, fun h => absurd h (by simp)⟩ (by dsimp only; omega) rfl | (exfalso; omega)
              | cons s1 S1 =>
                repeat' (first
                  | (conv => whnf)
                    first
                    | refine Bnd.eq hqd ?_
                    | refine Bnd.eq hqm ?_
                    | refine Br.t ?_
                    | refine Br.f ?_
                    | (refine Br.decT ?_ ?_; (focus first | assumption | omega))
                    | (refine Br.decF ?_ ?_; (focus first | assumption | omega))
                    | refine Br.dec (fun _ => ?_) (fun _ => ?_)
                    | refine Br.not ?_
                    | refine Br.and ?_
                    | refine Br.or ?_
                    | (refine Bnd.i64 ?_ ?_ ?_; (focus omega); (focus omega))
                    | refine Req.mk hW0 ?_
                    | (refine Idx.nat ?_ ?_; (focus omega))
                    | refine Idx.nat (le_big (by omega)) ?_
                    | (refine Idx.int ?_ ?_ ?_; (focus omega); (focus omega))
                    | (refine Idx.int ?_ ?_ ?_; (focus decide); (focus decide))
                    | refine Ifz.zero ?_
                    | (refine Ifz.pos ?_ ?_; (focus omega))
                    | refine Get.mk _ rfl ?_
                    | refine Leaves.of ?_
                    | refine Ends.of ?_
                    | refine Vw.bool ?_
                    | refine Vw.int ?_
                    | refine Vw.nil
                    | refine Vw.sl
                    | refine Vw.tup ?_
                    | refine Vw.agg ?_
                    | refine VwL.cons ?_ ?_
                    | refine VwL.nil
                    | refine LeavesF.of ?_
                    | refine VwF.bool ?_
                    | refine VwF.int ?_
                    | refine VwF.nil
                    | refine VwF.sl
                    | refine VwF.tup ?_
                    | refine VwF.agg ?_
                    | refine VwLF.cons ?_ ?_
                    | refine VwLF.nil
                    | (refine Req.mk ?_ ?_; (focus first | rfl | decide | exact ⟨rfl, rfl⟩ | exact ⟨rfl, by decide⟩ | exact (fun _ => rfl) | exact (fun h => nomatch h) | (simp; done) | omega | (simp [big]; done) | exact le_big (by omega) | exact lt_big (by omega))))
                all_goals first | exact NextP.mk (0 + 1, i :: s1 :: S1) ⟨hQn, hfn, ⟨s1 :: S1, rfl⟩, fun h => absurd h (by simp)⟩ (by dsimp only; omega) rfl | (exfalso; omega)
        | succ k =>
          cases r with
          | nil =>
            have hk9 : k = 0 := by simp only [List.length_cons, List.length_nil] at hkl; omega
            subst hk9
            have hfe : fin = [i] := hf.symm.trans (bqF_end (by simp) _)
            have hlE : (csF W H l (i + 1)).length = (csF W H l i).length + 1 := by rw [hnx, List.length_append]; rfl
            rw [hfe] at hnx
            repeat' (first
              | (conv => whnf)
                first
                | refine Br.t ?_
                | refine Br.f ?_
                | (refine Br.decT ?_ ?_; (focus first | assumption | omega))
                | (refine Br.decF ?_ ?_; (focus first | assumption | omega))
                | refine Br.dec (fun _ => ?_) (fun _ => ?_)
                | refine Br.not ?_
                | refine Br.and ?_
                | refine Br.or ?_
                | (refine Bnd.i64 ?_ ?_ ?_; (focus omega); (focus omega))
                | (refine Idx.nat ?_ ?_; (focus omega))
                | refine Idx.nat (le_big (by omega)) ?_
                | (refine Idx.int ?_ ?_ ?_; (focus omega); (focus omega))
                | (refine Idx.int ?_ ?_ ?_; (focus decide); (focus decide))
                | refine Ifz.zero ?_
                | (refine Ifz.pos ?_ ?_; (focus omega))
                | refine Get.mk _ rfl ?_
                | refine Leaves.of ?_
                | refine Ends.of ?_
                | refine Vw.bool ?_
                | refine Vw.int ?_
                | refine Vw.nil
                | refine Vw.sl
                | refine Vw.tup ?_
                | refine Vw.agg ?_
                | refine VwL.cons ?_ ?_
                | refine VwL.nil
                | refine LeavesF.of ?_
                | refine VwF.bool ?_
                | refine VwF.int ?_
                | refine VwF.nil
                | refine VwF.sl
                | refine VwF.tup ?_
                | refine VwF.agg ?_
                | refine VwLF.cons ?_ ?_
                | refine VwLF.nil
                | (refine Req.mk ?_ ?_; (focus first | rfl | decide | exact ⟨rfl, rfl⟩ | exact ⟨rfl, by decide⟩ | exact (fun _ => rfl) | exact (fun h => nomatch h) | (simp; done) | omega | (simp [big]; done) | exact le_big (by omega) | exact lt_big (by omega))))
            all_goals first | exact NextP.mk (i + 1) (by omega) (by omega) (by rw [hlE, hnx]; rfl) | (exfalso; omega)
          | cons q r =>
            have hlE : (csF W H l (i + 1)).length = (csF W H l i).length + 1 := by rw [hnx, List.length_append]; rfl
            have hvl2 : r.length + 2 ≤ W * H := hvl
            have hkl2 : k + 1 ≤ r.length + 2 := hkl
            by_cases hkn : k + 1 < (i :: q :: r).length
            · have hkr : k < r.length + 1 := by simp only [List.length_cons] at hkn; omega
              have hQn := hQ.rows hl (by omega) hkn
              have hfn : bqF W H l (spS W H l i).1 (2305 - (k + 1 + 1)) (k + 1 + 1) (rowsB W H l (spS W H l i).1 (((i :: q :: r).getD (k + 1) 0 % W : Nat) : Int) (((i :: q :: r).getD (k + 1) 0 / W : Nat) : Int) 3 (i :: q :: r)) = fin := by
                rw [← hf, show 2305 - (k + 1) = (2305 - (k + 1 + 1)) + 1 by omega]
                exact (bqF_step hkn).symm
              have hge : (i :: q :: r).getD (k + 1) 0 = (q :: r)[k]'(by simpa using hkr) := by
                rw [List.getD_eq_getElem?_getD, List.getElem?_eq_getElem hkn]; rfl
              have hqc := ofN_cell (l := q :: r) (k := k) (by simpa using hkr)
              have hPlt : (q :: r)[k]'(by simpa using hkr) < W * H := hl ▸ dark_lt (hQ.new _ (by simp)).1
              have hqg : (ofN (q :: r)).length = r.length + 1 := ofN_length _
              rw [hge] at hQn hfn
              generalize (q :: r)[k]'(by simpa using hkr) = p at *
              have hqc : cellAt (ofN (q :: r)) (k + 0 * 1) = some (.int .i64 ((p : Nat) : Int)) := hqc
              have hX : p % W < W := Nat.mod_lt _ (by omega)
              have hY : p / W < H := (Nat.div_lt_iff_lt_mul (by omega)).2 (by rw [Nat.mul_comm]; exact hPlt)
              have hqe : ((p : Nat) : Int).tdiv (W : Int) = ((p / W : Nat) : Int) := (Int.ofNat_tdiv _ _).symm
              have hqm : ((p : Nat) : Int).tmod (W : Int) = ((p % W : Nat) : Int) := Int.ofNat_tmod _ _
              generalize p % W = X at *
              generalize p / W = Y at *
              have hqd : IntKind.i64.wrap (((p : Nat) : Int).tdiv (W : Int)) = (Y : Int) := by rw [hqe]; exact wrap_i64 (by omega) (by omega)
              have hY0 : IntKind.i64.wrap ((Y : Int) - 1) = (Y : Int) - 1 + ((0 : Nat) : Int) := by rw [wrap_i64 (by omega) (by omega)]; omega
              have hX0 : IntKind.i64.wrap ((X : Int) - 1) = (X : Int) - 1 + ((0 : Nat) : Int) := by rw [wrap_i64 (by omega) (by omega)]; omega
              repeat' (first
                | (conv => whnf)
                  first
                  | refine Bnd.eq hqd ?_
                  | refine Bnd.eq hqm ?_
                  | refine Bnd.eq hY0 ?_
                  | refine Br.t ?_
                  | refine Br.f ?_
                  | (refine Br.decT ?_ ?_; (focus first | assumption | omega))
                  | (refine Br.decF ?_ ?_; (focus first | assumption | omega))
                  | refine Br.dec (fun _ => ?_) (fun _ => ?_)
                  | refine Br.not ?_
                  | refine Br.and ?_
                  | refine Br.or ?_
                  | (refine Bnd.i64 ?_ ?_ ?_; (focus omega); (focus omega))
                  | refine Get.mk _ hqc ?_
                  | refine Req.mk hqg ?_
                  | refine Idx.cast0 ?_
                  | refine Req.mk hW0 ?_
                  | (refine Idx.nat ?_ ?_; (focus omega))
                  | refine Idx.nat (le_big (by omega)) ?_
                  | (refine Idx.int ?_ ?_ ?_; (focus omega); (focus omega))
                  | (refine Idx.int ?_ ?_ ?_; (focus decide); (focus decide))
                  | refine Ifz.zero ?_
                  | (refine Ifz.pos ?_ ?_; (focus omega))
                  | refine Get.mk _ rfl ?_
                  | refine Leaves.of ?_
                  | refine Ends.of ?_
                  | refine Vw.bool ?_
                  | refine Vw.int ?_
                  | refine Vw.nil
                  | refine Vw.sl
                  | refine Vw.tup ?_
                  | refine Vw.agg ?_
                  | refine VwL.cons ?_ ?_
                  | refine VwL.nil
                  | refine LeavesF.of ?_
                  | refine VwF.bool ?_
                  | refine VwF.int ?_
                  | refine VwF.nil
                  | refine VwF.sl
                  | refine VwF.tup ?_
                  | refine VwF.agg ?_
                  | refine VwLF.cons ?_ ?_
                  | refine VwLF.nil
                  | (refine Req.mk ?_ ?_; (focus first | rfl | decide | exact ⟨rfl, rfl⟩ | exact ⟨rfl, by decide⟩ | exact (fun _ => rfl) | exact (fun h => nomatch h) | (simp; done) | omega | (simp [big]; done) | exact le_big (by omega) | exact lt_big (by omega))))
              all_goals try (exfalso; omega)
              refine LoopP.by (fun kb : Nat => kb ≤ 3) (fun kb => [(7, quV (k + 1) (rowsB W H l (spS W H l i).1 X Y kb (i :: q :: r))), (9, .int .i64 ((Y : Int) - 1 + ((kb : Nat) : Int)))]) (fun kb => quH (.blk [.int .i64 W, .int .i64 H, .sl c l.length (ofBytes l)] false) (csF W H l i) l.length i (rowsB W H l (spS W H l i).1 X Y kb (i :: q :: r))) (fun kb => 3 - kb) 0 (Nat.zero_le _) rfl ?_
              intro kb hkb
              obtain ⟨tt, et⟩ := rowsB_ext (W := W) (H := H) (l := l) (vis := (spS W H l i).1) (X : Int) (Y : Int) (i :: q :: r) kb
              by_cases hkb3 : kb < 3
              · have hY1 : IntKind.i64.wrap ((Y : Int) - 1 + ((kb : Nat) : Int) + 1) = (Y : Int) - 1 + ((kb + 1 : Nat) : Int) := by rw [wrap_i64 (by omega) (by omega)]; omega
                cases hR : rowsB W H l (spS W H l i).1 X Y kb (i :: q :: r) with
                | nil => rw [hR] at et; simp at et
                | cons i2 R =>
                  obtain rfl : i = i2 := by rw [hR] at et; exact (List.cons.inj et).1.symm
                  cases R with
                  | nil =>
                    (exfalso; have e5 := congrArg List.length et; rw [hR, List.length_append] at e5; simp only [List.length_cons, List.length_nil] at e5; omega)
                  | cons s1 S1 =>
                    repeat' (first
                      | (conv => whnf)
                        first
                        | refine Bnd.eq hqd ?_
                        | refine Bnd.eq hqm ?_
                        | refine Bnd.eq hX0 ?_
                        | refine Br.t ?_
                        | refine Br.f ?_
                        | (refine Br.decT ?_ ?_; (focus first | assumption | omega))
                        | (refine Br.decF ?_ ?_; (focus first | assumption | omega))
                        | refine Br.dec (fun _ => ?_) (fun _ => ?_)
                        | refine Br.not ?_
                        | refine Br.and ?_
                        | refine Br.or ?_
                        | (refine Bnd.i64 ?_ ?_ ?_; (focus omega); (focus omega))
                        | refine Req.mk hW0 ?_
                        | (refine Idx.nat ?_ ?_; (focus omega))
                        | refine Idx.nat (le_big (by omega)) ?_
                        | (refine Idx.int ?_ ?_ ?_; (focus omega); (focus omega))
                        | (refine Idx.int ?_ ?_ ?_; (focus decide); (focus decide))
                        | refine Ifz.zero ?_
                        | (refine Ifz.pos ?_ ?_; (focus omega))
                        | refine Get.mk _ rfl ?_
                        | refine Leaves.of ?_
                        | refine Ends.of ?_
                        | refine Vw.bool ?_
                        | refine Vw.int ?_
                        | refine Vw.nil
                        | refine Vw.sl
                        | refine Vw.tup ?_
                        | refine Vw.agg ?_
                        | refine VwL.cons ?_ ?_
                        | refine VwL.nil
                        | refine LeavesF.of ?_
                        | refine VwF.bool ?_
                        | refine VwF.int ?_
                        | refine VwF.nil
                        | refine VwF.sl
                        | refine VwF.tup ?_
                        | refine VwF.agg ?_
                        | refine VwLF.cons ?_ ?_
                        | refine VwLF.nil
                        | (refine Req.mk ?_ ?_; (focus first | rfl | decide | exact ⟨rfl, rfl⟩ | exact ⟨rfl, by decide⟩ | exact (fun _ => rfl) | exact (fun h => nomatch h) | (simp; done) | omega | (simp [big]; done) | exact le_big (by omega) | exact lt_big (by omega))))
                    all_goals try (exfalso; omega)
                    refine LoopP.by (fun ka : Nat => ka ≤ 3) (fun ka => [(7, quV (k + 1) (rowB W H l (spS W H l i).1 X ((Y : Int) - 1 + ((kb : Nat) : Int)) ka (rowsB W H l (spS W H l i).1 X Y kb (i :: q :: r)))), (10, .int .i64 ((X : Int) - 1 + ((ka : Nat) : Int)))]) (fun ka => quH (.blk [.int .i64 W, .int .i64 H, .sl c l.length (ofBytes l)] false) (csF W H l i) l.length i (rowB W H l (spS W H l i).1 X ((Y : Int) - 1 + ((kb : Nat) : Int)) ka (rowsB W H l (spS W H l i).1 X Y kb (i :: q :: r)))) (fun ka => 3 - ka) 0 (Nat.zero_le _) (by simp only [rowB, hR]; rfl) ?_
                    intro ka hka
                    obtain ⟨tt2, et2⟩ := rowB_ext (W := W) (H := H) (l := l) (vis := (spS W H l i).1) (X : Int) ((Y : Int) - 1 + ((kb : Nat) : Int)) (rowsB W H l (spS W H l i).1 X Y kb (i :: q :: r)) ka
                    cases hS : rowB W H l (spS W H l i).1 X ((Y : Int) - 1 + ((kb : Nat) : Int)) ka (rowsB W H l (spS W H l i).1 X Y kb (i :: q :: r)) with
                    | nil => rw [hS, hR] at et2; simp at et2
                    | cons i9 S =>
                      obtain rfl : i = i9 := by rw [hS, hR] at et2; exact (List.cons.inj et2).1.symm
                      by_cases hka3 : ka < 3
                      · cases S with
                        | nil =>
                          (exfalso; have e4 := congrArg List.length et2; have e5 := congrArg List.length et; rw [hS, List.length_append] at e4; rw [List.length_append] at e5; simp only [List.length_cons, List.length_nil] at e4 e5; omega)
                        | cons s2 S2 =>
                          have hKS : (k + 1) ≤ S2.length + 1 := by
                            have e4 := congrArg List.length et2
                            have e5 := congrArg List.length et
                            rw [hS, List.length_append] at e4
                            rw [List.length_append] at e5
                            simp only [List.length_cons] at e4 e5
                            omega
                          have hSb : S2.length ≤ 2400 := by
                            have e6 := rowB_len (W := W) (H := H) (l := l) (vis := (spS W H l i).1) (X : Int) ((Y : Int) - 1 + ((kb : Nat) : Int)) (rowsB W H l (spS W H l i).1 X Y kb (i :: q :: r)) ka
                            have e7 := rowsB_len (W := W) (H := H) (l := l) (vis := (spS W H l i).1) (X : Int) (Y : Int) (i :: q :: r) kb
                            rw [hS] at e6
                            simp only [List.length_cons] at e6 e7 hvl
                            omega
                          have hpx := pixel_any (c := c) (l := l) h2 h4 hl ((X : Int) - 1 + ((ka : Nat) : Int)) ((Y : Int) - 1 + ((kb : Nat) : Int))
                          have hX1 : IntKind.i64.wrap ((X : Int) - 1 + ((ka : Nat) : Int) + 1) = (X : Int) - 1 + ((ka + 1 : Nat) : Int) := by rw [wrap_i64 (by omega) (by omega)]; omega
                          have hnxt : rowB W H l (spS W H l i).1 X ((Y : Int) - 1 + ((kb : Nat) : Int)) (ka + 1) (rowsB W H l (spS W H l i).1 X Y kb (i :: q :: r)) = bC W H l (spS W H l i).1 ((X : Int) - 1 + ((ka : Nat) : Int), (Y : Int) - 1 + ((kb : Nat) : Int)) (rowB W H l (spS W H l i).1 X ((Y : Int) - 1 + ((kb : Nat) : Int)) ka (rowsB W H l (spS W H l i).1 X Y kb (i :: q :: r))) := rfl
                          rw [hS] at hnxt
                          by_cases hp : pixB W H ((X : Int) - 1 + ((ka : Nat) : Int)) ((Y : Int) - 1 + ((kb : Nat) : Int))
                          · rw [decide_eq_true hp] at hpx
                            have hp' := hp
                            obtain ⟨p1, p2, p3, p4⟩ := hp'
                            obtain ⟨A, hA⟩ := Int.eq_ofNat_of_zero_le p1
                            obtain ⟨B', hB⟩ := Int.eq_ofNat_of_zero_le p3
                            have hAW : A < W := by omega
                            have hBH : B' < H := by omega
                            have hJ := place_lt hAW hBH
                            have hBW : B' * W ≤ 2304 := Nat.mul_le_mul (show B' ≤ 48 by omega) h2
                            have e1 : ((B' : Int) * (W : Int) + (A : Int)) = ((B' * W + A : Nat) : Int) := by push_cast; rfl
                            have hplc : placeOf W H ((X : Int) - 1 + ((ka : Nat) : Int), (Y : Int) - 1 + ((kb : Nat) : Int)) = some (B' * W + A) := by
                              unfold placeOf
                              rw [if_pos ⟨p1, p2, p3, p4⟩]
                              dsimp only
                              rw [hA, hB, e1, Int.toNat_natCast]
                            have hpv : pixV W H l ((X : Int) - 1 + ((ka : Nat) : Int)) ((Y : Int) - 1 + ((kb : Nat) : Int)) = ((l.getD (B' * W + A) 0).toNat : Int) := by
                              unfold pixV
                              rw [if_pos hp, hA, hB, e1, Int.toNat_natCast]
                            simp only [bC, hplc] at hnxt
                            have hbm : IntKind.i64.wrap (((Y : Int) - 1 + ((kb : Nat) : Int)) * (W : Int)) = ((B' * W : Nat) : Int) := by
                              rw [hB, show (B' : Int) * (W : Int) = ((B' * W : Nat) : Int) by push_cast; rfl]
                              exact wrap_i64 (by omega) (by omega)
                            have hba : IntKind.i64.wrap (((B' * W : Nat) : Int) + ((X : Int) - 1 + ((ka : Nat) : Int))) = ((B' * W + A : Nat) : Int) := by
                              rw [hA, wrap_i64 (by omega) (by omega)]; omega
                            have hJl : B' * W + A < l.length := by rw [hl]; exact hJ
                            have hco2 := gI_cell0 (l := lbA (csF W H l i ++ [(i, (i :: s2 :: S2))]) l.length) (i := B' * W + A) (by rw [lbA_length]; exact hJl)
                            rw [lbA_at hJl] at hco2
                            have hlv := lab_vis hcp (v := (i :: s2 :: S2)) (j := B' * W + A)
                            have hlen2 : (ofI (lbA (csF W H l i ++ [(i, (i :: s2 :: S2))]) l.length)).length = l.length * 1 := by rw [ofI_length, lbA_length, Nat.mul_one]
                            by_cases hdk2 : dark l (B' * W + A) = true
                            · have hpp : 0 < pixV W H l ((X : Int) - 1 + ((ka : Nat) : Int)) ((Y : Int) - 1 + ((kb : Nat) : Int)) := by
                                rw [hpv]
                                have := hdk2
                                unfold dark at this
                                simp only [ne_eq, decide_eq_true_eq] at this
                                have : (l.getD (B' * W + A) 0).toNat ≠ 0 := fun h0 => this (UInt8.toNat_inj.1 (by rw [h0]; rfl))
                                omega
                              clear hpv
                              generalize pixV W H l ((X : Int) - 1 + ((ka : Nat) : Int)) ((Y : Int) - 1 + ((kb : Nat) : Int)) = px at *
                              by_cases hvv : B' * W + A ∈ (spS W H l i).1 ++ (i :: s2 :: S2)
                              · rw [if_neg (by intro h; simp only [Bool.and_eq_true, Bool.not_eq_true', List.contains_eq_mem, decide_eq_false_iff_not] at h; exact h.2 hvv)] at hnxt
                                have hge : 0 ≤ labG (csF W H l i ++ [(i, (i :: s2 :: S2))]) 0 (B' * W + A) := by
                                  have : ¬ labG (csF W H l i ++ [(i, (i :: s2 :: S2))]) 0 (B' * W + A) < 0 := fun h => hlv.1 h hvv
                                  omega
                                generalize labG (csF W H l i ++ [(i, (i :: s2 :: S2))]) 0 (B' * W + A) = lb at *
                                repeat' (first
                                  | (conv => whnf)
                                    first
                                    | refine Bnd.eq hqd ?_
                                    | refine Bnd.eq hqm ?_
                                    | refine Bnd.eq hbm ?_
                                    | refine Bnd.eq hba ?_
                                    | refine Bnd.eq hX1 ?_
                                    | refine Br.t ?_
                                    | refine Br.f ?_
                                    | (refine Br.decT ?_ ?_; (focus first | assumption | omega))
                                    | (refine Br.decF ?_ ?_; (focus first | assumption | omega))
                                    | refine Br.dec (fun _ => ?_) (fun _ => ?_)
                                    | refine Br.not ?_
                                    | refine Br.and ?_
                                    | refine Br.or ?_
                                    | (refine Bnd.i64 ?_ ?_ ?_; (focus omega); (focus omega))
                                    | refine call_fun rfl rfl hpx (.inl rfl) ?_
                                    | refine Get.mk _ hco2 ?_
                                    | refine Req.mk hlen2 ?_
                                    | refine Req.mk hW0 ?_
                                    | (refine Idx.nat ?_ ?_; (focus omega))
                                    | refine Idx.nat (le_big (by omega)) ?_
                                    | (refine Idx.int ?_ ?_ ?_; (focus omega); (focus omega))
                                    | (refine Idx.int ?_ ?_ ?_; (focus decide); (focus decide))
                                    | refine Ifz.zero ?_
                                    | (refine Ifz.pos ?_ ?_; (focus omega))
                                    | refine Get.mk _ rfl ?_
                                    | refine Leaves.of ?_
                                    | refine Ends.of ?_
                                    | refine Vw.bool ?_
                                    | refine Vw.int ?_
                                    | refine Vw.nil
                                    | refine Vw.sl
                                    | refine Vw.tup ?_
                                    | refine Vw.agg ?_
                                    | refine VwL.cons ?_ ?_
                                    | refine VwL.nil
                                    | refine LeavesF.of ?_
                                    | refine VwF.bool ?_
                                    | refine VwF.int ?_
                                    | refine VwF.nil
                                    | refine VwF.sl
                                    | refine VwF.tup ?_
                                    | refine VwF.agg ?_
                                    | refine VwLF.cons ?_ ?_
                                    | refine VwLF.nil
                                    | (refine Req.mk ?_ ?_; (focus first | rfl | decide | exact ⟨rfl, rfl⟩ | exact ⟨rfl, by decide⟩ | exact (fun _ => rfl) | exact (fun h => nomatch h) | (simp; done) | omega | (simp [big]; done) | exact le_big (by omega) | exact lt_big (by omega))))
                                all_goals first | exact NextP.mk (ka + 1) (by omega) (by omega) (by rw [hnxt]; rfl) | (exfalso; omega)
                              · rw [if_pos (by simp only [Bool.and_eq_true, Bool.not_eq_true', List.contains_eq_mem, decide_eq_false_iff_not]; exact ⟨hdk2, hvv⟩)] at hnxt
                                have hlt0 := hlv.2 hvv
                                have hput2 := ofI_put0 (l := lbA (csF W H l i ++ [(i, (i :: s2 :: S2))]) l.length) (i := B' * W + A) (v := ((csF W H l i).length : Int)) (by rw [lbA_length]; exact hJl)
                                rw [lbA_mark hlt0] at hput2
                                have hgo : 0 + (B' * W + A) * 1 + 1 ≤ (ofI (lbA (csF W H l i ++ [(i, (i :: s2 :: S2))]) l.length)).length := by rw [hlen2]; omega
                                have hqa : (ofN (s2 :: S2)).length = S2.length + 1 := ofN_length _; have hqb : (k + 1) + (S2.length + 1 - (k + 1)) * 1 = S2.length + 1 ∧ ((ofN (s2 :: S2)).length + 1) * (8 + 1) < big := ⟨by omega, by rw [hqa]; simp only [big]; omega⟩; have hk2 : S2.length + 1 + 1 - (k + 1) = S2.length + 1 - (k + 1) + 1 := by omega
                                generalize labG (csF W H l i ++ [(i, (i :: s2 :: S2))]) 0 (B' * W + A) = lb at *
                                repeat' (first
                                  | (conv => whnf)
                                    first
                                    | refine Bnd.eq hqd ?_
                                    | refine Bnd.eq hqm ?_
                                    | refine Bnd.eq hbm ?_
                                    | refine Bnd.eq hba ?_
                                    | refine Bnd.eq hX1 ?_
                                    | refine Br.t ?_
                                    | refine Br.f ?_
                                    | (refine Br.decT ?_ ?_; (focus first | assumption | omega))
                                    | (refine Br.decF ?_ ?_; (focus first | assumption | omega))
                                    | refine Br.dec (fun _ => ?_) (fun _ => ?_)
                                    | refine Br.not ?_
                                    | refine Br.and ?_
                                    | refine Br.or ?_
                                    | (refine Bnd.i64 ?_ ?_ ?_; (focus omega); (focus omega))
                                    | refine call_fun rfl rfl hpx (.inl rfl) ?_
                                    | refine Get.mk _ hco2 ?_
                                    | refine fVe hput2 ?_
                                    | refine Req.mk hlen2 ?_
                                    | refine Req.mk ⟨hlen2, hgo⟩ ?_
                                    | refine Req.mk hqa ?_
                                    | refine Req.mk hqb ?_
                                    | refine Req.mk hW0 ?_
                                    | (refine Idx.nat ?_ ?_; (focus omega))
                                    | refine Idx.nat (le_big (by omega)) ?_
                                    | (refine Idx.int ?_ ?_ ?_; (focus omega); (focus omega))
                                    | (refine Idx.int ?_ ?_ ?_; (focus decide); (focus decide))
                                    | refine Ifz.zero ?_
                                    | (refine Ifz.pos ?_ ?_; (focus omega))
                                    | refine Get.mk _ rfl ?_
                                    | refine Leaves.of ?_
                                    | refine Ends.of ?_
                                    | refine Vw.bool ?_
                                    | refine Vw.int ?_
                                    | refine Vw.nil
                                    | refine Vw.sl
                                    | refine Vw.tup ?_
                                    | refine Vw.agg ?_
                                    | refine VwL.cons ?_ ?_
                                    | refine VwL.nil
                                    | refine LeavesF.of ?_
                                    | refine VwF.bool ?_
                                    | refine VwF.int ?_
                                    | refine VwF.nil
                                    | refine VwF.sl
                                    | refine VwF.tup ?_
                                    | refine VwF.agg ?_
                                    | refine VwLF.cons ?_ ?_
                                    | refine VwLF.nil
                                    | (refine Req.mk ?_ ?_; (focus first | rfl | decide | exact ⟨rfl, rfl⟩ | exact ⟨rfl, by decide⟩ | exact (fun _ => rfl) | exact (fun h => nomatch h) | (simp; done) | omega | (simp [big]; done) | exact le_big (by omega) | exact lt_big (by omega))))
                                all_goals first | exact NextP.mk (ka + 1) (by omega) (by omega) (by rw [hnxt]; rw [show (i :: s2 :: S2) ++ [B' * W + A] = i :: s2 :: (S2 ++ [B' * W + A]) from rfl, quV_two, quH_two, hk2]; rfl) | (exfalso; omega)
                            · have hpz : pixV W H l ((X : Int) - 1 + ((ka : Nat) : Int)) ((Y : Int) - 1 + ((kb : Nat) : Int)) = 0 := by
                                rw [hpv]
                                have := hdk2
                                unfold dark at this
                                simp only [ne_eq, decide_eq_true_eq, Classical.not_not] at this
                                rw [this]; rfl
                              rw [hpz] at hpx
                              rw [if_neg (by intro h; simp only [Bool.and_eq_true] at h; exact hdk2 h.1)] at hnxt
                              repeat' (first
                                | (conv => whnf)
                                  first
                                  | refine Bnd.eq hqd ?_
                                  | refine Bnd.eq hqm ?_
                                  | refine Bnd.eq hX1 ?_
                                  | refine Br.t ?_
                                  | refine Br.f ?_
                                  | (refine Br.decT ?_ ?_; (focus first | assumption | omega))
                                  | (refine Br.decF ?_ ?_; (focus first | assumption | omega))
                                  | refine Br.dec (fun _ => ?_) (fun _ => ?_)
                                  | refine Br.not ?_
                                  | refine Br.and ?_
                                  | refine Br.or ?_
                                  | (refine Bnd.i64 ?_ ?_ ?_; (focus omega); (focus omega))
                                  | refine call_fun rfl rfl hpx (.inl rfl) ?_
                                  | refine Req.mk hW0 ?_
                                  | (refine Idx.nat ?_ ?_; (focus omega))
                                  | refine Idx.nat (le_big (by omega)) ?_
                                  | (refine Idx.int ?_ ?_ ?_; (focus omega); (focus omega))
                                  | (refine Idx.int ?_ ?_ ?_; (focus decide); (focus decide))
                                  | refine Ifz.zero ?_
                                  | (refine Ifz.pos ?_ ?_; (focus omega))
                                  | refine Get.mk _ rfl ?_
                                  | refine Leaves.of ?_
                                  | refine Ends.of ?_
                                  | refine Vw.bool ?_
                                  | refine Vw.int ?_
                                  | refine Vw.nil
                                  | refine Vw.sl
                                  | refine Vw.tup ?_
                                  | refine Vw.agg ?_
                                  | refine VwL.cons ?_ ?_
                                  | refine VwL.nil
                                  | refine LeavesF.of ?_
                                  | refine VwF.bool ?_
                                  | refine VwF.int ?_
                                  | refine VwF.nil
                                  | refine VwF.sl
                                  | refine VwF.tup ?_
                                  | refine VwF.agg ?_
                                  | refine VwLF.cons ?_ ?_
                                  | refine VwLF.nil
                                  | (refine Req.mk ?_ ?_; (focus first | rfl | decide | exact ⟨rfl, rfl⟩ | exact ⟨rfl, by decide⟩ | exact (fun _ => rfl) | exact (fun h => nomatch h) | (simp; done) | omega | (simp [big]; done) | exact le_big (by omega) | exact lt_big (by omega))))
                              all_goals first | exact NextP.mk (ka + 1) (by omega) (by omega) (by rw [hnxt]; rfl) | (exfalso; omega)
                          · rw [decide_eq_false hp] at hpx
                            have hplc : placeOf W H ((X : Int) - 1 + ((ka : Nat) : Int), (Y : Int) - 1 + ((kb : Nat) : Int)) = none := by
                              unfold placeOf
                              rw [if_neg (fun h => hp ⟨h.1, h.2.1, h.2.2.1, h.2.2.2⟩)]
                            simp only [bC, hplc] at hnxt
                            generalize pixV W H l ((X : Int) - 1 + ((ka : Nat) : Int)) ((Y : Int) - 1 + ((kb : Nat) : Int)) = px at *
                            repeat' (first
                              | (conv => whnf)
                                first
                                | refine Bnd.eq hqd ?_
                                | refine Bnd.eq hqm ?_
                                | refine Bnd.eq hX1 ?_
                                | refine Br.t ?_
                                | refine Br.f ?_
                                | (refine Br.decT ?_ ?_; (focus first | assumption | omega))
                                | (refine Br.decF ?_ ?_; (focus first | assumption | omega))
                                | refine Br.dec (fun _ => ?_) (fun _ => ?_)
                                | refine Br.not ?_
                                | refine Br.and ?_
                                | refine Br.or ?_
                                | (refine Bnd.i64 ?_ ?_ ?_; (focus omega); (focus omega))
                                | refine call_fun rfl rfl hpx (.inl rfl) ?_
                                | refine Req.mk hW0 ?_
                                | (refine Idx.nat ?_ ?_; (focus omega))
                                | refine Idx.nat (le_big (by omega)) ?_
                                | (refine Idx.int ?_ ?_ ?_; (focus omega); (focus omega))
                                | (refine Idx.int ?_ ?_ ?_; (focus decide); (focus decide))
                                | refine Ifz.zero ?_
                                | (refine Ifz.pos ?_ ?_; (focus omega))
                                | refine Get.mk _ rfl ?_
                                | refine Leaves.of ?_
                                | refine Ends.of ?_
                                | refine Vw.bool ?_
                                | refine Vw.int ?_
                                | refine Vw.nil
                                | refine Vw.sl
                                | refine Vw.tup ?_
                                | refine Vw.agg ?_
                                | refine VwL.cons ?_ ?_
                                | refine VwL.nil
                                | refine LeavesF.of ?_
                                | refine VwF.bool ?_
                                | refine VwF.int ?_
                                | refine VwF.nil
                                | refine VwF.sl
                                | refine VwF.tup ?_
                                | refine VwF.agg ?_
                                | refine VwLF.cons ?_ ?_
                                | refine VwLF.nil
                                | (refine Req.mk ?_ ?_; (focus first | rfl | decide | exact ⟨rfl, rfl⟩ | exact ⟨rfl, by decide⟩ | exact (fun _ => rfl) | exact (fun h => nomatch h) | (simp; done) | omega | (simp [big]; done) | exact le_big (by omega) | exact lt_big (by omega))))
                            all_goals first | exact NextP.mk (ka + 1) (by omega) (by omega) (by rw [hnxt]; rfl) | (exfalso; omega)
                      · obtain rfl : ka = 3 := by omega
                        have hro : rowsB W H l (spS W H l i).1 X Y (kb + 1) (i :: q :: r) = i :: S := hS
                        cases S with
                        | nil =>
                          (exfalso; have e4 := congrArg List.length et2; have e5 := congrArg List.length et; rw [hS, List.length_append] at e4; rw [List.length_append] at e5; simp only [List.length_cons, List.length_nil] at e4 e5; omega)
                        | cons s2 S2 =>
                          repeat' (first
                            | (conv => whnf)
                              first
                              | refine Bnd.eq hqd ?_
                              | refine Bnd.eq hqm ?_
                              | refine Bnd.eq hY1 ?_
                              | refine Br.t ?_
                              | refine Br.f ?_
                              | (refine Br.decT ?_ ?_; (focus first | assumption | omega))
                              | (refine Br.decF ?_ ?_; (focus first | assumption | omega))
                              | refine Br.dec (fun _ => ?_) (fun _ => ?_)
                              | refine Br.not ?_
                              | refine Br.and ?_
                              | refine Br.or ?_
                              | (refine Bnd.i64 ?_ ?_ ?_; (focus omega); (focus omega))
                              | refine Req.mk hW0 ?_
                              | (refine Idx.nat ?_ ?_; (focus omega))
                              | refine Idx.nat (le_big (by omega)) ?_
                              | (refine Idx.int ?_ ?_ ?_; (focus omega); (focus omega))
                              | (refine Idx.int ?_ ?_ ?_; (focus decide); (focus decide))
                              | refine Ifz.zero ?_
                              | (refine Ifz.pos ?_ ?_; (focus omega))
                              | refine Get.mk _ rfl ?_
                              | refine Leaves.of ?_
                              | refine Ends.of ?_
                              | refine Vw.bool ?_
                              | refine Vw.int ?_
                              | refine Vw.nil
                              | refine Vw.sl
                              | refine Vw.tup ?_
                              | refine Vw.agg ?_
                              | refine VwL.cons ?_ ?_
                              | refine VwL.nil
                              | refine LeavesF.of ?_
                              | refine VwF.bool ?_
                              | refine VwF.int ?_
                              | refine VwF.nil
                              | refine VwF.sl
                              | refine VwF.tup ?_
                              | refine VwF.agg ?_
                              | refine VwLF.cons ?_ ?_
                              | refine VwLF.nil
                              | (refine Req.mk ?_ ?_; (focus first | rfl | decide | exact ⟨rfl, rfl⟩ | exact ⟨rfl, by decide⟩ | exact (fun _ => rfl) | exact (fun h => nomatch h) | (simp; done) | omega | (simp [big]; done) | exact le_big (by omega) | exact lt_big (by omega))))
                          all_goals first | exact NextP.mk (kb + 1) (by omega) (by omega) (by rw [hro]; rfl) | (exfalso; omega)
              · obtain rfl : kb = 3 := by omega
                cases hR : rowsB W H l (spS W H l i).1 X Y 3 (i :: q :: r) with
                | nil => rw [hR] at et; simp at et
                | cons i2 R =>
                  obtain rfl : i = i2 := by rw [hR] at et; exact (List.cons.inj et).1.symm
                  rw [hR] at hQn hfn
                  cases R with
                  | nil =>
                    (exfalso; have e5 := congrArg List.length et; rw [hR, List.length_append] at e5; simp only [List.length_cons, List.length_nil] at e5; omega)
                  | cons s1 S1 =>
                    repeat' (first
                      | (conv => whnf)
                        first
                        | refine Bnd.eq hqd ?_
                        | refine Bnd.eq hqm ?_
                        | refine Br.t ?_
                        | refine Br.f ?_
                        | (refine Br.decT ?_ ?_; (focus first | assumption | omega))
                        | (refine Br.decF ?_ ?_; (focus first | assumption | omega))
                        | refine Br.dec (fun _ => ?_) (fun _ => ?_)
                        | refine Br.not ?_
                        | refine Br.and ?_
                        | refine Br.or ?_
                        | (refine Bnd.i64 ?_ ?_ ?_; (focus omega); (focus omega))
                        | refine Req.mk hW0 ?_
                        | (refine Idx.nat ?_ ?_; (focus omega))
                        | refine Idx.nat (le_big (by omega)) ?_
                        | (refine Idx.int ?_ ?_ ?_; (focus omega); (focus omega))
                        | (refine Idx.int ?_ ?_ ?_; (focus decide); (focus decide))
                        | refine Ifz.zero ?_
                        | (refine Ifz.pos ?_ ?_; (focus omega))
                        | refine Get.mk _ rfl ?_
                        | refine Leaves.of ?_
                        | refine Ends.of ?_
                        | refine Vw.bool ?_
                        | refine Vw.int ?_
                        | refine Vw.nil
                        | refine Vw.sl
                        | refine Vw.tup ?_
                        | refine Vw.agg ?_
                        | refine VwL.cons ?_ ?_
                        | refine VwL.nil
                        | refine LeavesF.of ?_
                        | refine VwF.bool ?_
                        | refine VwF.int ?_
                        | refine VwF.nil
                        | refine VwF.sl
                        | refine VwF.tup ?_
                        | refine VwF.agg ?_
                        | refine VwLF.cons ?_ ?_
                        | refine VwLF.nil
                        | (refine Req.mk ?_ ?_; (focus first | rfl | decide | exact ⟨rfl, rfl⟩ | exact ⟨rfl, by decide⟩ | exact (fun _ => rfl) | exact (fun h => nomatch h) | (simp; done) | omega | (simp [big]; done) | exact le_big (by omega) | exact lt_big (by omega))))
                    all_goals first | exact NextP.mk ((k + 1) + 1, i :: s1 :: S1) ⟨hQn, hfn, ⟨s1 :: S1, rfl⟩, fun h => absurd h (by simp)⟩ (by dsimp only; omega) rfl | (exfalso; omega)
            · have hkr : k = r.length + 1 := by simp only [List.length_cons] at hkn; omega
              subst hkr
              have hfe : fin = i :: q :: r := hf.symm.trans (bqF_end hkn _)
              rw [hfe] at hnx
              have hz : r.length + 1 - (r.length + 1) = 0 := Nat.sub_self _
              repeat' (first
                | (conv => whnf)
                  first
                  | refine Br.t ?_
                  | refine Br.f ?_
                  | (refine Br.decT ?_ ?_; (focus first | assumption | omega))
                  | (refine Br.decF ?_ ?_; (focus first | assumption | omega))
                  | refine Br.dec (fun _ => ?_) (fun _ => ?_)
                  | refine Br.not ?_
                  | refine Br.and ?_
                  | refine Br.or ?_
                  | (refine Bnd.i64 ?_ ?_ ?_; (focus omega); (focus omega))
                  | (refine Idx.nat ?_ ?_; (focus omega))
                  | refine Idx.nat (le_big (by omega)) ?_
                  | (refine Idx.int ?_ ?_ ?_; (focus omega); (focus omega))
                  | (refine Idx.int ?_ ?_ ?_; (focus decide); (focus decide))
                  | refine Ifz.zero ?_
                  | (refine Ifz.pos ?_ ?_; (focus omega))
                  | refine Get.mk _ rfl ?_
                  | refine Leaves.of ?_
                  | refine Ends.of ?_
                  | refine Vw.bool ?_
                  | refine Vw.int ?_
                  | refine Vw.nil
                  | refine Vw.sl
                  | refine Vw.tup ?_
                  | refine Vw.agg ?_
                  | refine VwL.cons ?_ ?_
                  | refine VwL.nil
                  | refine LeavesF.of ?_
                  | refine VwF.bool ?_
                  | refine VwF.int ?_
                  | refine VwF.nil
                  | refine VwF.sl
                  | refine VwF.tup ?_
                  | refine VwF.agg ?_
                  | refine VwLF.cons ?_ ?_
                  | refine VwLF.nil
                  | (refine Req.mk ?_ ?_; (focus first | rfl | decide | exact ⟨rfl, rfl⟩ | exact ⟨rfl, by decide⟩ | exact (fun _ => rfl) | exact (fun h => nomatch h) | (simp; done) | omega | (simp [big]; done) | exact le_big (by omega) | exact lt_big (by omega))))
              all_goals first | exact NextP.mk (i + 1) (by omega) (by omega) (by rw [hlE, hnx]; rfl) | (exfalso; omega)
      · rw [if_neg hg] at hnx
        have hor : (l[i].toNat : Int) = 0 ∨ 0 ≤ labG (csF W H l i) 0 i := by
          rw [hdk] at hg
          by_cases h0 : (l[i].toNat : Int) = 0
          · exact .inl h0
          · have : ¬ labG (csF W H l i) 0 i < 0 := fun h => hg ⟨h0, hlb.1 h⟩
            exact .inr (by omega)
        clear hg hdk
        generalize hC : ofI (lbA (csF W H l i) l.length) = C0 at *
        generalize labG (csF W H l i) 0 i = lb at *
        generalize (l[i].toNat : Int) = px at *
        repeat' (first
          | (conv => whnf)
            first
            | refine Br.t ?_
            | refine Br.f ?_
            | (refine Br.decT ?_ ?_; (focus first | assumption | omega))
            | (refine Br.decF ?_ ?_; (focus first | assumption | omega))
            | refine Br.dec (fun _ => ?_) (fun _ => ?_)
            | refine Br.not ?_
            | refine Br.and ?_
            | refine Br.or ?_
            | (refine Bnd.i64 ?_ ?_ ?_; (focus omega); (focus omega))
            | refine Get.mk _ hc8 ?_
            | refine Get.mk _ hco ?_
            | refine Req.mk hlen0 ?_
            | (refine Idx.nat ?_ ?_; (focus omega))
            | refine Idx.nat (le_big (by omega)) ?_
            | (refine Idx.int ?_ ?_ ?_; (focus omega); (focus omega))
            | (refine Idx.int ?_ ?_ ?_; (focus decide); (focus decide))
            | refine Ifz.zero ?_
            | (refine Ifz.pos ?_ ?_; (focus omega))
            | refine Get.mk _ rfl ?_
            | refine Leaves.of ?_
            | refine Ends.of ?_
            | refine Vw.bool ?_
            | refine Vw.int ?_
            | refine Vw.nil
            | refine Vw.sl
            | refine Vw.tup ?_
            | refine Vw.agg ?_
            | refine VwL.cons ?_ ?_
            | refine VwL.nil
            | refine LeavesF.of ?_
            | refine VwF.bool ?_
            | refine VwF.int ?_
            | refine VwF.nil
            | refine VwF.sl
            | refine VwF.tup ?_
            | refine VwF.agg ?_
            | refine VwLF.cons ?_ ?_
            | refine VwLF.nil
            | (refine Req.mk ?_ ?_; (focus first | rfl | decide | exact ⟨rfl, rfl⟩ | exact ⟨rfl, by decide⟩ | exact (fun _ => rfl) | exact (fun h => nomatch h) | (simp; done) | omega | (simp [big]; done) | exact le_big (by omega) | exact lt_big (by omega))))
        all_goals first | exact NextP.mk (i + 1) (by omega) (by omega) (by rw [hnx, hC]; rfl) | (exfalso; omega)
    · obtain rfl : i = l.length := by omega
      have hlv : l.length * 1 = (lbA (csF W H l l.length) l.length).length := by rw [lbA_length, Nat.mul_one]
      have hlw : l.length = (lbA (csF W H l l.length) l.length).length := by rw [lbA_length]
      rw [show (true : Bool) = decide (l.length = l.length) by simp]
      repeat' (first
        | (conv => whnf)
          first
          | refine Br.t ?_
          | refine Br.f ?_
          | (refine Br.decT ?_ ?_; (focus first | assumption | omega))
          | (refine Br.decF ?_ ?_; (focus first | assumption | omega))
          | refine Br.dec (fun _ => ?_) (fun _ => ?_)
          | refine Br.not ?_
          | refine Br.and ?_
          | refine Br.or ?_
          | (refine Bnd.i64 ?_ ?_ ?_; (focus omega); (focus omega))
          | refine Vw.ints rfl rfl hlv hlw hlw
          | (refine Idx.nat ?_ ?_; (focus omega))
          | refine Idx.nat (le_big (by omega)) ?_
          | (refine Idx.int ?_ ?_ ?_; (focus omega); (focus omega))
          | (refine Idx.int ?_ ?_ ?_; (focus decide); (focus decide))
          | refine Ifz.zero ?_
          | (refine Ifz.pos ?_ ?_; (focus omega))
          | refine Get.mk _ rfl ?_
          | refine Leaves.of ?_
          | refine Ends.of ?_
          | refine Vw.bool ?_
          | refine Vw.int ?_
          | refine Vw.nil
          | refine Vw.sl
          | refine Vw.tup ?_
          | refine Vw.agg ?_
          | refine VwL.cons ?_ ?_
          | refine VwL.nil
          | refine LeavesF.of ?_
          | refine VwF.bool ?_
          | refine VwF.int ?_
          | refine VwF.nil
          | refine VwF.sl
          | refine VwF.tup ?_
          | refine VwF.agg ?_
          | refine VwLF.cons ?_ ?_
          | refine VwLF.nil
          | (refine Req.mk ?_ ?_; (focus first | rfl | decide | exact ⟨rfl, rfl⟩ | exact ⟨rfl, by decide⟩ | exact (fun _ => rfl) | exact (fun h => nomatch h) | (simp; done) | omega | (simp [big]; done) | exact le_big (by omega) | exact lt_big (by omega))))
      all_goals first | rfl | (exfalso; omega)

end Go.Dr.T
