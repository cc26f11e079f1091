/- Chapter 07: Spots of the program. -/
import Derived.Test.YtigcchafpenhiaaR07Dc
namespace Go.Dr.T

def ofSpt : List Spt → List V
  | [] => []
  | s :: l => P5 s ++ ofSpt l
theorem ofSpt_append : ∀ (a b : List Spt), ofSpt (a ++ b) = ofSpt a ++ ofSpt b
  | [], b => rfl
  | s :: a, b => by simp only [List.cons_append, ofSpt, ofSpt_append a b, List.append_assoc]
theorem ofSpt_length : ∀ (l : List Spt), (ofSpt l).length = 5 * l.length
  | [] => rfl
  | s :: l => by simp only [ofSpt, List.length_append, ofSpt_length l, P5, List.length_cons, List.length_nil]; omega
theorem ofSpt_snoc (l : List Spt) (s : Spt) : ofSpt (l ++ [s]) = ofSpt l ++ P5 s := by rw [ofSpt_append]; simp [ofSpt]
theorem scal_spt : ∀ (l : List Spt), scalars (ofSpt l) = true
  | [] => rfl
  | s :: l => by simp only [ofSpt, P5, List.cons_append, List.nil_append, scalars, V.scalar, scal_spt l, Bool.and_self]
theorem VwL.spt {h : List B} {d : Nat} : ∀ (l : List Spt), VwL h (d + 1) (ofSpt l) (ofSpt l)
  | [] => VwL.nil
  | _ :: l => VwL.cons (Vw.int rfl) (VwL.cons (Vw.int rfl) (VwL.cons (Vw.int rfl) (VwL.cons (Vw.int rfl) (VwL.cons (Vw.int rfl) (VwL.spt l)))))
theorem take_all : ∀ (l : List V), take' l.length l = l
  | [] => rfl
  | v :: l => by simp only [List.length_cons, take', take_all l]
theorem part_all {l : List V} {n : Nat} (h : l.length = n) : part l 0 n = some l := by
  subst h; simp [part, drop', take_all]
theorem Vw.spt {h : List B} {d id g len n : Nat} {clip dat : Bool} {S : List Spt} (h1 : bget h id = some (.blk (ofSpt S) dat)) (h2 : g = 5 * S.length) (h3 : len = S.length) (hn : n = S.length) : Vw h (d + 2) (.ms 5 id g 0 len clip) (.sl clip n (ofSpt S)) := by
  subst h2; subst h3; subst hn
  exact Vw.ms h1 (ofSpt_length S) (part_all (by rw [ofSpt_length]; omega)) (VwL.spt S)

def s0 (W i : Nat) : Spt := ⟨(i % W : Nat), (i % W : Nat), (i / W : Nat), (i / W : Nat), 0⟩
/-- what was visited, and the spots, behind i pixels. -/
def spS (W H : Nat) (l : List UInt8) : Nat → List Nat × List Spt
  | 0 => ([], [])
  | i + 1 => if dark l i = true ∧ i ∉ (spS W H l i).1 then (dfs (nb W H) (dark l) 2305 i (spS W H l i).1, (spS W H l i).2 ++ [sF W (spS W H l i).1.length (s0 W i) (dfs (nb W H) (dark l) 2305 i (spS W H l i).1)]) else spS W H l i
theorem leftN_le {μ : Nat → Bool} {N : Nat} {v : List Nat} : leftN μ N v ≤ N := by
  unfold leftN
  have := List.length_filter_le (fun p => μ p && !v.contains p) (List.range N)
  rwa [List.length_range] at this
theorem spS_room {W H : Nat} {l : List UInt8} (hl : l.length = W * H) : ∀ i, (spS W H l i).1.length + leftN (dark l) (W * H) (spS W H l i).1 ≤ W * H ∧ (spS W H l i).2.length ≤ i
  | 0 => ⟨by simp only [spS, List.length_nil, Nat.zero_add]; exact leftN_le, by simp [spS]⟩
  | i + 1 => by
    obtain ⟨h1, h2⟩ := spS_room hl i
    simp only [spS]
    split
    · have := dfs_room (nb := nb W H) (μ := dark l) (N := W * H) (fun p hp => hl ▸ dark_lt hp) 2305 i (spS W H l i).1
      refine ⟨by dsimp only; omega, by simp; omega⟩
    · exact ⟨h1, by omega⟩
abbrev hA (W H : Nat) (l : List UInt8) : B := .blk [.int .i64 W, .int .i64 H, .ms 1 2 l.length 0 l.length false] false
def HS (W H : Nat) (l : List UInt8) (st : List Nat × List Spt) : List B :=
  match st.2 with
  | [] => [hA W H l, .blk [.nilsl] false, .blk (ofBytes (zr l st.1)) true, hA W H l, .blk [.fn 76 tkC] false]
  | s :: S => [hA W H l, .blk [.ms 5 5 (5 * (S.length + 1)) 0 (S.length + 1) false] false, .blk (ofBytes (zr l st.1)) true, hA W H l, .blk [.fn 76 tkC] false, .blk (ofSpt (s :: S)) true]
theorem HS_snoc {W H : Nat} {l : List UInt8} {v : List Nat} {S : List Spt} {s : Spt} : HS W H l (v, S ++ [s]) = [hA W H l, .blk [.ms 5 5 (5 * S.length + 5) 0 (S.length + 1) false] false, .blk (ofBytes (zr l v)) true, hA W H l, .blk [.fn 76 tkC] false, .blk (ofSpt S ++ P5 s) true] := by
  have e := ofSpt_snoc S s
  cases S with
  | nil => rfl
  | cons a S =>
    simp only [HS, List.cons_append]
    rw [show a :: (S ++ [s]) = (a :: S) ++ [s] from rfl, e]
    have h1 : (S ++ [s]).length + 1 = (a :: S).length + 1 := by simp
    rw [h1, show 5 * ((a :: S).length + 1) = 5 * (a :: S).length + 5 by omega]
abbrev sptV (S : List Spt) (e : Int) : V := .tup [.sl (decide (S.length = 0)) S.length (ofSpt S), .int .i64 e]


set_option maxRecDepth 100000 in
set_option maxHeartbeats 40000000 in
theorem spots_ok {W H : Nat} {c : Bool} {l : List UInt8} (h1 : 1 ≤ W) (h2 : W ≤ 48) (h3 : 1 ≤ H) (h4 : H ≤ 48) (hl : l.length = W * H) : Fun F md 35 [frV W H c l] (sptV (spS W H l (H * W)).2 0) := by
  have hck := check_any W H c l
  rw [check_ok h1 h2 h3 h4 hl] at hck
  have hn : 1 ≤ W * H ∧ W * H ≤ 2304 := by have := area_le (w := W) (h := H) (by omega) (by omega) (by omega) (by omega); omega
  have hne := eq_nil (c := c) (l := ofBytes l) (show l.length ≠ 0 by omega)
  have hlb : (ofBytes l).length = l.length := ofBytes_length l
  have hq1 : (ofBytes l).length = l.length * 1 := by rw [hlb, Nat.mul_one]
  have hq2 : (([] : List V).length + (ofBytes l).length) * (1 + 1) < big := by rw [hlb]; simp [big]; omega
  have hq3 : true = true → scalars (([] : List V) ++ ofBytes l) = true := fun _ => scal_bytes l
  have hAe : hA W H l = .blk [.int .i64 W, .int .i64 H, .ms 1 2 (([] : List V).length + (ofBytes l).length) 0 (0 + l.length) false] false := by rw [hlb]; simp
  have e0 : HS W H l (spS W H l (0 * W)) = [.blk [.int .i64 W, .int .i64 H, .ms 1 2 (([] : List V).length + (ofBytes l).length) 0 (0 + l.length) false] false, .blk [.nilsl] false, .blk (ofBytes l) true, .blk [.int .i64 W, .int .i64 H, .ms 1 2 (([] : List V).length + (ofBytes l).length) 0 (0 + l.length) false] false, .blk [.fn 76 tkC] false] := by
    rw [← hAe, Nat.zero_mul]
    simp only [spS, HS, zr_nil]
  refine fun_of rfl rfl ?_
  repeat' (first
    | (conv => whnf)
      first
      | refine Br.t ?_
      | refine Br.f ?_
      | (refine Br.decT ?_ ?_; (focus first | assumption | omega))
      | (refine Br.decF ?_ ?_; (focus first | assumption | omega))
      | refine Br.dec (fun _ => ?_) (fun _ => ?_)
      | refine Br.not ?_
      | refine Br.and ?_
      | refine Br.or ?_
      | (refine Bnd.i64 ?_ ?_ ?_; (focus omega); (focus omega))
      | refine call_fun rfl rfl hck (.inl rfl) ?_
      | refine call_one rfl rfl rfl ?_
      | refine Get.mk _ hne ?_
      | refine Req.mk hq1 ?_
      | refine Req.mk hq2 ?_
      | refine Req.mk hq3 ?_
      | (refine Idx.nat ?_ ?_; (focus omega))
      | refine Idx.nat (le_big (by omega)) ?_
      | (refine Idx.int ?_ ?_ ?_; (focus omega); (focus omega))
      | (refine Idx.int ?_ ?_ ?_; (focus decide); (focus decide))
      | refine Ifz.zero ?_
      | (refine Ifz.pos ?_ ?_; (focus omega))
      | refine Get.mk _ rfl ?_
      | refine Leaves.of ?_
      | refine Ends.of ?_
      | refine Vw.bool ?_
      | refine Vw.int ?_
      | refine Vw.nil
      | refine Vw.sl
      | refine Vw.tup ?_
      | refine Vw.agg ?_
      | refine VwL.cons ?_ ?_
      | refine VwL.nil
      | refine LeavesF.of ?_
      | refine VwF.bool ?_
      | refine VwF.int ?_
      | refine VwF.nil
      | refine VwF.sl
      | refine VwF.tup ?_
      | refine VwF.agg ?_
      | refine VwLF.cons ?_ ?_
      | refine VwLF.nil
      | (refine Req.mk ?_ ?_; (focus first | rfl | decide | exact ⟨rfl, rfl⟩ | exact ⟨rfl, by decide⟩ | exact (fun _ => rfl) | exact (fun h => nomatch h) | (simp; done) | omega | (simp [big]; done) | exact le_big (by omega) | exact lt_big (by omega))))
  all_goals try (exfalso; omega)
  refine LoopP.by (fun y : Nat => y ≤ H) (fun y => [(23, .int .i64 (y : Nat))]) (fun y => HS W H l (spS W H l (y * W))) (fun y => H - y) 0 (Nat.zero_le _) (by rw [e0]; rfl) ?_
  clear e0 hAe hq1 hq2 hq3 hne hck
  intro y hy
  by_cases hyH : y < H
  · cases hst0 : spS W H l (y * W) with
    | mk v0 S0 =>
      cases S0 with
      | nil =>
        repeat' (first
          | (conv => whnf)
            first
            | refine Br.t ?_
            | refine Br.f ?_
            | (refine Br.decT ?_ ?_; (focus first | assumption | omega))
            | (refine Br.decF ?_ ?_; (focus first | assumption | omega))
            | refine Br.dec (fun _ => ?_) (fun _ => ?_)
            | refine Br.not ?_
            | refine Br.and ?_
            | refine Br.or ?_
            | (refine Bnd.i64 ?_ ?_ ?_; (focus omega); (focus omega))
            | (refine Idx.nat ?_ ?_; (focus omega))
            | refine Idx.nat (le_big (by omega)) ?_
            | (refine Idx.int ?_ ?_ ?_; (focus omega); (focus omega))
            | (refine Idx.int ?_ ?_ ?_; (focus decide); (focus decide))
            | refine Ifz.zero ?_
            | (refine Ifz.pos ?_ ?_; (focus omega))
            | refine Get.mk _ rfl ?_
            | refine Leaves.of ?_
            | refine Ends.of ?_
            | refine Vw.bool ?_
            | refine Vw.int ?_
            | refine Vw.nil
            | refine Vw.sl
            | refine Vw.tup ?_
            | refine Vw.agg ?_
            | refine VwL.cons ?_ ?_
            | refine VwL.nil
            | refine LeavesF.of ?_
            | refine VwF.bool ?_
            | refine VwF.int ?_
            | refine VwF.nil
            | refine VwF.sl
            | refine VwF.tup ?_
            | refine VwF.agg ?_
            | refine VwLF.cons ?_ ?_
            | refine VwLF.nil
            | (refine Req.mk ?_ ?_; (focus first | rfl | decide | exact ⟨rfl, rfl⟩ | exact ⟨rfl, by decide⟩ | exact (fun _ => rfl) | exact (fun h => nomatch h) | (simp; done) | omega | (simp [big]; done) | exact le_big (by omega) | exact lt_big (by omega))))
        all_goals try (exfalso; omega)
        refine LoopP.by (fun x : Nat => x ≤ W) (fun x => [(29, .int .i64 (x : Nat))]) (fun x => HS W H l (spS W H l (y * W + x))) (fun x => W - x) 0 (Nat.zero_le _) (by show _ = (⟨_, HS W H l (spS W H l (y * W))⟩ : St); rw [hst0]; rfl) ?_
        intro x hx
        cases hst : spS W H l (y * W + x) with
        | mk v S =>
          by_cases hxW : x < W
          · cases S with
            | nil =>
              have hr := spS_room (W := W) (H := H) hl (y * W + x)
              have hpl := place_lt hxW hyH
              have hnext : spS W H l (y * W + x + 1) = if dark l (y * W + x) = true ∧ y * W + x ∉ (spS W H l (y * W + x)).1 then (dfs (nb W H) (dark l) 2305 (y * W + x) (spS W H l (y * W + x)).1, (spS W H l (y * W + x)).2 ++ [sF W (spS W H l (y * W + x)).1.length (s0 W (y * W + x)) (dfs (nb W H) (dark l) 2305 (y * W + x) (spS W H l (y * W + x)).1)]) else spS W H l (y * W + x) := rfl
              rw [hst] at hr hnext
              dsimp only at hr hnext
              obtain ⟨pd1, pd2⟩ := place_div (y := y) hxW
              have hnx : y * W + (x + 1) = y * W + x + 1 := rfl
              have hpb : pixB W H x y := ⟨by omega, by omega, by omega, by omega⟩
              have hzl := zr_length l v
              have hat := at_pix (c := false) (l := zr l v) h2 h4 (by rw [hzl]; exact hl) hpb
              have e1 : ((y : Int) * (W : Int) + (x : Int)) = ((y * W + x : Nat) : Int) := by push_cast; rfl
              have hpv : pixV W H (zr l v) x y = if y * W + x ∈ v then 0 else ((l.getD (y * W + x) 0).toNat : Int) := by
                unfold pixV
                rw [if_pos hpb, e1, Int.toNat_natCast, zr_at (by rw [hl]; exact hpl)]
                split <;> rfl
              have hplc : placeOf W H ((x : Int), (y : Int)) = some (y * W + x) := by
                unfold placeOf
                rw [if_pos (show 0 ≤ ((x : Int), (y : Int)).1 ∧ ((x : Int), (y : Int)).1 < W ∧ 0 ≤ ((x : Int), (y : Int)).2 ∧ ((x : Int), (y : Int)).2 < H from hpb)]
                dsimp only
                rw [e1, Int.toNat_natCast]
              have hvw := fun (h : List Dr.B) (h1 : bget h 2 = some (.blk (ofBytes (zr l v)) true)) => pic_views (W := W) (H := H) (x := x) (y := y) (cl := false) h1 hzl hzl
              by_cases hg : dark l (y * W + x) = true ∧ y * W + x ∉ v
              · rw [if_pos hg] at hnext
                have hpn : 0 < pixV W H (zr l v) x y := by
                  rw [hpv, if_neg hg.2]
                  have := hg.1
                  unfold dark at this
                  simp only [ne_eq, decide_eq_true_eq] at this
                  have : (l.getD (y * W + x) 0).toNat ≠ 0 := fun h0 => this (UInt8.toNat_inj.1 (by rw [h0]; rfl))
                  omega
                have hpr := pixV_le W H (zr l v) x y
                generalize pixV W H (zr l v) x y = px at *
                have hs0 : sF W v.length (s0 W (y * W + x)) v = s0 W (y * W + x) := by unfold sF; rw [List.drop_length]; rfl
                have hs1 : s0 W (y * W + x) = ⟨(x : Nat), (x : Nat), (y : Nat), (y : Nat), 0⟩ := by unfold s0; rw [pd1, pd2]
                have htk := fun K => take_ok0 (W := W) (H := H) (l := l) (C := ofSpt (([] : List Spt))) (k := (([] : List Spt)).length) (d := v.length) (s0 := s0 W (y * W + x)) h2 h4 hl (ofSpt_length _) (scal_spt _) (by omega) rfl 2305 v x y K (Nat.le_refl _) (by omega) (by omega)
                simp only [dfsC, hplc] at htk
                generalize dfs (nb W H) (dark l) 2305 (y * W + x) v = v' at htk hnext
                unfold Hp at htk
                rw [hs0, hs1] at htk
                rw [hs1] at hnext
                have hcl : (ofSpt (([] : List Spt))).length = 5 * (([] : List Spt)).length := ofSpt_length _
                have hroom : 0 + (([] : List Spt)).length * 5 = 5 * (([] : List Spt)).length ∧ ((ofSpt (([] : List Spt))).length + 5) * (40 + 1) < big := ⟨by omega, by rw [hcl]; simp only [big]; omega⟩
                repeat' (first
                  | (conv => whnf)
                    first
                    | refine Br.t ?_
                    | refine Br.f ?_
                    | (refine Br.decT ?_ ?_; (focus first | assumption | omega))
                    | (refine Br.decF ?_ ?_; (focus first | assumption | omega))
                    | refine Br.dec (fun _ => ?_) (fun _ => ?_)
                    | refine Br.not ?_
                    | refine Br.and ?_
                    | refine Br.or ?_
                    | (refine Bnd.i64 ?_ ?_ ?_; (focus omega); (focus omega))
                    | refine call_fun rfl (hvw _ rfl) hat (.inr rfl) ?_
                    | refine Req.mk hcl ?_
                    | refine Req.mk hroom ?_
                    | refine htk _ ?_
                    | (refine Idx.nat ?_ ?_; (focus omega))
                    | refine Idx.nat (le_big (by omega)) ?_
                    | (refine Idx.int ?_ ?_ ?_; (focus omega); (focus omega))
                    | (refine Idx.int ?_ ?_ ?_; (focus decide); (focus decide))
                    | refine Ifz.zero ?_
                    | (refine Ifz.pos ?_ ?_; (focus omega))
                    | refine Get.mk _ rfl ?_
                    | refine Leaves.of ?_
                    | refine Ends.of ?_
                    | refine Vw.bool ?_
                    | refine Vw.int ?_
                    | refine Vw.nil
                    | refine Vw.sl
                    | refine Vw.tup ?_
                    | refine Vw.agg ?_
                    | refine VwL.cons ?_ ?_
                    | refine VwL.nil
                    | refine LeavesF.of ?_
                    | refine VwF.bool ?_
                    | refine VwF.int ?_
                    | refine VwF.nil
                    | refine VwF.sl
                    | refine VwF.tup ?_
                    | refine VwF.agg ?_
                    | refine VwLF.cons ?_ ?_
                    | refine VwLF.nil
                    | (refine Req.mk ?_ ?_; (focus first | rfl | decide | exact ⟨rfl, rfl⟩ | exact ⟨rfl, by decide⟩ | exact (fun _ => rfl) | exact (fun h => nomatch h) | (simp; done) | omega | (simp [big]; done) | exact le_big (by omega) | exact lt_big (by omega))))
                all_goals first | exact NextP.mk (x + 1) (by omega) (by omega) (by rw [hnx, hnext, HS_snoc]; rfl) | (exfalso; omega)
              · rw [if_neg hg] at hnext
                have hz : pixV W H (zr l v) x y = 0 := by
                  rw [hpv]
                  split
                  · rfl
                  · rename_i hh
                    have : ¬ dark l (y * W + x) = true := fun h => hg ⟨h, hh⟩
                    unfold dark at this
                    simp only [ne_eq, decide_eq_true_eq, Classical.not_not] at this
                    rw [this]; rfl
                rw [hz] at hat
                repeat' (first
                  | (conv => whnf)
                    first
                    | refine Br.t ?_
                    | refine Br.f ?_
                    | (refine Br.decT ?_ ?_; (focus first | assumption | omega))
                    | (refine Br.decF ?_ ?_; (focus first | assumption | omega))
                    | refine Br.dec (fun _ => ?_) (fun _ => ?_)
                    | refine Br.not ?_
                    | refine Br.and ?_
                    | refine Br.or ?_
                    | (refine Bnd.i64 ?_ ?_ ?_; (focus omega); (focus omega))
                    | refine call_fun rfl (hvw _ rfl) hat (.inr rfl) ?_
                    | (refine Idx.nat ?_ ?_; (focus omega))
                    | refine Idx.nat (le_big (by omega)) ?_
                    | (refine Idx.int ?_ ?_ ?_; (focus omega); (focus omega))
                    | (refine Idx.int ?_ ?_ ?_; (focus decide); (focus decide))
                    | refine Ifz.zero ?_
                    | (refine Ifz.pos ?_ ?_; (focus omega))
                    | refine Get.mk _ rfl ?_
                    | refine Leaves.of ?_
                    | refine Ends.of ?_
                    | refine Vw.bool ?_
                    | refine Vw.int ?_
                    | refine Vw.nil
                    | refine Vw.sl
                    | refine Vw.tup ?_
                    | refine Vw.agg ?_
                    | refine VwL.cons ?_ ?_
                    | refine VwL.nil
                    | refine LeavesF.of ?_
                    | refine VwF.bool ?_
                    | refine VwF.int ?_
                    | refine VwF.nil
                    | refine VwF.sl
                    | refine VwF.tup ?_
                    | refine VwF.agg ?_
                    | refine VwLF.cons ?_ ?_
                    | refine VwLF.nil
                    | (refine Req.mk ?_ ?_; (focus first | rfl | decide | exact ⟨rfl, rfl⟩ | exact ⟨rfl, by decide⟩ | exact (fun _ => rfl) | exact (fun h => nomatch h) | (simp; done) | omega | (simp [big]; done) | exact le_big (by omega) | exact lt_big (by omega))))
                all_goals first | exact NextP.mk (x + 1) (by omega) (by omega) (by rw [hnx, hnext]; rfl) | (exfalso; omega)
            | cons s S =>
              have hr := spS_room (W := W) (H := H) hl (y * W + x)
              have hpl := place_lt hxW hyH
              have hnext : spS W H l (y * W + x + 1) = if dark l (y * W + x) = true ∧ y * W + x ∉ (spS W H l (y * W + x)).1 then (dfs (nb W H) (dark l) 2305 (y * W + x) (spS W H l (y * W + x)).1, (spS W H l (y * W + x)).2 ++ [sF W (spS W H l (y * W + x)).1.length (s0 W (y * W + x)) (dfs (nb W H) (dark l) 2305 (y * W + x) (spS W H l (y * W + x)).1)]) else spS W H l (y * W + x) := rfl
              rw [hst] at hr hnext
              dsimp only at hr hnext
              obtain ⟨pd1, pd2⟩ := place_div (y := y) hxW
              have hnx : y * W + (x + 1) = y * W + x + 1 := rfl
              have hpb : pixB W H x y := ⟨by omega, by omega, by omega, by omega⟩
              have hzl := zr_length l v
              have hat := at_pix (c := false) (l := zr l v) h2 h4 (by rw [hzl]; exact hl) hpb
              have e1 : ((y : Int) * (W : Int) + (x : Int)) = ((y * W + x : Nat) : Int) := by push_cast; rfl
              have hpv : pixV W H (zr l v) x y = if y * W + x ∈ v then 0 else ((l.getD (y * W + x) 0).toNat : Int) := by
                unfold pixV
                rw [if_pos hpb, e1, Int.toNat_natCast, zr_at (by rw [hl]; exact hpl)]
                split <;> rfl
              have hplc : placeOf W H ((x : Int), (y : Int)) = some (y * W + x) := by
                unfold placeOf
                rw [if_pos (show 0 ≤ ((x : Int), (y : Int)).1 ∧ ((x : Int), (y : Int)).1 < W ∧ 0 ≤ ((x : Int), (y : Int)).2 ∧ ((x : Int), (y : Int)).2 < H from hpb)]
                dsimp only
                rw [e1, Int.toNat_natCast]
              have hvw := fun (h : List Dr.B) (h1 : bget h 2 = some (.blk (ofBytes (zr l v)) true)) => pic_views (W := W) (H := H) (x := x) (y := y) (cl := false) h1 hzl hzl
              by_cases hg : dark l (y * W + x) = true ∧ y * W + x ∉ v
              · rw [if_pos hg] at hnext
                have hpn : 0 < pixV W H (zr l v) x y := by
                  rw [hpv, if_neg hg.2]
                  have := hg.1
                  unfold dark at this
                  simp only [ne_eq, decide_eq_true_eq] at this
                  have : (l.getD (y * W + x) 0).toNat ≠ 0 := fun h0 => this (UInt8.toNat_inj.1 (by rw [h0]; rfl))
                  omega
                have hpr := pixV_le W H (zr l v) x y
                generalize pixV W H (zr l v) x y = px at *
                have hs0 : sF W v.length (s0 W (y * W + x)) v = s0 W (y * W + x) := by unfold sF; rw [List.drop_length]; rfl
                have hs1 : s0 W (y * W + x) = ⟨(x : Nat), (x : Nat), (y : Nat), (y : Nat), 0⟩ := by unfold s0; rw [pd1, pd2]
                have htk := fun K => take_ok1 (W := W) (H := H) (l := l) (C := ofSpt (s :: S)) (k := (s :: S).length) (d := v.length) (s0 := s0 W (y * W + x)) h2 h4 hl (ofSpt_length _) (scal_spt _) (by omega) rfl 2305 v x y K (Nat.le_refl _) (by omega) (by omega)
                simp only [dfsC, hplc] at htk
                generalize dfs (nb W H) (dark l) 2305 (y * W + x) v = v' at htk hnext
                unfold Hp at htk
                rw [hs0, hs1] at htk
                rw [hs1] at hnext
                have hcl : (ofSpt (s :: S)).length = 5 * (s :: S).length := ofSpt_length _
                have hroom : 0 + (s :: S).length * 5 = 5 * (s :: S).length ∧ ((ofSpt (s :: S)).length + 5) * (40 + 1) < big := ⟨by omega, by rw [hcl]; simp only [big]; omega⟩
                repeat' (first
                  | (conv => whnf)
                    first
                    | refine Br.t ?_
                    | refine Br.f ?_
                    | (refine Br.decT ?_ ?_; (focus first | assumption | omega))
                    | (refine Br.decF ?_ ?_; (focus first | assumption | omega))
                    | refine Br.dec (fun _ => ?_) (fun _ => ?_)
                    | refine Br.not ?_
                    | refine Br.and ?_
                    | refine Br.or ?_
                    | (refine Bnd.i64 ?_ ?_ ?_; (focus omega); (focus omega))
                    | refine call_fun rfl (hvw _ rfl) hat (.inr rfl) ?_
                    | refine Req.mk hcl ?_
                    | refine Req.mk hroom ?_
                    | refine htk _ ?_
                    | (refine Idx.nat ?_ ?_; (focus omega))
                    | refine Idx.nat (le_big (by omega)) ?_
                    | (refine Idx.int ?_ ?_ ?_; (focus omega); (focus omega))
                    | (refine Idx.int ?_ ?_ ?_; (focus decide); (focus decide))
                    | refine Ifz.zero ?_
                    | (refine Ifz.pos ?_ ?_; (focus omega))
                    | refine Get.mk _ rfl ?_
                    | refine Leaves.of ?_
                    | refine Ends.of ?_
                    | refine Vw.bool ?_
                    | refine Vw.int ?_
                    | refine Vw.nil
                    | refine Vw.sl
                    | refine Vw.tup ?_
                    | refine Vw.agg ?_
                    | refine VwL.cons ?_ ?_
                    | refine VwL.nil
                    | refine LeavesF.of ?_
                    | refine VwF.bool ?_
                    | refine VwF.int ?_
                    | refine VwF.nil
                    | refine VwF.sl
                    | refine VwF.tup ?_
                    | refine VwF.agg ?_
                    | refine VwLF.cons ?_ ?_
                    | refine VwLF.nil
                    | (refine Req.mk ?_ ?_; (focus first | rfl | decide | exact ⟨rfl, rfl⟩ | exact ⟨rfl, by decide⟩ | exact (fun _ => rfl) | exact (fun h => nomatch h) | (simp; done) | omega | (simp [big]; done) | exact le_big (by omega) | exact lt_big (by omega))))
                all_goals first | exact NextP.mk (x + 1) (by omega) (by omega) (by rw [hnx, hnext, HS_snoc]; rfl) | (exfalso; omega)
              · rw [if_neg hg] at hnext
                have hz : pixV W H (zr l v) x y = 0 := by
                  rw [hpv]
                  split
                  · rfl
                  · rename_i hh
                    have : ¬ dark l (y * W + x) = true := fun h => hg ⟨h, hh⟩
                    unfold dark at this
                    simp only [ne_eq, decide_eq_true_eq, Classical.not_not] at this
                    rw [this]; rfl
                rw [hz] at hat
                repeat' (first
                  | (conv => whnf)
                    first
                    | refine Br.t ?_
                    | refine Br.f ?_
                    | (refine Br.decT ?_ ?_; (focus first | assumption | omega))
                    | (refine Br.decF ?_ ?_; (focus first | assumption | omega))
                    | refine Br.dec (fun _ => ?_) (fun _ => ?_)
                    | refine Br.not ?_
                    | refine Br.and ?_
                    | refine Br.or ?_
                    | (refine Bnd.i64 ?_ ?_ ?_; (focus omega); (focus omega))
                    | refine call_fun rfl (hvw _ rfl) hat (.inr rfl) ?_
                    | (refine Idx.nat ?_ ?_; (focus omega))
                    | refine Idx.nat (le_big (by omega)) ?_
                    | (refine Idx.int ?_ ?_ ?_; (focus omega); (focus omega))
                    | (refine Idx.int ?_ ?_ ?_; (focus decide); (focus decide))
                    | refine Ifz.zero ?_
                    | (refine Ifz.pos ?_ ?_; (focus omega))
                    | refine Get.mk _ rfl ?_
                    | refine Leaves.of ?_
                    | refine Ends.of ?_
                    | refine Vw.bool ?_
                    | refine Vw.int ?_
                    | refine Vw.nil
                    | refine Vw.sl
                    | refine Vw.tup ?_
                    | refine Vw.agg ?_
                    | refine VwL.cons ?_ ?_
                    | refine VwL.nil
                    | refine LeavesF.of ?_
                    | refine VwF.bool ?_
                    | refine VwF.int ?_
                    | refine VwF.nil
                    | refine VwF.sl
                    | refine VwF.tup ?_
                    | refine VwF.agg ?_
                    | refine VwLF.cons ?_ ?_
                    | refine VwLF.nil
                    | (refine Req.mk ?_ ?_; (focus first | rfl | decide | exact ⟨rfl, rfl⟩ | exact ⟨rfl, by decide⟩ | exact (fun _ => rfl) | exact (fun h => nomatch h) | (simp; done) | omega | (simp [big]; done) | exact le_big (by omega) | exact lt_big (by omega))))
                all_goals first | exact NextP.mk (x + 1) (by omega) (by omega) (by rw [hnx, hnext]; rfl) | (exfalso; omega)
          · have hxe : x = W := by omega
            rw [hxe] at hst
            have hrow : (y + 1) * W = y * W + W := Nat.succ_mul y W
            cases S with
            | nil =>
              repeat' (first
                | (conv => whnf)
                  first
                  | refine Br.t ?_
                  | refine Br.f ?_
                  | (refine Br.decT ?_ ?_; (focus first | assumption | omega))
                  | (refine Br.decF ?_ ?_; (focus first | assumption | omega))
                  | refine Br.dec (fun _ => ?_) (fun _ => ?_)
                  | refine Br.not ?_
                  | refine Br.and ?_
                  | refine Br.or ?_
                  | (refine Bnd.i64 ?_ ?_ ?_; (focus omega); (focus omega))
                  | (refine Idx.nat ?_ ?_; (focus omega))
                  | refine Idx.nat (le_big (by omega)) ?_
                  | (refine Idx.int ?_ ?_ ?_; (focus omega); (focus omega))
                  | (refine Idx.int ?_ ?_ ?_; (focus decide); (focus decide))
                  | refine Ifz.zero ?_
                  | (refine Ifz.pos ?_ ?_; (focus omega))
                  | refine Get.mk _ rfl ?_
                  | refine Leaves.of ?_
                  | refine Ends.of ?_
                  | refine Vw.bool ?_
                  | refine Vw.int ?_
                  | refine Vw.nil
                  | refine Vw.sl
                  | refine Vw.tup ?_
                  | refine Vw.agg ?_
                  | refine VwL.cons ?_ ?_
                  | refine VwL.nil
                  | refine LeavesF.of ?_
                  | refine VwF.bool ?_
                  | refine VwF.int ?_
                  | refine VwF.nil
                  | refine VwF.sl
                  | refine VwF.tup ?_
                  | refine VwF.agg ?_
                  | refine VwLF.cons ?_ ?_
                  | refine VwLF.nil
                  | (refine Req.mk ?_ ?_; (focus first | rfl | decide | exact ⟨rfl, rfl⟩ | exact ⟨rfl, by decide⟩ | exact (fun _ => rfl) | exact (fun h => nomatch h) | (simp; done) | omega | (simp [big]; done) | exact le_big (by omega) | exact lt_big (by omega))))
              all_goals first | exact NextP.mk (y + 1) (by omega) (by omega) (by rw [hrow, hst]; rfl) | (exfalso; omega)
            | cons s S =>
              repeat' (first
                | (conv => whnf)
                  first
                  | refine Br.t ?_
                  | refine Br.f ?_
                  | (refine Br.decT ?_ ?_; (focus first | assumption | omega))
                  | (refine Br.decF ?_ ?_; (focus first | assumption | omega))
                  | refine Br.dec (fun _ => ?_) (fun _ => ?_)
                  | refine Br.not ?_
                  | refine Br.and ?_
                  | refine Br.or ?_
                  | (refine Bnd.i64 ?_ ?_ ?_; (focus omega); (focus omega))
                  | (refine Idx.nat ?_ ?_; (focus omega))
                  | refine Idx.nat (le_big (by omega)) ?_
                  | (refine Idx.int ?_ ?_ ?_; (focus omega); (focus omega))
                  | (refine Idx.int ?_ ?_ ?_; (focus decide); (focus decide))
                  | refine Ifz.zero ?_
                  | (refine Ifz.pos ?_ ?_; (focus omega))
                  | refine Get.mk _ rfl ?_
                  | refine Leaves.of ?_
                  | refine Ends.of ?_
                  | refine Vw.bool ?_
                  | refine Vw.int ?_
                  | refine Vw.nil
                  | refine Vw.sl
                  | refine Vw.tup ?_
                  | refine Vw.agg ?_
                  | refine VwL.cons ?_ ?_
                  | refine VwL.nil
                  | refine LeavesF.of ?_
                  | refine VwF.bool ?_
                  | refine VwF.int ?_
                  | refine VwF.nil
                  | refine VwF.sl
                  | refine VwF.tup ?_
                  | refine VwF.agg ?_
                  | refine VwLF.cons ?_ ?_
                  | refine VwLF.nil
                  | (refine Req.mk ?_ ?_; (focus first | rfl | decide | exact ⟨rfl, rfl⟩ | exact ⟨rfl, by decide⟩ | exact (fun _ => rfl) | exact (fun h => nomatch h) | (simp; done) | omega | (simp [big]; done) | exact le_big (by omega) | exact lt_big (by omega))))
              all_goals first | exact NextP.mk (y + 1) (by omega) (by omega) (by rw [hrow, hst]; rfl) | (exfalso; omega)
      | cons s1 S1 =>
        repeat' (first
          | (conv => whnf)
            first
            | refine Br.t ?_
            | refine Br.f ?_
            | (refine Br.decT ?_ ?_; (focus first | assumption | omega))
            | (refine Br.decF ?_ ?_; (focus first | assumption | omega))
            | refine Br.dec (fun _ => ?_) (fun _ => ?_)
            | refine Br.not ?_
            | refine Br.and ?_
            | refine Br.or ?_
            | (refine Bnd.i64 ?_ ?_ ?_; (focus omega); (focus omega))
            | (refine Idx.nat ?_ ?_; (focus omega))
            | refine Idx.nat (le_big (by omega)) ?_
            | (refine Idx.int ?_ ?_ ?_; (focus omega); (focus omega))
            | (refine Idx.int ?_ ?_ ?_; (focus decide); (focus decide))
            | refine Ifz.zero ?_
            | (refine Ifz.pos ?_ ?_; (focus omega))
            | refine Get.mk _ rfl ?_
            | refine Leaves.of ?_
            | refine Ends.of ?_
            | refine Vw.bool ?_
            | refine Vw.int ?_
            | refine Vw.nil
            | refine Vw.sl
            | refine Vw.tup ?_
            | refine Vw.agg ?_
            | refine VwL.cons ?_ ?_
            | refine VwL.nil
            | refine LeavesF.of ?_
            | refine VwF.bool ?_
            | refine VwF.int ?_
            | refine VwF.nil
            | refine VwF.sl
            | refine VwF.tup ?_
            | refine VwF.agg ?_
            | refine VwLF.cons ?_ ?_
            | refine VwLF.nil
            | (refine Req.mk ?_ ?_; (focus first | rfl | decide | exact ⟨rfl, rfl⟩ | exact ⟨rfl, by decide⟩ | exact (fun _ => rfl) | exact (fun h => nomatch h) | (simp; done) | omega | (simp [big]; done) | exact le_big (by omega) | exact lt_big (by omega))))
        all_goals try (exfalso; omega)
        refine LoopP.by (fun x : Nat => x ≤ W) (fun x => [(29, .int .i64 (x : Nat))]) (fun x => HS W H l (spS W H l (y * W + x))) (fun x => W - x) 0 (Nat.zero_le _) (by show _ = (⟨_, HS W H l (spS W H l (y * W))⟩ : St); rw [hst0]; rfl) ?_
        intro x hx
        cases hst : spS W H l (y * W + x) with
        | mk v S =>
          by_cases hxW : x < W
          · cases S with
            | nil =>
              have hr := spS_room (W := W) (H := H) hl (y * W + x)
              have hpl := place_lt hxW hyH
              have hnext : spS W H l (y * W + x + 1) = if dark l (y * W + x) = true ∧ y * W + x ∉ (spS W H l (y * W + x)).1 then (dfs (nb W H) (dark l) 2305 (y * W + x) (spS W H l (y * W + x)).1, (spS W H l (y * W + x)).2 ++ [sF W (spS W H l (y * W + x)).1.length (s0 W (y * W + x)) (dfs (nb W H) (dark l) 2305 (y * W + x) (spS W H l (y * W + x)).1)]) else spS W H l (y * W + x) := rfl
              rw [hst] at hr hnext
              dsimp only at hr hnext
              obtain ⟨pd1, pd2⟩ := place_div (y := y) hxW
              have hnx : y * W + (x + 1) = y * W + x + 1 := rfl
              have hpb : pixB W H x y := ⟨by omega, by omega, by omega, by omega⟩
              have hzl := zr_length l v
              have hat := at_pix (c := false) (l := zr l v) h2 h4 (by rw [hzl]; exact hl) hpb
              have e1 : ((y : Int) * (W : Int) + (x : Int)) = ((y * W + x : Nat) : Int) := by push_cast; rfl
              have hpv : pixV W H (zr l v) x y = if y * W + x ∈ v then 0 else ((l.getD (y * W + x) 0).toNat : Int) := by
                unfold pixV
                rw [if_pos hpb, e1, Int.toNat_natCast, zr_at (by rw [hl]; exact hpl)]
                split <;> rfl
              have hplc : placeOf W H ((x : Int), (y : Int)) = some (y * W + x) := by
                unfold placeOf
                rw [if_pos (show 0 ≤ ((x : Int), (y : Int)).1 ∧ ((x : Int), (y : Int)).1 < W ∧ 0 ≤ ((x : Int), (y : Int)).2 ∧ ((x : Int), (y : Int)).2 < H from hpb)]
                dsimp only
                rw [e1, Int.toNat_natCast]
              have hvw := fun (h : List Dr.B) (h1 : bget h 2 = some (.blk (ofBytes (zr l v)) true)) => pic_views (W := W) (H := H) (x := x) (y := y) (cl := false) h1 hzl hzl
              by_cases hg : dark l (y * W + x) = true ∧ y * W + x ∉ v
              · rw [if_pos hg] at hnext
                have hpn : 0 < pixV W H (zr l v) x y := by
                  rw [hpv, if_neg hg.2]
                  have := hg.1
                  unfold dark at this
                  simp only [ne_eq, decide_eq_true_eq] at this
                  have : (l.getD (y * W + x) 0).toNat ≠ 0 := fun h0 => this (UInt8.toNat_inj.1 (by rw [h0]; rfl))
                  omega
                have hpr := pixV_le W H (zr l v) x y
                generalize pixV W H (zr l v) x y = px at *
                have hs0 : sF W v.length (s0 W (y * W + x)) v = s0 W (y * W + x) := by unfold sF; rw [List.drop_length]; rfl
                have hs1 : s0 W (y * W + x) = ⟨(x : Nat), (x : Nat), (y : Nat), (y : Nat), 0⟩ := by unfold s0; rw [pd1, pd2]
                have htk := fun K => take_ok0 (W := W) (H := H) (l := l) (C := ofSpt (([] : List Spt))) (k := (([] : List Spt)).length) (d := v.length) (s0 := s0 W (y * W + x)) h2 h4 hl (ofSpt_length _) (scal_spt _) (by omega) rfl 2305 v x y K (Nat.le_refl _) (by omega) (by omega)
                simp only [dfsC, hplc] at htk
                generalize dfs (nb W H) (dark l) 2305 (y * W + x) v = v' at htk hnext
                unfold Hp at htk
                rw [hs0, hs1] at htk
                rw [hs1] at hnext
                have hcl : (ofSpt (([] : List Spt))).length = 5 * (([] : List Spt)).length := ofSpt_length _
                have hroom : 0 + (([] : List Spt)).length * 5 = 5 * (([] : List Spt)).length ∧ ((ofSpt (([] : List Spt))).length + 5) * (40 + 1) < big := ⟨by omega, by rw [hcl]; simp only [big]; omega⟩
                repeat' (first
                  | (conv => whnf)
                    first
                    | refine Br.t ?_
                    | refine Br.f ?_
                    | (refine Br.decT ?_ ?_; (focus first | assumption | omega))
                    | (refine Br.decF ?_ ?_; (focus first | assumption | omega))
                    | refine Br.dec (fun _ => ?_) (fun _ => ?_)
                    | refine Br.not ?_
                    | refine Br.and ?_
                    | refine Br.or ?_
                    | (refine Bnd.i64 ?_ ?_ ?_; (focus omega); (focus omega))
                    | refine call_fun rfl (hvw _ rfl) hat (.inr rfl) ?_
                    | refine Req.mk hcl ?_
                    | refine Req.mk hroom ?_
                    | refine htk _ ?_
                    | (refine Idx.nat ?_ ?_; (focus omega))
                    | refine Idx.nat (le_big (by omega)) ?_
                    | (refine Idx.int ?_ ?_ ?_; (focus omega); (focus omega))
                    | (refine Idx.int ?_ ?_ ?_; (focus decide); (focus decide))
                    | refine Ifz.zero ?_
                    | (refine Ifz.pos ?_ ?_; (focus omega))
                    | refine Get.mk _ rfl ?_
                    | refine Leaves.of ?_
                    | refine Ends.of ?_
                    | refine Vw.bool ?_
                    | refine Vw.int ?_
                    | refine Vw.nil
                    | refine Vw.sl
                    | refine Vw.tup ?_
                    | refine Vw.agg ?_
                    | refine VwL.cons ?_ ?_
                    | refine VwL.nil
                    | refine LeavesF.of ?_
                    | refine VwF.bool ?_
                    | refine VwF.int ?_
                    | refine VwF.nil
                    | refine VwF.sl
                    | refine VwF.tup ?_
                    | refine VwF.agg ?_
                    | refine VwLF.cons ?_ ?_
                    | refine VwLF.nil
                    | (refine Req.mk ?_ ?_; (focus first | rfl | decide | exact ⟨rfl, rfl⟩ | exact ⟨rfl, by decide⟩ | exact (fun _ => rfl) | exact (fun h => nomatch h) | (simp; done) | omega | (simp [big]; done) | exact le_big (by omega) | exact lt_big (by omega))))
                all_goals first | exact NextP.mk (x + 1) (by omega) (by omega) (by rw [hnx, hnext, HS_snoc]; rfl) | (exfalso; omega)
              · rw [if_neg hg] at hnext
                have hz : pixV W H (zr l v) x y = 0 := by
                  rw [hpv]
                  split
                  · rfl
                  · rename_i hh
                    have : ¬ dark l (y * W + x) = true := fun h => hg ⟨h, hh⟩
                    unfold dark at this
                    simp only [ne_eq, decide_eq_true_eq, Classical.not_not] at this
                    rw [this]; rfl
                rw [hz] at hat
                repeat' (first
                  | (conv => whnf)
                    first
                    | refine Br.t ?_
                    | refine Br.f ?_
                    | (refine Br.decT ?_ ?_; (focus first | assumption | omega))
                    | (refine Br.decF ?_ ?_; (focus first | assumption | omega))
                    | refine Br.dec (fun _ => ?_) (fun _ => ?_)
                    | refine Br.not ?_
                    | refine Br.and ?_
                    | refine Br.or ?_
                    | (refine Bnd.i64 ?_ ?_ ?_; (focus omega); (focus omega))
                    | refine call_fun rfl (hvw _ rfl) hat (.inr rfl) ?_
                    | (refine Idx.nat ?_ ?_; (focus omega))
                    | refine Idx.nat (le_big (by omega)) ?_
                    | (refine Idx.int ?_ ?_ ?_; (focus omega); (focus omega))
                    | (refine Idx.int ?_ ?_ ?_; (focus decide); (focus decide))
                    | refine Ifz.zero ?_
                    | (refine Ifz.pos ?_ ?_; (focus omega))
                    | refine Get.mk _ rfl ?_
                    | refine Leaves.of ?_
                    | refine Ends.of ?_
                    | refine Vw.bool ?_
                    | refine Vw.int ?_
                    | refine Vw.nil
                    | refine Vw.sl
                    | refine Vw.tup ?_
                    | refine Vw.agg ?_
                    | refine VwL.cons ?_ ?_
                    | refine VwL.nil
                    | refine LeavesF.of ?_
                    | refine VwF.bool ?_
                    | refine VwF.int ?_
                    | refine VwF.nil
                    | refine VwF.sl
                    | refine VwF.tup ?_
                    | refine VwF.agg ?_
                    | refine VwLF.cons ?_ ?_
                    | refine VwLF.nil
                    | (refine Req.mk ?_ ?_; (focus first | rfl | decide | exact ⟨rfl, rfl⟩ | exact ⟨rfl, by decide⟩ | exact (fun _ => rfl) | exact (fun h => nomatch h) | (simp; done) | omega | (simp [big]; done) | exact le_big (by omega) | exact lt_big (by omega))))
                all_goals first | exact NextP.mk (x + 1) (by omega) (by omega) (by rw [hnx, hnext]; rfl) | (exfalso; omega)
            | cons s S =>
              have hr := spS_room (W := W) (H := H) hl (y * W + x)
              have hpl := place_lt hxW hyH
              have hnext : spS W H l (y * W + x + 1) = if dark l (y * W + x) = true ∧ y * W + x ∉ (spS W H l (y * W + x)).1 then (dfs (nb W H) (dark l) 2305 (y * W + x) (spS W H l (y * W + x)).1, (spS W H l (y * W + x)).2 ++ [sF W (spS W H l (y * W + x)).1.length (s0 W (y * W + x)) (dfs (nb W H) (dark l) 2305 (y * W + x) (spS W H l (y * W + x)).1)]) else spS W H l (y * W + x) := rfl
              rw [hst] at hr hnext
              dsimp only at hr hnext
              obtain ⟨pd1, pd2⟩ := place_div (y := y) hxW
              have hnx : y * W + (x + 1) = y * W + x + 1 := rfl
              have hpb : pixB W H x y := ⟨by omega, by omega, by omega, by omega⟩
              have hzl := zr_length l v
              have hat := at_pix (c := false) (l := zr l v) h2 h4 (by rw [hzl]; exact hl) hpb
              have e1 : ((y : Int) * (W : Int) + (x : Int)) = ((y * W + x : Nat) : Int) := by push_cast; rfl
              have hpv : pixV W H (zr l v) x y = if y * W + x ∈ v then 0 else ((l.getD (y * W + x) 0).toNat : Int) := by
                unfold pixV
                rw [if_pos hpb, e1, Int.toNat_natCast, zr_at (by rw [hl]; exact hpl)]
                split <;> rfl
              have hplc : placeOf W H ((x : Int), (y : Int)) = some (y * W + x) := by
                unfold placeOf
                rw [if_pos (show 0 ≤ ((x : Int), (y : Int)).1 ∧ ((x : Int), (y : Int)).1 < W ∧ 0 ≤ ((x : Int), (y : Int)).2 ∧ ((x : Int), (y : Int)).2 < H from hpb)]
                dsimp only
                rw [e1, Int.toNat_natCast]
              have hvw := fun (h : List Dr.B) (h1 : bget h 2 = some (.blk (ofBytes (zr l v)) true)) => pic_views (W := W) (H := H) (x := x) (y := y) (cl := false) h1 hzl hzl
              by_cases hg : dark l (y * W + x) = true ∧ y * W + x ∉ v
              · rw [if_pos hg] at hnext
                have hpn : 0 < pixV W H (zr l v) x y := by
                  rw [hpv, if_neg hg.2]
                  have := hg.1
                  unfold dark at this
                  simp only [ne_eq, decide_eq_true_eq] at this
                  have : (l.getD (y * W + x) 0).toNat ≠ 0 := fun h0 => this (UInt8.toNat_inj.1 (by rw [h0]; rfl))
                  omega
                have hpr := pixV_le W H (zr l v) x y
                generalize pixV W H (zr l v) x y = px at *
                have hs0 : sF W v.length (s0 W (y * W + x)) v = s0 W (y * W + x) := by unfold sF; rw [List.drop_length]; rfl
                have hs1 : s0 W (y * W + x) = ⟨(x : Nat), (x : Nat), (y : Nat), (y : Nat), 0⟩ := by unfold s0; rw [pd1, pd2]
                have htk := fun K => take_ok1 (W := W) (H := H) (l := l) (C := ofSpt (s :: S)) (k := (s :: S).length) (d := v.length) (s0 := s0 W (y * W + x)) h2 h4 hl (ofSpt_length _) (scal_spt _) (by omega) rfl 2305 v x y K (Nat.le_refl _) (by omega) (by omega)
                simp only [dfsC, hplc] at htk
                generalize dfs (nb W H) (dark l) 2305 (y * W + x) v = v' at htk hnext
                unfold Hp at htk
                rw [hs0, hs1] at htk
                rw [hs1] at hnext
                have hcl : (ofSpt (s :: S)).length = 5 * (s :: S).length := ofSpt_length _
                have hroom : 0 + (s :: S).length * 5 = 5 * (s :: S).length ∧ ((ofSpt (s :: S)).length + 5) * (40 + 1) < big := ⟨by omega, by rw [hcl]; simp only [big]; omega⟩
                repeat' (first
                  | (conv => whnf)
                    first
                    | refine Br.t ?_
                    | refine Br.f ?_
                    | (refine Br.decT ?_ ?_; (focus first | assumption | omega))
                    | (refine Br.decF ?_ ?_; (focus first | assumption | omega))
                    | refine Br.dec (fun _ => ?_) (fun _ => ?_)
                    | refine Br.not ?_
                    | refine Br.and ?_
                    | refine Br.or ?_
                    | (refine Bnd.i64 ?_ ?_ ?_; (focus omega); (focus omega))
                    | refine call_fun rfl (hvw _ rfl) hat (.inr rfl) ?_
                    | refine Req.mk hcl ?_
                    | refine Req.mk hroom ?_
                    | refine htk _ ?_
                    | (refine Idx.nat ?_ ?_; (focus omega))
                    | refine Idx.nat (le_big (by omega)) ?_
                    | (refine Idx.int ?_ ?_ ?_; (focus omega); (focus omega))
                    | (refine Idx.int ?_ ?_ ?_; (focus decide); (focus decide))
                    | refine Ifz.zero ?_
                    | (refine Ifz.pos ?_ ?_; (focus omega))
                    | refine Get.mk _ rfl ?_
                    | refine Leaves.of ?_
                    | refine Ends.of ?_
                    | refine Vw.bool ?_
                    | refine Vw.int ?_
                    | refine Vw.nil
                    | refine Vw.sl
                    | refine Vw.tup ?_
                    | refine Vw.agg ?_
                    | refine VwL.cons ?_ ?_
                    | refine VwL.nil
                    | refine LeavesF.of ?_
                    | refine VwF.bool ?_
                    | refine VwF.int ?_
                    | refine VwF.nil
                    | refine VwF.sl
                    | refine VwF.tup ?_
                    | refine VwF.agg ?_
                    | refine VwLF.cons ?_ ?_
                    | refine VwLF.nil
                    | (refine Req.mk ?_ ?_; (focus first | rfl | decide | exact ⟨rfl, rfl⟩ | exact ⟨rfl, by decide⟩ | exact (fun _ => rfl) | exact (fun h => nomatch h) | (simp; done) | omega | (simp [big]; done) | exact le_big (by omega) | exact lt_big (by omega))))
                all_goals first | exact NextP.mk (x + 1) (by omega) (by omega) (by rw [hnx, hnext, HS_snoc]; rfl) | (exfalso; omega)
              · rw [if_neg hg] at hnext
                have hz : pixV W H (zr l v) x y = 0 := by
                  rw [hpv]
                  split
                  · rfl
                  · rename_i hh
                    have : ¬ dark l (y * W + x) = true := fun h => hg ⟨h, hh⟩
                    unfold dark at this
                    simp only [ne_eq, decide_eq_true_eq, Classical.not_not] at this
                    rw [this]; rfl
                rw [hz] at hat
                repeat' (first
                  | (conv => whnf)
                    first
                    | refine Br.t ?_
                    | refine Br.f ?_
                    | (refine Br.decT ?_ ?_; (focus first | assumption | omega))
                    | (refine Br.decF ?_ ?_; (focus first | assumption | omega))
                    | refine Br.dec (fun _ => ?_) (fun _ => ?_)
                    | refine Br.not ?_
                    | refine Br.and ?_
                    | refine Br.or ?_
                    | (refine Bnd.i64 ?_ ?_ ?_; (focus omega); (focus omega))
                    | refine call_fun rfl (hvw _ rfl) hat (.inr rfl) ?_
                    | (refine Idx.nat ?_ ?_; (focus omega))
                    | refine Idx.nat (le_big (by omega)) ?_
                    | (refine Idx.int ?_ ?_ ?_; (focus omega); (focus omega))
                    | (refine Idx.int ?_ ?_ ?_; (focus decide); (focus decide))
                    | refine Ifz.zero ?_
                    | (refine Ifz.pos ?_ ?_; (focus omega))
                    | refine Get.mk _ rfl ?_
                    | refine Leaves.of ?_
                    | refine Ends.of ?_
                    | refine Vw.bool ?_
                    | refine Vw.int ?_
                    | refine Vw.nil
                    | refine Vw.sl
                    | refine Vw.tup ?_
                    | refine Vw.agg ?_
                    | refine VwL.cons ?_ ?_
                    | refine VwL.nil
                    | refine LeavesF.of ?_
                    | refine VwF.bool ?_
                    | refine VwF.int ?_
                    | refine VwF.nil
                    | refine VwF.sl
                    | refine VwF.tup ?_
                    | refine VwF.agg ?_
                    | refine VwLF.cons ?_ ?_
                    | refine VwLF.nil
                    | (refine Req.mk ?_ ?_; (focus first | rfl | decide | exact ⟨rfl, rfl⟩ | exact ⟨rfl, by decide⟩ | exact (fun _ => rfl) | exact (fun h => nomatch h) | (simp; done) | omega | (simp [big]; done) | exact le_big (by omega) | exact lt_big (by omega))))
                all_goals first | exact NextP.mk (x + 1) (by omega) (by omega) (by rw [hnx, hnext]; rfl) | (exfalso; omega)
          · have hxe : x = W := by omega
            rw [hxe] at hst
            have hrow : (y + 1) * W = y * W + W := Nat.succ_mul y W
            cases S with
            | nil =>
              repeat' (first
                | (conv => whnf)
                  first
                  | refine Br.t ?_
                  | refine Br.f ?_
                  | (refine Br.decT ?_ ?_; (focus first | assumption | omega))
                  | (refine Br.decF ?_ ?_; (focus first | assumption | omega))
                  | refine Br.dec (fun _ => ?_) (fun _ => ?_)
                  | refine Br.not ?_
                  | refine Br.and ?_
                  | refine Br.or ?_
                  | (refine Bnd.i64 ?_ ?_ ?_; (focus omega); (focus omega))
                  | (refine Idx.nat ?_ ?_; (focus omega))
                  | refine Idx.nat (le_big (by omega)) ?_
                  | (refine Idx.int ?_ ?_ ?_; (focus omega); (focus omega))
                  | (refine Idx.int ?_ ?_ ?_; (focus decide); (focus decide))
                  | refine Ifz.zero ?_
                  | (refine Ifz.pos ?_ ?_; (focus omega))
                  | refine Get.mk _ rfl ?_
                  | refine Leaves.of ?_
                  | refine Ends.of ?_
                  | refine Vw.bool ?_
                  | refine Vw.int ?_
                  | refine Vw.nil
                  | refine Vw.sl
                  | refine Vw.tup ?_
                  | refine Vw.agg ?_
                  | refine VwL.cons ?_ ?_
                  | refine VwL.nil
                  | refine LeavesF.of ?_
                  | refine VwF.bool ?_
                  | refine VwF.int ?_
                  | refine VwF.nil
                  | refine VwF.sl
                  | refine VwF.tup ?_
                  | refine VwF.agg ?_
                  | refine VwLF.cons ?_ ?_
                  | refine VwLF.nil
                  | (refine Req.mk ?_ ?_; (focus first | rfl | decide | exact ⟨rfl, rfl⟩ | exact ⟨rfl, by decide⟩ | exact (fun _ => rfl) | exact (fun h => nomatch h) | (simp; done) | omega | (simp [big]; done) | exact le_big (by omega) | exact lt_big (by omega))))
              all_goals first | exact NextP.mk (y + 1) (by omega) (by omega) (by rw [hrow, hst]; rfl) | (exfalso; omega)
            | cons s S =>
              repeat' (first
                | (conv => whnf)
                  first
                  | refine Br.t ?_
                  | refine Br.f ?_
                  | (refine Br.decT ?_ ?_; (focus first | assumption | omega))
                  | (refine Br.decF ?_ ?_; (focus first | assumption | omega))
                  | refine Br.dec (fun _ => ?_) (fun _ => ?_)
                  | refine Br.not ?_
                  | refine Br.and ?_
                  | refine Br.or ?_
                  | (refine Bnd.i64 ?_ ?_ ?_; (focus omega); (focus omega))
                  | (refine Idx.nat ?_ ?_; (focus omega))
                  | refine Idx.nat (le_big (by omega)) ?_
                  | (refine Idx.int ?_ ?_ ?_; (focus omega); (focus omega))
                  | (refine Idx.int ?_ ?_ ?_; (focus decide); (focus decide))
                  | refine Ifz.zero ?_
                  | (refine Ifz.pos ?_ ?_; (focus omega))
                  | refine Get.mk _ rfl ?_
                  | refine Leaves.of ?_
                  | refine Ends.of ?_
                  | refine Vw.bool ?_
                  | refine Vw.int ?_
                  | refine Vw.nil
                  | refine Vw.sl
                  | refine Vw.tup ?_
                  | refine Vw.agg ?_
                  | refine VwL.cons ?_ ?_
                  | refine VwL.nil
                  | refine LeavesF.of ?_
                  | refine VwF.bool ?_
                  | refine VwF.int ?_
                  | refine VwF.nil
                  | refine VwF.sl
                  | refine VwF.tup ?_
                  | refine VwF.agg ?_
                  | refine VwLF.cons ?_ ?_
                  | refine VwLF.nil
                  | (refine Req.mk ?_ ?_; (focus first | rfl | decide | exact ⟨rfl, rfl⟩ | exact ⟨rfl, by decide⟩ | exact (fun _ => rfl) | exact (fun h => nomatch h) | (simp; done) | omega | (simp [big]; done) | exact le_big (by omega) | exact lt_big (by omega))))
              all_goals first | exact NextP.mk (y + 1) (by omega) (by omega) (by rw [hrow, hst]; rfl) | (exfalso; omega)
  · obtain rfl : y = H := by omega
    cases hst0 : spS W y l (y * W) with
    | mk v0 S0 =>
      cases S0 with
      | nil =>
        repeat' (first
          | (conv => whnf)
            first
            | refine Br.t ?_
            | refine Br.f ?_
            | (refine Br.decT ?_ ?_; (focus first | assumption | omega))
            | (refine Br.decF ?_ ?_; (focus first | assumption | omega))
            | refine Br.dec (fun _ => ?_) (fun _ => ?_)
            | refine Br.not ?_
            | refine Br.and ?_
            | refine Br.or ?_
            | (refine Bnd.i64 ?_ ?_ ?_; (focus omega); (focus omega))
            | (refine Idx.nat ?_ ?_; (focus omega))
            | refine Idx.nat (le_big (by omega)) ?_
            | (refine Idx.int ?_ ?_ ?_; (focus omega); (focus omega))
            | (refine Idx.int ?_ ?_ ?_; (focus decide); (focus decide))
            | refine Ifz.zero ?_
            | (refine Ifz.pos ?_ ?_; (focus omega))
            | refine Get.mk _ rfl ?_
            | refine Leaves.of ?_
            | refine Ends.of ?_
            | refine Vw.bool ?_
            | refine Vw.int ?_
            | refine Vw.nil
            | refine Vw.sl
            | refine Vw.tup ?_
            | refine Vw.agg ?_
            | refine VwL.cons ?_ ?_
            | refine VwL.nil
            | refine LeavesF.of ?_
            | refine VwF.bool ?_
            | refine VwF.int ?_
            | refine VwF.nil
            | refine VwF.sl
            | refine VwF.tup ?_
            | refine VwF.agg ?_
            | refine VwLF.cons ?_ ?_
            | refine VwLF.nil
            | (refine Req.mk ?_ ?_; (focus first | rfl | decide | exact ⟨rfl, rfl⟩ | exact ⟨rfl, by decide⟩ | exact (fun _ => rfl) | exact (fun h => nomatch h) | (simp; done) | omega | (simp [big]; done) | exact le_big (by omega) | exact lt_big (by omega))))
        all_goals first | rfl | (exfalso; omega)
      | cons s1 S1 =>
        repeat' (first
          | (conv => whnf)
            first
            | refine Br.t ?_
            | refine Br.f ?_
            | (refine Br.decT ?_ ?_; (focus first | assumption | omega))
            | (refine Br.decF ?_ ?_; (focus first | assumption | omega))
            | refine Br.dec (fun _ => ?_) (fun _ => ?_)
            | refine Br.not ?_
            | refine Br.and ?_
            | refine Br.or ?_
            | (refine Bnd.i64 ?_ ?_ ?_; (focus omega); (focus omega))
            | refine Vw.spt rfl rfl rfl rfl
            | (refine Idx.nat ?_ ?_; (focus omega))
            | refine Idx.nat (le_big (by omega)) ?_
            | (refine Idx.int ?_ ?_ ?_; (focus omega); (focus omega))
            | (refine Idx.int ?_ ?_ ?_; (focus decide); (focus decide))
            | refine Ifz.zero ?_
            | (refine Ifz.pos ?_ ?_; (focus omega))
            | refine Get.mk _ rfl ?_
            | refine Leaves.of ?_
            | refine Ends.of ?_
            | refine Vw.bool ?_
            | refine Vw.int ?_
            | refine Vw.nil
            | refine Vw.sl
            | refine Vw.tup ?_
            | refine Vw.agg ?_
            | refine VwL.cons ?_ ?_
            | refine VwL.nil
            | refine LeavesF.of ?_
            | refine VwF.bool ?_
            | refine VwF.int ?_
            | refine VwF.nil
            | refine VwF.sl
            | refine VwF.tup ?_
            | refine VwF.agg ?_
            | refine VwLF.cons ?_ ?_
            | refine VwLF.nil
            | (refine Req.mk ?_ ?_; (focus first | rfl | decide | exact ⟨rfl, rfl⟩ | exact ⟨rfl, by decide⟩ | exact (fun _ => rfl) | exact (fun h => nomatch h) | (simp; done) | omega | (simp [big]; done) | exact le_big (by omega) | exact lt_big (by omega))))
        all_goals first | rfl | (exfalso; omega)

end Go.Dr.T
