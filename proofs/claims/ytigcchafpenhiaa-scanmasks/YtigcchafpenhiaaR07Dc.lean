/- Chapter 07: a visit by depth of the program: the closure of Spots. -/
import Derived.Test.YtigcchafpenhiaaR07Db
namespace Go.Dr.T

theorem fVe {l l' : List V} {K : List V → Prop} (e : l = l') (h : K l') : fV l K := fV.mk (e ▸ h)
set_option maxRecDepth 100000 in
theorem wide_any {a b n : Int} : Fun F md 77 [.agg [.int .i64 a, .int .i64 b], .int .i64 n] (.agg [.int .i64 (min a n), .int .i64 (max b n)]) := by
  refine fun_of rfl rfl ?_
  repeat' (first
    | (conv => whnf)
      first
      | refine Br.t ?_
      | refine Br.f ?_
      | (refine Br.decT ?_ ?_; (focus first | assumption | omega))
      | (refine Br.decF ?_ ?_; (focus first | assumption | omega))
      | refine Br.dec (fun _ => ?_) (fun _ => ?_)
      | refine Br.not ?_
      | refine Br.and ?_
      | refine Br.or ?_
      | (refine Bnd.i64 ?_ ?_ ?_; (focus omega); (focus omega))
      | refine Bnd.any ?_
      | (refine Idx.nat ?_ ?_; (focus omega))
      | refine Idx.nat (le_big (by omega)) ?_
      | (refine Idx.int ?_ ?_ ?_; (focus omega); (focus omega))
      | (refine Idx.int ?_ ?_ ?_; (focus decide); (focus decide))
      | refine Ifz.zero ?_
      | (refine Ifz.pos ?_ ?_; (focus omega))
      | refine Get.mk _ rfl ?_
      | refine Leaves.of ?_
      | refine Ends.of ?_
      | refine Vw.bool ?_
      | refine Vw.int ?_
      | refine Vw.nil
      | refine Vw.sl
      | refine Vw.tup ?_
      | refine Vw.agg ?_
      | refine VwL.cons ?_ ?_
      | refine VwL.nil
      | refine LeavesF.of ?_
      | refine VwF.bool ?_
      | refine VwF.int ?_
      | refine VwF.nil
      | refine VwF.sl
      | refine VwF.tup ?_
      | refine VwF.agg ?_
      | refine VwLF.cons ?_ ?_
      | refine VwLF.nil
      | (refine Req.mk ?_ ?_; (focus first | rfl | decide | exact ⟨rfl, rfl⟩ | exact ⟨rfl, by decide⟩ | exact (fun _ => rfl) | exact (fun h => nomatch h) | (simp; done) | omega | (simp [big]; done) | exact le_big (by omega) | exact lt_big (by omega))))
  all_goals rfl
theorem pic_views {h : List B} {W H : Int} {g n id : Nat} {cl dat : Bool} {m : List UInt8} {x y : Int} (h1 : bget h id = some (.blk (ofBytes m) dat)) (hg : m.length = g) (hn : m.length = n) :
    views h depth ([.agg [.int .i64 W, .int .i64 H, .ms 1 id g 0 n cl], .int .i64 x, .int .i64 y] ++ []) = some [frV W H cl m, .int .i64 x, .int .i64 y] := by
  subst hg; subst hn
  have hp : part (ofBytes m) 0 (m.length * 1) = some (ofBytes m) := by
    have e := ofBytes_length m
    unfold part
    simp only [drop', Nat.mul_one]
    have ht : ∀ (l : List V), take' l.length l = l := by
      intro l
      induction l with
      | nil => rfl
      | cons v l ih => simp only [List.length_cons, take', ih]
    rw [← e, ht, if_pos rfl]
  exact (VwL.cons (Vw.agg (VwL.cons (Vw.int rfl) (VwL.cons (Vw.int rfl) (VwL.cons (Vw.ms h1 (ofBytes_length m) hp (VwL.bytes m)) VwL.nil)))) (VwL.cons (Vw.int rfl) (VwL.cons (Vw.int rfl) VwL.nil)) : VwL h 64 _ _).1

section
variable {W H : Nat} {l : List UInt8} {C : List V} {k d : Nat} {s0 : Spt}
abbrev tkC : List V := [.ref 3 3 0, .ref 1 1 0, .ref 4 1 0]
/-- The blocks while spots are looked for. -/
abbrev Hp (U : List B) (W H : Nat) (l : List UInt8) (C : List V) (k d : Nat) (s0 : Spt) (vis : List Nat) : List B :=
  [.blk [.int .i64 W, .int .i64 H, .ms 1 2 l.length 0 l.length false] false, .blk [.ms 5 5 (5 * k + 5) 0 (k + 1) false] false, .blk (ofBytes (zr l vis)) true,
   .blk [.int .i64 W, .int .i64 H, .ms 1 2 l.length 0 l.length false] false, .blk [.fn 76 tkC] false, .blk (C ++ P5 (sF W d s0 vis)) true] ++ U

set_option maxRecDepth 100000 in
set_option maxHeartbeats 40000000 in
theorem take_ok0 (hW : W ≤ 48) (hH : H ≤ 48) (hl : l.length = W * H) (hC : C.length = 5 * k) (hsc : scalars C = true) (hk : k ≤ 2304) (hs0 : s0.n = 0) :
    ∀ (n : Nat) (vis : List Nat) (x y : Int) (K : V → List Dr.B → Prop), d ≤ vis.length → vis.length + leftN (dark l) (W * H) vis ≤ 2304 → leftN (dark l) (W * H) vis < n → K (.tup []) (Hp [] W H l C k d s0 (dfsC W H l n (x, y) vis)) → CallP F md 0 (.fn 76 tkC) [.int .i64 x, .int .i64 y] (Hp [] W H l C k d s0 vis) K
  | 0, _, _, _, _, _, _, h, _ => by omega
  | n + 1, vis, x, y, K, hd, hv, hn, hK => by
    have hzl := zr_length l vis
    have hWH : W * H ≤ 2304 := Nat.mul_le_mul hW hH
    have hh := has_pix (c := false) (l := zr l vis) hW hH x y
    have hvw := fun (h : List Dr.B) (h1 : bget h 2 = some (.blk (ofBytes (zr l vis)) true)) => pic_views (W := W) (H := H) (x := x) (y := y) (cl := false) h1 hzl hzl
    by_cases hp : pixB W H x y
    · have ha := at_pix (c := false) (l := zr l vis) hW hH (by rw [hzl]; exact hl) hp
      have hp' := hp
      obtain ⟨p1, p2, p3, p4⟩ := hp'
      obtain ⟨X, rfl⟩ := Int.eq_ofNat_of_zero_le p1
      obtain ⟨Y, rfl⟩ := Int.eq_ofNat_of_zero_le p3
      have hX : X < W := by omega
      have hY : Y < H := by omega
      have hlt := place_lt hX hY
      have hYW : Y * W ≤ 2304 := Nat.mul_le_mul (show Y ≤ 48 by omega) hW
      have e1 : ((Y : Int) * (W : Int) + (X : Int)) = ((Y * W + X : Nat) : Int) := by push_cast; rfl
      have hpl : placeOf W H ((X : Int), (Y : Int)) = some (Y * W + X) := by
        unfold placeOf
        rw [if_pos ⟨p1, p2, p3, p4⟩]
        dsimp only
        rw [e1, Int.toNat_natCast]
      have hpv : pixV W H (zr l vis) X Y = if Y * W + X ∈ vis then 0 else ((l.getD (Y * W + X) 0).toNat : Int) := by
        unfold pixV
        rw [if_pos hp, e1, Int.toNat_natCast, zr_at (by rw [hl]; exact hlt)]
        split <;> rfl
      simp only [dfsC, hpl] at hK
      rw [decide_eq_true hp] at hh
      by_cases hg : dark l (Y * W + X) = true ∧ Y * W + X ∉ vis
      · have ih := take_ok0 hW hH hl hC hsc hk hs0 n
        have hpn : pixV W H (zr l vis) X Y ≠ 0 := by
          rw [hpv, if_neg hg.2]
          have := hg.1
          unfold dark at this
          simp only [ne_eq, decide_eq_true_eq] at this
          intro h0
          exact this (UInt8.toNat_inj.1 (by rw [show (l.getD (Y * W + X) 0).toNat = 0 by omega]; rfl))
        have hpr := pixV_le W H (zr l vis) X Y
        rw [rows_dfs hX hY hg] at hK
        have hlt' := leftN_add (N := W * H) (v := vis) hlt hg.1 hg.2
        have hn1 : leftN (dark l) (W * H) (vis ++ [Y * W + X]) < n := by omega
        have hd1 : d ≤ (vis ++ [Y * W + X]).length := by rw [List.length_append]; omega
        have hv1 : (vis ++ [Y * W + X]).length + leftN (dark l) (W * H) (vis ++ [Y * W + X]) ≤ 2304 := by rw [List.length_append, List.length_singleton]; omega
        have hput := over_bytes (l := zr l vis) (i := Y * W + X) (b := 0) (by rw [hzl, hl]; exact hlt)
        rw [zr_set] at hput
        have hsn := sF_n (W := W) (d := d) (s0 := s0) (vis := vis)
        have hsA := sF_add (W := W) (s0 := s0) (i := Y * W + X) hd
        have hg1 : (ofBytes (zr l vis)).length = l.length := by rw [ofBytes_length, hzl]
        have hgo : 0 + (Y * W + X) * 1 + 1 ≤ (ofBytes (zr l vis)).length := by rw [hg1]; omega
        have hrow := fun kb => rowsC_ext (x := (X : Int)) (y := (Y : Int)) hl hn1 kb
        have hrow2 := fun kb => rowsC_room (n := n) hl (X : Int) (Y : Int) (vis ++ [Y * W + X]) kb
        generalize hvis1 : vis ++ [Y * W + X] = vis1 at *
        simp only [Spt.add, (place_div (y := Y) hX).1, (place_div (y := Y) hX).2] at hsA
        have hnb : (sF W d s0 vis).n ≤ 2304 := by omega
        have hnb0 : 0 ≤ (sF W d s0 vis).n := by omega
        clear hsn
        unfold Hp
        generalize sF W d s0 vis = s at *
        obtain ⟨a1, a2, b1, b2, cn⟩ := s
        dsimp only at hsA hnb hnb0
        generalize pixV W H (zr l vis) X Y = v at *
        have hb1 : IntKind.i64.wrap ((Y : Int) * (W : Int)) = ((Y * W : Nat) : Int) := by
          rw [show (Y : Int) * (W : Int) = ((Y * W : Nat) : Int) by push_cast; rfl]
          exact wrap_i64 (by omega) (by omega)
        have hb2 : IntKind.i64.wrap (((Y * W : Nat) : Int) + (X : Int)) = ((Y * W + X : Nat) : Int) := by rw [wrap_i64 (by omega) (by omega)]; omega
        have hb3 : IntKind.i64.wrap (((k + 1 : Nat) : Int) - 1) = (k : Int) := by rw [wrap_i64 (by omega) (by omega)]; omega
        have hlen : (C ++ P5 ⟨a1, a2, b1, b2, cn⟩).length = 5 * k + 5 := by rw [List.length_append, hC]; rfl
        have hq1 : part (C ++ P5 ⟨a1, a2, b1, b2, cn⟩) (0 + k * 5 + 0 + 0) 2 = some [.int .i64 a1, .int .i64 a2] := by
          rw [show 0 + k * 5 + 0 + 0 = C.length + 0 by omega, part_app]; rfl
        have hq2 : part (C ++ P5 ⟨a1, a2, b1, b2, cn⟩) (0 + k * 5 + 0 + 2) 2 = some [.int .i64 b1, .int .i64 b2] := by
          rw [show 0 + k * 5 + 0 + 2 = C.length + 2 by omega, part_app]; rfl
        have hw1 : over (C ++ P5 ⟨a1, a2, b1, b2, cn⟩) (0 + k * 5 + 0) [.int .i64 (min a1 X), .int .i64 (max a2 X), .int .i64 (min b1 Y), .int .i64 (max b2 Y)] = C ++ P5 ⟨min a1 X, max a2 X, min b1 Y, max b2 Y, cn⟩ := by
          rw [show 0 + k * 5 + 0 = C.length + 0 by omega, over_app]; rfl
        have hlen2 : (C ++ P5 ⟨min a1 X, max a2 X, min b1 Y, max b2 Y, cn⟩).length = 5 * k + 5 := by rw [List.length_append, hC]; rfl
        have hq3 : cellAt (C ++ P5 ⟨min a1 X, max a2 X, min b1 Y, max b2 Y, cn⟩) (0 + k * 5 + 4) = some (.int .i64 cn) := by
          rw [show 0 + k * 5 + 4 = C.length + 4 by omega, cellAt_app2]; rfl
        have hw2 : over (C ++ P5 ⟨min a1 X, max a2 X, min b1 Y, max b2 Y, cn⟩) (0 + k * 5 + 4) [.int .i64 (cn + 1)] = C ++ P5 (sF W d s0 vis1) := by
          rw [hsA, show 0 + k * 5 + 4 = C.length + 4 by omega, over_app]; rfl
        have hY0 : IntKind.i64.wrap ((Y : Int) - 1) = (Y : Int) - 1 + ((0 : Nat) : Int) := by rw [wrap_i64 (by omega) (by omega)]; omega
        have hX0 : IntKind.i64.wrap ((X : Int) - 1) = (X : Int) - 1 + ((0 : Nat) : Int) := by rw [wrap_i64 (by omega) (by omega)]; omega
        have hwa := @wide_any a1 a2 X
        have hwb := @wide_any b1 b2 Y
        refine call_one rfl rfl rfl ?_
        repeat' (first
          | (conv => whnf)
            first
            | refine Bnd.eq hb1 ?_
            | refine Bnd.eq hb2 ?_
            | refine Bnd.eq hb3 ?_
            | refine Bnd.eq hY0 ?_
            | refine Br.t ?_
            | refine Br.f ?_
            | (refine Br.decT ?_ ?_; (focus first | assumption | omega))
            | (refine Br.decF ?_ ?_; (focus first | assumption | omega))
            | refine Br.dec (fun _ => ?_) (fun _ => ?_)
            | refine Br.not ?_
            | refine Br.and ?_
            | refine Br.or ?_
            | (refine Bnd.i64 ?_ ?_ ?_; (focus omega); (focus omega))
            | refine call_fun rfl (hvw _ rfl) hh (.inr rfl) ?_
            | refine call_fun rfl (hvw _ rfl) ha (.inr rfl) ?_
            | refine call_fun rfl rfl hwa (.inl rfl) ?_
            | refine call_fun rfl rfl hwb (.inl rfl) ?_
            | refine fVe hput ?_
            | refine fVe hw1 ?_
            | refine fVe hw2 ?_
            | refine Get.mk _ hq1 ?_
            | refine Get.mk _ hq2 ?_
            | refine Get.mk _ hq3 ?_
            | refine Req.mk hlen ?_
            | refine Req.mk hlen2 ?_
            | refine Req.mk hg1 ?_
            | refine Req.mk ⟨hg1, hgo⟩ ?_
            | refine Req.mk ⟨hlen, by rw [hlen]; omega⟩ ?_
            | refine Req.mk ⟨hlen2, by rw [hlen2]; omega⟩ ?_
            | (refine Idx.nat ?_ ?_; (focus omega))
            | refine Idx.nat (le_big (by omega)) ?_
            | (refine Idx.int ?_ ?_ ?_; (focus omega); (focus omega))
            | (refine Idx.int ?_ ?_ ?_; (focus decide); (focus decide))
            | refine Ifz.zero ?_
            | (refine Ifz.pos ?_ ?_; (focus omega))
            | refine Get.mk _ rfl ?_
            | refine Leaves.of ?_
            | refine Ends.of ?_
            | refine Vw.bool ?_
            | refine Vw.int ?_
            | refine Vw.nil
            | refine Vw.sl
            | refine Vw.tup ?_
            | refine Vw.agg ?_
            | refine VwL.cons ?_ ?_
            | refine VwL.nil
            | refine LeavesF.of ?_
            | refine VwF.bool ?_
            | refine VwF.int ?_
            | refine VwF.nil
            | refine VwF.sl
            | refine VwF.tup ?_
            | refine VwF.agg ?_
            | refine VwLF.cons ?_ ?_
            | refine VwLF.nil
            | (refine Req.mk ?_ ?_; (focus first | rfl | decide | exact ⟨rfl, rfl⟩ | exact ⟨rfl, by decide⟩ | exact (fun _ => rfl) | exact (fun h => nomatch h) | (simp; done) | omega | (simp [big]; done) | exact le_big (by omega) | exact lt_big (by omega))))
        all_goals try (exfalso; omega)
        clear hvw hh ha hput hq1 hq2 hq3 hw1 hw2 hlen hlen2 hg1 hgo hwa hwb hpn hpr hpv
        refine LoopP.by (fun kb : Nat => kb ≤ 3) (fun kb => [(8, .int .i64 ((Y : Int) - 1 + ((kb : Nat) : Int)))]) (fun kb => Hp [] W H l C k d s0 (rowsC W H l n X Y kb vis1)) (fun kb => 3 - kb) 0 (Nat.zero_le _) rfl ?_
        intro kb hkb
        have hrk := hrow2 kb
        obtain ⟨t, et⟩ := hrow kb
        by_cases hb3' : kb < 3
        · have hY1 : IntKind.i64.wrap ((Y : Int) - 1 + ((kb : Nat) : Int) + 1) = (Y : Int) - 1 + ((kb + 1 : Nat) : Int) := by rw [wrap_i64 (by omega) (by omega)]; omega
          have hdv : d ≤ (rowsC W H l n X Y kb vis1).length := by rw [et, List.length_append]; omega
          have hnv : leftN (dark l) (W * H) (rowsC W H l n X Y kb vis1) < n := Nat.lt_of_le_of_lt (leftN_mono fun p hp => by rw [et]; simp [hp]) hn1
          repeat' (first
            | (conv => whnf)
              first
              | refine Bnd.eq hX0 ?_
              | refine Br.t ?_
              | refine Br.f ?_
              | (refine Br.decT ?_ ?_; (focus first | assumption | omega))
              | (refine Br.decF ?_ ?_; (focus first | assumption | omega))
              | refine Br.dec (fun _ => ?_) (fun _ => ?_)
              | refine Br.not ?_
              | refine Br.and ?_
              | refine Br.or ?_
              | (refine Bnd.i64 ?_ ?_ ?_; (focus omega); (focus omega))
              | (refine Idx.nat ?_ ?_; (focus omega))
              | refine Idx.nat (le_big (by omega)) ?_
              | (refine Idx.int ?_ ?_ ?_; (focus omega); (focus omega))
              | (refine Idx.int ?_ ?_ ?_; (focus decide); (focus decide))
              | refine Ifz.zero ?_
              | (refine Ifz.pos ?_ ?_; (focus omega))
              | refine Get.mk _ rfl ?_
              | refine Leaves.of ?_
              | refine Ends.of ?_
              | refine Vw.bool ?_
              | refine Vw.int ?_
              | refine Vw.nil
              | refine Vw.sl
              | refine Vw.tup ?_
              | refine Vw.agg ?_
              | refine VwL.cons ?_ ?_
              | refine VwL.nil
              | refine LeavesF.of ?_
              | refine VwF.bool ?_
              | refine VwF.int ?_
              | refine VwF.nil
              | refine VwF.sl
              | refine VwF.tup ?_
              | refine VwF.agg ?_
              | refine VwLF.cons ?_ ?_
              | refine VwLF.nil
              | (refine Req.mk ?_ ?_; (focus first | rfl | decide | exact ⟨rfl, rfl⟩ | exact ⟨rfl, by decide⟩ | exact (fun _ => rfl) | exact (fun h => nomatch h) | (simp; done) | omega | (simp [big]; done) | exact le_big (by omega) | exact lt_big (by omega))))
          all_goals try (exfalso; omega)
          refine LoopP.by (fun ka : Nat => ka ≤ 3) (fun ka => [(9, .int .i64 ((X : Int) - 1 + ((ka : Nat) : Int)))]) (fun ka => Hp [] W H l C k d s0 (rowC W H l n X ((Y : Int) - 1 + ((kb : Nat) : Int)) ka (rowsC W H l n X Y kb vis1))) (fun ka => 3 - ka) 0 (Nat.zero_le _) rfl ?_
          intro ka hka
          have hrk2 := rowC_room (n := n) hl (X : Int) ((Y : Int) - 1 + ((kb : Nat) : Int)) (rowsC W H l n X Y kb vis1) ka
          obtain ⟨t2, et2⟩ := rowC_ext (x := (X : Int)) (b := (Y : Int) - 1 + ((kb : Nat) : Int)) hl hnv ka
          by_cases ha3 : ka < 3
          · have hX1 : IntKind.i64.wrap ((X : Int) - 1 + ((ka : Nat) : Int) + 1) = (X : Int) - 1 + ((ka + 1 : Nat) : Int) := by rw [wrap_i64 (by omega) (by omega)]; omega
            have hdw : d ≤ (rowC W H l n X ((Y : Int) - 1 + ((kb : Nat) : Int)) ka (rowsC W H l n X Y kb vis1)).length := by rw [et2, List.length_append]; omega
            have hnw : leftN (dark l) (W * H) (rowC W H l n X ((Y : Int) - 1 + ((kb : Nat) : Int)) ka (rowsC W H l n X Y kb vis1)) < n := Nat.lt_of_le_of_lt (leftN_mono fun p hp => by rw [et2]; simp [hp]) hnv
            have hvw2 : (rowC W H l n X ((Y : Int) - 1 + ((kb : Nat) : Int)) ka (rowsC W H l n X Y kb vis1)).length + leftN (dark l) (W * H) (rowC W H l n X ((Y : Int) - 1 + ((kb : Nat) : Int)) ka (rowsC W H l n X Y kb vis1)) ≤ 2304 := by omega
            have ih2 := fun K => ih (rowC W H l n X ((Y : Int) - 1 + ((kb : Nat) : Int)) ka (rowsC W H l n X Y kb vis1)) ((X : Int) - 1 + ((ka : Nat) : Int)) ((Y : Int) - 1 + ((kb : Nat) : Int)) K hdw hvw2 hnw
            repeat' (first
              | (conv => whnf)
                first
                | refine Bnd.eq hX1 ?_
                | refine Br.t ?_
                | refine Br.f ?_
                | (refine Br.decT ?_ ?_; (focus first | assumption | omega))
                | (refine Br.decF ?_ ?_; (focus first | assumption | omega))
                | refine Br.dec (fun _ => ?_) (fun _ => ?_)
                | refine Br.not ?_
                | refine Br.and ?_
                | refine Br.or ?_
                | (refine Bnd.i64 ?_ ?_ ?_; (focus omega); (focus omega))
                | refine ih2 _ ?_
                | (refine Idx.nat ?_ ?_; (focus omega))
                | refine Idx.nat (le_big (by omega)) ?_
                | (refine Idx.int ?_ ?_ ?_; (focus omega); (focus omega))
                | (refine Idx.int ?_ ?_ ?_; (focus decide); (focus decide))
                | refine Ifz.zero ?_
                | (refine Ifz.pos ?_ ?_; (focus omega))
                | refine Get.mk _ rfl ?_
                | refine Leaves.of ?_
                | refine Ends.of ?_
                | refine Vw.bool ?_
                | refine Vw.int ?_
                | refine Vw.nil
                | refine Vw.sl
                | refine Vw.tup ?_
                | refine Vw.agg ?_
                | refine VwL.cons ?_ ?_
                | refine VwL.nil
                | refine LeavesF.of ?_
                | refine VwF.bool ?_
                | refine VwF.int ?_
                | refine VwF.nil
                | refine VwF.sl
                | refine VwF.tup ?_
                | refine VwF.agg ?_
                | refine VwLF.cons ?_ ?_
                | refine VwLF.nil
                | (refine Req.mk ?_ ?_; (focus first | rfl | decide | exact ⟨rfl, rfl⟩ | exact ⟨rfl, by decide⟩ | exact (fun _ => rfl) | exact (fun h => nomatch h) | (simp; done) | omega | (simp [big]; done) | exact le_big (by omega) | exact lt_big (by omega))))
            all_goals first | exact NextP.mk (ka + 1) (by omega) (by omega) rfl | (exfalso; omega)
          · obtain rfl : ka = 3 := by omega
            repeat' (first
              | (conv => whnf)
                first
                | refine Bnd.eq hY1 ?_
                | refine Br.t ?_
                | refine Br.f ?_
                | (refine Br.decT ?_ ?_; (focus first | assumption | omega))
                | (refine Br.decF ?_ ?_; (focus first | assumption | omega))
                | refine Br.dec (fun _ => ?_) (fun _ => ?_)
                | refine Br.not ?_
                | refine Br.and ?_
                | refine Br.or ?_
                | (refine Bnd.i64 ?_ ?_ ?_; (focus omega); (focus omega))
                | (refine Idx.nat ?_ ?_; (focus omega))
                | refine Idx.nat (le_big (by omega)) ?_
                | (refine Idx.int ?_ ?_ ?_; (focus omega); (focus omega))
                | (refine Idx.int ?_ ?_ ?_; (focus decide); (focus decide))
                | refine Ifz.zero ?_
                | (refine Ifz.pos ?_ ?_; (focus omega))
                | refine Get.mk _ rfl ?_
                | refine Leaves.of ?_
                | refine Ends.of ?_
                | refine Vw.bool ?_
                | refine Vw.int ?_
                | refine Vw.nil
                | refine Vw.sl
                | refine Vw.tup ?_
                | refine Vw.agg ?_
                | refine VwL.cons ?_ ?_
                | refine VwL.nil
                | refine LeavesF.of ?_
                | refine VwF.bool ?_
                | refine VwF.int ?_
                | refine VwF.nil
                | refine VwF.sl
                | refine VwF.tup ?_
                | refine VwF.agg ?_
                | refine VwLF.cons ?_ ?_
                | refine VwLF.nil
                | (refine Req.mk ?_ ?_; (focus first | rfl | decide | exact ⟨rfl, rfl⟩ | exact ⟨rfl, by decide⟩ | exact (fun _ => rfl) | exact (fun h => nomatch h) | (simp; done) | omega | (simp [big]; done) | exact le_big (by omega) | exact lt_big (by omega))))
            all_goals first | exact NextP.mk (kb + 1) (by omega) (by omega) rfl | (exfalso; omega)
        · obtain rfl : kb = 3 := by omega
          repeat' (first
            | (conv => whnf)
              first
              | refine Br.t ?_
              | refine Br.f ?_
              | (refine Br.decT ?_ ?_; (focus first | assumption | omega))
              | (refine Br.decF ?_ ?_; (focus first | assumption | omega))
              | refine Br.dec (fun _ => ?_) (fun _ => ?_)
              | refine Br.not ?_
              | refine Br.and ?_
              | refine Br.or ?_
              | (refine Bnd.i64 ?_ ?_ ?_; (focus omega); (focus omega))
              | (refine Idx.nat ?_ ?_; (focus omega))
              | refine Idx.nat (le_big (by omega)) ?_
              | (refine Idx.int ?_ ?_ ?_; (focus omega); (focus omega))
              | (refine Idx.int ?_ ?_ ?_; (focus decide); (focus decide))
              | refine Ifz.zero ?_
              | (refine Ifz.pos ?_ ?_; (focus omega))
              | refine Get.mk _ rfl ?_
              | refine Leaves.of ?_
              | refine Ends.of ?_
              | refine Vw.bool ?_
              | refine Vw.int ?_
              | refine Vw.nil
              | refine Vw.sl
              | refine Vw.tup ?_
              | refine Vw.agg ?_
              | refine VwL.cons ?_ ?_
              | refine VwL.nil
              | refine LeavesF.of ?_
              | refine VwF.bool ?_
              | refine VwF.int ?_
              | refine VwF.nil
              | refine VwF.sl
              | refine VwF.tup ?_
              | refine VwF.agg ?_
              | refine VwLF.cons ?_ ?_
              | refine VwLF.nil
              | (refine Req.mk ?_ ?_; (focus first | rfl | decide | exact ⟨rfl, rfl⟩ | exact ⟨rfl, by decide⟩ | exact (fun _ => rfl) | exact (fun h => nomatch h) | (simp; done) | omega | (simp [big]; done) | exact le_big (by omega) | exact lt_big (by omega))))
          all_goals first | exact hK | (exfalso; omega)
      · have hz : pixV W H (zr l vis) X Y = 0 := by
          rw [hpv]
          split
          · rfl
          · rename_i h2
            have : ¬ dark l (Y * W + X) = true := fun h => hg ⟨h, h2⟩
            unfold dark at this
            simp only [ne_eq, decide_eq_true_eq, Classical.not_not] at this
            rw [this]; rfl
        have hsame : dfs (nb W H) (dark l) (n + 1) (Y * W + X) vis = vis := by
          simp only [dfs]
          rw [if_neg]
          intro h
          simp only [Bool.and_eq_true, Bool.not_eq_true', List.contains_eq_mem, decide_eq_false_iff_not] at h
          exact hg h
        rw [hz] at ha
        rw [hsame] at hK
        refine call_one rfl rfl rfl ?_
        repeat' (first
          | (conv => whnf)
            first
            | refine Br.t ?_
            | refine Br.f ?_
            | (refine Br.decT ?_ ?_; (focus first | assumption | omega))
            | (refine Br.decF ?_ ?_; (focus first | assumption | omega))
            | refine Br.dec (fun _ => ?_) (fun _ => ?_)
            | refine Br.not ?_
            | refine Br.and ?_
            | refine Br.or ?_
            | (refine Bnd.i64 ?_ ?_ ?_; (focus omega); (focus omega))
            | refine call_fun rfl (hvw _ rfl) hh (.inr rfl) ?_
            | refine call_fun rfl (hvw _ rfl) ha (.inr rfl) ?_
            | (refine Idx.nat ?_ ?_; (focus omega))
            | refine Idx.nat (le_big (by omega)) ?_
            | (refine Idx.int ?_ ?_ ?_; (focus omega); (focus omega))
            | (refine Idx.int ?_ ?_ ?_; (focus decide); (focus decide))
            | refine Ifz.zero ?_
            | (refine Ifz.pos ?_ ?_; (focus omega))
            | refine Get.mk _ rfl ?_
            | refine Leaves.of ?_
            | refine Ends.of ?_
            | refine Vw.bool ?_
            | refine Vw.int ?_
            | refine Vw.nil
            | refine Vw.sl
            | refine Vw.tup ?_
            | refine Vw.agg ?_
            | refine VwL.cons ?_ ?_
            | refine VwL.nil
            | refine LeavesF.of ?_
            | refine VwF.bool ?_
            | refine VwF.int ?_
            | refine VwF.nil
            | refine VwF.sl
            | refine VwF.tup ?_
            | refine VwF.agg ?_
            | refine VwLF.cons ?_ ?_
            | refine VwLF.nil
            | (refine Req.mk ?_ ?_; (focus first | rfl | decide | exact ⟨rfl, rfl⟩ | exact ⟨rfl, by decide⟩ | exact (fun _ => rfl) | exact (fun h => nomatch h) | (simp; done) | omega | (simp [big]; done) | exact le_big (by omega) | exact lt_big (by omega))))
        all_goals first | exact hK | (exfalso; omega)
    · have hpl : placeOf W H (x, y) = none := by
        unfold placeOf
        rw [if_neg (fun h => hp ⟨h.1, h.2.1, h.2.2.1, h.2.2.2⟩)]
      simp only [dfsC, hpl] at hK
      rw [decide_eq_false hp] at hh
      refine call_one rfl rfl rfl ?_
      repeat' (first
        | (conv => whnf)
          first
          | refine Br.t ?_
          | refine Br.f ?_
          | (refine Br.decT ?_ ?_; (focus first | assumption | omega))
          | (refine Br.decF ?_ ?_; (focus first | assumption | omega))
          | refine Br.dec (fun _ => ?_) (fun _ => ?_)
          | refine Br.not ?_
          | refine Br.and ?_
          | refine Br.or ?_
          | (refine Bnd.i64 ?_ ?_ ?_; (focus omega); (focus omega))
          | refine call_fun rfl (hvw _ rfl) hh (.inr rfl) ?_
          | (refine Idx.nat ?_ ?_; (focus omega))
          | refine Idx.nat (le_big (by omega)) ?_
          | (refine Idx.int ?_ ?_ ?_; (focus omega); (focus omega))
          | (refine Idx.int ?_ ?_ ?_; (focus decide); (focus decide))
          | refine Ifz.zero ?_
          | (refine Ifz.pos ?_ ?_; (focus omega))
          | refine Get.mk _ rfl ?_
          | refine Leaves.of ?_
          | refine Ends.of ?_
          | refine Vw.bool ?_
          | refine Vw.int ?_
          | refine Vw.nil
          | refine Vw.sl
          | refine Vw.tup ?_
          | refine Vw.agg ?_
          | refine VwL.cons ?_ ?_
          | refine VwL.nil
          | refine LeavesF.of ?_
          | refine VwF.bool ?_
          | refine VwF.int ?_
          | refine VwF.nil
          | refine VwF.sl
          | refine VwF.tup ?_
          | refine VwF.agg ?_
          | refine VwLF.cons ?_ ?_
          | refine VwLF.nil
          | (refine Req.mk ?_ ?_; (focus first | rfl | decide | exact ⟨rfl, rfl⟩ | exact ⟨rfl, by decide⟩ | exact (fun _ => rfl) | exact (fun h => nomatch h) | (simp; done) | omega | (simp [big]; done) | exact le_big (by omega) | exact lt_big (by omega))))
      all_goals first | exact hK | (exfalso; omega)
set_option maxRecDepth 100000 in
set_option maxHeartbeats 40000000 in
theorem take_ok1 (hW : W ≤ 48) (hH : H ≤ 48) (hl : l.length = W * H) (hC : C.length = 5 * k) (hsc : scalars C = true) (hk : k ≤ 2304) (hs0 : s0.n = 0) :
    ∀ (n : Nat) (vis : List Nat) (x y : Int) (K : V → List Dr.B → Prop), d ≤ vis.length → vis.length + leftN (dark l) (W * H) vis ≤ 2304 → leftN (dark l) (W * H) vis < n → K (.tup []) (Hp [.unborn] W H l C k d s0 (dfsC W H l n (x, y) vis)) → CallP F md 0 (.fn 76 tkC) [.int .i64 x, .int .i64 y] (Hp [.unborn] W H l C k d s0 vis) K
  | 0, _, _, _, _, _, _, h, _ => by omega
  | n + 1, vis, x, y, K, hd, hv, hn, hK => by
    have hzl := zr_length l vis
    have hWH : W * H ≤ 2304 := Nat.mul_le_mul hW hH
    have hh := has_pix (c := false) (l := zr l vis) hW hH x y
    have hvw := fun (h : List Dr.B) (h1 : bget h 2 = some (.blk (ofBytes (zr l vis)) true)) => pic_views (W := W) (H := H) (x := x) (y := y) (cl := false) h1 hzl hzl
    by_cases hp : pixB W H x y
    · have ha := at_pix (c := false) (l := zr l vis) hW hH (by rw [hzl]; exact hl) hp
      have hp' := hp
      obtain ⟨p1, p2, p3, p4⟩ := hp'
      obtain ⟨X, rfl⟩ := Int.eq_ofNat_of_zero_le p1
      obtain ⟨Y, rfl⟩ := Int.eq_ofNat_of_zero_le p3
      have hX : X < W := by omega
      have hY : Y < H := by omega
      have hlt := place_lt hX hY
      have hYW : Y * W ≤ 2304 := Nat.mul_le_mul (show Y ≤ 48 by omega) hW
      have e1 : ((Y : Int) * (W : Int) + (X : Int)) = ((Y * W + X : Nat) : Int) := by push_cast; rfl
      have hpl : placeOf W H ((X : Int), (Y : Int)) = some (Y * W + X) := by
        unfold placeOf
        rw [if_pos ⟨p1, p2, p3, p4⟩]
        dsimp only
        rw [e1, Int.toNat_natCast]
      have hpv : pixV W H (zr l vis) X Y = if Y * W + X ∈ vis then 0 else ((l.getD (Y * W + X) 0).toNat : Int) := by
        unfold pixV
        rw [if_pos hp, e1, Int.toNat_natCast, zr_at (by rw [hl]; exact hlt)]
        split <;> rfl
      simp only [dfsC, hpl] at hK
      rw [decide_eq_true hp] at hh
      by_cases hg : dark l (Y * W + X) = true ∧ Y * W + X ∉ vis
      · have ih := take_ok1 hW hH hl hC hsc hk hs0 n
        have hpn : pixV W H (zr l vis) X Y ≠ 0 := by
          rw [hpv, if_neg hg.2]
          have := hg.1
          unfold dark at this
          simp only [ne_eq, decide_eq_true_eq] at this
          intro h0
          exact this (UInt8.toNat_inj.1 (by rw [show (l.getD (Y * W + X) 0).toNat = 0 by omega]; rfl))
        have hpr := pixV_le W H (zr l vis) X Y
        rw [rows_dfs hX hY hg] at hK
        have hlt' := leftN_add (N := W * H) (v := vis) hlt hg.1 hg.2
        have hn1 : leftN (dark l) (W * H) (vis ++ [Y * W + X]) < n := by omega
        have hd1 : d ≤ (vis ++ [Y * W + X]).length := by rw [List.length_append]; omega
        have hv1 : (vis ++ [Y * W + X]).length + leftN (dark l) (W * H) (vis ++ [Y * W + X]) ≤ 2304 := by rw [List.length_append, List.length_singleton]; omega
        have hput := over_bytes (l := zr l vis) (i := Y * W + X) (b := 0) (by rw [hzl, hl]; exact hlt)
        rw [zr_set] at hput
        have hsn := sF_n (W := W) (d := d) (s0 := s0) (vis := vis)
        have hsA := sF_add (W := W) (s0 := s0) (i := Y * W + X) hd
        have hg1 : (ofBytes (zr l vis)).length = l.length := by rw [ofBytes_length, hzl]
        have hgo : 0 + (Y * W + X) * 1 + 1 ≤ (ofBytes (zr l vis)).length := by rw [hg1]; omega
        have hrow := fun kb => rowsC_ext (x := (X : Int)) (y := (Y : Int)) hl hn1 kb
        have hrow2 := fun kb => rowsC_room (n := n) hl (X : Int) (Y : Int) (vis ++ [Y * W + X]) kb
        generalize hvis1 : vis ++ [Y * W + X] = vis1 at *
        simp only [Spt.add, (place_div (y := Y) hX).1, (place_div (y := Y) hX).2] at hsA
        have hnb : (sF W d s0 vis).n ≤ 2304 := by omega
        have hnb0 : 0 ≤ (sF W d s0 vis).n := by omega
        clear hsn
        unfold Hp
        generalize sF W d s0 vis = s at *
        obtain ⟨a1, a2, b1, b2, cn⟩ := s
        dsimp only at hsA hnb hnb0
        generalize pixV W H (zr l vis) X Y = v at *
        have hb1 : IntKind.i64.wrap ((Y : Int) * (W : Int)) = ((Y * W : Nat) : Int) := by
          rw [show (Y : Int) * (W : Int) = ((Y * W : Nat) : Int) by push_cast; rfl]
          exact wrap_i64 (by omega) (by omega)
        have hb2 : IntKind.i64.wrap (((Y * W : Nat) : Int) + (X : Int)) = ((Y * W + X : Nat) : Int) := by rw [wrap_i64 (by omega) (by omega)]; omega
        have hb3 : IntKind.i64.wrap (((k + 1 : Nat) : Int) - 1) = (k : Int) := by rw [wrap_i64 (by omega) (by omega)]; omega
        have hlen : (C ++ P5 ⟨a1, a2, b1, b2, cn⟩).length = 5 * k + 5 := by rw [List.length_append, hC]; rfl
        have hq1 : part (C ++ P5 ⟨a1, a2, b1, b2, cn⟩) (0 + k * 5 + 0 + 0) 2 = some [.int .i64 a1, .int .i64 a2] := by
          rw [show 0 + k * 5 + 0 + 0 = C.length + 0 by omega, part_app]; rfl
        have hq2 : part (C ++ P5 ⟨a1, a2, b1, b2, cn⟩) (0 + k * 5 + 0 + 2) 2 = some [.int .i64 b1, .int .i64 b2] := by
          rw [show 0 + k * 5 + 0 + 2 = C.length + 2 by omega, part_app]; rfl
        have hw1 : over (C ++ P5 ⟨a1, a2, b1, b2, cn⟩) (0 + k * 5 + 0) [.int .i64 (min a1 X), .int .i64 (max a2 X), .int .i64 (min b1 Y), .int .i64 (max b2 Y)] = C ++ P5 ⟨min a1 X, max a2 X, min b1 Y, max b2 Y, cn⟩ := by
          rw [show 0 + k * 5 + 0 = C.length + 0 by omega, over_app]; rfl
        have hlen2 : (C ++ P5 ⟨min a1 X, max a2 X, min b1 Y, max b2 Y, cn⟩).length = 5 * k + 5 := by rw [List.length_append, hC]; rfl
        have hq3 : cellAt (C ++ P5 ⟨min a1 X, max a2 X, min b1 Y, max b2 Y, cn⟩) (0 + k * 5 + 4) = some (.int .i64 cn) := by
          rw [show 0 + k * 5 + 4 = C.length + 4 by omega, cellAt_app2]; rfl
        have hw2 : over (C ++ P5 ⟨min a1 X, max a2 X, min b1 Y, max b2 Y, cn⟩) (0 + k * 5 + 4) [.int .i64 (cn + 1)] = C ++ P5 (sF W d s0 vis1) := by
          rw [hsA, show 0 + k * 5 + 4 = C.length + 4 by omega, over_app]; rfl
        have hY0 : IntKind.i64.wrap ((Y : Int) - 1) = (Y : Int) - 1 + ((0 : Nat) : Int) := by rw [wrap_i64 (by omega) (by omega)]; omega
        have hX0 : IntKind.i64.wrap ((X : Int) - 1) = (X : Int) - 1 + ((0 : Nat) : Int) := by rw [wrap_i64 (by omega) (by omega)]; omega
        have hwa := @wide_any a1 a2 X
        have hwb := @wide_any b1 b2 Y
        refine call_one rfl rfl rfl ?_
        repeat' (first
          | (conv => whnf)
            first
            | refine Bnd.eq hb1 ?_
            | refine Bnd.eq hb2 ?_
            | refine Bnd.eq hb3 ?_
            | refine Bnd.eq hY0 ?_
            | refine Br.t ?_
            | refine Br.f ?_
            | (refine Br.decT ?_ ?_; (focus first | assumption | omega))
            | (refine Br.decF ?_ ?_; (focus first | assumption | omega))
            | refine Br.dec (fun _ => ?_) (fun _ => ?_)
            | refine Br.not ?_
            | refine Br.and ?_
            | refine Br.or ?_
            | (refine Bnd.i64 ?_ ?_ ?_; (focus omega); (focus omega))
            | refine call_fun rfl (hvw _ rfl) hh (.inr rfl) ?_
            | refine call_fun rfl (hvw _ rfl) ha (.inr rfl) ?_
            | refine call_fun rfl rfl hwa (.inl rfl) ?_
            | refine call_fun rfl rfl hwb (.inl rfl) ?_
            | refine fVe hput ?_
            | refine fVe hw1 ?_
            | refine fVe hw2 ?_
            | refine Get.mk _ hq1 ?_
            | refine Get.mk _ hq2 ?_
            | refine Get.mk _ hq3 ?_
            | refine Req.mk hlen ?_
            | refine Req.mk hlen2 ?_
            | refine Req.mk hg1 ?_
            | refine Req.mk ⟨hg1, hgo⟩ ?_
            | refine Req.mk ⟨hlen, by rw [hlen]; omega⟩ ?_
            | refine Req.mk ⟨hlen2, by rw [hlen2]; omega⟩ ?_
            | (refine Idx.nat ?_ ?_; (focus omega))
            | refine Idx.nat (le_big (by omega)) ?_
            | (refine Idx.int ?_ ?_ ?_; (focus omega); (focus omega))
            | (refine Idx.int ?_ ?_ ?_; (focus decide); (focus decide))
            | refine Ifz.zero ?_
            | (refine Ifz.pos ?_ ?_; (focus omega))
            | refine Get.mk _ rfl ?_
            | refine Leaves.of ?_
            | refine Ends.of ?_
            | refine Vw.bool ?_
            | refine Vw.int ?_
            | refine Vw.nil
            | refine Vw.sl
            | refine Vw.tup ?_
            | refine Vw.agg ?_
            | refine VwL.cons ?_ ?_
            | refine VwL.nil
            | refine LeavesF.of ?_
            | refine VwF.bool ?_
            | refine VwF.int ?_
            | refine VwF.nil
            | refine VwF.sl
            | refine VwF.tup ?_
            | refine VwF.agg ?_
            | refine VwLF.cons ?_ ?_
            | refine VwLF.nil
            | (refine Req.mk ?_ ?_; (focus first | rfl | decide | exact ⟨rfl, rfl⟩ | exact ⟨rfl, by decide⟩ | exact (fun _ => rfl) | exact (fun h => nomatch h) | (simp; done) | omega | (simp [big]; done) | exact le_big (by omega) | exact lt_big (by omega))))
        all_goals try (exfalso; omega)
        clear hvw hh ha hput hq1 hq2 hq3 hw1 hw2 hlen hlen2 hg1 hgo hwa hwb hpn hpr hpv
        refine LoopP.by (fun kb : Nat => kb ≤ 3) (fun kb => [(8, .int .i64 ((Y : Int) - 1 + ((kb : Nat) : Int)))]) (fun kb => Hp [.unborn] W H l C k d s0 (rowsC W H l n X Y kb vis1)) (fun kb => 3 - kb) 0 (Nat.zero_le _) rfl ?_
        intro kb hkb
        have hrk := hrow2 kb
        obtain ⟨t, et⟩ := hrow kb
        by_cases hb3' : kb < 3
        · have hY1 : IntKind.i64.wrap ((Y : Int) - 1 + ((kb : Nat) : Int) + 1) = (Y : Int) - 1 + ((kb + 1 : Nat) : Int) := by rw [wrap_i64 (by omega) (by omega)]; omega
          have hdv : d ≤ (rowsC W H l n X Y kb vis1).length := by rw [et, List.length_append]; omega
          have hnv : leftN (dark l) (W * H) (rowsC W H l n X Y kb vis1) < n := Nat.lt_of_le_of_lt (leftN_mono fun p hp => by rw [et]; simp [hp]) hn1
          repeat' (first
            | (conv => whnf)
              first
              | refine Bnd.eq hX0 ?_
              | refine Br.t ?_
              | refine Br.f ?_
              | (refine Br.decT ?_ ?_; (focus first | assumption | omega))
              | (refine Br.decF ?_ ?_; (focus first | assumption | omega))
              | refine Br.dec (fun _ => ?_) (fun _ => ?_)
              | refine Br.not ?_
              | refine Br.and ?_
              | refine Br.or ?_
              | (refine Bnd.i64 ?_ ?_ ?_; (focus omega); (focus omega))
              | (refine Idx.nat ?_ ?_; (focus omega))
              | refine Idx.nat (le_big (by omega)) ?_
              | (refine Idx.int ?_ ?_ ?_; (focus omega); (focus omega))
              | (refine Idx.int ?_ ?_ ?_; (focus decide); (focus decide))
              | refine Ifz.zero ?_
              | (refine Ifz.pos ?_ ?_; (focus omega))
              | refine Get.mk _ rfl ?_
              | refine Leaves.of ?_
              | refine Ends.of ?_
              | refine Vw.bool ?_
              | refine Vw.int ?_
              | refine Vw.nil
              | refine Vw.sl
              | refine Vw.tup ?_
              | refine Vw.agg ?_
              | refine VwL.cons ?_ ?_
              | refine VwL.nil
              | refine LeavesF.of ?_
              | refine VwF.bool ?_
              | refine VwF.int ?_
              | refine VwF.nil
              | refine VwF.sl
              | refine VwF.tup ?_
              | refine VwF.agg ?_
              | refine VwLF.cons ?_ ?_
              | refine VwLF.nil
              | (refine Req.mk ?_ ?_; (focus first | rfl | decide | exact ⟨rfl, rfl⟩ | exact ⟨rfl, by decide⟩ | exact (fun _ => rfl) | exact (fun h => nomatch h) | (simp; done) | omega | (simp [big]; done) | exact le_big (by omega) | exact lt_big (by omega))))
          all_goals try (exfalso; omega)
          refine LoopP.by (fun ka : Nat => ka ≤ 3) (fun ka => [(9, .int .i64 ((X : Int) - 1 + ((ka : Nat) : Int)))]) (fun ka => Hp [.unborn] W H l C k d s0 (rowC W H l n X ((Y : Int) - 1 + ((kb : Nat) : Int)) ka (rowsC W H l n X Y kb vis1))) (fun ka => 3 - ka) 0 (Nat.zero_le _) rfl ?_
          intro ka hka
          have hrk2 := rowC_room (n := n) hl (X : Int) ((Y : Int) - 1 + ((kb : Nat) : Int)) (rowsC W H l n X Y kb vis1) ka
          obtain ⟨t2, et2⟩ := rowC_ext (x := (X : Int)) (b := (Y : Int) - 1 + ((kb : Nat) : Int)) hl hnv ka
          by_cases ha3 : ka < 3
          · have hX1 : IntKind.i64.wrap ((X : Int) - 1 + ((ka : Nat) : Int) + 1) = (X : Int) - 1 + ((ka + 1 : Nat) : Int) := by rw [wrap_i64 (by omega) (by omega)]; omega
            have hdw : d ≤ (rowC W H l n X ((Y : Int) - 1 + ((kb : Nat) : Int)) ka (rowsC W H l n X Y kb vis1)).length := by rw [et2, List.length_append]; omega
            have hnw : leftN (dark l) (W * H) (rowC W H l n X ((Y : Int) - 1 + ((kb : Nat) : Int)) ka (rowsC W H l n X Y kb vis1)) < n := Nat.lt_of_le_of_lt (leftN_mono fun p hp => by rw [et2]; simp [hp]) hnv
            have hvw2 : (rowC W H l n X ((Y : Int) - 1 + ((kb : Nat) : Int)) ka (rowsC W H l n X Y kb vis1)).length + leftN (dark l) (W * H) (rowC W H l n X ((Y : Int) - 1 + ((kb : Nat) : Int)) ka (rowsC W H l n X Y kb vis1)) ≤ 2304 := by omega
            have ih2 := fun K => ih (rowC W H l n X ((Y : Int) - 1 + ((kb : Nat) : Int)) ka (rowsC W H l n X Y kb vis1)) ((X : Int) - 1 + ((ka : Nat) : Int)) ((Y : Int) - 1 + ((kb : Nat) : Int)) K hdw hvw2 hnw
            repeat' (first
              | (conv => whnf)
                first
                | refine Bnd.eq hX1 ?_
                | refine Br.t ?_
                | refine Br.f ?_
                | (refine Br.decT ?_ ?_; (focus first | assumption | omega))
                | (refine Br.decF ?_ ?_; (focus first | assumption | omega))
                | refine Br.dec (fun _ => ?_) (fun _ => ?_)
                | refine Br.not ?_
                | refine Br.and ?_
                | refine Br.or ?_
                | (refine Bnd.i64 ?_ ?_ ?_; (focus omega); (focus omega))
                | refine ih2 _ ?_
                | (refine Idx.nat ?_ ?_; (focus omega))
                | refine Idx.nat (le_big (by omega)) ?_
                | (refine Idx.int ?_ ?_ ?_; (focus omega); (focus omega))
                | (refine Idx.int ?_ ?_ ?_; (focus decide); (focus decide))
                | refine Ifz.zero ?_
                | (refine Ifz.pos ?_ ?_; (focus omega))
                | refine Get.mk _ rfl ?_
                | refine Leaves.of ?_
                | refine Ends.of ?_
                | refine Vw.bool ?_
                | refine Vw.int ?_
                | refine Vw.nil
                | refine Vw.sl
                | refine Vw.tup ?_
                | refine Vw.agg ?_
                | refine VwL.cons ?_ ?_
                | refine VwL.nil
                | refine LeavesF.of ?_
                | refine VwF.bool ?_
                | refine VwF.int ?_
                | refine VwF.nil
                | refine VwF.sl
                | refine VwF.tup ?_
                | refine VwF.agg ?_
                | refine VwLF.cons ?_ ?_
                | refine VwLF.nil
                | (refine Req.mk ?_ ?_; (focus first | rfl | decide | exact ⟨rfl, rfl⟩ | exact ⟨rfl, by decide⟩ | exact (fun _ => rfl) | exact (fun h => nomatch h) | (simp; done) | omega | (simp [big]; done) | exact le_big (by omega) | exact lt_big (by omega))))
            all_goals first | exact NextP.mk (ka + 1) (by omega) (by omega) rfl | (exfalso; omega)
          · obtain rfl : ka = 3 := by omega
            repeat' (first
              | (conv => whnf)
                first
                | refine Bnd.eq hY1 ?_
                | refine Br.t ?_
                | refine Br.f ?_
                | (refine Br.decT ?_ ?_; (focus first | assumption | omega))
                | (refine Br.decF ?_ ?_; (focus first | assumption | omega))
                | refine Br.dec (fun _ => ?_) (fun _ => ?_)
                | refine Br.not ?_
                | refine Br.and ?_
                | refine Br.or ?_
                | (refine Bnd.i64 ?_ ?_ ?_; (focus omega); (focus omega))
                | (refine Idx.nat ?_ ?_; (focus omega))
                | refine Idx.nat (le_big (by omega)) ?_
                | (refine Idx.int ?_ ?_ ?_; (focus omega); (focus omega))
                | (refine Idx.int ?_ ?_ ?_; (focus decide); (focus decide))
                | refine Ifz.zero ?_
                | (refine Ifz.pos ?_ ?_; (focus omega))
                | refine Get.mk _ rfl ?_
                | refine Leaves.of ?_
                | refine Ends.of ?_
                | refine Vw.bool ?_
                | refine Vw.int ?_
                | refine Vw.nil
                | refine Vw.sl
                | refine Vw.tup ?_
                | refine Vw.agg ?_
                | refine VwL.cons ?_ ?_
                | refine VwL.nil
                | refine LeavesF.of ?_
                | refine VwF.bool ?_
                | refine VwF.int ?_
                | refine VwF.nil
                | refine VwF.sl
                | refine VwF.tup ?_
                | refine VwF.agg ?_
                | refine VwLF.cons ?_ ?_
                | refine VwLF.nil
                | (refine Req.mk ?_ ?_; (focus first | rfl | decide | exact ⟨rfl, rfl⟩ | exact ⟨rfl, by decide⟩ | exact (fun _ => rfl) | exact (fun h => nomatch h) | (simp; done) | omega | (simp [big]; done) | exact le_big (by omega) | exact lt_big (by omega))))
            all_goals first | exact NextP.mk (kb + 1) (by omega) (by omega) rfl | (exfalso; omega)
        · obtain rfl : kb = 3 := by omega
          repeat' (first
            | (conv => whnf)
              first
              | refine Br.t ?_
              | refine Br.f ?_
              | (refine Br.decT ?_ ?_; (focus first | assumption | omega))
              | (refine Br.decF ?_ ?_; (focus first | assumption | omega))
              | refine Br.dec (fun _ => ?_) (fun _ => ?_)
              | refine Br.not ?_
              | refine Br.and ?_
              | refine Br.or ?_
              | (refine Bnd.i64 ?_ ?_ ?_; (focus omega); (focus omega))
              | (refine Idx.nat ?_ ?_; (focus omega))
              | refine Idx.nat (le_big (by omega)) ?_
              | (refine Idx.int ?_ ?_ ?_; (focus omega); (focus omega))
              | (refine Idx.int ?_ ?_ ?_; (focus decide); (focus decide))
              | refine Ifz.zero ?_
              | (refine Ifz.pos ?_ ?_; (focus omega))
              | refine Get.mk _ rfl ?_
              | refine Leaves.of ?_
              | refine Ends.of ?_
              | refine Vw.bool ?_
              | refine Vw.int ?_
              | refine Vw.nil
              | refine Vw.sl
              | refine Vw.tup ?_
              | refine Vw.agg ?_
              | refine VwL.cons ?_ ?_
              | refine VwL.nil
              | refine LeavesF.of ?_
              | refine VwF.bool ?_
              | refine VwF.int ?_
              | refine VwF.nil
              | refine VwF.sl
              | refine VwF.tup ?_
              | refine VwF.agg ?_
              | refine VwLF.cons ?_ ?_
              | refine VwLF.nil
              | (refine Req.mk ?_ ?_; (focus first | rfl | decide | exact ⟨rfl, rfl⟩ | exact ⟨rfl, by decide⟩ | exact (fun _ => rfl) | exact (fun h => nomatch h) | (simp; done) | omega | (simp [big]; done) | exact le_big (by omega) | exact lt_big (by omega))))
          all_goals first | exact hK | (exfalso; omega)
      · have hz : pixV W H (zr l vis) X Y = 0 := by
          rw [hpv]
          split
          · rfl
          · rename_i h2
            have : ¬ dark l (Y * W + X) = true := fun h => hg ⟨h, h2⟩
            unfold dark at this
            simp only [ne_eq, decide_eq_true_eq, Classical.not_not] at this
            rw [this]; rfl
        have hsame : dfs (nb W H) (dark l) (n + 1) (Y * W + X) vis = vis := by
          simp only [dfs]
          rw [if_neg]
          intro h
          simp only [Bool.and_eq_true, Bool.not_eq_true', List.contains_eq_mem, decide_eq_false_iff_not] at h
          exact hg h
        rw [hz] at ha
        rw [hsame] at hK
        refine call_one rfl rfl rfl ?_
        repeat' (first
          | (conv => whnf)
            first
            | refine Br.t ?_
            | refine Br.f ?_
            | (refine Br.decT ?_ ?_; (focus first | assumption | omega))
            | (refine Br.decF ?_ ?_; (focus first | assumption | omega))
            | refine Br.dec (fun _ => ?_) (fun _ => ?_)
            | refine Br.not ?_
            | refine Br.and ?_
            | refine Br.or ?_
            | (refine Bnd.i64 ?_ ?_ ?_; (focus omega); (focus omega))
            | refine call_fun rfl (hvw _ rfl) hh (.inr rfl) ?_
            | refine call_fun rfl (hvw _ rfl) ha (.inr rfl) ?_
            | (refine Idx.nat ?_ ?_; (focus omega))
            | refine Idx.nat (le_big (by omega)) ?_
            | (refine Idx.int ?_ ?_ ?_; (focus omega); (focus omega))
            | (refine Idx.int ?_ ?_ ?_; (focus decide); (focus decide))
            | refine Ifz.zero ?_
            | (refine Ifz.pos ?_ ?_; (focus omega))
            | refine Get.mk _ rfl ?_
            | refine Leaves.of ?_
            | refine Ends.of ?_
            | refine Vw.bool ?_
            | refine Vw.int ?_
            | refine Vw.nil
            | refine Vw.sl
            | refine Vw.tup ?_
            | refine Vw.agg ?_
            | refine VwL.cons ?_ ?_
            | refine VwL.nil
            | refine LeavesF.of ?_
            | refine VwF.bool ?_
            | refine VwF.int ?_
            | refine VwF.nil
            | refine VwF.sl
            | refine VwF.tup ?_
            | refine VwF.agg ?_
            | refine VwLF.cons ?_ ?_
            | refine VwLF.nil
            | (refine Req.mk ?_ ?_; (focus first | rfl | decide | exact ⟨rfl, rfl⟩ | exact ⟨rfl, by decide⟩ | exact (fun _ => rfl) | exact (fun h => nomatch h) | (simp; done) | omega | (simp [big]; done) | exact le_big (by omega) | exact lt_big (by omega))))
        all_goals first | exact hK | (exfalso; omega)
    · have hpl : placeOf W H (x, y) = none := by
        unfold placeOf
        rw [if_neg (fun h => hp ⟨h.1, h.2.1, h.2.2.1, h.2.2.2⟩)]
      simp only [dfsC, hpl] at hK
      rw [decide_eq_false hp] at hh
      refine call_one rfl rfl rfl ?_
      repeat' (first
        | (conv => whnf)
          first
          | refine Br.t ?_
          | refine Br.f ?_
          | (refine Br.decT ?_ ?_; (focus first | assumption | omega))
          | (refine Br.decF ?_ ?_; (focus first | assumption | omega))
          | refine Br.dec (fun _ => ?_) (fun _ => ?_)
          | refine Br.not ?_
          | refine Br.and ?_
          | refine Br.or ?_
          | (refine Bnd.i64 ?_ ?_ ?_; (focus omega); (focus omega))
          | refine call_fun rfl (hvw _ rfl) hh (.inr rfl) ?_
          | (refine Idx.nat ?_ ?_; (focus omega))
          | refine Idx.nat (le_big (by omega)) ?_
          | (refine Idx.int ?_ ?_ ?_; (focus omega); (focus omega))
          | (refine Idx.int ?_ ?_ ?_; (focus decide); (focus decide))
          | refine Ifz.zero ?_
          | (refine Ifz.pos ?_ ?_; (focus omega))
          | refine Get.mk _ rfl ?_
          | refine Leaves.of ?_
          | refine Ends.of ?_
          | refine Vw.bool ?_
          | refine Vw.int ?_
          | refine Vw.nil
          | refine Vw.sl
          | refine Vw.tup ?_
          | refine Vw.agg ?_
          | refine VwL.cons ?_ ?_
          | refine VwL.nil
          | refine LeavesF.of ?_
          | refine VwF.bool ?_
          | refine VwF.int ?_
          | refine VwF.nil
          | refine VwF.sl
          | refine VwF.tup ?_
          | refine VwF.agg ?_
          | refine VwLF.cons ?_ ?_
          | refine VwLF.nil
          | (refine Req.mk ?_ ?_; (focus first | rfl | decide | exact ⟨rfl, rfl⟩ | exact ⟨rfl, by decide⟩ | exact (fun _ => rfl) | exact (fun h => nomatch h) | (simp; done) | omega | (simp [big]; done) | exact le_big (by omega) | exact lt_big (by omega))))
      all_goals first | exact hK | (exfalso; omega)
end

end Go.Dr.T
