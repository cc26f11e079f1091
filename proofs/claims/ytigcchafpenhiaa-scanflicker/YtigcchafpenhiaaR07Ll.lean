/- Chapter 07: Even of the program. -/
import Derived.Test.YtigcchafpenhiaaR07Lk
namespace Go.Dr.T

def z256 : List V := List.replicate 256 (.int .i64 0)
def c31z : Fc := ⟨38, 2, [.cell 4 true 3, .tmp 5], .seq (.reg false 2 [⟨some 2, none, 0, .bx 0 (.t 0)⟩, ⟨some 4, none, 0, .al 1 [.int .i64 0, .int .i64 0, .nilsl]⟩, ⟨some 5, none, 0, .mv (.c (.int .i64 0))⟩]) (.seq (.seq (.reg false 0 [⟨some 10, none, 0, .ld true 3 (.t 2)⟩, ⟨some 11, none, 1, .call (.c (.fn 17 [])) [.t 10]⟩, ⟨some 6, none, 3, .mv (.t 11)⟩]) (.seq (.reg false 0 [⟨some 12, none, 0, .mv (.t 6)⟩, ⟨some 13, none, 1, .bo .neq (.t 12) (.c (.int .i64 0))⟩]) (.cond (.t 13) (.seq (.reg false 0 [⟨some 14, none, 0, .bd [.int .i64 0, .int .i64 0, .nilsl] []⟩, ⟨some 15, none, 0, .mv (.t 6)⟩, ⟨none, none, 1, .st 3 (.t 4) (.t 14)⟩, ⟨some 5, none, 7, .mv (.t 15)⟩]) .ret) .skip))) (.seq (.seq (.reg false 0 [⟨some 16, none, 0, .mv (.t 1)⟩, ⟨some 17, none, 1, .call (.c (.fn 55 [])) [.t 16, .c (.int .i64 1), .c (.int .i64 100000)]⟩]) (.cond (.t 17) (.seq (.reg false 0 [⟨some 18, none, 0, .bd [.int .i64 0, .int .i64 0, .nilsl] []⟩, ⟨none, none, 1, .st 3 (.t 4) (.t 18)⟩, ⟨some 5, none, 3, .mv (.c (.int .i64 7))⟩]) .ret) .skip)) (.seq (.reg false 1 [⟨some 7, none, 0, .al 0 z256⟩]) (.seq (.seq (.reg false 0 [⟨some 19, none, 0, .mv (.c (.int .i64 0))⟩]) (.block 0 (.loop (.seq (.reg false 0 [⟨some 20, none, 0, .bo .lss (.t 19) (.c (.int .i64 256))⟩]) (.seq (.cond (.t 20) .skip (.exit 0)) (.seq (.block 1 (.seq (.reg false 0 [⟨some 21, none, 0, .mv (.t 19)⟩, ⟨some 8, none, 1, .mv (.t 21)⟩]) (.reg false 0 [⟨some 22, none, 0, .mv (.t 8)⟩, ⟨some 23, none, 0, .mv (.t 8)⟩, ⟨some 24, none, 2, .bo .mul (.c (.int .i64 2)) (.t 23)⟩, ⟨some 25, none, 6, .bo .add (.t 24) (.c (.int .i64 1))⟩, ⟨some 26, none, 14, .bo .mul (.c (.int .i64 500)) (.t 25)⟩, ⟨some 27, none, 0, .mv (.t 1)⟩, ⟨some 28, none, 62, .bo .quo (.t 26) (.t 27)⟩, ⟨some 29, none, 126, .mm false [.c (.int .i64 255), .t 28]⟩, ⟨some 30, none, 255, .iaa 1 256 (.t 7) (.t 22)⟩, ⟨none, none, 511, .st 1 (.t 30) (.t 29)⟩]))) (.reg false 0 [⟨some 31, none, 0, .bo .add (.t 19) (.c (.int .i64 1))⟩, ⟨some 19, none, 1, .mv (.t 31)⟩]))))))) (.seq (.reg false 0 [⟨some 32, none, 0, .iaa 1 256 (.t 7) (.c (.int .i64 255))⟩, ⟨none, none, 1, .st 1 (.t 32) (.c (.int .i64 255))⟩]) (.seq (.reg false 1 [⟨some 33, none, 0, .ld true 3 (.t 2)⟩, ⟨some 34, none, 1, .bd [.int .i64 0, .int .i64 0, .nilsl] [(0, 3, .t 33)]⟩, ⟨some 9, none, 0, .al 0 [.int .i64 0, .int .i64 0, .nilsl]⟩, ⟨none, none, 7, .st 3 (.t 9) (.t 34)⟩]) (.seq (.reg false 0 [⟨some 35, none, 0, .ld true 3 (.t 9)⟩, ⟨some 36, none, 0, .mf 73 [.t 7, .t 9]⟩, ⟨some 37, none, 3, .call (.c (.fn 58 [])) [.t 35, .t 36]⟩, ⟨none, none, 7, .st 3 (.t 4) (.t 37)⟩, ⟨some 5, none, 15, .mv (.c (.int .i64 0))⟩]) .ret)))))))⟩
set_option maxRecDepth 100000 in
theorem c31_eq : F 31 = some c31z := rfl
theorem z256_length : z256.length = 256 := List.length_replicate
theorem z256_zero (e : Int) : z256 = lvC e 0 := rfl
theorem lvC_succ (e : Int) (n : Nat) : lvC e (n + 1) = over (lvC e n) (0 + n * 1) [.int .i64 (min 255 ((500 * (2 * (n : Int) + 1)).tdiv e))] := by
  rw [Nat.mul_one, Nat.zero_add]; rfl
def lvG (e : Int) : List V := lvF e
theorem over_lvG (e : Int) : over (lvC e 256) (0 + 255 * 1) [.int .i64 255] = lvG e := rfl
theorem lvG_length (e : Int) : (lvG e).length = 256 := lvF_length e
theorem lvG_cell (e : Int) {j : Nat} (h : j ≤ 255) : cellAt (lvG e) (0 + j * 1) = some (.int .i64 (evV e j)) := by
  rw [Nat.mul_one, Nat.zero_add]; exact lvF_cell e h
theorem over_blo (k : Nat) {v : V} (hv : v.blo k = true) : ∀ (cs : List V) (n : Nat), blos k cs = true → blos k (over cs n [v]) = true
  | [], 0, _ => rfl
  | [], _ + 1, _ => rfl
  | x :: cs, 0, h => by
    simp only [blos, Bool.and_eq_true] at h
    simp only [over]
    simp only [blos, hv, Bool.true_and]
    cases cs with
    | nil => rfl
    | cons y cs => exact h.2
  | x :: cs, n + 1, h => by
    simp only [blos, Bool.and_eq_true] at h
    simp only [over, blos, h.1, over_blo k hv cs n h.2, Bool.and_self]
set_option maxRecDepth 100000 in
theorem lvC_blo (k : Nat) (e : Int) : ∀ n, blos k (lvC e n) = true
  | 0 => rfl
  | n + 1 => over_blo k rfl _ _ (lvC_blo k e n)
theorem lvG_blo (k : Nat) (e : Int) : blos k (lvG e) = true := over_blo k rfl _ _ (lvC_blo k e 256)
theorem norm_one {m : List Bool} {hl : Nat} {st : St} {tm : List V} {h : List B} (h1 : masked m st.tm = tm) (h2 : st.h.length = hl + 1) (h5 : st.h.take hl = h) (h3 : blos hl tm = true) (h4 : hbelow hl h = true) : norm m hl st = ⟨tm, h⟩ := by
  unfold norm trunc
  rw [h1, h2, Nat.add_sub_cancel_left]
  unfold strip
  simp only [Nat.add_zero, h5, h3, h4, Bool.and_self, if_true, strip]
theorem fB_trunc {n k : Nat} {tm : List V} {h h1 : List B} {K : List B → Prop} (e : h.length = n + (k + 1)) (h5 : h.take (n + k) = h1) (h3 : blos (n + k) tm = true) (h4 : hbelow (n + k) h1 = true) (hk : fB (strip n tm k h1) K) : fB (trunc n tm h) K := by
  have e2 : trunc n tm h = strip n tm k h1 := by
    unfold trunc
    rw [e, Nat.add_sub_cancel_left]
    conv => lhs; unfold strip
    simp only [h5, h3, h4, Bool.and_self, if_true]
  rw [e2]; exact hk
attribute [irreducible] z256 lvG
attribute [local irreducible] lvC lvF

set_option maxRecDepth 100000 in
set_option maxHeartbeats 2000000 in
theorem even_ok {W H : Nat} {c : Bool} {l : List UInt8} (h1 : 1 ≤ W) (h2 : W ≤ 48) (h3 : 1 ≤ H) (h4 : H ≤ 48) (hl : l.length = W * H) {e : Int} (he : 1 ≤ e ∧ e ≤ 100000) :
    FunF F md 31 [frV W H c l, .int .i64 e] (.tup [frV W H false (genL (evAt e l) (W * H)), .int .i64 0]) := by
  have hck := check_ok h1 h2 h3 h4 hl
  have hWH : W * H ≤ 2304 := Nat.mul_le_mul h2 h4
  have hWH1 : 1 * 1 ≤ W * H := Nat.mul_le_mul h1 h3
  refine funF_of c31_eq rfl ?_
  repeat' (first
    | (conv => whnf)
      first
      | refine Br.t ?_
      | refine Br.f ?_
      | (refine Br.decT ?_ ?_; (focus first | assumption | omega))
      | (refine Br.decF ?_ ?_; (focus first | assumption | omega))
      | refine Br.dec (fun _ => ?_) (fun _ => ?_)
      | refine Br.not ?_
      | refine Br.and ?_
      | refine Br.or ?_
      | (refine Bnd.i64 ?_ ?_ ?_; (focus omega); (focus omega))
      | refine call_fun rfl rfl (out_any _ _ _) (.inl rfl) ?_
      | refine call_fun rfl rfl (check_any _ _ _ _) (.inl rfl) ?_
      | (refine Idx.nat ?_ ?_; (focus omega))
      | (refine Idx.nat ?_ ?_; (focus omega))
      | refine Idx.nat (le_big (by omega)) ?_
      | (refine Idx.int ?_ ?_ ?_; (focus omega); (focus omega))
      | (refine Idx.int ?_ ?_ ?_; (focus decide); (focus decide))
      | refine Ifz.zero ?_
      | (refine Ifz.pos ?_ ?_; (focus omega))
      | refine Get.mk _ rfl ?_
      | refine Leaves.of ?_
      | refine Ends.of ?_
      | refine Vw.bool ?_
      | refine Vw.int ?_
      | refine Vw.nil
      | refine Vw.sl
      | refine Vw.tup ?_
      | refine Vw.agg ?_
      | refine VwL.cons ?_ ?_
      | refine VwL.nil
      | refine LeavesF.of ?_
      | refine VwF.bool ?_
      | refine VwF.int ?_
      | refine VwF.nil
      | refine VwF.sl
      | refine VwF.tup ?_
      | refine VwF.agg ?_
      | refine VwLF.cons ?_ ?_
      | refine VwLF.nil
      | (refine Req.mk ?_ ?_; (focus first | rfl | decide | exact ⟨rfl, rfl⟩ | exact ⟨rfl, by decide⟩ | exact (fun _ => rfl) | exact (fun h => nomatch h) | (simp; done) | omega | (simp [big]; done) | exact le_big (by omega) | exact lt_big (by omega))))
  refine LoopP.by (fun n : Nat => n ≤ 256) (fun n => [(19, .int .i64 (n : Nat))]) (fun n => [.blk [.int .i64 W, .int .i64 H, .sl c l.length (ofBytes l)] false, .blk [.int .i64 0, .int .i64 0, .nilsl] false, .blk (lvC e n) false]) (fun n => 256 - n) 0 (Nat.zero_le _) ?_ ?_
  · rw [← z256_zero e]; rfl
  intro n hn
  by_cases hin : n < 256
  · repeat' (first
      | (conv => whnf)
        first
        | refine Br.t ?_
        | refine Br.f ?_
        | (refine Br.decT ?_ ?_; (focus first | assumption | omega))
        | (refine Br.decF ?_ ?_; (focus first | assumption | omega))
        | refine Br.dec (fun _ => ?_) (fun _ => ?_)
        | refine Br.not ?_
        | refine Br.and ?_
        | refine Br.or ?_
        | (refine Bnd.i64 ?_ ?_ ?_; (focus omega); (focus omega))
        | refine Req.mk (show (_ : Int) ≠ 0 by omega) ?_
        | refine Bnd.i64 (tdiv_lo (by omega) (by omega)) (tdiv_hi (by omega) (by omega)) ?_
        | refine Bnd.any ?_
        | (refine Req.mk ?_ ?_; (focus first | exact (lvC_length _ _).trans z256_length.symm | exact ⟨(lvC_length _ _).trans z256_length.symm, by rw [lvC_length]; omega⟩ | (rw [z256_length]; omega)))
        | refine fV.mk (l := over (lvC _ _) _ _) ?_
        | refine Idx.nat (n := n) (k := .i64) (Nat.le_of_lt_succ hin) ?_
        | (refine Idx.nat ?_ ?_; (focus omega))
        | refine Idx.nat (le_big (by omega)) ?_
        | (refine Idx.int ?_ ?_ ?_; (focus omega); (focus omega))
        | (refine Idx.int ?_ ?_ ?_; (focus decide); (focus decide))
        | refine Ifz.zero ?_
        | (refine Ifz.pos ?_ ?_; (focus omega))
        | refine Get.mk _ rfl ?_
        | refine Leaves.of ?_
        | refine Ends.of ?_
        | refine Vw.bool ?_
        | refine Vw.int ?_
        | refine Vw.nil
        | refine Vw.sl
        | refine Vw.tup ?_
        | refine Vw.agg ?_
        | refine VwL.cons ?_ ?_
        | refine VwL.nil
        | refine LeavesF.of ?_
        | refine VwF.bool ?_
        | refine VwF.int ?_
        | refine VwF.nil
        | refine VwF.sl
        | refine VwF.tup ?_
        | refine VwF.agg ?_
        | refine VwLF.cons ?_ ?_
        | refine VwLF.nil
        | (refine Req.mk ?_ ?_; (focus first | rfl | decide | exact ⟨rfl, rfl⟩ | exact ⟨rfl, by decide⟩ | exact (fun _ => rfl) | exact (fun h => nomatch h) | (simp; done) | omega | (simp [big]; done) | exact le_big (by omega) | exact lt_big (by omega))))
    refine NextP.mk (n + 1) (by omega) (by omega) ?_
    rw [lvC_succ]
    rfl
  · obtain rfl : n = 256 := by omega
    repeat' (first
      | (conv => whnf)
        first
        | refine Br.t ?_
        | refine Br.f ?_
        | (refine Br.decT ?_ ?_; (focus first | assumption | omega))
        | (refine Br.decF ?_ ?_; (focus first | assumption | omega))
        | refine Br.dec (fun _ => ?_) (fun _ => ?_)
        | refine Br.not ?_
        | refine Br.and ?_
        | refine Br.or ?_
        | (refine Bnd.i64 ?_ ?_ ?_; (focus omega); (focus omega))
        | refine call_one rfl rfl rfl ?_
        | (refine Req.mk ?_ ?_; (focus first | exact (lvC_length _ _).trans z256_length.symm | exact ⟨(lvC_length _ _).trans z256_length.symm, by rw [lvC_length]; omega⟩ | (rw [z256_length]; omega)))
        | refine fV.mk (l := over (lvC _ _) _ _) ?_
        | (refine Idx.nat ?_ ?_; (focus omega))
        | refine Idx.nat (le_big (by omega)) ?_
        | (refine Idx.int ?_ ?_ ?_; (focus omega); (focus omega))
        | (refine Idx.int ?_ ?_ ?_; (focus decide); (focus decide))
        | refine Ifz.zero ?_
        | (refine Ifz.pos ?_ ?_; (focus omega))
        | refine Get.mk _ rfl ?_
        | refine Leaves.of ?_
        | refine Ends.of ?_
        | refine Vw.bool ?_
        | refine Vw.int ?_
        | refine Vw.nil
        | refine Vw.sl
        | refine Vw.tup ?_
        | refine Vw.agg ?_
        | refine VwL.cons ?_ ?_
        | refine VwL.nil
        | refine LeavesF.of ?_
        | refine VwF.bool ?_
        | refine VwF.int ?_
        | refine VwF.nil
        | refine VwF.sl
        | refine VwF.tup ?_
        | refine VwF.agg ?_
        | refine VwLF.cons ?_ ?_
        | refine VwLF.nil
        | (refine Req.mk ?_ ?_; (focus first | rfl | decide | exact ⟨rfl, rfl⟩ | exact ⟨rfl, by decide⟩ | exact (fun _ => rfl) | exact (fun h => nomatch h) | (simp; done) | omega | (simp [big]; done) | exact le_big (by omega) | exact lt_big (by omega))))
    rw [over_lvG]
    refine LoopP.by (fun y : Nat => y ≤ H) (fun y => [(23, .int .i64 (y : Nat))]) (fun y => [.blk [.int .i64 W, .int .i64 H, .sl c l.length (ofBytes l)] false, .blk [.int .i64 0, .int .i64 0, .nilsl] false, .blk (lvG e) false,
      .blk [.int .i64 W, .int .i64 H, .sl c l.length (ofBytes l)] false, .blk [.int .i64 W, .int .i64 H, .sl c l.length (ofBytes l)] false, .blk [.int .i64 0, .int .i64 0, .nilsl] false,
      .blk (ofBytes (genL (evAt e l) (y * W))) true, .blk [.int .i64 W, .int .i64 H, .ms 1 6 (y * W) 0 (y * W) false] false]) (fun y => H - y) 0 (Nat.zero_le _) ?_ ?_
    · rw [show decide (Int.toNat 0 = l.length) = false by simp; omega, Nat.zero_mul]
      rfl
    intro y hyH
    have hyW : y * W ≤ W * H := by rw [Nat.mul_comm W H]; exact Nat.mul_le_mul_right W hyH
    repeat' (first
      | (conv => whnf)
        first
        | refine Br.t ?_
        | refine Br.f ?_
        | (refine Br.decT ?_ ?_; (focus first | assumption | omega))
        | (refine Br.decF ?_ ?_; (focus first | assumption | omega))
        | refine Br.dec (fun _ => ?_) (fun _ => ?_)
        | refine Br.not ?_
        | refine Br.and ?_
        | refine Br.or ?_
        | (refine Bnd.i64 ?_ ?_ ?_; (focus omega); (focus omega))
        | (refine Idx.nat ?_ ?_; (focus omega))
        | refine Idx.nat (le_big (by omega)) ?_
        | (refine Idx.int ?_ ?_ ?_; (focus omega); (focus omega))
        | (refine Idx.int ?_ ?_ ?_; (focus decide); (focus decide))
        | refine Ifz.zero ?_
        | (refine Ifz.pos ?_ ?_; (focus omega))
        | refine Get.mk _ rfl ?_
        | refine Leaves.of ?_
        | refine Ends.of ?_
        | refine Vw.bool ?_
        | refine Vw.int ?_
        | refine Vw.nil
        | refine Vw.sl
        | refine Vw.tup ?_
        | refine Vw.agg ?_
        | refine VwL.cons ?_ ?_
        | refine VwL.nil
        | refine LeavesF.of ?_
        | refine VwF.bool ?_
        | refine VwF.int ?_
        | refine VwF.nil
        | refine VwF.sl
        | refine VwF.tup ?_
        | refine VwF.agg ?_
        | refine VwLF.cons ?_ ?_
        | refine VwLF.nil
        | (refine Req.mk ?_ ?_; (focus first | rfl | decide | exact ⟨rfl, rfl⟩ | exact ⟨rfl, by decide⟩ | exact (fun _ => rfl) | exact (fun h => nomatch h) | (simp; done) | omega | (simp [big]; done) | exact le_big (by omega) | exact lt_big (by omega))))
    · refine LoopP.by (fun x : Nat => x ≤ W) (fun x => [(29, .int .i64 (x : Nat))]) (fun x => [.blk [.int .i64 W, .int .i64 H, .sl c l.length (ofBytes l)] false, .blk [.int .i64 0, .int .i64 0, .nilsl] false, .blk (lvG e) false,
      .blk [.int .i64 W, .int .i64 H, .sl c l.length (ofBytes l)] false, .blk [.int .i64 W, .int .i64 H, .sl c l.length (ofBytes l)] false, .blk [.int .i64 0, .int .i64 0, .nilsl] false,
      .blk (ofBytes (genL (evAt e l) (y * W + x))) true, .blk [.int .i64 W, .int .i64 H, .ms 1 6 (y * W + x) 0 (y * W + x) false] false]) (fun x => W - x) 0 (Nat.zero_le _) rfl ?_
      intro x hxW
      have hsum : y * W + x ≤ 2400 := by omega
      by_cases hxW' : x < W
      · have hq := evAt_eq he.1 l (y * W + x)
        have hr := evV_range he.1 (n := ((bAt l (y * W + x)).toNat : Int)) (by omega)
        have hb := (bAt l (y * W + x)).toNat_lt
        repeat' (first
          | (conv => whnf)
            first
            | refine Br.t ?_
            | refine Br.f ?_
            | (refine Br.decT ?_ ?_; (focus first | assumption | omega))
            | (refine Br.decF ?_ ?_; (focus first | assumption | omega))
            | refine Br.dec (fun _ => ?_) (fun _ => ?_)
            | refine Br.not ?_
            | refine Br.and ?_
            | refine Br.or ?_
            | (refine Bnd.i64 ?_ ?_ ?_; (focus omega); (focus omega))
            | refine call_fun rfl rfl (at_in h2 h4 hl hxW' (by omega)) (.inl rfl) ?_
            | refine call_two rfl rfl rfl ?_
            | refine Idx.nat (Nat.le_of_lt_succ hb) ?_
            | refine Get.mk _ (lvG_cell e (Nat.le_of_lt_succ hb)) ?_
            | (refine Req.mk ?_ ?_; (focus first | exact (lvG_length _).trans z256_length.symm | exact ⟨(lvG_length _).trans z256_length.symm, by rw [lvG_length]; omega⟩))
            | refine Bnd.u8 hr.1 hr.2 ?_
            | refine Req.mk ((ofBytes_length _).trans (genL_length _ _)) ?_
            | refine Req.mk ⟨by omega, app_room ((ofBytes_length _).trans (genL_length _ _)) (by omega)⟩ ?_
            | (refine Idx.nat ?_ ?_; (focus omega))
            | refine Idx.nat (le_big (by omega)) ?_
            | (refine Idx.int ?_ ?_ ?_; (focus omega); (focus omega))
            | (refine Idx.int ?_ ?_ ?_; (focus decide); (focus decide))
            | refine Ifz.zero ?_
            | (refine Ifz.pos ?_ ?_; (focus omega))
            | refine Get.mk _ rfl ?_
            | refine Leaves.of ?_
            | refine Ends.of ?_
            | refine Vw.bool ?_
            | refine Vw.int ?_
            | refine Vw.nil
            | refine Vw.sl
            | refine Vw.tup ?_
            | refine Vw.agg ?_
            | refine VwL.cons ?_ ?_
            | refine VwL.nil
            | refine LeavesF.of ?_
            | refine VwF.bool ?_
            | refine VwF.int ?_
            | refine VwF.nil
            | refine VwF.sl
            | refine VwF.tup ?_
            | refine VwF.agg ?_
            | refine VwLF.cons ?_ ?_
            | refine VwLF.nil
            | (refine Req.mk ?_ ?_; (focus first | rfl | decide | exact ⟨rfl, rfl⟩ | exact ⟨rfl, by decide⟩ | exact (fun _ => rfl) | exact (fun h => nomatch h) | (simp; done) | omega | (simp [big]; done) | exact le_big (by omega) | exact lt_big (by omega))))
        refine NextP.mk (x + 1) (by omega) (by omega) ?_
        rw [genL_snoc hq]
        refine norm_one rfl rfl rfl rfl ?_
        simp [hbelow, B.blo, blos, V.blo, lvG_blo]
      · obtain rfl : x = W := by omega
        repeat' (first
          | (conv => whnf)
            first
            | refine Br.t ?_
            | refine Br.f ?_
            | (refine Br.decT ?_ ?_; (focus first | assumption | omega))
            | (refine Br.decF ?_ ?_; (focus first | assumption | omega))
            | refine Br.dec (fun _ => ?_) (fun _ => ?_)
            | refine Br.not ?_
            | refine Br.and ?_
            | refine Br.or ?_
            | (refine Bnd.i64 ?_ ?_ ?_; (focus omega); (focus omega))
            | (refine Idx.nat ?_ ?_; (focus omega))
            | refine Idx.nat (le_big (by omega)) ?_
            | (refine Idx.int ?_ ?_ ?_; (focus omega); (focus omega))
            | (refine Idx.int ?_ ?_ ?_; (focus decide); (focus decide))
            | refine Ifz.zero ?_
            | (refine Ifz.pos ?_ ?_; (focus omega))
            | refine Get.mk _ rfl ?_
            | refine Leaves.of ?_
            | refine Ends.of ?_
            | refine Vw.bool ?_
            | refine Vw.int ?_
            | refine Vw.nil
            | refine Vw.sl
            | refine Vw.tup ?_
            | refine Vw.agg ?_
            | refine VwL.cons ?_ ?_
            | refine VwL.nil
            | refine LeavesF.of ?_
            | refine VwF.bool ?_
            | refine VwF.int ?_
            | refine VwF.nil
            | refine VwF.sl
            | refine VwF.tup ?_
            | refine VwF.agg ?_
            | refine VwLF.cons ?_ ?_
            | refine VwLF.nil
            | (refine Req.mk ?_ ?_; (focus first | rfl | decide | exact ⟨rfl, rfl⟩ | exact ⟨rfl, by decide⟩ | exact (fun _ => rfl) | exact (fun h => nomatch h) | (simp; done) | omega | (simp [big]; done) | exact le_big (by omega) | exact lt_big (by omega))))
        refine NextP.mk (y + 1) (by omega) (by omega) ?_
        rw [show y * x + x = (y + 1) * x by rw [Nat.add_mul y 1, Nat.one_mul]]
        rfl
    · refine fW.mk ?_
      refine fB_trunc (k := 3) rfl rfl rfl (by simp [hbelow, B.blo, blos, V.blo, lvG_blo]) ?_
      repeat' (first
        | (conv => whnf)
          first
          | refine Br.t ?_
          | refine Br.f ?_
          | (refine Br.decT ?_ ?_; (focus first | assumption | omega))
          | (refine Br.decF ?_ ?_; (focus first | assumption | omega))
          | refine Br.dec (fun _ => ?_) (fun _ => ?_)
          | refine Br.not ?_
          | refine Br.and ?_
          | refine Br.or ?_
          | (refine Bnd.i64 ?_ ?_ ?_; (focus omega); (focus omega))
          | (refine Idx.nat ?_ ?_; (focus omega))
          | refine Idx.nat (le_big (by omega)) ?_
          | (refine Idx.int ?_ ?_ ?_; (focus omega); (focus omega))
          | (refine Idx.int ?_ ?_ ?_; (focus decide); (focus decide))
          | refine Ifz.zero ?_
          | (refine Ifz.pos ?_ ?_; (focus omega))
          | refine Get.mk _ rfl ?_
          | refine Leaves.of ?_
          | refine Ends.of ?_
          | refine Vw.bool ?_
          | refine Vw.int ?_
          | refine Vw.nil
          | refine Vw.sl
          | refine Vw.tup ?_
          | refine Vw.agg ?_
          | refine VwL.cons ?_ ?_
          | refine VwL.nil
          | refine LeavesF.of ?_
          | refine VwF.bool ?_
          | refine VwF.int ?_
          | refine VwF.nil
          | refine VwF.sl
          | refine VwF.tup ?_
          | refine VwF.agg ?_
          | refine VwLF.cons ?_ ?_
          | refine VwLF.nil
          | (refine Req.mk ?_ ?_; (focus first | rfl | decide | exact ⟨rfl, rfl⟩ | exact ⟨rfl, by decide⟩ | exact (fun _ => rfl) | exact (fun h => nomatch h) | (simp; done) | omega | (simp [big]; done) | exact le_big (by omega) | exact lt_big (by omega))))
      all_goals try rfl
      have e : y * W = W * H := by rw [show y = H by omega, Nat.mul_comm]
      exact VwF.bytes rfl (genL_length _ _).symm (genL_length _ _).symm (by rw [e]) (by rw [genL_length])

end Go.Dr.T
