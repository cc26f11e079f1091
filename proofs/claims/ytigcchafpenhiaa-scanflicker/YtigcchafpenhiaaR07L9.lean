/- Chapter 07: the law ScanEven. -/
import Derived.Test.YtigcchafpenhiaaR07Ev
import Derived.Test.YtigcchafpenhiaaR07Sa
import Derived.Test.YtigcchafpenhiaaR07Awk
namespace Go.Dr.T

def cl9 (x : Int) : Int := max 0 (min 10000000 x)
theorem cl9_range (x : Int) : 0 ≤ cl9 x ∧ cl9 x ≤ 10000000 := by unfold cl9; omega
def at9 (l : List Int) (i : Nat) : Int := l[i]?.getD 0
theorem at9_eq {l : List Int} {i : Nat} (h : i < l.length) : l[i] = at9 l i := by simp [at9, List.getElem?_eq_getElem h]
/-- the level of the i-th light. -/
def gE (l : List Int) (e : Int) (i : Nat) : UInt8 := UInt8.ofNat (lvL (cl9 (at9 l i)) e).toNat
theorem gE_eq {l : List Int} {e : Int} (he : 1 ≤ e ∧ e ≤ 100000) (i : Nat) : lvL (cl9 (at9 l i)) e = ((gE l e i).toNat : Int) := by
  have h := lvL_range (cl9_range (at9 l i)) he
  unfold gE
  rw [UInt8.toNat_ofNat_of_lt' (by show _ < 256; omega)]; omega
theorem bAt_genL {g : Nat → UInt8} {n i : Nat} (h : i < n) : bAt (genL g n) i = g i := by
  simp [bAt, genL, h]
theorem cellAt_bytes0 {l : List UInt8} {i : Nat} (h : i < l.length) : cellAt (ofBytes l) (0 + i * 1) = some (.int .u8 (bAt l i).toNat) := by
  rw [Nat.zero_add, Nat.mul_one, cellAt_bytes h, bAt, List.getElem?_eq_getElem h]; rfl
theorem cellAt_bytes2 {l : List UInt8} {i : Nat} (h : i < l.length) : cellAt (ofBytes l) (i * 1) = some (.int .u8 (bAt l i).toNat) := by
  rw [Nat.mul_one, cellAt_bytes h, bAt, List.getElem?_eq_getElem h]; rfl
theorem frame_views {h : List B} {id g n : Nat} {dat : Bool} {l : List UInt8} {w k e : Int} (h1 : bget h id = some (.blk (ofBytes l) dat)) (h2 : g = l.length) (h3 : n = l.length) :
    views h depth ([.agg [.int .i64 w, .int .i64 k, .ms 1 id g 0 n false], .int .i64 e] ++ []) = some [frV w k false l, .int .i64 e] := by
  subst h2 h3
  exact (VwL.cons (Vw.agg (VwL.cons (Vw.int rfl) (VwL.cons (Vw.int rfl) (VwL.cons (Vw.bytes h1 rfl rfl rfl rfl) VwL.nil)))) (VwL.cons (Vw.int rfl) VwL.nil) : VwL h 64 _ _).1

set_option maxRecDepth 100000 in
theorem even_none (e : Int) : Fun F md 31 [.agg [.int .i64 0, .int .i64 1, .sl true 0 []], .int .i64 e] (.tup [frV 0 0 true [], .int .i64 7]) := by
  have hck := check_any 0 1 true []
  rw [show checkL 0 1 ([] : List UInt8).length = 7 from rfl] at hck
  refine fun_of c31_eq rfl ?_
  repeat' (first
    | (conv => whnf)
      first
      | refine Br.t ?_
      | refine Br.f ?_
      | (refine Br.decT ?_ ?_; (focus first | assumption | omega))
      | (refine Br.decF ?_ ?_; (focus first | assumption | omega))
      | refine Br.dec (fun _ => ?_) (fun _ => ?_)
      | refine Br.not ?_
      | refine Br.and ?_
      | refine Br.or ?_
      | (refine Bnd.i64 ?_ ?_ ?_; (focus omega); (focus omega))
      | refine call_fun rfl rfl hck (.inl rfl) ?_
      | (refine Idx.nat ?_ ?_; (focus omega))
      | refine Idx.nat (le_big (by omega)) ?_
      | (refine Idx.int ?_ ?_ ?_; (focus omega); (focus omega))
      | (refine Idx.int ?_ ?_ ?_; (focus decide); (focus decide))
      | refine Ifz.zero ?_
      | (refine Ifz.pos ?_ ?_; (focus omega))
      | refine Get.mk _ rfl ?_
      | refine Leaves.of ?_
      | refine Ends.of ?_
      | refine Vw.bool ?_
      | refine Vw.int ?_
      | refine Vw.nil
      | refine Vw.sl
      | refine Vw.tup ?_
      | refine Vw.agg ?_
      | refine VwL.cons ?_ ?_
      | refine VwL.nil
      | refine LeavesF.of ?_
      | refine VwF.bool ?_
      | refine VwF.int ?_
      | refine VwF.nil
      | refine VwF.sl
      | refine VwF.tup ?_
      | refine VwF.agg ?_
      | refine VwLF.cons ?_ ?_
      | refine VwLF.nil
      | (refine Req.mk ?_ ?_; (focus first | rfl | decide | exact ⟨rfl, rfl⟩ | exact ⟨rfl, by decide⟩ | exact (fun _ => rfl) | exact (fun h => nomatch h) | (simp; done) | omega | (simp [big]; done) | exact le_big (by omega) | exact lt_big (by omega))))
  all_goals rfl

set_option maxRecDepth 100000 in
set_option maxHeartbeats 20000000 in
theorem evenLaw_nil (c : Bool) (x : Int) : Fun F md 9 [.sl c 0 [], .int .i64 x] (.bool true) := by
  refine fun_of rfl rfl ?_
  repeat' (first
    | (conv => whnf)
      first
      | refine Br.t ?_
      | refine Br.f ?_
      | (refine Br.decT ?_ ?_; (focus first | assumption | omega))
      | (refine Br.decF ?_ ?_; (focus first | assumption | omega))
      | refine Br.dec (fun _ => ?_) (fun _ => ?_)
      | refine Br.not ?_
      | refine Br.and ?_
      | refine Br.or ?_
      | (refine Bnd.i64 ?_ ?_ ?_; (focus omega); (focus omega))
      | refine Bnd.any ?_
      | (refine Idx.nat ?_ ?_; (focus omega))
      | refine Idx.nat (le_big (by omega)) ?_
      | (refine Idx.int ?_ ?_ ?_; (focus omega); (focus omega))
      | (refine Idx.int ?_ ?_ ?_; (focus decide); (focus decide))
      | refine Ifz.zero ?_
      | (refine Ifz.pos ?_ ?_; (focus omega))
      | refine Get.mk _ rfl ?_
      | refine Leaves.of ?_
      | refine Ends.of ?_
      | refine Vw.bool ?_
      | refine Vw.int ?_
      | refine Vw.nil
      | refine Vw.sl
      | refine Vw.tup ?_
      | refine Vw.agg ?_
      | refine VwL.cons ?_ ?_
      | refine VwL.nil
      | refine LeavesF.of ?_
      | refine VwF.bool ?_
      | refine VwF.int ?_
      | refine VwF.nil
      | refine VwF.sl
      | refine VwF.tup ?_
      | refine VwF.agg ?_
      | refine VwLF.cons ?_ ?_
      | refine VwLF.nil
      | (refine Req.mk ?_ ?_; (focus first | rfl | decide | exact ⟨rfl, rfl⟩ | exact ⟨rfl, by decide⟩ | exact (fun _ => rfl) | exact (fun h => nomatch h) | (simp; done) | omega | (simp [big]; done) | exact le_big (by omega) | exact lt_big (by omega))))
  refine LoopP.by (fun _ : Unit => True) (fun _ => [(8, .int .i64 0)]) (fun _ => [.blk [.int .i64 0, .int .i64 1, .nilsl] false]) (fun _ => 0) () trivial rfl ?_
  intro _ _
  repeat' (first
    | (conv => whnf)
      first
      | refine Br.t ?_
      | refine Br.f ?_
      | (refine Br.decT ?_ ?_; (focus first | assumption | omega))
      | (refine Br.decF ?_ ?_; (focus first | assumption | omega))
      | refine Br.dec (fun _ => ?_) (fun _ => ?_)
      | refine Br.not ?_
      | refine Br.and ?_
      | refine Br.or ?_
      | (refine Bnd.i64 ?_ ?_ ?_; (focus omega); (focus omega))
      | refine call_fun rfl rfl (even_none _) (.inl rfl) ?_
      | refine call_fun rfl rfl awake (.inl rfl) ?_
      | (refine Idx.nat ?_ ?_; (focus omega))
      | refine Idx.nat (le_big (by omega)) ?_
      | (refine Idx.int ?_ ?_ ?_; (focus omega); (focus omega))
      | (refine Idx.int ?_ ?_ ?_; (focus decide); (focus decide))
      | refine Ifz.zero ?_
      | (refine Ifz.pos ?_ ?_; (focus omega))
      | refine Get.mk _ rfl ?_
      | refine Leaves.of ?_
      | refine Ends.of ?_
      | refine Vw.bool ?_
      | refine Vw.int ?_
      | refine Vw.nil
      | refine Vw.sl
      | refine Vw.tup ?_
      | refine Vw.agg ?_
      | refine VwL.cons ?_ ?_
      | refine VwL.nil
      | refine LeavesF.of ?_
      | refine VwF.bool ?_
      | refine VwF.int ?_
      | refine VwF.nil
      | refine VwF.sl
      | refine VwF.tup ?_
      | refine VwF.agg ?_
      | refine VwLF.cons ?_ ?_
      | refine VwLF.nil
      | (refine Req.mk ?_ ?_; (focus first | rfl | decide | exact ⟨rfl, rfl⟩ | exact ⟨rfl, by decide⟩ | exact (fun _ => rfl) | exact (fun h => nomatch h) | (simp; done) | omega | (simp [big]; done) | exact le_big (by omega) | exact lt_big (by omega))))
  all_goals first | rfl | (exfalso; omega)

set_option maxRecDepth 100000 in
set_option maxHeartbeats 20000000 in
theorem evenLaw_cons (c : Bool) {l : List Int} (hl : 0 < l.length) (x : Int) : Fun F md 9 [.sl c l.length (l.map (V.int .i64)), .int .i64 x] (.bool true) := by
  have hn : ((min l.length 48 : Nat) : Int) = min (l.length : Int) 48 := by omega
  have he : 1 ≤ max 1 (min 100000 x) ∧ max 1 (min 100000 x) ≤ 100000 := by omega
  have hn1 : 1 ≤ min l.length 48 := by omega
  have hn2 : min l.length 48 ≤ l.length := by omega
  have hn3 : min l.length 48 ≤ 48 := by omega
  generalize hN : min l.length 48 = N at *
  generalize hE : max 1 (min 100000 x) = e at *
  have hev := even_ok (W := N) (H := 1) (c := false) (l := genL (gE l e) N) hn1 hn3 (by omega) (by omega) (by rw [genL_length]; omega) he
  have hcell := fun i (h : i < l.length) => cellAt_ints (l := l) h
  refine fun_of rfl rfl ?_
  repeat' (first
    | (conv => whnf)
      first
      | refine Br.t ?_
      | refine Br.f ?_
      | (refine Br.decT ?_ ?_; (focus first | assumption | omega))
      | (refine Br.decF ?_ ?_; (focus first | assumption | omega))
      | refine Br.dec (fun _ => ?_) (fun _ => ?_)
      | refine Br.not ?_
      | refine Br.and ?_
      | refine Br.or ?_
      | (refine Bnd.i64 ?_ ?_ ?_; (focus omega); (focus omega))
      | refine Bnd.eq hn.symm ?_
      | refine Bnd.eq hE ?_
      | refine Bnd.any ?_
      | (refine Idx.nat ?_ ?_; (focus omega))
      | refine Idx.nat (le_big (by omega)) ?_
      | (refine Idx.int ?_ ?_ ?_; (focus omega); (focus omega))
      | (refine Idx.int ?_ ?_ ?_; (focus decide); (focus decide))
      | refine Ifz.zero ?_
      | (refine Ifz.pos ?_ ?_; (focus omega))
      | refine Get.mk _ rfl ?_
      | refine Leaves.of ?_
      | refine Ends.of ?_
      | refine Vw.bool ?_
      | refine Vw.int ?_
      | refine Vw.nil
      | refine Vw.sl
      | refine Vw.tup ?_
      | refine Vw.agg ?_
      | refine VwL.cons ?_ ?_
      | refine VwL.nil
      | refine LeavesF.of ?_
      | refine VwF.bool ?_
      | refine VwF.int ?_
      | refine VwF.nil
      | refine VwF.sl
      | refine VwF.tup ?_
      | refine VwF.agg ?_
      | refine VwLF.cons ?_ ?_
      | refine VwLF.nil
      | (refine Req.mk ?_ ?_; (focus first | rfl | decide | exact ⟨rfl, rfl⟩ | exact ⟨rfl, by decide⟩ | exact (fun _ => rfl) | exact (fun h => nomatch h) | (simp; done) | omega | (simp [big]; done) | exact le_big (by omega) | exact lt_big (by omega))))
  refine LoopP.by (fun i : Nat => i ≤ N) (fun i => [(8, .int .i64 (i : Nat))]) (fun i => match i with
    | 0 => [.blk [.int .i64 N, .int .i64 1, .nilsl] false]
    | i + 1 => [.blk [.int .i64 N, .int .i64 1, .ms 1 1 (i + 1) 0 (i + 1) false] false, .blk (ofBytes (genL (gE l e) (i + 1))) true]) (fun i => N - i) 0 (Nat.zero_le _) rfl ?_
  intro i hi
  cases i with
  | zero =>
    have hv := gE_eq (l := l) he 0
    have hr := lvL_range (cl9_range (at9 l 0)) he
    have h0 := hcell 0 hl
    rw [at9_eq hl] at h0
    repeat' (first
      | (conv => whnf)
        first
        | refine Br.t ?_
        | refine Br.f ?_
        | (refine Br.decT ?_ ?_; (focus first | assumption | omega))
        | (refine Br.decF ?_ ?_; (focus first | assumption | omega))
        | refine Br.dec (fun _ => ?_) (fun _ => ?_)
        | refine Br.not ?_
        | refine Br.and ?_
        | refine Br.or ?_
        | (refine Bnd.i64 ?_ ?_ ?_; (focus omega); (focus omega))
        | refine call_fun rfl rfl (level_any (cl9_range (at9 l 0)) he) (.inl rfl) ?_
        | refine Get.mk _ h0 ?_
        | refine Bnd.u8 hr.1 hr.2 ?_
        | refine Bnd.any ?_
        | (refine Idx.nat ?_ ?_; (focus omega))
        | refine Idx.nat (le_big (by omega)) ?_
        | (refine Idx.int ?_ ?_ ?_; (focus omega); (focus omega))
        | (refine Idx.int ?_ ?_ ?_; (focus decide); (focus decide))
        | refine Ifz.zero ?_
        | (refine Ifz.pos ?_ ?_; (focus omega))
        | refine Get.mk _ rfl ?_
        | refine Leaves.of ?_
        | refine Ends.of ?_
        | refine Vw.bool ?_
        | refine Vw.int ?_
        | refine Vw.nil
        | refine Vw.sl
        | refine Vw.tup ?_
        | refine Vw.agg ?_
        | refine VwL.cons ?_ ?_
        | refine VwL.nil
        | refine LeavesF.of ?_
        | refine VwF.bool ?_
        | refine VwF.int ?_
        | refine VwF.nil
        | refine VwF.sl
        | refine VwF.tup ?_
        | refine VwF.agg ?_
        | refine VwLF.cons ?_ ?_
        | refine VwLF.nil
        | (refine Req.mk ?_ ?_; (focus first | rfl | decide | exact ⟨rfl, rfl⟩ | exact ⟨rfl, by decide⟩ | exact (fun _ => rfl) | exact (fun h => nomatch h) | (simp; done) | omega | (simp [big]; done) | exact le_big (by omega) | exact lt_big (by omega))))
    refine NextP.mk 1 hn1 (by omega) ?_
    show norm _ _ _ = (⟨_, [_, .blk (ofBytes (genL (gE l e) 1)) true]⟩ : St)
    rw [← genL_one hv]
    rfl
  | succ i =>
    by_cases hin : i + 1 < N
    · have hil : i + 1 < l.length := by omega
      have hv := gE_eq (l := l) he (i + 1)
      have hr := lvL_range (cl9_range (at9 l (i + 1))) he
      have h0 := hcell (i + 1) hil
      rw [at9_eq hil] at h0
      repeat' (first
        | (conv => whnf)
          first
          | refine Br.t ?_
          | refine Br.f ?_
          | (refine Br.decT ?_ ?_; (focus first | assumption | omega))
          | (refine Br.decF ?_ ?_; (focus first | assumption | omega))
          | refine Br.dec (fun _ => ?_) (fun _ => ?_)
          | refine Br.not ?_
          | refine Br.and ?_
          | refine Br.or ?_
          | (refine Bnd.i64 ?_ ?_ ?_; (focus omega); (focus omega))
          | refine call_fun rfl rfl (level_any (cl9_range (at9 l (i + 1))) he) (.inl rfl) ?_
          | refine Get.mk _ h0 ?_
          | refine Bnd.u8 hr.1 hr.2 ?_
          | refine Bnd.any ?_
          | refine Req.mk ((ofBytes_length _).trans (genL_length _ _)) ?_
          | refine Req.mk ⟨by omega, app_room ((ofBytes_length _).trans (genL_length _ _)) (by omega)⟩ ?_
          | (refine Idx.nat ?_ ?_; (focus omega))
          | refine Idx.nat (le_big (by omega)) ?_
          | (refine Idx.int ?_ ?_ ?_; (focus omega); (focus omega))
          | (refine Idx.int ?_ ?_ ?_; (focus decide); (focus decide))
          | refine Ifz.zero ?_
          | (refine Ifz.pos ?_ ?_; (focus omega))
          | refine Get.mk _ rfl ?_
          | refine Leaves.of ?_
          | refine Ends.of ?_
          | refine Vw.bool ?_
          | refine Vw.int ?_
          | refine Vw.nil
          | refine Vw.sl
          | refine Vw.tup ?_
          | refine Vw.agg ?_
          | refine VwL.cons ?_ ?_
          | refine VwL.nil
          | refine LeavesF.of ?_
          | refine VwF.bool ?_
          | refine VwF.int ?_
          | refine VwF.nil
          | refine VwF.sl
          | refine VwF.tup ?_
          | refine VwF.agg ?_
          | refine VwLF.cons ?_ ?_
          | refine VwLF.nil
          | (refine Req.mk ?_ ?_; (focus first | rfl | decide | exact ⟨rfl, rfl⟩ | exact ⟨rfl, by decide⟩ | exact (fun _ => rfl) | exact (fun h => nomatch h) | (simp; done) | omega | (simp [big]; done) | exact le_big (by omega) | exact lt_big (by omega))))
      refine NextP.mk (i + 1 + 1) (by omega) (by omega) ?_
      show norm _ _ _ = (⟨_, [_, .blk (ofBytes (genL (gE l e) (i + 1 + 1))) true]⟩ : St)
      rw [← genL_snoc hv]
      rfl
    · obtain rfl : N = i + 1 := by omega
      have hlenG := genL_length (gE l e) (i + 1)
      have hlenR := genL_length (evAt e (genL (gE l e) (i + 1))) ((i + 1) * 1)
      have hvw := fun h (hb : bget h 1 = some (.blk (ofBytes (genL (gE l e) (i + 1))) true)) => frame_views (h := h) (id := 1) (g := i + 1) (n := i + 1) (w := ((i + 1 : Nat) : Int)) (k := 1) (e := e) hb hlenG.symm hlenG.symm
      repeat' (first
        | (conv => whnf)
          first
          | refine Br.t ?_
          | refine Br.f ?_
          | (refine Br.decT ?_ ?_; (focus first | assumption | omega))
          | (refine Br.decF ?_ ?_; (focus first | assumption | omega))
          | refine Br.dec (fun _ => ?_) (fun _ => ?_)
          | refine Br.not ?_
          | refine Br.and ?_
          | refine Br.or ?_
          | (refine Bnd.i64 ?_ ?_ ?_; (focus omega); (focus omega))
          | refine call_fresh rfl (hvw _ rfl) hev ?_
          | (refine Idx.nat ?_ ?_; (focus omega))
          | refine Idx.nat (le_big (by omega)) ?_
          | (refine Idx.int ?_ ?_ ?_; (focus omega); (focus omega))
          | (refine Idx.int ?_ ?_ ?_; (focus decide); (focus decide))
          | refine Ifz.zero ?_
          | (refine Ifz.pos ?_ ?_; (focus omega))
          | refine Get.mk _ rfl ?_
          | refine Leaves.of ?_
          | refine Ends.of ?_
          | refine Vw.bool ?_
          | refine Vw.int ?_
          | refine Vw.nil
          | refine Vw.sl
          | refine Vw.tup ?_
          | refine Vw.agg ?_
          | refine VwL.cons ?_ ?_
          | refine VwL.nil
          | refine LeavesF.of ?_
          | refine VwF.bool ?_
          | refine VwF.int ?_
          | refine VwF.nil
          | refine VwF.sl
          | refine VwF.tup ?_
          | refine VwF.agg ?_
          | refine VwLF.cons ?_ ?_
          | refine VwLF.nil
          | (refine Req.mk ?_ ?_; (focus first | rfl | decide | exact ⟨rfl, rfl⟩ | exact ⟨rfl, by decide⟩ | exact (fun _ => rfl) | exact (fun h => nomatch h) | (simp; done) | omega | (simp [big]; done) | exact le_big (by omega) | exact lt_big (by omega))))
      refine LoopP.by (fun j : Nat => j ≤ i + 1) (fun j => [(11, .int .i64 (j : Nat))]) (fun _ => [.blk [.int .i64 ((i + 1 : Nat) : Int), .int .i64 1, .ms 1 1 (i + 1) 0 (i + 1) false] false, .blk (ofBytes (genL (gE l e) (i + 1))) true, .blk [.int .i64 ((i + 1 : Nat) : Int), .int .i64 1, .sl false (genL (evAt e (genL (gE l e) (i + 1))) ((i + 1) * 1)).length (ofBytes (genL (evAt e (genL (gE l e) (i + 1))) ((i + 1) * 1)))] false]) (fun j => i + 1 - j) 0 (Nat.zero_le _) rfl ?_
      intro j hj
      by_cases hji : j < i + 1
      · have hjl : j < l.length := by omega
        have h0 := hcell j hjl
        rw [at9_eq hjl] at h0
        have hx := cl9_range (at9 l j)
        have hp := lvL_range hx he
        have hq := lvL_range hx (e := 1000) (by omega)
        have cG := cellAt_bytes0 (l := genL (gE l e) (i + 1)) (i := j) (by omega)
        have cR := cellAt_bytes2 (l := genL (evAt e (genL (gE l e) (i + 1))) ((i + 1) * 1)) (i := j) (by omega)
        have hG : ((bAt (genL (gE l e) (i + 1)) j).toNat : Int) = lvL (cl9 (at9 l j)) e := by rw [bAt_genL hji, gE_eq he]
        have hR : ((bAt (genL (evAt e (genL (gE l e) (i + 1))) ((i + 1) * 1)) j).toNat : Int) = evV e (lvL (cl9 (at9 l j)) e) := by rw [bAt_genL (by omega), ← evAt_eq he.1, hG]
        rw [hG] at cG
        rw [hR] at cR
        have hee := evV_range he.1 hp.1
        have hlG := (ofBytes_length (genL (gE l e) (i + 1))).trans hlenG
        have hd1 : 0 ≤ (500 : Int).tdiv e := Int.tdiv_nonneg (by omega) (by omega)
        have hd2 : (500 : Int).tdiv e ≤ 500 := Int.tdiv_le_self e (by omega)
        by_cases h255 : lvL (cl9 (at9 l j)) e = 255
        · have hv : evV e (lvL (cl9 (at9 l j)) e) = 255 := by rw [h255]; rfl
          repeat' (first
            | (conv => whnf)
              first
              | refine Br.t ?_
              | refine Br.f ?_
              | (refine Br.decT ?_ ?_; (focus first | assumption | omega))
              | (refine Br.decF ?_ ?_; (focus first | assumption | omega))
              | refine Br.dec (fun _ => ?_) (fun _ => ?_)
              | refine Br.not ?_
              | refine Br.and ?_
              | refine Br.or ?_
              | (refine Bnd.i64 ?_ ?_ ?_; (focus omega); (focus omega))
              | refine Req.mk hlG ?_
              | refine Get.mk _ cG ?_
              | refine Get.mk _ cR ?_
              | (refine Idx.nat ?_ ?_; (focus omega))
              | refine Idx.nat (le_big (by omega)) ?_
              | (refine Idx.int ?_ ?_ ?_; (focus omega); (focus omega))
              | (refine Idx.int ?_ ?_ ?_; (focus decide); (focus decide))
              | refine Ifz.zero ?_
              | (refine Ifz.pos ?_ ?_; (focus omega))
              | refine Get.mk _ rfl ?_
              | refine Leaves.of ?_
              | refine Ends.of ?_
              | refine Vw.bool ?_
              | refine Vw.int ?_
              | refine Vw.nil
              | refine Vw.sl
              | refine Vw.tup ?_
              | refine Vw.agg ?_
              | refine VwL.cons ?_ ?_
              | refine VwL.nil
              | refine LeavesF.of ?_
              | refine VwF.bool ?_
              | refine VwF.int ?_
              | refine VwF.nil
              | refine VwF.sl
              | refine VwF.tup ?_
              | refine VwF.agg ?_
              | refine VwLF.cons ?_ ?_
              | refine VwLF.nil
              | (refine Req.mk ?_ ?_; (focus first | rfl | decide | exact ⟨rfl, rfl⟩ | exact ⟨rfl, by decide⟩ | exact (fun _ => rfl) | exact (fun h => nomatch h) | (simp; done) | omega | (simp [big]; done) | exact le_big (by omega) | exact lt_big (by omega))))
          exact NextP.mk (j + 1) hji (by omega) rfl
        · have hnr := even_near hx he (by omega)
          repeat' (first
            | (conv => whnf)
              first
              | refine Br.t ?_
              | refine Br.f ?_
              | (refine Br.decT ?_ ?_; (focus first | assumption | omega))
              | (refine Br.decF ?_ ?_; (focus first | assumption | omega))
              | refine Br.dec (fun _ => ?_) (fun _ => ?_)
              | refine Br.not ?_
              | refine Br.and ?_
              | refine Br.or ?_
              | (refine Bnd.i64 ?_ ?_ ?_; (focus omega); (focus omega))
              | refine Req.mk hlG ?_
              | refine Get.mk _ cG ?_
              | refine Get.mk _ cR ?_
              | refine Get.mk _ h0 ?_
              | refine call_fun rfl rfl (level_any (x := cl9 (at9 l j)) hx (e := 1000) (by omega)) (.inl rfl) ?_
              | refine Req.mk (show (_ : Int) ≠ 0 by omega) ?_
              | refine Bnd.i64 (tdiv_lo (by omega) (by omega)) (tdiv_hi (by omega) (by omega)) ?_
              | refine Bnd.any ?_
              | (refine Idx.nat ?_ ?_; (focus omega))
              | refine Idx.nat (le_big (by omega)) ?_
              | (refine Idx.int ?_ ?_ ?_; (focus omega); (focus omega))
              | (refine Idx.int ?_ ?_ ?_; (focus decide); (focus decide))
              | refine Ifz.zero ?_
              | (refine Ifz.pos ?_ ?_; (focus omega))
              | refine Get.mk _ rfl ?_
              | refine Leaves.of ?_
              | refine Ends.of ?_
              | refine Vw.bool ?_
              | refine Vw.int ?_
              | refine Vw.nil
              | refine Vw.sl
              | refine Vw.tup ?_
              | refine Vw.agg ?_
              | refine VwL.cons ?_ ?_
              | refine VwL.nil
              | refine LeavesF.of ?_
              | refine VwF.bool ?_
              | refine VwF.int ?_
              | refine VwF.nil
              | refine VwF.sl
              | refine VwF.tup ?_
              | refine VwF.agg ?_
              | refine VwLF.cons ?_ ?_
              | refine VwLF.nil
              | (refine Req.mk ?_ ?_; (focus first | rfl | decide | exact ⟨rfl, rfl⟩ | exact ⟨rfl, by decide⟩ | exact (fun _ => rfl) | exact (fun h => nomatch h) | (simp; done) | omega | (simp [big]; done) | exact le_big (by omega) | exact lt_big (by omega))))
          all_goals first | exact NextP.mk (j + 1) hji (by omega) rfl | (exfalso; omega)
      · obtain rfl : j = i + 1 := by omega
        repeat' (first
          | (conv => whnf)
            first
            | refine Br.t ?_
            | refine Br.f ?_
            | (refine Br.decT ?_ ?_; (focus first | assumption | omega))
            | (refine Br.decF ?_ ?_; (focus first | assumption | omega))
            | refine Br.dec (fun _ => ?_) (fun _ => ?_)
            | refine Br.not ?_
            | refine Br.and ?_
            | refine Br.or ?_
            | (refine Bnd.i64 ?_ ?_ ?_; (focus omega); (focus omega))
            | refine call_fun rfl rfl awake (.inl rfl) ?_
            | (refine Idx.nat ?_ ?_; (focus omega))
            | refine Idx.nat (le_big (by omega)) ?_
            | (refine Idx.int ?_ ?_ ?_; (focus omega); (focus omega))
            | (refine Idx.int ?_ ?_ ?_; (focus decide); (focus decide))
            | refine Ifz.zero ?_
            | (refine Ifz.pos ?_ ?_; (focus omega))
            | refine Get.mk _ rfl ?_
            | refine Leaves.of ?_
            | refine Ends.of ?_
            | refine Vw.bool ?_
            | refine Vw.int ?_
            | refine Vw.nil
            | refine Vw.sl
            | refine Vw.tup ?_
            | refine Vw.agg ?_
            | refine VwL.cons ?_ ?_
            | refine VwL.nil
            | refine LeavesF.of ?_
            | refine VwF.bool ?_
            | refine VwF.int ?_
            | refine VwF.nil
            | refine VwF.sl
            | refine VwF.tup ?_
            | refine VwF.agg ?_
            | refine VwLF.cons ?_ ?_
            | refine VwLF.nil
            | (refine Req.mk ?_ ?_; (focus first | rfl | decide | exact ⟨rfl, rfl⟩ | exact ⟨rfl, by decide⟩ | exact (fun _ => rfl) | exact (fun h => nomatch h) | (simp; done) | omega | (simp [big]; done) | exact le_big (by omega) | exact lt_big (by omega))))
        all_goals rfl

theorem law_even (c : Bool) (l : List Int) (x : Int) : Fun F md 9 [.sl c l.length (l.map (V.int .i64)), .int .i64 x] (.bool true) := by
  cases l with
  | nil => exact evenLaw_nil c x
  | cons a l => exact evenLaw_cons c (by simp) x

end Go.Dr.T
