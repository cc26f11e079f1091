/- Chapter 07: Even. -/
import Derived.Test.YtigcchafpenhiaaR07Px
import Derived.Test.YtigcchafpenhiaaR07Li
namespace Go.Dr.T

def genL (g : Nat → UInt8) (k : Nat) : List UInt8 := (List.range k).map g
theorem genL_length (g : Nat → UInt8) (k : Nat) : (genL g k).length = k := by simp [genL]
theorem genL_snoc {g : Nat → UInt8} {k : Nat} {v : Int} (h : v = ((g k).toNat : Int)) : ofBytes (genL g k) ++ [V.int .u8 v] = ofBytes (genL g (k + 1)) := by
  subst h; unfold genL; rw [List.range_succ, List.map_append, ofBytes_append]; rfl
theorem genL_one {g : Nat → UInt8} {v : Int} (h : v = ((g 0).toNat : Int)) : [] ++ [V.int .u8 v] = ofBytes (genL g 1) := by
  subst h; rfl

abbrev bAt (l : List UInt8) (k : Nat) : UInt8 := l[k]?.getD 0
theorem at_in {W H : Nat} {c : Bool} {l : List UInt8} (hW : W ≤ 48) (hH : H ≤ 48) (hl : l.length = W * H) {x y : Nat} (hx : x < W) (hy : y < H) : Fun F md 61 [frV W H c l, .int .i64 x, .int .i64 y] (.int .i64 (bAt l (y * W + x)).toNat) := by
  have hlt : y * W + x < l.length := by rw [hl]; exact place_lt hx hy
  have hWH : W * H ≤ 2304 := Nat.mul_le_mul hW hH
  have hbw : y * W ≤ 2304 := Nat.mul_le_mul (show y ≤ 48 by omega) hW
  have e1 : ((y : Int) * (W : Int) + (x : Int)) = ((y * W + x : Nat) : Int) := by push_cast; rfl
  have e2 : bAt l (y * W + x) = l[y * W + x] := by simp [bAt, List.getElem?_eq_getElem hlt]
  have e3 : ((y : Int) * (W : Int)) = ((y * W : Nat) : Int) := by push_cast; rfl
  have := l[y * W + x].toNat_lt
  rw [e2]
  exact at_any W H x y c l.length (ofBytes l) (y * W + x) _ e1 hlt (by omega) (by rw [e3]; omega) (by omega) (cellAt_bytes hlt) (by omega)

def evV (e n : Int) : Int := if n < 255 then min 255 ((500 * (2 * n + 1)).tdiv e) else 255
theorem evV_range {e n : Int} (he : 1 ≤ e) (hn : 0 ≤ n) : 0 ≤ evV e n ∧ evV e n ≤ 255 := by
  have h1 : 0 ≤ (500 * (2 * n + 1)).tdiv e := Int.tdiv_nonneg (by omega) (by omega)
  unfold evV; split <;> omega
def evAt (e : Int) (l : List UInt8) (k : Nat) : UInt8 := UInt8.ofNat (evV e (bAt l k).toNat).toNat
theorem evAt_eq {e : Int} (he : 1 ≤ e) (l : List UInt8) (k : Nat) : evV e (bAt l k).toNat = ((evAt e l k).toNat : Int) := by
  have h := evV_range he (n := ((bAt l k).toNat : Int)) (by omega)
  unfold evAt
  rw [UInt8.toNat_ofNat_of_lt' (by show _ < 256; omega)]; omega

def lvC (e : Int) : Nat → List V
  | 0 => List.replicate 256 (.int .i64 0)
  | n + 1 => over (lvC e n) n [.int .i64 (min 255 ((500 * (2 * (n : Int) + 1)).tdiv e))]
def lvF (e : Int) : List V := over (lvC e 256) 255 [.int .i64 255]

theorem over_length : ∀ (cs : List V) (n : Nat) (v : V), (over cs n [v]).length = cs.length
  | [], 0, _ => rfl
  | [], _ + 1, _ => rfl
  | _ :: cs, 0, _ => by simp [over]
  | _ :: cs, n + 1, v => by simp only [over, List.length_cons, over_length cs n v]
theorem over_cell : ∀ {cs : List V} {n : Nat} (v : V), n < cs.length → cellAt (over cs n [v]) n = some v
  | _ :: cs, 0, _, _ => by simp [over, cellAt]
  | _ :: cs, n + 1, v, h => by simp only [over, cellAt]; exact over_cell v (by simpa using h)
theorem over_cell_ne : ∀ {cs : List V} {n m : Nat} (v : V), n ≠ m → cellAt (over cs n [v]) m = cellAt cs m
  | [], 0, _, _, _ => rfl
  | [], _ + 1, _, _, _ => rfl
  | _ :: cs, 0, 0, _, h => absurd rfl h
  | _ :: cs, 0, m + 1, _, _ => by simp [over, cellAt]
  | _ :: cs, n + 1, 0, _, _ => by simp only [over, cellAt]
  | _ :: cs, n + 1, m + 1, v, h => by simp only [over, cellAt]; exact over_cell_ne v (by omega)
theorem lvC_length (e : Int) : ∀ n, (lvC e n).length = 256
  | 0 => List.length_replicate
  | n + 1 => by simp only [lvC, over_length, lvC_length e n]
theorem lvC_cell (e : Int) : ∀ {n j : Nat}, j < n → n ≤ 256 → cellAt (lvC e n) j = some (.int .i64 (min 255 ((500 * (2 * (j : Int) + 1)).tdiv e)))
  | n + 1, j, h, hn => by
    simp only [lvC]
    by_cases e1 : n = j
    · subst e1; exact over_cell _ (by rw [lvC_length]; omega)
    · rw [over_cell_ne _ e1]; exact lvC_cell e (by omega) (by omega)
theorem lvF_length (e : Int) : (lvF e).length = 256 := by unfold lvF; rw [over_length, lvC_length]
theorem lvF_cell (e : Int) {j : Nat} (h : j ≤ 255) : cellAt (lvF e) j = some (.int .i64 (evV e j)) := by
  unfold lvF evV
  by_cases e1 : 255 = j
  · subst e1; rw [over_cell _ (by rw [lvC_length]; omega)]; rfl
  · rw [over_cell_ne _ e1, lvC_cell e (by omega) (by omega), if_pos (by omega)]

theorem cellAt_bytes1 {l : List UInt8} {i : Nat} (h : i < l.length) : cellAt (ofBytes l) (i * 1) = some (.int .u8 l[i].toNat) := by rw [Nat.mul_one]; exact cellAt_bytes h


set_option maxRecDepth 100000 in
set_option maxHeartbeats 20000000 in
theorem evenR_ok {W H : Nat} {c : Bool} {l : List UInt8} (h1 : 1 ≤ W) (h2 : W ≤ 48) (h3 : 1 ≤ H) (h4 : H ≤ 48) (hl : l.length = W * H) {e : Int} (he : 1 ≤ e ∧ e ≤ 100000) :
    Fun F md 32 [frV W H c l, .int .i64 e] (.tup [frV W H false (genL (evAt e l) (W * H)), .int .i64 0]) := by
  have hck := check_ok h1 h2 h3 h4 hl
  have hWH : W * H ≤ 2304 := Nat.mul_le_mul h2 h4
  have hWH1 : 1 * 1 ≤ W * H := Nat.mul_le_mul h1 h3
  refine fun_of rfl rfl ?_
  repeat' (first
    | (conv => whnf)
      first
      | refine Br.t ?_
      | refine Br.f ?_
      | (refine Br.decT ?_ ?_; (focus first | assumption | omega))
      | (refine Br.decF ?_ ?_; (focus first | assumption | omega))
      | refine Br.dec (fun _ => ?_) (fun _ => ?_)
      | refine Br.not ?_
      | refine Br.and ?_
      | refine Br.or ?_
      | (refine Bnd.i64 ?_ ?_ ?_; (focus omega); (focus omega))
      | refine call_fun rfl rfl (in_any _ _ _) (.inl rfl) ?_
      | refine call_fun rfl rfl (checkR_any _ _ _ _) (.inl rfl) ?_
      | (refine Idx.nat ?_ ?_; (focus omega))
      | refine Idx.nat (le_big (by omega)) ?_
      | (refine Idx.int ?_ ?_ ?_; (focus omega); (focus omega))
      | (refine Idx.int ?_ ?_ ?_; (focus decide); (focus decide))
      | refine Ifz.zero ?_
      | (refine Ifz.pos ?_ ?_; (focus omega))
      | refine Get.mk _ rfl ?_
      | refine Leaves.of ?_
      | refine Ends.of ?_
      | refine Vw.bool ?_
      | refine Vw.int ?_
      | refine Vw.nil
      | refine Vw.sl
      | refine Vw.tup ?_
      | refine Vw.agg ?_
      | refine VwL.cons ?_ ?_
      | refine VwL.nil
      | refine LeavesF.of ?_
      | refine VwF.bool ?_
      | refine VwF.int ?_
      | refine VwF.nil
      | refine VwF.sl
      | refine VwF.tup ?_
      | refine VwF.agg ?_
      | refine VwLF.cons ?_ ?_
      | refine VwLF.nil
      | (refine Req.mk ?_ ?_; (focus first | rfl | decide | exact ⟨rfl, rfl⟩ | exact ⟨rfl, by decide⟩ | exact (fun _ => rfl) | exact (fun h => nomatch h) | (simp; done) | omega | (simp [big]; done) | exact le_big (by omega) | exact lt_big (by omega))))
  refine LoopP.by (fun y : Nat => y ≤ l.length) (fun y => [(8, .int .i64 (y : Nat))]) (fun y => match y with
    | 0 => [.blk [.int .i64 W, .int .i64 H, .sl c l.length (ofBytes l)] false, .blk [.int .i64 0, .int .i64 0, .nilsl] false, .blk [.int .i64 W, .int .i64 H, .nilsl] false]
    | y + 1 => [.blk [.int .i64 W, .int .i64 H, .sl c l.length (ofBytes l)] false, .blk [.int .i64 0, .int .i64 0, .nilsl] false, .blk [.int .i64 W, .int .i64 H, .ms 1 3 (y + 1) 0 (y + 1) false] false, .blk (ofBytes (genL (evAt e l) (y + 1))) true]) (fun y => l.length - y) 0 (Nat.zero_le _) rfl ?_
  intro y hyH
  by_cases hil : y < l.length
  · have hr : 0 ≤ evV e l[y].toNat ∧ evV e l[y].toNat ≤ 255 := evV_range he.1 (by omega)
    have hq : evV e l[y].toNat = ((evAt e l y).toNat : Int) := by
      have := evAt_eq he.1 l y
      rw [bAt, List.getElem?_eq_getElem hil, Option.getD_some] at this
      exact this
    have hb := l[y].toNat_lt
    by_cases hw : (l[y].toNat : Int) < 255
    · rw [evV, if_pos hw] at hr hq
      obtain ⟨hr1, hr2⟩ := hr
      cases y with
      | zero =>
        repeat' (first
          | (conv => whnf)
            first
            | refine Br.t ?_
            | refine Br.f ?_
            | (refine Br.decT ?_ ?_; (focus first | assumption | omega))
            | (refine Br.decF ?_ ?_; (focus first | assumption | omega))
            | refine Br.dec (fun _ => ?_) (fun _ => ?_)
            | refine Br.not ?_
            | refine Br.and ?_
            | refine Br.or ?_
            | (refine Bnd.i64 ?_ ?_ ?_; (focus omega); (focus omega))
            | refine Get.mk _ (cellAt_bytes1 hil) ?_
            | refine Req.mk (show (_ : Int) ≠ 0 by omega) ?_
            | refine Bnd.i64 (tdiv_lo (by omega) (by omega)) (tdiv_hi (by omega) (by omega)) ?_
            | refine Bnd.u8 hr1 hr2 ?_
            | refine Bnd.any ?_
            | refine Req.mk ((ofBytes_length _).trans (genL_length _ _)) ?_
            | refine Req.mk ⟨by omega, app_room ((ofBytes_length _).trans (genL_length _ _)) (by omega)⟩ ?_
            | (refine Idx.nat ?_ ?_; (focus omega))
            | refine Idx.nat (le_big (by omega)) ?_
            | (refine Idx.int ?_ ?_ ?_; (focus omega); (focus omega))
            | (refine Idx.int ?_ ?_ ?_; (focus decide); (focus decide))
            | refine Ifz.zero ?_
            | (refine Ifz.pos ?_ ?_; (focus omega))
            | refine Get.mk _ rfl ?_
            | refine Leaves.of ?_
            | refine Ends.of ?_
            | refine Vw.bool ?_
            | refine Vw.int ?_
            | refine Vw.nil
            | refine Vw.sl
            | refine Vw.tup ?_
            | refine Vw.agg ?_
            | refine VwL.cons ?_ ?_
            | refine VwL.nil
            | refine LeavesF.of ?_
            | refine VwF.bool ?_
            | refine VwF.int ?_
            | refine VwF.nil
            | refine VwF.sl
            | refine VwF.tup ?_
            | refine VwF.agg ?_
            | refine VwLF.cons ?_ ?_
            | refine VwLF.nil
            | (refine Req.mk ?_ ?_; (focus first | rfl | decide | exact ⟨rfl, rfl⟩ | exact ⟨rfl, by decide⟩ | exact (fun _ => rfl) | exact (fun h => nomatch h) | (simp; done) | omega | (simp [big]; done) | exact le_big (by omega) | exact lt_big (by omega))))
        refine NextP.mk 1 (by omega) (by omega) ?_
        rw [genL_one hq]
        rfl
      | succ y =>
        repeat' (first
          | (conv => whnf)
            first
            | refine Br.t ?_
            | refine Br.f ?_
            | (refine Br.decT ?_ ?_; (focus first | assumption | omega))
            | (refine Br.decF ?_ ?_; (focus first | assumption | omega))
            | refine Br.dec (fun _ => ?_) (fun _ => ?_)
            | refine Br.not ?_
            | refine Br.and ?_
            | refine Br.or ?_
            | (refine Bnd.i64 ?_ ?_ ?_; (focus omega); (focus omega))
            | refine Get.mk _ (cellAt_bytes1 hil) ?_
            | refine Req.mk (show (_ : Int) ≠ 0 by omega) ?_
            | refine Bnd.i64 (tdiv_lo (by omega) (by omega)) (tdiv_hi (by omega) (by omega)) ?_
            | refine Bnd.u8 hr1 hr2 ?_
            | refine Bnd.any ?_
            | refine Req.mk ((ofBytes_length _).trans (genL_length _ _)) ?_
            | refine Req.mk ⟨by omega, app_room ((ofBytes_length _).trans (genL_length _ _)) (by omega)⟩ ?_
            | (refine Idx.nat ?_ ?_; (focus omega))
            | refine Idx.nat (le_big (by omega)) ?_
            | (refine Idx.int ?_ ?_ ?_; (focus omega); (focus omega))
            | (refine Idx.int ?_ ?_ ?_; (focus decide); (focus decide))
            | refine Ifz.zero ?_
            | (refine Ifz.pos ?_ ?_; (focus omega))
            | refine Get.mk _ rfl ?_
            | refine Leaves.of ?_
            | refine Ends.of ?_
            | refine Vw.bool ?_
            | refine Vw.int ?_
            | refine Vw.nil
            | refine Vw.sl
            | refine Vw.tup ?_
            | refine Vw.agg ?_
            | refine VwL.cons ?_ ?_
            | refine VwL.nil
            | refine LeavesF.of ?_
            | refine VwF.bool ?_
            | refine VwF.int ?_
            | refine VwF.nil
            | refine VwF.sl
            | refine VwF.tup ?_
            | refine VwF.agg ?_
            | refine VwLF.cons ?_ ?_
            | refine VwLF.nil
            | (refine Req.mk ?_ ?_; (focus first | rfl | decide | exact ⟨rfl, rfl⟩ | exact ⟨rfl, by decide⟩ | exact (fun _ => rfl) | exact (fun h => nomatch h) | (simp; done) | omega | (simp [big]; done) | exact le_big (by omega) | exact lt_big (by omega))))
        refine NextP.mk (y + 1 + 1) (by omega) (by omega) ?_
        rw [genL_snoc hq]
        rfl
    · have e1 : l[y].toNat = 255 := by omega
      rw [evV, if_neg hw] at hr hq
      have hr1 : 0 ≤ (l[y].toNat : Int) := by omega
      have hr2 : (l[y].toNat : Int) ≤ 255 := by omega
      rw [show (255 : Int) = (l[y].toNat : Int) by omega] at hq
      cases y with
      | zero =>
        repeat' (first
          | (conv => whnf)
            first
            | refine Br.t ?_
            | refine Br.f ?_
            | (refine Br.decT ?_ ?_; (focus first | assumption | omega))
            | (refine Br.decF ?_ ?_; (focus first | assumption | omega))
            | refine Br.dec (fun _ => ?_) (fun _ => ?_)
            | refine Br.not ?_
            | refine Br.and ?_
            | refine Br.or ?_
            | (refine Bnd.i64 ?_ ?_ ?_; (focus omega); (focus omega))
            | refine Get.mk _ (cellAt_bytes1 hil) ?_
            | refine Req.mk (show (_ : Int) ≠ 0 by omega) ?_
            | refine Bnd.i64 (tdiv_lo (by omega) (by omega)) (tdiv_hi (by omega) (by omega)) ?_
            | refine Bnd.u8 hr1 hr2 ?_
            | refine Bnd.any ?_
            | refine Req.mk ((ofBytes_length _).trans (genL_length _ _)) ?_
            | refine Req.mk ⟨by omega, app_room ((ofBytes_length _).trans (genL_length _ _)) (by omega)⟩ ?_
            | (refine Idx.nat ?_ ?_; (focus omega))
            | refine Idx.nat (le_big (by omega)) ?_
            | (refine Idx.int ?_ ?_ ?_; (focus omega); (focus omega))
            | (refine Idx.int ?_ ?_ ?_; (focus decide); (focus decide))
            | refine Ifz.zero ?_
            | (refine Ifz.pos ?_ ?_; (focus omega))
            | refine Get.mk _ rfl ?_
            | refine Leaves.of ?_
            | refine Ends.of ?_
            | refine Vw.bool ?_
            | refine Vw.int ?_
            | refine Vw.nil
            | refine Vw.sl
            | refine Vw.tup ?_
            | refine Vw.agg ?_
            | refine VwL.cons ?_ ?_
            | refine VwL.nil
            | refine LeavesF.of ?_
            | refine VwF.bool ?_
            | refine VwF.int ?_
            | refine VwF.nil
            | refine VwF.sl
            | refine VwF.tup ?_
            | refine VwF.agg ?_
            | refine VwLF.cons ?_ ?_
            | refine VwLF.nil
            | (refine Req.mk ?_ ?_; (focus first | rfl | decide | exact ⟨rfl, rfl⟩ | exact ⟨rfl, by decide⟩ | exact (fun _ => rfl) | exact (fun h => nomatch h) | (simp; done) | omega | (simp [big]; done) | exact le_big (by omega) | exact lt_big (by omega))))
        refine NextP.mk 1 (by omega) (by omega) ?_
        rw [genL_one hq]
        rfl
      | succ y =>
        repeat' (first
          | (conv => whnf)
            first
            | refine Br.t ?_
            | refine Br.f ?_
            | (refine Br.decT ?_ ?_; (focus first | assumption | omega))
            | (refine Br.decF ?_ ?_; (focus first | assumption | omega))
            | refine Br.dec (fun _ => ?_) (fun _ => ?_)
            | refine Br.not ?_
            | refine Br.and ?_
            | refine Br.or ?_
            | (refine Bnd.i64 ?_ ?_ ?_; (focus omega); (focus omega))
            | refine Get.mk _ (cellAt_bytes1 hil) ?_
            | refine Req.mk (show (_ : Int) ≠ 0 by omega) ?_
            | refine Bnd.i64 (tdiv_lo (by omega) (by omega)) (tdiv_hi (by omega) (by omega)) ?_
            | refine Bnd.u8 hr1 hr2 ?_
            | refine Bnd.any ?_
            | refine Req.mk ((ofBytes_length _).trans (genL_length _ _)) ?_
            | refine Req.mk ⟨by omega, app_room ((ofBytes_length _).trans (genL_length _ _)) (by omega)⟩ ?_
            | (refine Idx.nat ?_ ?_; (focus omega))
            | refine Idx.nat (le_big (by omega)) ?_
            | (refine Idx.int ?_ ?_ ?_; (focus omega); (focus omega))
            | (refine Idx.int ?_ ?_ ?_; (focus decide); (focus decide))
            | refine Ifz.zero ?_
            | (refine Ifz.pos ?_ ?_; (focus omega))
            | refine Get.mk _ rfl ?_
            | refine Leaves.of ?_
            | refine Ends.of ?_
            | refine Vw.bool ?_
            | refine Vw.int ?_
            | refine Vw.nil
            | refine Vw.sl
            | refine Vw.tup ?_
            | refine Vw.agg ?_
            | refine VwL.cons ?_ ?_
            | refine VwL.nil
            | refine LeavesF.of ?_
            | refine VwF.bool ?_
            | refine VwF.int ?_
            | refine VwF.nil
            | refine VwF.sl
            | refine VwF.tup ?_
            | refine VwF.agg ?_
            | refine VwLF.cons ?_ ?_
            | refine VwLF.nil
            | (refine Req.mk ?_ ?_; (focus first | rfl | decide | exact ⟨rfl, rfl⟩ | exact ⟨rfl, by decide⟩ | exact (fun _ => rfl) | exact (fun h => nomatch h) | (simp; done) | omega | (simp [big]; done) | exact le_big (by omega) | exact lt_big (by omega))))
        refine NextP.mk (y + 1 + 1) (by omega) (by omega) ?_
        rw [genL_snoc hq]
        rfl
  · obtain ⟨y, rfl⟩ : ∃ z, y = z + 1 := ⟨y - 1, by omega⟩
    repeat' (first
      | (conv => whnf)
        first
        | refine Br.t ?_
        | refine Br.f ?_
        | (refine Br.decT ?_ ?_; (focus first | assumption | omega))
        | (refine Br.decF ?_ ?_; (focus first | assumption | omega))
        | refine Br.dec (fun _ => ?_) (fun _ => ?_)
        | refine Br.not ?_
        | refine Br.and ?_
        | refine Br.or ?_
        | (refine Bnd.i64 ?_ ?_ ?_; (focus omega); (focus omega))
        | refine Get.mk _ (cellAt_bytes1 hil) ?_
        | refine Req.mk (show (_ : Int) ≠ 0 by omega) ?_
        | refine Bnd.i64 (tdiv_lo (by omega) (by omega)) (tdiv_hi (by omega) (by omega)) ?_
        | refine Bnd.u8 hr1 hr2 ?_
        | refine Bnd.any ?_
        | refine Req.mk ((ofBytes_length _).trans (genL_length _ _)) ?_
        | refine Req.mk ⟨by omega, app_room ((ofBytes_length _).trans (genL_length _ _)) (by omega)⟩ ?_
        | (refine Idx.nat ?_ ?_; (focus omega))
        | refine Idx.nat (le_big (by omega)) ?_
        | (refine Idx.int ?_ ?_ ?_; (focus omega); (focus omega))
        | (refine Idx.int ?_ ?_ ?_; (focus decide); (focus decide))
        | refine Ifz.zero ?_
        | (refine Ifz.pos ?_ ?_; (focus omega))
        | refine Get.mk _ rfl ?_
        | refine Leaves.of ?_
        | refine Ends.of ?_
        | refine Vw.bool ?_
        | refine Vw.int ?_
        | refine Vw.nil
        | refine Vw.sl
        | refine Vw.tup ?_
        | refine Vw.agg ?_
        | refine VwL.cons ?_ ?_
        | refine VwL.nil
        | refine LeavesF.of ?_
        | refine VwF.bool ?_
        | refine VwF.int ?_
        | refine VwF.nil
        | refine VwF.sl
        | refine VwF.tup ?_
        | refine VwF.agg ?_
        | refine VwLF.cons ?_ ?_
        | refine VwLF.nil
        | (refine Req.mk ?_ ?_; (focus first | rfl | decide | exact ⟨rfl, rfl⟩ | exact ⟨rfl, by decide⟩ | exact (fun _ => rfl) | exact (fun h => nomatch h) | (simp; done) | omega | (simp [big]; done) | exact le_big (by omega) | exact lt_big (by omega))))
    · rfl
    · rfl
    · have ee : y + 1 = W * H := by omega
      refine Vw.bytes rfl (genL_length _ _).symm (genL_length _ _).symm (by rw [ee]) (by rw [genL_length])
    · rfl

end Go.Dr.T
