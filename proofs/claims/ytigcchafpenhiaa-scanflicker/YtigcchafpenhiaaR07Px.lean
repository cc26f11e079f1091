/- Chapter 07: pixels, moved frames. -/
import Derived.Test.YtigcchafpenhiaaR07Pm
namespace Go.Dr.T

def pixB (W H : Nat) (x y : Int) : Prop := 0 ≤ x ∧ x < W ∧ 0 ≤ y ∧ y < H
instance (W H : Nat) (x y : Int) : Decidable (pixB W H x y) := by unfold pixB; infer_instance
def pixV (W H : Nat) (l : List UInt8) (x y : Int) : Int := if pixB W H x y then ((l.getD (y * W + x).toNat 0).toNat : Int) else 0
theorem pixV_le (W H : Nat) (l : List UInt8) (x y : Int) : 0 ≤ pixV W H l x y ∧ pixV W H l x y ≤ 255 := by
  unfold pixV
  split
  · have := (l.getD (y * W + x).toNat 0).toNat_lt; omega
  · omega

theorem place_lt {W H x y : Nat} (hx : x < W) (hy : y < H) : y * W + x < W * H := by
  have h1 : (y + 1) * W ≤ H * W := Nat.mul_le_mul_right W hy
  rw [Nat.add_mul, Nat.one_mul, Nat.mul_comm H W] at h1
  omega

theorem pixel_any {W H : Nat} {c : Bool} {l : List UInt8} (hW : W ≤ 48) (hH : H ≤ 48) (hl : l.length = W * H) (x y : Int) :
    Fun F md 26 [frV W H c l, .int .i64 x, .int .i64 y] (.tup [.int .i64 (pixV W H l x y), .bool (decide (pixB W H x y))]) := by
  by_cases h : pixB W H x y
  · have h' := h
    unfold pixB at h'
    obtain ⟨h1, h2, h3, h4⟩ := h'
    obtain ⟨a, rfl⟩ := Int.eq_ofNat_of_zero_le h1
    obtain ⟨b, rfl⟩ := Int.eq_ofNat_of_zero_le h3
    have ha : a < W := by omega
    have hb : b < H := by omega
    have hlt : b * W + a < l.length := by rw [hl]; exact place_lt ha hb
    have key := pixel_in (c := c) hW hH ha hb hl hlt
    have e1 : ((b : Int) * (W : Int) + (a : Int)).toNat = b * W + a := by
      rw [show (b : Int) * (W : Int) + (a : Int) = ((b * W + a : Nat) : Int) by push_cast; rfl]; exact Int.toNat_natCast _
    have e2 : pixV W H l a b = (l[b * W + a].toNat : Int) := by
      unfold pixV
      rw [if_pos h, e1, List.getD_eq_getElem?_getD, List.getElem?_eq_getElem hlt]; rfl
    rw [e2, decide_eq_true h]; exact key
  · have h' := h
    unfold pixB at h'
    have e2 : pixV W H l x y = 0 := by unfold pixV; rw [if_neg h]
    rw [e2, decide_eq_false h]
    exact pixel_out (by omega) (by omega) h'

/-- A pixel of a moved frame. -/
def mvAt (W H : Nat) (l : List UInt8) (dx dy : Int) (fill : UInt8) (k : Nat) : UInt8 :=
  if pixB W H ((k % W : Nat) - dx) ((k / W : Nat) - dy) then l.getD (((k / W : Nat) - dy) * W + ((k % W : Nat) - dx)).toNat 0 else fill
def moveL (W H : Nat) (l : List UInt8) (dx dy : Int) (fill : UInt8) (k : Nat) : List UInt8 := (List.range k).map (mvAt W H l dx dy fill)
theorem moveL_length (W H : Nat) (l : List UInt8) (dx dy : Int) (fill : UInt8) (k : Nat) : (moveL W H l dx dy fill k).length = k := by simp [moveL]
theorem moveL_snoc {W H : Nat} {l : List UInt8} {dx dy : Int} {fill : UInt8} {k : Nat} {v : Int} (h : v = ((mvAt W H l dx dy fill k).toNat : Int)) : ofBytes (moveL W H l dx dy fill k) ++ [V.int .u8 v] = ofBytes (moveL W H l dx dy fill (k + 1)) := by
  subst h
  unfold moveL
  rw [List.range_succ, List.map_append, ofBytes_append]; rfl
theorem moveL_one {W H : Nat} {l : List UInt8} {dx dy : Int} {fill : UInt8} {v : Int} (h : v = ((mvAt W H l dx dy fill 0).toNat : Int)) : [] ++ [V.int .u8 v] = ofBytes (moveL W H l dx dy fill 1) := by
  subst h; rfl
theorem mvAt_in {W H : Nat} {l : List UInt8} {dx dy : Int} {fill : UInt8} {x y k : Nat} (hk : k = y * W + x) (hx : x < W) (h : pixB W H (x - dx) (y - dy)) : pixV W H l (x - dx) (y - dy) = ((mvAt W H l dx dy fill k).toNat : Int) := by
  subst hk
  have e1 : (y * W + x) % W = x := by rw [Nat.add_comm, Nat.add_mul_mod_self_right, Nat.mod_eq_of_lt hx]
  have e2 : (y * W + x) / W = y := by rw [Nat.add_comm, Nat.add_mul_div_right _ _ (by omega), Nat.div_eq_of_lt hx]; omega
  unfold mvAt pixV
  rw [e1, e2, if_pos h, if_pos h]
theorem mvAt_out {W H : Nat} {l : List UInt8} {dx dy : Int} {fill : UInt8} {x y k : Nat} (hk : k = y * W + x) (hx : x < W) (h : ¬ pixB W H (x - dx) (y - dy)) : (fill.toNat : Int) = ((mvAt W H l dx dy fill k).toNat : Int) := by
  subst hk
  have e1 : (y * W + x) % W = x := by rw [Nat.add_comm, Nat.add_mul_mod_self_right, Nat.mod_eq_of_lt hx]
  have e2 : (y * W + x) / W = y := by rw [Nat.add_comm, Nat.add_mul_div_right _ _ (by omega), Nat.div_eq_of_lt hx]; omega
  unfold mvAt
  rw [e1, e2, if_neg h]

theorem check_ok {W H n : Nat} (h1 : 1 ≤ W) (h2 : W ≤ 48) (h3 : 1 ≤ H) (h4 : H ≤ 48) (hn : n = W * H) : checkL W H n = 0 := by
  subst hn
  unfold checkL
  rw [if_neg (by omega), if_pos (by push_cast; rfl)]

theorem app_room {c : List V} {n : Nat} {v : V} (h : c.length = n) (hn : n < 1000000) : (c.length + [v].length) * (1 + 1) < big := by
  rw [h]; simp [big]; omega

theorem has_pix {W H : Nat} {c : Bool} {l : List UInt8} (hW : W ≤ 48) (hH : H ≤ 48) (x y : Int) : Fun F md 60 [frV W H c l, .int .i64 x, .int .i64 y] (.bool (decide (pixB W H x y))) := by
  have key := has_any W H x y c l.length (ofBytes l) (by omega) (by omega)
  have e : (!(decide (x < 0) || decide ((W : Int) - 1 < x)) && !(decide (y < 0) || decide ((H : Int) - 1 < y))) = decide (pixB W H x y) := by
    rw [Bool.eq_iff_iff]
    simp only [Bool.and_eq_true, Bool.not_eq_true', Bool.or_eq_false_iff, decide_eq_false_iff_not, decide_eq_true_eq]
    unfold pixB
    omega
  rw [e] at key; exact key
theorem at_pix {W H : Nat} {c : Bool} {l : List UInt8} (hW : W ≤ 48) (hH : H ≤ 48) (hl : l.length = W * H) {x y : Int} (h : pixB W H x y) : Fun F md 61 [frV W H c l, .int .i64 x, .int .i64 y] (.int .i64 (pixV W H l x y)) := by
  have h' := h
  unfold pixB at h'
  obtain ⟨h1, h2, h3, h4⟩ := h'
  obtain ⟨a, rfl⟩ := Int.eq_ofNat_of_zero_le h1
  obtain ⟨b, rfl⟩ := Int.eq_ofNat_of_zero_le h3
  have ha : a < W := by omega
  have hb : b < H := by omega
  have hlt : b * W + a < l.length := by rw [hl]; exact place_lt ha hb
  have hWH : W * H ≤ 2304 := Nat.mul_le_mul hW hH
  have hbw : b * W ≤ 2304 := Nat.mul_le_mul (show b ≤ 48 by omega) hW
  have e1 : ((b : Int) * (W : Int) + (a : Int)) = ((b * W + a : Nat) : Int) := by push_cast; rfl
  have e2 : pixV W H l a b = (l[b * W + a].toNat : Int) := by
    unfold pixV
    rw [if_pos h, e1, Int.toNat_natCast, List.getD_eq_getElem?_getD, List.getElem?_eq_getElem hlt]; rfl
  have hb2 := l[b * W + a].toNat_lt
  rw [e2]
  exact at_any W H a b c l.length (ofBytes l) (b * W + a) _ e1 hlt (by omega) (by rw [show (b : Int) * (W : Int) = ((b * W : Nat) : Int) by push_cast; rfl]; omega) (by omega) (cellAt_bytes hlt) (by omega)

end Go.Dr.T
