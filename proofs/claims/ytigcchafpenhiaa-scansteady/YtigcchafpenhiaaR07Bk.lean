/- Chapter 07: moving there and back, moving twice: the plain laws. -/
import Derived.Test.YtigcchafpenhiaaR07Px
namespace Go.Dr.T

/-- A pixel of a moved frame. -/
theorem pixV_move {W H : Nat} {l : List UInt8} {dx dy : Int} {fill : UInt8} {x y : Int} (h : pixB W H x y) :
    pixV W H (moveL W H l dx dy fill (W * H)) x y = if pixB W H (x - dx) (y - dy) then pixV W H l (x - dx) (y - dy) else (fill.toNat : Int) := by
  have h' := h
  unfold pixB at h'
  obtain ⟨h1, h2, h3, h4⟩ := h'
  obtain ⟨a, rfl⟩ := Int.eq_ofNat_of_zero_le h1
  obtain ⟨b, rfl⟩ := Int.eq_ofNat_of_zero_le h3
  have ha : a < W := by omega
  have hb : b < H := by omega
  have hlt : b * W + a < W * H := place_lt ha hb
  have e1 : ((b : Int) * (W : Int) + (a : Int)).toNat = b * W + a := by
    rw [show (b : Int) * (W : Int) + (a : Int) = ((b * W + a : Nat) : Int) by push_cast; rfl]; exact Int.toNat_natCast _
  have e2 : pixV W H (moveL W H l dx dy fill (W * H)) a b = ((mvAt W H l dx dy fill (b * W + a)).toNat : Int) := by
    conv => lhs; unfold pixV
    rw [if_pos h, e1]
    unfold moveL
    rw [List.getD_eq_getElem?_getD, List.getElem?_map, List.getElem?_range hlt]; rfl
  rw [e2]
  split
  · rename_i hp; exact (mvAt_in rfl ha hp).symm
  · rename_i hp; exact (mvAt_out rfl ha hp).symm

theorem back_q {W H : Nat} {l : List UInt8} {dx dy : Int} {fill : UInt8} {u v : Int} (h : pixB W H u v) (hs : pixB W H (u + dx) (v + dy)) :
    pixV W H (moveL W H l dx dy fill (W * H)) (u + dx) (v + dy) = pixV W H l u v := by
  rw [pixV_move hs, show u + dx - dx = u by omega, show v + dy - dy = v by omega, if_pos h]
theorem back_r {W H : Nat} {l : List UInt8} {dx dy : Int} {fill fill2 : UInt8} {u v : Int} (h : pixB W H u v) :
    pixV W H (moveL W H (moveL W H l dx dy fill (W * H)) (-dx) (-dy) fill2 (W * H)) u v = if pixB W H (u + dx) (v + dy) then pixV W H l u v else (fill2.toNat : Int) := by
  rw [pixV_move h, show u - -dx = u + dx by omega, show v - -dy = v + dy by omega]
  split
  · rename_i hs; exact back_q h hs
  · rfl

theorem mvAt_eq {W H : Nat} {l : List UInt8} {dx dy : Int} {fill : UInt8} {k : Nat} (hk : k < W * H) :
    ((mvAt W H l dx dy fill k).toNat : Int) = if pixB W H ((k % W : Nat) - dx) ((k / W : Nat) - dy) then pixV W H l ((k % W : Nat) - dx) ((k / W : Nat) - dy) else (fill.toNat : Int) := by
  unfold mvAt pixV
  split <;> rfl
theorem twice {W H : Nat} {l : List UInt8} {a b c d : Int} {fill : UInt8} (hW : 0 < W) (hx : (0 ≤ a ∧ 0 ≤ c) ∨ (a ≤ 0 ∧ c ≤ 0)) (hy : (0 ≤ b ∧ 0 ≤ d) ∨ (b ≤ 0 ∧ d ≤ 0)) :
    moveL W H (moveL W H l a b fill (W * H)) c d fill (W * H) = moveL W H l (a + c) (b + d) fill (W * H) := by
  conv => lhs; unfold moveL
  conv => rhs; unfold moveL
  apply List.map_congr_left
  intro k hk
  have hk := List.mem_range.1 hk
  apply UInt8.toNat.inj
  apply Int.ofNat.inj
  show ((mvAt W H _ c d fill k).toNat : Int) = ((mvAt W H l (a + c) (b + d) fill k).toNat : Int)
  have hx1 : k % W < W := Nat.mod_lt _ hW
  have hy1 : k / W < H := by rw [Nat.div_lt_iff_lt_mul hW, Nat.mul_comm]; exact hk
  show ((mvAt W H (moveL W H l a b fill (W * H)) c d fill k).toNat : Int) = _
  rw [mvAt_eq hk, mvAt_eq hk]
  have hx2 : (0 : Int) ≤ ((k % W : Nat) : Int) ∧ ((k % W : Nat) : Int) < (W : Int) := ⟨Int.natCast_nonneg _, Int.ofNat_lt.2 hx1⟩
  have hy2 : (0 : Int) ≤ ((k / W : Nat) : Int) ∧ ((k / W : Nat) : Int) < (H : Int) := ⟨Int.natCast_nonneg _, Int.ofNat_lt.2 hy1⟩
  clear hx1 hy1 hk
  generalize ((k % W : Nat) : Int) = x at *
  generalize ((k / W : Nat) : Int) = y at *
  by_cases h1 : pixB W H (x - c) (y - d)
  · rw [if_pos h1, pixV_move h1, show x - c - a = x - (a + c) by omega, show y - d - b = y - (b + d) by omega]
  · rw [if_neg h1]
    by_cases h2 : pixB W H (x - (a + c)) (y - (b + d))
    · exfalso; apply h1
      unfold pixB at h2 ⊢
      omega
    · rw [if_neg h2]

end Go.Dr.T
