/- Chapter 07: Move of the program as one contract. -/
import Derived.Test.YtigcchafpenhiaaR07L1
import Derived.Test.YtigcchafpenhiaaR07Bk
namespace Go.Dr.T

def mvE (w h : Int) (n : Nat) (dx dy : Int) : Int := if checkL w h n = 0 then (if -12 ≤ dx ∧ dx ≤ 12 ∧ -12 ≤ dy ∧ dy ≤ 12 then 0 else 7) else checkL w h n
def mvW (w h : Int) (n : Nat) (dx dy : Int) (z : Int) : Int := if mvE w h n dx dy = 0 then z else 0
def mvC (w h : Int) (n : Nat) (dx dy : Int) : Bool := decide (mvE w h n dx dy ≠ 0)
def mvL (w h : Int) (l : List UInt8) (dx dy : Int) (fill : UInt8) : List UInt8 := if mvE w h l.length dx dy = 0 then moveL w.toNat h.toNat l dx dy fill (w.toNat * h.toNat) else []

theorem move_any (w h : Int) (c : Bool) (l : List UInt8) (dx dy : Int) (fill : UInt8) :
    Fun F md 21 [frV w h c l, .int .i64 dx, .int .i64 dy, .int .u8 fill.toNat] (.tup [frV (mvW w h l.length dx dy w) (mvW w h l.length dx dy h) (mvC w h l.length dx dy) (mvL w h l dx dy fill), .int .i64 (mvE w h l.length dx dy)]) := by
  by_cases hck : checkL w h l.length = 0
  · by_cases hd : -12 ≤ dx ∧ dx ≤ 12 ∧ -12 ≤ dy ∧ dy ≤ 12
    · have e : mvE w h l.length dx dy = 0 := by unfold mvE; rw [if_pos hck, if_pos hd]
      obtain ⟨W, H, rfl, rfl, h1, h2, h3, h4, hl⟩ := checkL_zero hck
      unfold mvW mvC mvL
      rw [e]
      exact move_ok h1 h2 h3 h4 hl (by omega) (by omega) fill
    · have e : mvE w h l.length dx dy = 7 := by unfold mvE; rw [if_pos hck, if_neg hd]
      unfold mvW mvC mvL
      rw [e]
      exact move_far hck hd _
  · have e : mvE w h l.length dx dy = checkL w h l.length := by unfold mvE; rw [if_neg hck]
    unfold mvW mvC mvL
    rw [e, if_neg hck, if_neg hck, if_neg hck, decide_eq_true hck]
    exact move_bad hck _ _ _

end Go.Dr.T
