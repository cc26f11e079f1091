/- Chapter 07: the law ScanBack, in all cases. -/
import Derived.Test.YtigcchafpenhiaaR07L5
namespace Go.Dr.T

theorem law_back (w h : Int) (c : Bool) (l : List UInt8) (dx dy : Int) (fill : UInt8) (ex ey : Int) (fill2 : UInt8) :
    Fun F md 5 [frV w h c l, .agg [.int .i64 dx, .int .i64 dy, .int .u8 fill.toNat], .agg [.int .i64 ex, .int .i64 ey, .int .u8 fill2.toNat]] (.bool true) := by
  by_cases hb : checkL w h l.length = 0 ∧ -12 ≤ dx ∧ dx ≤ 12 ∧ -12 ≤ dy ∧ dy ≤ 12
  · obtain ⟨hck, hd⟩ := hb
    obtain ⟨W, H, rfl, rfl, h1, h2, h3, h4, hl⟩ := checkL_zero hck
    exact back_ok h1 h2 h3 h4 hl (by omega) (by omega) fill ex ey fill2
  · exact back_bad hb fill ex ey fill2

end Go.Dr.T
