/- Chapter 07: the law ScanSteady: what the two halves meet, in numbers. -/
import Derived.Test.YtigcchafpenhiaaR07Si
import Derived.Test.YtigcchafpenhiaaR07Wt
namespace Go.Dr.T

inductive First (w h : Int) (c : Bool) (l : List UInt8) (w' h' : Int) (c' : Bool) (l' : List UInt8) (a b d e r x y : Int) : Prop where
  | bad (k : Int) : k ≠ 0 → Fun F md 24 [frV w h c l, frV w' h' c' l', winV a b d e, .int .i64 r] (noS k) → First w h c l w' h' c' l' a b d e r x y
  | ok (m : Sh3) (n : Int) (also : Bool) : Fun F md 24 [frV w h c l, frV w' h' c' l', winV a b d e, .int .i64 r] (.tup [sh3V m, .int .i64 0]) → Fun F md 18 [frV w h c l] (.int .i64 0) → Fun F md 18 [frV w' h' c' l'] (.int .i64 0) →
      Fun F md 27 [frV w h c l, frV w' h' c' l', winV a b d e, .int .i64 m.1, .int .i64 m.2.1] (.tup [.int .i64 m.2.2, .bool true]) → 0 ≤ r → r ≤ 12 → 0 - r ≤ m.1 → m.1 ≤ r → 0 - r ≤ m.2.1 → m.2.1 ≤ r →
      Fun F md 27 [frV w h c l, frV w' h' c' l', winV a b d e, .int .i64 x, .int .i64 y] (.tup [.int .i64 n, .bool also]) → (also = true → -100 ≤ x ∧ x ≤ 100 ∧ -100 ≤ y ∧ y ≤ 100 ∧ (0 - r ≤ x → x ≤ r → 0 - r ≤ y → y ≤ r → m.2.2 ≤ n)) → First w h c l w' h' c' l' a b d e r x y
theorem first_of (w h : Int) (c : Bool) (l : List UInt8) (w' h' : Int) (c' : Bool) (l' : List UInt8) (a b d e r : Int) {x y : Int} (hx : is64 x) (hy : is64 y) : First w h c l w' h' c' l' a b d e r x y := by
  rcases steadies_any w h c l w' h' c' l' a b d e r with ⟨k, hk, hA, _⟩ | ⟨W, H, x0, y0, p, q, R, m, rfl, rfl, rfl, rfl, h1, h2, h3, h4, hl, hl', rfl, rfl, rfl, rfl, hx0, hy0, rfl, hR, hm, hA, _⟩
  · exact .bad k hk hA
  · have hc1 := checkR_any W H c l
    have hc2 := checkR_any W H c' l'
    rw [check_ok h1 h2 h3 h4 hl] at hc1
    rw [check_ok h1 h2 h3 h4 hl'] at hc2
    have hd := (difR (c := c) (c' := c') h2 h4 hl hl' hx0 hy0 (dx := m.1) (dy := m.2.1) (by have := hm.x1; have := hm.x2; omega) (by have := hm.y1; have := hm.y2; omega)).1 hm.ok
    rw [← hm.sum] at hd
    rcases other_any (c := c) (c' := c') h2 h4 hl hl' hx0 hy0 hm hx hy with ⟨s1, s2, s3, s4, n, ho, hn⟩ | ho
    · exact .ok m n true hA hc1 hc2 hd (by omega) (by omega) hm.x1 hm.x2 hm.y1 hm.y2 ho (fun _ => ⟨s1, s2, s3, s4, hn⟩)
    · exact .ok m 0 false hA hc1 hc2 hd (by omega) (by omega) hm.x1 hm.x2 hm.y1 hm.y2 ho (fun h => by cases h)

inductive Second (w h : Int) (c : Bool) (l : List UInt8) (a b d e r x y : Int) (fill : UInt8) : Prop where
  | still (k : Int) : k ≠ 0 → Fun F md 21 [frV w h c l, .int .i64 x, .int .i64 y, .int .u8 fill.toNat] (.tup [frV 0 0 true [], .int .i64 k]) → Second w h c l a b d e r x y fill
  | none (A : List UInt8) (k : Int) : k ≠ 0 → Fun F md 18 [frV w h c l] (.int .i64 0) → Fun F md 21 [frV w h c l, .int .i64 x, .int .i64 y, .int .u8 fill.toNat] (.tup [frV w h false A, .int .i64 0]) →
      Fun F md 24 [frV w h c l, frV w h false A, winV a b d e, .int .i64 r] (noS k) → Second w h c l a b d e r x y fill
  | ok (A B : List UInt8) (m : Sh3) : 0 ≤ w → w ≤ 48 → 0 ≤ h → h ≤ 48 → 0 ≤ a → a ≤ b → b < w → 0 ≤ d → d ≤ e → e < h → 0 ≤ r → r ≤ 12 → -12 ≤ x → x ≤ 12 → -12 ≤ y → y ≤ 12 → -12 ≤ m.1 → m.1 ≤ 12 → -12 ≤ m.2.1 → m.2.1 ≤ 12 →
      (0 ≤ a + x ∧ b + x < w ∧ 0 ≤ d + y ∧ e + y < h → 0 - r ≤ x ∧ x ≤ r ∧ 0 - r ≤ y ∧ y ≤ r → m.2.2 = 0 ∧ Fun F md 27 [frV w h c l, frV w h false B, winV a b d e, .int .i64 0, .int .i64 0] (.tup [.int .i64 0, .bool true])) →
      Fun F md 18 [frV w h c l] (.int .i64 0) → Fun F md 18 [frV w h false B] (.int .i64 0) →
      Fun F md 21 [frV w h c l, .int .i64 x, .int .i64 y, .int .u8 fill.toNat] (.tup [frV w h false A, .int .i64 0]) →
      Fun F md 24 [frV w h c l, frV w h false A, winV a b d e, .int .i64 r] (.tup [sh3V m, .int .i64 0]) →
      Fun F md 21 [frV w h false A, .int .i64 (0 - m.1), .int .i64 (0 - m.2.1), .int .u8 0] (.tup [frV w h false B, .int .i64 0]) → Second w h c l a b d e r x y fill
theorem second_of (w h : Int) (c : Bool) (l : List UInt8) (a b d e r x y : Int) (fill : UInt8) : Second w h c l a b d e r x y fill := by
  rcases half_any w h c l a b d e r x y fill with ⟨k, hk, hM⟩ | ⟨A, k, hk, hC, hM, hS⟩ | ⟨W, H, x0, y0, p, q, R, A, B, m, rfl, rfl, h2, h4, rfl, rfl, rfl, rfl, hx, hy, rfl, hR, hx2, hy2, hm1, hm2, hz, hC, hCB, hM, hS, hBk⟩
  · exact .still k hk hM
  · exact .none A k hk hC hM hS
  · exact .ok A B m (by omega) (by omega) (by omega) (by omega) (by omega) (by omega) (by omega) (by omega) (by omega) (by omega) (by omega) (by omega) hx2.1 hx2.2 hy2.1 hy2.2 hm1.1 hm1.2 hm2.1 hm2.2
      (fun h5 h6 => hz (by unfold insS; omega) h6) hC hCB hM hS hBk

end Go.Dr.T
