/- Chapter 07: the law ScanSteady: the plain laws. -/
import Derived.Test.YtigcchafpenhiaaR07Sg
import Derived.Test.YtigcchafpenhiaaR07Bk
import Derived.Test.YtigcchafpenhiaaR07Awk
namespace Go.Dr.T

theorem rowA_zero {t : Nat → Int} : ∀ {i : Nat}, (∀ k < i, t k = 0) → rowA t 0 i = 0
  | 0, _ => rfl
  | i + 1, h => by simp only [rowA]; rw [rowA_zero fun k hk => h k (by omega), h i (by omega)]; rfl
theorem allS_zero {t : Nat → Nat → Int} {w : Nat} : ∀ {j : Nat}, (∀ i < w, ∀ k < j, t i k = 0) → allS t w j = 0
  | 0, _ => rfl
  | j + 1, h => by
    simp only [allS]
    rw [allS_zero fun i hi k hk => h i hi k (by omega)]
    exact rowA_zero fun k hk => h k hk j (by omega)
theorem rowA_all {t : Nat → Int} {a : Int} (ht : ∀ i, 0 ≤ t i ∧ t i ≤ 255) (ha : 0 ≤ a) : ∀ {i : Nat}, rowA t a i = 0 → a = 0 ∧ ∀ k < i, t k = 0
  | 0, h => ⟨h, fun k hk => absurd hk (Nat.not_lt_zero k)⟩
  | i + 1, h => by
    simp only [rowA] at h
    have h1 := (rowA_bound ht (a := a) i).1
    have h2 := ht i
    obtain ⟨h3, h4⟩ := rowA_all ht ha (i := i) (by omega)
    refine ⟨h3, fun k hk => ?_⟩
    by_cases e : k = i
    · subst e; omega
    · exact h4 k (by omega)
theorem allS_all {t : Nat → Nat → Int} {w : Nat} (hw : w ≤ 48) (ht : ∀ i j, 0 ≤ t i j ∧ t i j ≤ 255) : ∀ {j : Nat}, allS t w j = 0 → ∀ i < w, ∀ k < j, t i k = 0
  | 0, _, _, _, k, hk => absurd hk (Nat.not_lt_zero k)
  | j + 1, h, i, hi, k, hk => by
    simp only [allS] at h
    obtain ⟨h1, h2⟩ := rowA_all (fun i => ht i j) (allS_bound hw ht j).1 h
    by_cases e : k = j
    · subst e; exact h2 i hi
    · exact allS_all hw ht h1 i hi k (by omega)

/-- moved within the frame, the window is as it was. -/
theorem moved_zero {W H : Nat} {l : List UInt8} {x0 y0 p q : Nat} (hx : x0 + p < W) (hy : y0 + q < H) {x y : Int} {fill : UInt8} (hin : insS W H x0 y0 p q x y) : smS W H l (moveL W H l x y fill (W * H)) x0 y0 p q x y = 0 := by
  refine allS_zero fun i hi k hk => ?_
  have hb := insS_all.1 hin i (by omega) k (by omega)
  have e := back_q (l := l) (dx := x) (dy := y) (fill := fill) (u := ((x0 + i : Nat) : Int)) (v := ((y0 + k : Nat) : Int)) (by unfold pixB; omega) hb
  unfold tS
  rw [show pxS x0 x i = ((x0 + i : Nat) : Int) + x from rfl, show pxS y0 y k = ((y0 + k : Nat) : Int) + y from rfl, e]
  unfold absI; omega
/-- moved back by the best shift, the window is that of the first frame. -/
theorem back_zero {W H : Nat} {l A : List UInt8} {x0 y0 p q : Nat} (hx : x0 + p < W) (hy : y0 + q < H) (hW : W ≤ 48) {x y : Int} (fill : UInt8) (hin : insS W H x0 y0 p q x y) (h0 : smS W H l A x0 y0 p q x y = 0) : smS W H l (moveL W H A (0 - x) (0 - y) fill (W * H)) x0 y0 p q 0 0 = 0 := by
  refine allS_zero fun i hi k hk => ?_
  have hz := allS_all (t := tS W H l A x0 y0 (pxS x0 x) (pxS y0 y)) (by omega) (fun i j => tS_range W H l A x0 y0 _ _ i j) h0 i hi k hk
  have hb := insS_all.1 hin i (by omega) k (by omega)
  have e := pixV_move (l := A) (dx := 0 - x) (dy := 0 - y) (fill := fill) (x := ((x0 + i : Nat) : Int)) (y := ((y0 + k : Nat) : Int)) (W := W) (H := H) (by unfold pixB; omega)
  rw [show ((x0 + i : Nat) : Int) - (0 - x) = pxS x0 x i by unfold pxS; omega, show ((y0 + k : Nat) : Int) - (0 - y) = pxS y0 y k by unfold pxS; omega, if_pos hb] at e
  unfold tS at hz ⊢
  rw [show pxS x0 0 i = ((x0 + i : Nat) : Int) by unfold pxS; omega, show pxS y0 0 k = ((y0 + k : Nat) : Int) by unfold pxS; omega, e]
  exact hz

/-- What the second half of the law meets. -/
inductive Half (w h : Int) (c : Bool) (l : List UInt8) (a b d e r x y : Int) (fill : UInt8) : Prop where
  | still (k : Int) : k ≠ 0 → Fun F md 21 [frV w h c l, .int .i64 x, .int .i64 y, .int .u8 fill.toNat] (.tup [frV 0 0 true [], .int .i64 k]) → Half w h c l a b d e r x y fill
  | none (A : List UInt8) (k : Int) : k ≠ 0 → Fun F md 18 [frV w h c l] (.int .i64 0) → Fun F md 21 [frV w h c l, .int .i64 x, .int .i64 y, .int .u8 fill.toNat] (.tup [frV w h false A, .int .i64 0]) →
      Fun F md 24 [frV w h c l, frV w h false A, winV a b d e, .int .i64 r] (noS k) → Half w h c l a b d e r x y fill
  | ok (W H x0 y0 p q R : Nat) (A B : List UInt8) (m : Sh3) : w = W → h = H → W ≤ 48 → H ≤ 48 → a = x0 → b = ((x0 + p : Nat) : Int) → d = y0 → e = ((y0 + q : Nat) : Int) → x0 + p < W → y0 + q < H → r = R → R ≤ 12 → -12 ≤ x ∧ x ≤ 12 → -12 ≤ y ∧ y ≤ 12 →
      -12 ≤ m.1 ∧ m.1 ≤ 12 → -12 ≤ m.2.1 ∧ m.2.1 ≤ 12 → (insS W H x0 y0 p q x y → 0 - (R : Int) ≤ x ∧ x ≤ R ∧ 0 - (R : Int) ≤ y ∧ y ≤ R → m.2.2 = 0 ∧ Fun F md 27 [frV w h c l, frV W H false B, winV a b d e, .int .i64 0, .int .i64 0] (.tup [.int .i64 0, .bool true])) →
      Fun F md 18 [frV w h c l] (.int .i64 0) → Fun F md 18 [frV W H false B] (.int .i64 0) →
      Fun F md 21 [frV w h c l, .int .i64 x, .int .i64 y, .int .u8 fill.toNat] (.tup [frV W H false A, .int .i64 0]) →
      Fun F md 24 [frV w h c l, frV W H false A, winV a b d e, .int .i64 r] (.tup [sh3V m, .int .i64 0]) →
      Fun F md 21 [frV W H false A, .int .i64 (0 - m.1), .int .i64 (0 - m.2.1), .int .u8 0] (.tup [frV W H false B, .int .i64 0]) → Half w h c l a b d e r x y fill
theorem half_any (w h : Int) (c : Bool) (l : List UInt8) (a b d e r x y : Int) (fill : UInt8) : Half w h c l a b d e r x y fill := by
  by_cases hck : checkL w h l.length = 0
  · by_cases hd : -12 ≤ x ∧ x ≤ 12 ∧ -12 ≤ y ∧ y ≤ 12
    · obtain ⟨W, H, rfl, rfl, h1, h2, h3, h4, hl⟩ := checkL_zero hck
      have hmv := move_ok h1 h2 h3 h4 hl (c := c) (dx := x) (dy := y) (by omega) (by omega) fill
      have hlA := moveL_length W H l x y fill (W * H)
      have hc1 := checkR_any W H c l
      rw [hck] at hc1
      rcases steadies_any W H c l W H false (moveL W H l x y fill (W * H)) a b d e r with ⟨k, hk, hA, _⟩ | ⟨W', H', x0, y0, p, q, R, m, hw, hh, _, _, _, _, _, _, _, _, rfl, rfl, rfl, rfl, hx, hy, rfl, hR, hm, hA, _⟩
      · exact .none _ k hk hc1 hmv hA
      · obtain rfl : W' = W := by omega
        obtain rfl : H' = H := by omega
        have hb := move_ok h1 h2 h3 h4 hlA (c := false) (dx := 0 - m.1) (dy := 0 - m.2.1) (by have := hm.x1; have := hm.x2; omega) (by have := hm.y1; have := hm.y2; omega) 0
        have hlB := moveL_length W' H' (moveL W' H' l x y fill (W' * H')) (0 - m.1) (0 - m.2.1) 0 (W' * H')
        have hc2 := checkR_any W' H' false (moveL W' H' (moveL W' H' l x y fill (W' * H')) (0 - m.1) (0 - m.2.1) 0 (W' * H'))
        rw [check_ok h1 h2 h3 h4 hlB] at hc2
        refine .ok W' H' x0 y0 p q R _ _ m rfl rfl h2 h4 rfl rfl rfl rfl hx hy rfl hR (by omega) (by omega) ⟨by have := hm.x1; omega, by have := hm.x2; omega⟩ ⟨by have := hm.y1; omega, by have := hm.y2; omega⟩ (fun hin hr => ?_) hc1 hc2 hmv hA hb
        have hl0 := hm.least x y hr.1 hr.2.1 hr.2.2.1 hr.2.2.2 hin
        rw [moved_zero hx hy hin] at hl0
        have hs0 : m.2.2 = 0 := by
          have h5 := mt (bet_iff _ _).2 (Bool.eq_false_iff.1 hl0)
          have h6 := (smS_range (W := W') (H := H') l (moveL W' H' l x y fill (W' * H')) (x0 := x0) (y0 := y0) (p := p) (q := q) (by omega) (by omega) m.1 m.2.1).1
          rw [← hm.sum] at h6
          simp only at h5
          omega
        refine ⟨hs0, ?_⟩
        have h7 := back_zero hx hy h2 0 hm.ok (hm.sum.symm.trans hs0)
        have h8 := (difR (c := c) (c' := false) h2 h4 hl hlB hx hy (dx := 0) (dy := 0) (by omega) (by omega)).1 (by unfold insS; omega)
        rw [h7] at h8
        exact h8
    · exact .still 7 (by decide) (move_far hck hd _)
  · exact .still _ hck (move_bad hck _ _ _)

theorem wrap_out {a x : Int} (ha : 0 ≤ a ∧ a ≤ 48) (hx : -9223372036854775808 ≤ x ∧ x ≤ 9223372036854775807) (hf : x < -100 ∨ 100 < x) : ¬ (0 ≤ IntKind.i64.wrap (a + x) ∧ IntKind.i64.wrap (a + x) < 48) := by
  unfold IntKind.wrap
  simp only [IntKind.bits, IntKind.signed, IntKind.max, IntKind.min, if_true]
  first | omega | (split <;> omega) | (simp; omega)

/-- What the first half meets: a best shift, and another one. -/
theorem other_any {W H : Nat} {c c' : Bool} {l l' : List UInt8} (h2 : W ≤ 48) (h4 : H ≤ 48) (hl : l.length = W * H) (hl' : l'.length = W * H) {x0 y0 p q R : Nat} (hx : x0 + p < W) (hy : y0 + q < H) {m : Sh3} (hm : Best (insS W H x0 y0 p q) (smS W H l l' x0 y0 p q) R m) {x y : Int} (h64 : -9223372036854775808 ≤ x ∧ x ≤ 9223372036854775807) (h65 : -9223372036854775808 ≤ y ∧ y ≤ 9223372036854775807) :
    (-100 ≤ x ∧ x ≤ 100 ∧ -100 ≤ y ∧ y ≤ 100 ∧ ∃ n, Fun F md 27 [frV W H c l, frV W H c' l', winV x0 ((x0 + p : Nat) : Int) y0 ((y0 + q : Nat) : Int), .int .i64 x, .int .i64 y] (.tup [.int .i64 n, .bool true]) ∧ (0 - (R : Int) ≤ x → x ≤ R → 0 - (R : Int) ≤ y → y ≤ R → m.2.2 ≤ n)) ∨
    Fun F md 27 [frV W H c l, frV W H c' l', winV x0 ((x0 + p : Nat) : Int) y0 ((y0 + q : Nat) : Int), .int .i64 x, .int .i64 y] (.tup [.int .i64 0, .bool false]) := by
  by_cases hs : -100 ≤ x ∧ x ≤ 100 ∧ -100 ≤ y ∧ y ≤ 100
  · obtain ⟨s1, s2, s3, s4⟩ := hs
    have hd := difR (c := c) (c' := c') h2 h4 hl hl' hx hy (dx := x) (dy := y) (by omega) (by omega)
    by_cases hq : insS W H x0 y0 p q x y
    · refine .inl ⟨s1, s2, s3, s4, _, hd.1 hq, fun r1 r2 r3 r4 => ?_⟩
      have h5 := mt (bet_iff _ _).2 (Bool.eq_false_iff.1 (hm.least x y r1 r2 r3 r4 hq))
      simp only at h5
      omega
    · exact .inr (hd.2 hq)
  · refine .inr (differs_out h2 h4 hl hl' hx hy (px := fun i => IntKind.i64.wrap (((x0 + i : Nat) : Int) + x)) (py := fun j => IntKind.i64.wrap (((y0 + j : Nat) : Int) + y)) (fun _ _ => rfl) (fun _ _ => rfl) (fun hall => ?_))
    have hb := hall 0 (by omega) 0 (by omega)
    unfold pixB at hb
    simp only [Nat.add_zero] at hb
    by_cases hx' : x < -100 ∨ 100 < x
    · exact wrap_out (a := (x0 : Int)) (by omega) h64 hx' ⟨hb.1, by omega⟩
    · exact wrap_out (a := (y0 : Int)) (by omega) h65 (by omega) ⟨hb.2.2.1, by omega⟩

end Go.Dr.T
