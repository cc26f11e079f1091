/- Chapter 07: Steady of the program. -/
import Derived.Test.YtigcchafpenhiaaR07Sc
namespace Go.Dr.T

/-! which shifts were seen -/
structure Inv (Q : Int → Int → Prop) (sm : Int → Int → Int) (r : Int) (L : List Sh3) (y x : Int) : Prop where
  mem : ∀ s ∈ L, 0 - r ≤ s.1 ∧ s.1 ≤ r ∧ 0 - r ≤ s.2.1 ∧ s.2.1 ≤ r ∧ Q s.1 s.2.1 ∧ s.2.2 = sm s.1 s.2.1
  all : ∀ dx dy, 0 - r ≤ dx → dx ≤ r → 0 - r ≤ dy → Q dx dy → (dy < y ∨ dy = y ∧ dx < x) → (dx, dy, sm dx dy) ∈ L
  len : (L.length : Int) ≤ 25 * (y + r) + (x + r)
variable {Q : Int → Int → Prop} {sm : Int → Int → Int} {r : Int} {L : List Sh3} {y x : Int}
theorem Inv.nil : Inv Q sm r [] (0 - r) (0 - r) := ⟨by simp, fun dx dy h1 h2 h3 _ h => by omega, by simp; omega⟩
theorem Inv.skip (h : Inv Q sm r L y x) (hq : ¬ Q x y) : Inv Q sm r L y (x + 1) := by
  refine ⟨h.mem, fun dx dy h1 h2 h3 h4 h5 => ?_, by have := h.len; omega⟩
  by_cases e : dy = y ∧ dx = x
  · obtain ⟨rfl, rfl⟩ := e; exact absurd h4 hq
  · exact h.all dx dy h1 h2 h3 h4 (by omega)
theorem Inv.add (h : Inv Q sm r L y x) (hx : 0 - r ≤ x ∧ x ≤ r) (hy : 0 - r ≤ y ∧ y ≤ r) (hq : Q x y) : Inv Q sm r (L ++ [(x, y, sm x y)]) y (x + 1) := by
  refine ⟨fun s hs => ?_, fun dx dy h1 h2 h3 h4 h5 => ?_, by have := h.len; simp; omega⟩
  · rcases List.mem_append.1 hs with hs | hs
    · exact h.mem s hs
    · obtain rfl : s = (x, y, sm x y) := by simpa using hs
      exact ⟨hx.1, hx.2, hy.1, hy.2, hq, rfl⟩
  · by_cases e : dy = y ∧ dx = x
    · obtain ⟨rfl, rfl⟩ := e; simp
    · exact List.mem_append_left _ (h.all dx dy h1 h2 h3 h4 (by omega))
theorem Inv.row (h : Inv Q sm r L y (r + 1)) (hr : r ≤ 12) : Inv Q sm r L (y + 1) (0 - r) :=
  ⟨h.mem, fun dx dy h1 h2 h3 h4 h5 => h.all dx dy h1 h2 h3 h4 (by omega), by have := h.len; omega⟩

structure Best (Q : Int → Int → Prop) (sm : Int → Int → Int) (r : Int) (m : Sh3) : Prop where
  x1 : 0 - r ≤ m.1
  x2 : m.1 ≤ r
  y1 : 0 - r ≤ m.2.1
  y2 : m.2.1 ≤ r
  ok : Q m.1 m.2.1
  sum : m.2.2 = sm m.1 m.2.1
  least : ∀ dx dy, 0 - r ≤ dx → dx ≤ r → 0 - r ≤ dy → dy ≤ r → Q dx dy → bet (dx, dy, sm dx dy) m = false
theorem Best.uniq {m m' : Sh3} (h : Best Q sm r m) (h' : Best Q sm r m') : m = m' := by
  have e1 := h'.least _ _ h.x1 h.x2 h.y1 h.y2 h.ok
  have e2 := h.least _ _ h'.x1 h'.x2 h'.y1 h'.y2 h'.ok
  rw [← h.sum] at e1
  rw [← h'.sum] at e2
  exact bet_total e1 e2
theorem Inv.best {s : Sh3} {l : List Sh3} (h : Inv Q sm r (s :: l) (r + 1) (0 - r)) : Best Q sm r (minF s l) := by
  obtain ⟨a, b, c, d, e, f⟩ := h.mem _ (minF_mem s l)
  exact ⟨a, b, c, d, e, f, fun dx dy h1 h2 h3 h4 h5 => minF_least s l _ (h.all dx dy h1 h2 h3 h5 (by omega))⟩
theorem inv_row (hr : 0 ≤ r ∧ r ≤ 12) (h : Inv Q sm r L y (0 - r)) (hy : 0 - r ≤ y ∧ y ≤ r) : ∀ (k : Nat), (k : Int) ≤ 2 * r + 1 → ∃ L', Inv Q sm r L' y (0 - r + k)
  | 0, _ => ⟨L, by simpa using h⟩
  | k + 1, hk => by
    obtain ⟨L', h'⟩ := inv_row hr h hy k (by omega)
    rw [show 0 - r + ((k + 1 : Nat) : Int) = 0 - r + k + 1 by omega]
    by_cases hq : Q (0 - r + k) y
    · exact ⟨_, h'.add (by omega) hy hq⟩
    · exact ⟨_, h'.skip hq⟩
theorem inv_all (hr : 0 ≤ r ∧ r ≤ 12) : ∀ (k : Nat), (k : Int) ≤ 2 * r + 1 → ∃ L, Inv Q sm r L (0 - r + k) (0 - r)
  | 0, _ => ⟨[], by simpa using Inv.nil⟩
  | k + 1, hk => by
    obtain ⟨L, h⟩ := inv_all hr k (by omega)
    obtain ⟨L', h'⟩ := inv_row hr h (by omega) (2 * r + 1).toNat (by omega)
    rw [show 0 - r + ((2 * r + 1).toNat : Int) = r + 1 by omega] at h'
    rw [show 0 - r + ((k + 1 : Nat) : Int) = 0 - r + k + 1 by omega]
    exact ⟨L', h'.row hr.2⟩
theorem best_some (hr : 0 ≤ r ∧ r ≤ 12) (h0 : Q 0 0) : ∃ m, Best Q sm r m := by
  obtain ⟨L, h⟩ := inv_all (Q := Q) (sm := sm) hr (2 * r + 1).toNat (by omega)
  rw [show 0 - r + ((2 * r + 1).toNat : Int) = r + 1 by omega] at h
  have hm := h.all 0 0 (by omega) (by omega) (by omega) h0 (by omega)
  cases L with
  | nil => simp at hm
  | cons s l => exact ⟨_, h.best⟩

/-! a window of a frame -/
def insS (W H x0 y0 p q : Nat) (dx dy : Int) : Prop := 0 ≤ (x0 : Int) + dx ∧ (x0 : Int) + p + dx < W ∧ 0 ≤ (y0 : Int) + dy ∧ (y0 : Int) + q + dy < H
def pxS (x0 : Nat) (dx : Int) (i : Nat) : Int := ((x0 + i : Nat) : Int) + dx
def smS (W H : Nat) (l l' : List UInt8) (x0 y0 p q : Nat) (dx dy : Int) : Int := allS (tS W H l l' x0 y0 (pxS x0 dx) (pxS y0 dy)) (p + 1) (q + 1)
theorem insS_all {W H x0 y0 p q : Nat} {dx dy : Int} : insS W H x0 y0 p q dx dy ↔ ∀ i ≤ p, ∀ j ≤ q, pixB W H (pxS x0 dx i) (pxS y0 dy j) := by
  unfold insS pixB pxS
  constructor
  · intro h i hi j hj; omega
  · intro h
    have h1 := h 0 (by omega) 0 (by omega)
    have h2 := h p (by omega) q (by omega)
    omega
theorem smS_range {W H : Nat} (l l' : List UInt8) {x0 y0 p q : Nat} (hp : p < 48) (hq : q < 48) (dx dy : Int) : 0 ≤ smS W H l l' x0 y0 p q dx dy ∧ smS W H l l' x0 y0 p q dx dy ≤ 1000000 := by
  have := allS_bound (t := tS W H l l' x0 y0 (pxS x0 dx) (pxS y0 dy)) (w := p + 1) (by omega) (fun i j => tS_range W H l l' x0 y0 _ _ i j) (q + 1)
  unfold smS; omega

abbrev winV (a b c d : Int) : V := .agg [.int .i64 a, .int .i64 b, .int .i64 c, .int .i64 d]
@[reducible] def bs6 (W H : Nat) (c c' : Bool) (l l' : List UInt8) (x0 y0 p q : Nat) : List B :=
  [.blk [.int .i64 W, .int .i64 H, .sl c l.length (ofBytes l)] false, .blk [.int .i64 W, .int .i64 H, .sl c' l'.length (ofBytes l')] false, .blk [.int .i64 x0, .int .i64 ((x0 + p : Nat) : Int), .int .i64 y0, .int .i64 ((y0 + q : Nat) : Int)] false,
   .blk [.int .i64 0, .int .i64 0, .int .i64 0] false, .blk [.int .i64 W, .int .i64 H, .sl c l.length (ofBytes l)] false, .blk [.int .i64 W, .int .i64 H, .sl c' l'.length (ofBytes l')] false]
def lenS (l : List Sh3) : Nat := l.length
theorem lenS_eq (l : List Sh3) : lenS l = l.length := rfl
@[reducible] def stT : List Sh3 → V
  | [] => .nilsl
  | s :: l => .ms 3 7 (3 * lenS (s :: l)) 0 (lenS (s :: l)) false
@[reducible] def stB (W H : Nat) (c c' : Bool) (l l' : List UInt8) (x0 y0 p q : Nat) : List Sh3 → List B
  | [] => bs6 W H c c' l l' x0 y0 p q
  | s :: L => bs6 W H c c' l l' x0 y0 p q ++ [.blk [.int .i64 s.1, .int .i64 s.2.1, .int .i64 s.2.2] false, .blk (ofS3 (s :: L)) true]

theorem s3_views {h : List B} {id g len : Nat} {clip dat : Bool} {cs : List V} {l : List Sh3} (h1 : bget h id = some (.blk cs dat)) (h0 : cs = ofS3 l) (h2 : g = 3 * l.length) (h3 : len = l.length) :
    views h depth ([.ms 3 id g 0 len clip, .fn 66 []] ++ []) = some [.sl clip l.length (ofS3 l), .fn 66 []] := by
  subst h0 h2 h3
  have e : (ofS3 l).length = 3 * l.length := ofS3_length l
  exact (VwL.cons (Vw.ms h1 e (part_all (by rw [e]; omega)) (VwL.s3 l)) (VwL.cons ⟨rfl⟩ VwL.nil) : VwL h 64 _ _).1
attribute [irreducible] lenS

end Go.Dr.T
