/- Chapter 07: Steady of the reference, and what both return where there is no shift. -/
import Derived.Test.YtigcchafpenhiaaR07Sd
namespace Go.Dr.T
attribute [local irreducible] pixV

theorem difR {W H : Nat} {c c' : Bool} {l l' : List UInt8} (h2 : W ≤ 48) (h4 : H ≤ 48) (hl : l.length = W * H) (hl' : l'.length = W * H) {x0 y0 p q : Nat} (hx : x0 + p < W) (hy : y0 + q < H) {dx dy : Int} (hdx : -100 ≤ dx ∧ dx ≤ 100) (hdy : -100 ≤ dy ∧ dy ≤ 100) :
    (insS W H x0 y0 p q dx dy → Fun F md 27 [frV W H c l, frV W H c' l', winV x0 ((x0 + p : Nat) : Int) y0 ((y0 + q : Nat) : Int), .int .i64 dx, .int .i64 dy] (.tup [.int .i64 (smS W H l l' x0 y0 p q dx dy), .bool true])) ∧
    (¬ insS W H x0 y0 p q dx dy → Fun F md 27 [frV W H c l, frV W H c' l', winV x0 ((x0 + p : Nat) : Int) y0 ((y0 + q : Nat) : Int), .int .i64 dx, .int .i64 dy] (.tup [.int .i64 0, .bool false])) := by
  have e1 : ∀ i ≤ p, IntKind.i64.wrap (((x0 + i : Nat) : Int) + dx) = pxS x0 dx i := fun i hi => wrap_i64 (by omega) (by omega)
  have e2 : ∀ j ≤ q, IntKind.i64.wrap (((y0 + j : Nat) : Int) + dy) = pxS y0 dy j := fun j hj => wrap_i64 (by omega) (by omega)
  exact ⟨fun h => differs_in h2 h4 hl hl' hx hy e1 e2 (insS_all.1 h), fun h => differs_out h2 h4 hl hl' hx hy e1 e2 (fun h' => h (insS_all.2 h'))⟩

structure Seen (Q : Int → Int → Prop) (sm : Int → Int → Int) (r : Int) (b : Sh3) (y x : Int) : Prop where
  x1 : 0 - r ≤ b.1
  x2 : b.1 ≤ r
  y1 : 0 - r ≤ b.2.1
  y2 : b.2.1 ≤ r
  ok : Q b.1 b.2.1
  sum : b.2.2 = sm b.1 b.2.1
  least : ∀ dx dy, 0 - r ≤ dx → dx ≤ r → 0 - r ≤ dy → Q dx dy → (dy < y ∨ dy = y ∧ dx < x) → bet (dx, dy, sm dx dy) b = false
variable {Q : Int → Int → Prop} {sm : Int → Int → Int} {r : Int} {b : Sh3} {y x : Int}
theorem Seen.skip (h : Seen Q sm r b y x) (hq : ¬ Q x y) : Seen Q sm r b y (x + 1) :=
  ⟨h.x1, h.x2, h.y1, h.y2, h.ok, h.sum, fun dx dy h1 h2 h3 h4 h5 => by
    by_cases e : dy = y ∧ dx = x
    · obtain ⟨rfl, rfl⟩ := e; exact absurd h4 hq
    · exact h.least dx dy h1 h2 h3 h4 (by omega)⟩
theorem Seen.keep (h : Seen Q sm r b y x) (hb : ¬ bet (x, y, sm x y) b = true) : Seen Q sm r b y (x + 1) :=
  ⟨h.x1, h.x2, h.y1, h.y2, h.ok, h.sum, fun dx dy h1 h2 h3 h4 h5 => by
    by_cases e : dy = y ∧ dx = x
    · obtain ⟨rfl, rfl⟩ := e; exact Bool.eq_false_iff.2 hb
    · exact h.least dx dy h1 h2 h3 h4 (by omega)⟩
theorem Seen.take (h : Seen Q sm r b y x) (hx : 0 - r ≤ x ∧ x ≤ r) (hy : 0 - r ≤ y ∧ y ≤ r) (hq : Q x y) (hb : bet (x, y, sm x y) b = true) : Seen Q sm r (x, y, sm x y) y (x + 1) :=
  ⟨hx.1, hx.2, hy.1, hy.2, hq, rfl, fun dx dy h1 h2 h3 h4 h5 => by
    by_cases e : dy = y ∧ dx = x
    · obtain ⟨rfl, rfl⟩ := e; exact bet_irr _
    · have := h.least dx dy h1 h2 h3 h4 (by omega)
      rw [← Bool.not_eq_true] at this ⊢
      exact fun h => this (bet_trans h hb)⟩
theorem Seen.row (h : Seen Q sm r b y (r + 1)) : Seen Q sm r b (y + 1) (0 - r) :=
  ⟨h.x1, h.x2, h.y1, h.y2, h.ok, h.sum, fun dx dy h1 h2 h3 h4 h5 => h.least dx dy h1 h2 h3 h4 (by omega)⟩
theorem Seen.best (h : Seen Q sm r b (r + 1) (0 - r)) : Best Q sm r b :=
  ⟨h.x1, h.x2, h.y1, h.y2, h.ok, h.sum, fun dx dy h1 h2 h3 h4 h5 => h.least dx dy h1 h2 h3 h5 (by omega)⟩

@[reducible] def bs5 (W H : Nat) (c c' : Bool) (l l' : List UInt8) (x0 y0 p q : Nat) (b : Sh3) : List B :=
  [.blk [.int .i64 W, .int .i64 H, .sl c l.length (ofBytes l)] false, .blk [.int .i64 W, .int .i64 H, .sl c' l'.length (ofBytes l')] false, .blk [.int .i64 x0, .int .i64 ((x0 + p : Nat) : Int), .int .i64 y0, .int .i64 ((y0 + q : Nat) : Int)] false,
   .blk [.int .i64 0, .int .i64 0, .int .i64 0] false, .blk [.int .i64 b.1, .int .i64 b.2.1, .int .i64 b.2.2] false]

set_option maxRecDepth 100000 in
set_option maxHeartbeats 20000000 in
theorem steadyR_ok {W H : Nat} {c c' : Bool} {l l' : List UInt8} (h1 : 1 ≤ W) (h2 : W ≤ 48) (h3 : 1 ≤ H) (h4 : H ≤ 48) (hl : l.length = W * H) (hl' : l'.length = W * H) {x0 y0 p q : Nat} (hx : x0 + p < W) (hy : y0 + q < H) {r : Nat} (hr : r ≤ 12) {m : Sh3}
    (hm : Best (insS W H x0 y0 p q) (smS W H l l' x0 y0 p q) r m) :
    Fun F md 25 [frV W H c l, frV W H c' l', winV x0 ((x0 + p : Nat) : Int) y0 ((y0 + q : Nat) : Int), .int .i64 r] (.tup [sh3V m, .int .i64 0]) := by
  have hc1 := checkR_any W H c l
  have hc2 := checkR_any W H c' l'
  rw [check_ok h1 h2 h3 h4 hl] at hc1
  rw [check_ok h1 h2 h3 h4 hl'] at hc2
  have hout : outA W H x0 ((x0 + p : Nat) : Int) y0 ((y0 + q : Nat) : Int) = false := by
    unfold outA
    rw [decide_eq_true (by omega), decide_eq_true (by omega), decide_eq_true (by omega), decide_eq_true (by omega), decide_eq_true (by omega), decide_eq_true (by omega)]; rfl
  have h00 : insS W H x0 y0 p q 0 0 := by unfold insS; omega
  have hd0 := (difR (c := c) (c' := c') h2 h4 hl hl' hx hy (dx := 0) (dy := 0) (by omega) (by omega)).1 h00
  have hsr := fun dx dy => smS_range (W := W) (H := H) l l' (x0 := x0) (y0 := y0) (p := p) (q := q) (by omega) (by omega) dx dy
  refine fun_of rfl rfl ?_
  repeat' (first
    | (conv => whnf)
      first
      | refine Br.t ?_
      | refine Br.f ?_
      | refine Br.decT (by first | assumption | omega) ?_
      | refine Br.decF (by first | assumption | omega) ?_
      | refine Br.dec (fun _ => ?_) (fun _ => ?_)
      | refine Br.not ?_
      | refine Br.and ?_
      | refine Br.or ?_
      | refine Bnd.i64 (by omega) (by omega) ?_
      | refine call_fun rfl rfl hc1 (.inl rfl) ?_
      | refine call_fun rfl rfl hc2 (.inl rfl) ?_
      | refine call_fun rfl rfl (area_any h2 h4 _ _ _ _) (.inl rfl) ?_
      | refine Br.no hout ?_
      | refine call_fun rfl rfl (in_any _ _ _) (.inl rfl) ?_
      | refine call_fun rfl rfl hd0 (.inl rfl) ?_
      | refine Req.mk (by first | rfl | decide | exact ⟨rfl, rfl⟩ | exact ⟨rfl, by decide⟩ | exact (fun _ => rfl) | exact (fun h => nomatch h) | (simp; done) | omega | (simp [big]; done) | exact le_big (by omega) | exact lt_big (by omega)) ?_
      | refine Idx.nat (by omega) ?_
      | refine Idx.nat (le_big (by omega)) ?_
      | refine Idx.int (by omega) (by omega) ?_
      | refine Ifz.zero ?_
      | refine Ifz.pos (by omega) ?_
      | refine Get.mk _ rfl ?_
      | refine Leaves.of ?_
      | refine Ends.of ?_
      | refine Vw.bool ?_
      | refine Vw.int ?_
      | refine Vw.nil
      | refine Vw.sl
      | refine Vw.tup ?_
      | refine Vw.agg ?_
      | refine VwL.cons ?_ ?_
      | refine VwL.nil
      | refine LeavesF.of ?_
      | refine VwF.bool ?_
      | refine VwF.int ?_
      | refine VwF.nil
      | refine VwF.sl
      | refine VwF.tup ?_
      | refine VwF.agg ?_
      | refine VwLF.cons ?_ ?_
      | refine VwLF.nil)
  refine LoopP.by (fun a : Int × Sh3 => 0 - (r : Int) ≤ a.1 ∧ a.1 ≤ r + 1 ∧ Seen (insS W H x0 y0 p q) (smS W H l l' x0 y0 p q) r a.2 a.1 (0 - r)) (fun a => [(14, .int .i64 a.1)]) (fun a => bs5 W H c c' l l' x0 y0 p q a.2) (fun a => ((r : Int) + 1 - a.1).toNat) (0 - (r : Int), (0, 0, smS W H l l' x0 y0 p q 0 0)) ⟨by simp only; omega, by simp only; omega, ⟨by simp only; omega, by simp only; omega, by simp only; omega, by simp only; omega, h00, rfl, fun dx dy h1 h2 h3 _ h => by simp only at h; omega⟩⟩ rfl ?_
  rintro ⟨y, b⟩ ⟨hy1, hy2, hI⟩
  simp only at hy1 hy2 hI
  dsimp only
  by_cases hyr : y ≤ r
  · repeat' (first
      | (conv => whnf)
        first
        | refine Br.t ?_
        | refine Br.f ?_
        | refine Br.decT (by first | assumption | omega) ?_
        | refine Br.decF (by first | assumption | omega) ?_
        | refine Br.dec (fun _ => ?_) (fun _ => ?_)
        | refine Br.not ?_
        | refine Br.and ?_
        | refine Br.or ?_
        | refine Bnd.i64 (by omega) (by omega) ?_
        | refine Req.mk (by first | rfl | decide | exact ⟨rfl, rfl⟩ | exact ⟨rfl, by decide⟩ | exact (fun _ => rfl) | exact (fun h => nomatch h) | (simp; done) | omega | (simp [big]; done) | exact le_big (by omega) | exact lt_big (by omega)) ?_
        | refine Idx.nat (by omega) ?_
        | refine Idx.nat (le_big (by omega)) ?_
        | refine Idx.int (by omega) (by omega) ?_
        | refine Ifz.zero ?_
        | refine Ifz.pos (by omega) ?_
        | refine Get.mk _ rfl ?_
        | refine Leaves.of ?_
        | refine Ends.of ?_
        | refine Vw.bool ?_
        | refine Vw.int ?_
        | refine Vw.nil
        | refine Vw.sl
        | refine Vw.tup ?_
        | refine Vw.agg ?_
        | refine VwL.cons ?_ ?_
        | refine VwL.nil
        | refine LeavesF.of ?_
        | refine VwF.bool ?_
        | refine VwF.int ?_
        | refine VwF.nil
        | refine VwF.sl
        | refine VwF.tup ?_
        | refine VwF.agg ?_
        | refine VwLF.cons ?_ ?_
        | refine VwLF.nil)
    refine LoopP.by (fun a : Int × Sh3 => 0 - (r : Int) ≤ a.1 ∧ a.1 ≤ r + 1 ∧ Seen (insS W H x0 y0 p q) (smS W H l l' x0 y0 p q) r a.2 y a.1) (fun a => [(15, .int .i64 a.1)]) (fun a => bs5 W H c c' l l' x0 y0 p q a.2) (fun a => ((r : Int) + 1 - a.1).toNat) (0 - (r : Int), b) ⟨by simp only; omega, by simp only; omega, hI⟩ rfl ?_
    rintro ⟨x, b⟩ ⟨hx1, hx2, hI2⟩
    simp only at hx1 hx2 hI2
    dsimp only
    by_cases hxr : x ≤ r
    · have hd := difR (c := c) (c' := c') h2 h4 hl hl' hx hy (dx := x) (dy := y) (by omega) (by omega)
      have hs1 := hsr x y
      by_cases hq : insS W H x0 y0 p q x y
      · have hd := hd.1 hq
        have hbt := better_any (a := (x, y, smS W H l l' x0 y0 p q x y)) (b := b) ⟨by simp only; omega, by simp only; omega, by simp only; omega, by simp only; omega, hs1.1, hs1.2⟩ ⟨by have := hI2.x1; omega, by have := hI2.x2; omega, by have := hI2.y1; omega, by have := hI2.y2; omega, by rw [hI2.sum]; exact (hsr _ _).1, by rw [hI2.sum]; exact (hsr _ _).2⟩
        by_cases hb : bet (x, y, smS W H l l' x0 y0 p q x y) b = true
        · have hnew := hI2.take (by omega) (by omega) hq hb
          rw [hb] at hbt
          repeat' (first
            | (conv => whnf)
              first
              | refine Br.t ?_
              | refine Br.f ?_
              | refine Br.decT (by first | assumption | omega) ?_
              | refine Br.decF (by first | assumption | omega) ?_
              | refine Br.dec (fun _ => ?_) (fun _ => ?_)
              | refine Br.not ?_
              | refine Br.and ?_
              | refine Br.or ?_
              | refine Bnd.i64 (by omega) (by omega) ?_
              | refine call_fun rfl rfl hd (.inl rfl) ?_
              | refine call_fun rfl rfl hbt (.inl rfl) ?_
              | refine Req.mk (by first | rfl | decide | exact ⟨rfl, rfl⟩ | exact ⟨rfl, by decide⟩ | exact (fun _ => rfl) | exact (fun h => nomatch h) | (simp; done) | omega | (simp [big]; done) | exact le_big (by omega) | exact lt_big (by omega)) ?_
              | refine Idx.nat (by omega) ?_
              | refine Idx.nat (le_big (by omega)) ?_
              | refine Idx.int (by omega) (by omega) ?_
              | refine Ifz.zero ?_
              | refine Ifz.pos (by omega) ?_
              | refine Get.mk _ rfl ?_
              | refine Leaves.of ?_
              | refine Ends.of ?_
              | refine Vw.bool ?_
              | refine Vw.int ?_
              | refine Vw.nil
              | refine Vw.sl
              | refine Vw.tup ?_
              | refine Vw.agg ?_
              | refine VwL.cons ?_ ?_
              | refine VwL.nil
              | refine LeavesF.of ?_
              | refine VwF.bool ?_
              | refine VwF.int ?_
              | refine VwF.nil
              | refine VwF.sl
              | refine VwF.tup ?_
              | refine VwF.agg ?_
              | refine VwLF.cons ?_ ?_
              | refine VwLF.nil)
          exact NextP.mk (x + 1, (x, y, smS W H l l' x0 y0 p q x y)) ⟨by simp only; omega, by simp only; omega, hnew⟩ (by simp only; omega) rfl
        · have hnew := hI2.keep hb
          rw [Bool.eq_false_iff.2 hb] at hbt
          repeat' (first
            | (conv => whnf)
              first
              | refine Br.t ?_
              | refine Br.f ?_
              | refine Br.decT (by first | assumption | omega) ?_
              | refine Br.decF (by first | assumption | omega) ?_
              | refine Br.dec (fun _ => ?_) (fun _ => ?_)
              | refine Br.not ?_
              | refine Br.and ?_
              | refine Br.or ?_
              | refine Bnd.i64 (by omega) (by omega) ?_
              | refine call_fun rfl rfl hd (.inl rfl) ?_
              | refine call_fun rfl rfl hbt (.inl rfl) ?_
              | refine Req.mk (by first | rfl | decide | exact ⟨rfl, rfl⟩ | exact ⟨rfl, by decide⟩ | exact (fun _ => rfl) | exact (fun h => nomatch h) | (simp; done) | omega | (simp [big]; done) | exact le_big (by omega) | exact lt_big (by omega)) ?_
              | refine Idx.nat (by omega) ?_
              | refine Idx.nat (le_big (by omega)) ?_
              | refine Idx.int (by omega) (by omega) ?_
              | refine Ifz.zero ?_
              | refine Ifz.pos (by omega) ?_
              | refine Get.mk _ rfl ?_
              | refine Leaves.of ?_
              | refine Ends.of ?_
              | refine Vw.bool ?_
              | refine Vw.int ?_
              | refine Vw.nil
              | refine Vw.sl
              | refine Vw.tup ?_
              | refine Vw.agg ?_
              | refine VwL.cons ?_ ?_
              | refine VwL.nil
              | refine LeavesF.of ?_
              | refine VwF.bool ?_
              | refine VwF.int ?_
              | refine VwF.nil
              | refine VwF.sl
              | refine VwF.tup ?_
              | refine VwF.agg ?_
              | refine VwLF.cons ?_ ?_
              | refine VwLF.nil)
          exact NextP.mk (x + 1, b) ⟨by simp only; omega, by simp only; omega, hnew⟩ (by simp only; omega) rfl
      · have hd := hd.2 hq
        repeat' (first
          | (conv => whnf)
            first
            | refine Br.t ?_
            | refine Br.f ?_
            | refine Br.decT (by first | assumption | omega) ?_
            | refine Br.decF (by first | assumption | omega) ?_
            | refine Br.dec (fun _ => ?_) (fun _ => ?_)
            | refine Br.not ?_
            | refine Br.and ?_
            | refine Br.or ?_
            | refine Bnd.i64 (by omega) (by omega) ?_
            | refine call_fun rfl rfl hd (.inl rfl) ?_
            | refine Req.mk (by first | rfl | decide | exact ⟨rfl, rfl⟩ | exact ⟨rfl, by decide⟩ | exact (fun _ => rfl) | exact (fun h => nomatch h) | (simp; done) | omega | (simp [big]; done) | exact le_big (by omega) | exact lt_big (by omega)) ?_
            | refine Idx.nat (by omega) ?_
            | refine Idx.nat (le_big (by omega)) ?_
            | refine Idx.int (by omega) (by omega) ?_
            | refine Ifz.zero ?_
            | refine Ifz.pos (by omega) ?_
            | refine Get.mk _ rfl ?_
            | refine Leaves.of ?_
            | refine Ends.of ?_
            | refine Vw.bool ?_
            | refine Vw.int ?_
            | refine Vw.nil
            | refine Vw.sl
            | refine Vw.tup ?_
            | refine Vw.agg ?_
            | refine VwL.cons ?_ ?_
            | refine VwL.nil
            | refine LeavesF.of ?_
            | refine VwF.bool ?_
            | refine VwF.int ?_
            | refine VwF.nil
            | refine VwF.sl
            | refine VwF.tup ?_
            | refine VwF.agg ?_
            | refine VwLF.cons ?_ ?_
            | refine VwLF.nil)
        exact NextP.mk (x + 1, b) ⟨by simp only; omega, by simp only; omega, hI2.skip hq⟩ (by simp only; omega) rfl
    · obtain rfl : x = r + 1 := by omega
      repeat' (first
        | (conv => whnf)
          first
          | refine Br.t ?_
          | refine Br.f ?_
          | refine Br.decT (by first | assumption | omega) ?_
          | refine Br.decF (by first | assumption | omega) ?_
          | refine Br.dec (fun _ => ?_) (fun _ => ?_)
          | refine Br.not ?_
          | refine Br.and ?_
          | refine Br.or ?_
          | refine Bnd.i64 (by omega) (by omega) ?_
          | refine Req.mk (by first | rfl | decide | exact ⟨rfl, rfl⟩ | exact ⟨rfl, by decide⟩ | exact (fun _ => rfl) | exact (fun h => nomatch h) | (simp; done) | omega | (simp [big]; done) | exact le_big (by omega) | exact lt_big (by omega)) ?_
          | refine Idx.nat (by omega) ?_
          | refine Idx.nat (le_big (by omega)) ?_
          | refine Idx.int (by omega) (by omega) ?_
          | refine Ifz.zero ?_
          | refine Ifz.pos (by omega) ?_
          | refine Get.mk _ rfl ?_
          | refine Leaves.of ?_
          | refine Ends.of ?_
          | refine Vw.bool ?_
          | refine Vw.int ?_
          | refine Vw.nil
          | refine Vw.sl
          | refine Vw.tup ?_
          | refine Vw.agg ?_
          | refine VwL.cons ?_ ?_
          | refine VwL.nil
          | refine LeavesF.of ?_
          | refine VwF.bool ?_
          | refine VwF.int ?_
          | refine VwF.nil
          | refine VwF.sl
          | refine VwF.tup ?_
          | refine VwF.agg ?_
          | refine VwLF.cons ?_ ?_
          | refine VwLF.nil)
      exact NextP.mk (y + 1, b) ⟨by simp only; omega, by simp only; omega, hI2.row⟩ (by simp only; omega) rfl
  · obtain rfl : y = r + 1 := by omega
    obtain rfl := hm.uniq hI.best
    repeat' (first
      | (conv => whnf)
        first
        | refine Br.t ?_
        | refine Br.f ?_
        | refine Br.decT (by first | assumption | omega) ?_
        | refine Br.decF (by first | assumption | omega) ?_
        | refine Br.dec (fun _ => ?_) (fun _ => ?_)
        | refine Br.not ?_
        | refine Br.and ?_
        | refine Br.or ?_
        | refine Bnd.i64 (by omega) (by omega) ?_
        | refine Req.mk (by first | rfl | decide | exact ⟨rfl, rfl⟩ | exact ⟨rfl, by decide⟩ | exact (fun _ => rfl) | exact (fun h => nomatch h) | (simp; done) | omega | (simp [big]; done) | exact le_big (by omega) | exact lt_big (by omega)) ?_
        | refine Idx.nat (by omega) ?_
        | refine Idx.nat (le_big (by omega)) ?_
        | refine Idx.int (by omega) (by omega) ?_
        | refine Ifz.zero ?_
        | refine Ifz.pos (by omega) ?_
        | refine Get.mk _ rfl ?_
        | refine Leaves.of ?_
        | refine Ends.of ?_
        | refine Vw.bool ?_
        | refine Vw.int ?_
        | refine Vw.nil
        | refine Vw.sl
        | refine Vw.tup ?_
        | refine Vw.agg ?_
        | refine VwL.cons ?_ ?_
        | refine VwL.nil
        | refine LeavesF.of ?_
        | refine VwF.bool ?_
        | refine VwF.int ?_
        | refine VwF.nil
        | refine VwF.sl
        | refine VwF.tup ?_
        | refine VwF.agg ?_
        | refine VwLF.cons ?_ ?_
        | refine VwLF.nil)
    all_goals rfl

end Go.Dr.T
