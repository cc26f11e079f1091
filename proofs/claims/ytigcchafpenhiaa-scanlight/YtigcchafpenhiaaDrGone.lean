/- The door: a mark's block is shut: nothing that counts has changed. -/
import Derived.Test.YtigcchafpenhiaaDrRun
import Derived.RangeFuncRecord
namespace Go.Dr
open Go.RowKit (Below)

variable {P : Program}

/-- One block that holds no cells changes. -/
structure Off (w w' : World) (r : Nat) : Prop where
  size : w'.heap.size = w.heap.size
  same : ∀ b, b ≠ r → w'.heap[b]? = w.heap[b]?
  os : w'.os = w.os
  tape : w'.tape = w.tape
  output : w'.output = w.output
  nocell : ∀ cs T fr, w.heap[r]? ≠ some (.cells cs T fr)

theorem Off.cells {w w' : World} {r b : Nat} (h : Off w w' r) {off : Nat} {vs : List Value} (hc : cellsAt w b off vs) : cellsAt w' b off vs := by
  by_cases e : b = r
  · subst e
    cases vs with
    | nil => trivial
    | cons v l =>
      exfalso
      have := hc.1
      simp only [World.cell?] at this
      split at this
      · rename_i h1; exact h.nocell _ _ _ h1
      · cases this
  · exact cellsAt_of_block (h.same b e) hc
theorem Off.row {w w' : World} {r b n : Nat} (h : Off w w' r) (hc : rowSize w b = some n) : rowSize w' b = some n := by
  by_cases e : b = r
  · subst e
    simp only [rowSize] at hc
    split at hc
    · rename_i h1; exact absurd h1 (h.nocell _ _ _)
    · cases hc
  · simp only [rowSize, h.same b e]; exact hc

mutual
theorem R.off {k : K} {w' : World} {r : Nat} (o : Off k.w w' r) : ∀ {v : V} {x : Value}, R k v x → R { k with w := w' } v x
  | .bool _, _, h | .int _ _, _, h | .str _, _, h | .nilp, _, h | .nilsl, _, h | .nilmap, _, h | .nilfn, _, h | .nilif, _, h => by simpa only [R] using h
  | .dead, _, _ => by simp [R]
  | .sl clip len cells, x, h => by
    simp only [R] at h ⊢
    rcases h with h | ⟨b, off, cap, vs, hx, hok, hc, hl, hp⟩
    · exact .inl h
    exact .inr ⟨b, off, cap, vs, hx, hok.imp id fun h => ⟨h.1, by simp only; rw [o.size]; exact h.2⟩, o.cells hc, RL.off o hl, hp⟩
  | .rp cells off, x, h => by
    simp only [R] at h ⊢
    obtain ⟨b, o', vs, hx, hok, hc, hl, hp⟩ := h
    exact ⟨b, o', vs, hx, hok.imp id fun h => ⟨h.1, by simp only; rw [o.size]; exact h.2⟩, o.cells hc, RL.off o hl, hp⟩
  | .agg cs, x, h => by simp only [R] at h ⊢; obtain ⟨vs, hx, hl⟩ := h; exact ⟨vs, hx, RL.off o hl⟩
  | .tup cs, x, h => by simp only [R] at h ⊢; obtain ⟨vs, hx, hl⟩ := h; exact ⟨vs, hx, RL.off o hl⟩
  | .iface t v, x, h => by simp only [R] at h ⊢; obtain ⟨y, hx, hl⟩ := h; exact ⟨y, hx, R.off o hl⟩
  | .fn f cs, x, h => by simp only [R] at h ⊢; obtain ⟨vs, hx, hl⟩ := h; exact ⟨vs, hx, RL.off o hl⟩
  | .ref id g off, x, h => by simpa only [R] using h
  | .ms es id g off len clip, x, h => by
    simp only [R] at h ⊢
    obtain ⟨b, o', cap, c, dat, h1, h2, h3, h4, h5, h6⟩ := h
    refine ⟨b, o', cap, c, dat, h1, h2, h3, h4, h5, fun e => ⟨(h6 e).1, (h6 e).2.1, fun hc => ?_⟩⟩
    obtain ⟨q1, q2, q3⟩ := (h6 e).2.2 hc
    exact ⟨q1, q2, fun a1 a2 a3 => o.row (q3 a1 a2 a3)⟩
  | .yld id, x, h => by simpa only [R] using h
theorem RL.off {k : K} {w' : World} {r : Nat} (o : Off k.w w' r) : ∀ {l : List V} {xs : List Value}, RL k l xs → RL { k with w := w' } l xs
  | [], _, h => by simpa [RL] using h
  | v :: l, xs, h => by
    obtain ⟨x, q, rfl, hx, hr⟩ := (by simpa [RL] using h : ∃ x r, xs = x :: r ∧ R k v x ∧ RL k l r)
    exact RL.cons (R.off o hx) (RL.off o hr)
end

theorem Good.off {k : K} {w' : World} {r : Nat} (g : Good P k) (o : Off k.w w' r) (hr : k.ok r) : Good P { k with w := w' } := by
  refine ⟨by have := g.size; simp only; rw [o.size]; exact this, ?_, ?_, g.inj⟩
  · intro id c dat h
    obtain ⟨h1, h2, h3, h4, xs, rest, T, h5, h6⟩ := g.blk id c dat h
    exact ⟨h1, h2, h3, h4, xs, rest, T, (o.same _ (Ne.symm (ok_ne g (live_blk h) hr))).trans h5, RL.off o h6⟩
  · intro id r' p tm ps a b h
    obtain ⟨h1, lp, h2, h3, h4, h5, h6⟩ := g.lop id r' p tm ps a b h
    exact ⟨h1, lp, (o.same _ (Ne.symm (ok_ne g (live_lop h) hr))).trans h2, h3, h4, RL.off o h5, h6⟩

theorem Ev.off {ro m : Nat} {k k' : K} {w' : World} {r : Nat} (g : Good P k) (e : Ev ro m k k') (o : Off k'.w w' r) (hr : k.w.heap.size ≤ r) : Ev ro m k { k' with w := w' } := by
  have hs := g.size
  refine ⟨e.n0, e.A, ?_, ?_, ?_, e.lop, ?_, e.un⟩
  · have hl := e.low
    exact ⟨o.os.trans hl.os, o.tape.trans hl.tape, o.output.trans hl.output, by rw [o.size]; exact hl.size, fun b hb => (o.same b (by omega)).trans (hl.block b hb)⟩
  · intro b hb hlt
    obtain ⟨h1, h2⟩ := e.prot b hb hlt
    exact ⟨h1, (o.same b (by omega)).trans h2⟩
  · intro id hid c dat hc
    obtain ⟨c', h1, h2, h3⟩ := e.blk id hid c dat hc
    refine ⟨c', h1, h2, fun q => ⟨(h3 q).1, ?_⟩⟩
    have hlt := (g.at (live_blk hc)).2
    have := (h3 q).2
    simp only [rowSize] at this ⊢
    rw [o.same _ (by omega)]; exact this
  · intro id h1 h2 l
    obtain ⟨q1, q2, q3⟩ := e.rd id h1 h2 l
    have hlt := (g.at l).2
    exact ⟨q1, q2, (o.same _ (by omega)).trans q3⟩

end Go.Dr
