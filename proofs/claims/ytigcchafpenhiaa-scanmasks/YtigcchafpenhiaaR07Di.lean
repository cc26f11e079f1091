/- Chapter 07: dust: the plain function, the closure of the program. -/
import Derived.Test.YtigcchafpenhiaaR07Dh
namespace Go.Dr.T

/-- a pixel within reach below the limit, in the rows up to b (and the pixels up to a of row b). -/
def hitB (W H : Nat) (l : List UInt8) (w a b : Int) : Prop := pixB W H a b ∧ pixV W H l a b < w
def rowHit (W H : Nat) (l : List UInt8) (w g x b a1 : Int) : Prop := ∃ a, x - g ≤ a ∧ a < a1 ∧ hitB W H l w a b
def boxHit (W H : Nat) (l : List UInt8) (w g x y b1 : Int) : Prop := ∃ b, y - g ≤ b ∧ b < b1 ∧ rowHit W H l w g x b (x + g + 1)
open Classical in
noncomputable def dv (p : Prop) : Int := if p then 255 else 0
theorem dv_yes {p : Prop} (h : p) : dv p = 255 := if_pos h
theorem dv_no {p : Prop} (h : ¬ p) : dv p = 0 := if_neg h
theorem dv_iff {p q : Prop} (h : p ↔ q) : dv p = dv q := by rw [propext h]
open Classical in
noncomputable def duAt (W H : Nat) (l : List UInt8) (w g : Int) (k : Nat) : UInt8 := if boxHit W H l w g ((k % W : Nat) : Int) ((k / W : Nat) : Int) (((k / W : Nat) : Int) + g + 1) then 255 else 0
theorem duAt_eq {W H : Nat} {l : List UInt8} {w g : Int} {x y : Nat} (hx : x < W) : dv (boxHit W H l w g x y (y + g + 1)) = ((duAt W H l w g (y * W + x)).toNat : Int) := by
  unfold duAt dv
  rw [(place_div (y := y) hx).1, (place_div (y := y) hx).2]
  split <;> rfl
section
variable {W H : Nat} {l : List UInt8} {w g x y a b : Int}
theorem hit_in (h : hitB W H l w a b) : 0 ≤ a ∧ a < W ∧ 0 ≤ b ∧ b < H := h.1
theorem rowHit_none (h : a ≤ x - g) : ¬ rowHit W H l w g x b a := by rintro ⟨c, h1, h2, _⟩; omega
theorem boxHit_none (h : b ≤ y - g) : ¬ boxHit W H l w g x y b := by rintro ⟨c, h1, h2, _⟩; omega
theorem rowHit_next (h : x - g ≤ a) : rowHit W H l w g x b (a + 1) ↔ rowHit W H l w g x b a ∨ hitB W H l w a b := by
  constructor
  · rintro ⟨c, h1, h2, h3⟩
    by_cases e : c = a
    · exact .inr (e ▸ h3)
    · exact .inl ⟨c, h1, by omega, h3⟩
  · rintro (⟨c, h1, h2, h3⟩ | h3)
    · exact ⟨c, h1, by omega, h3⟩
    · exact ⟨a, h, by omega, h3⟩
theorem boxHit_next (h : y - g ≤ b) : boxHit W H l w g x y (b + 1) ↔ boxHit W H l w g x y b ∨ rowHit W H l w g x b (x + g + 1) := by
  constructor
  · rintro ⟨c, h1, h2, h3⟩
    by_cases e : c = b
    · exact .inr (e ▸ h3)
    · exact .inl ⟨c, h1, by omega, h3⟩
  · rintro (⟨c, h1, h2, h3⟩ | h3)
    · exact ⟨c, h1, by omega, h3⟩
    · exact ⟨b, h, by omega, h3⟩
/-- outside of the frame are no hits. -/
theorem rowHit_skip {a' : Int} (h : ∀ c, a' ≤ c → c < a → ¬ (0 ≤ c ∧ c < W)) (h' : a' ≤ a) : rowHit W H l w g x b a ↔ rowHit W H l w g x b a' := by
  constructor
  · rintro ⟨c, h1, h2, h3⟩
    refine ⟨c, h1, ?_, h3⟩
    have := hit_in h3
    exact Classical.byContradiction fun hn => h c (by omega) h2 ⟨by omega, by omega⟩
  · rintro ⟨c, h1, h2, h3⟩; exact ⟨c, h1, by omega, h3⟩
theorem boxHit_skip {b' : Int} (h : ∀ c, b' ≤ c → c < b → ¬ (0 ≤ c ∧ c < H)) (h' : b' ≤ b) : boxHit W H l w g x y b ↔ boxHit W H l w g x y b' := by
  constructor
  · rintro ⟨c, h1, h2, h3⟩
    refine ⟨c, h1, ?_, h3⟩
    obtain ⟨_, _, _, h4⟩ := h3
    have := hit_in h4
    exact Classical.byContradiction fun hn => h c (by omega) h2 ⟨by omega, by omega⟩
  · rintro ⟨c, h1, h2, h3⟩; exact ⟨c, h1, by omega, h3⟩
end

abbrev duC : List V := [.ref 2 1 0, .ref 4 3 0, .ref 1 1 0]
set_option maxRecDepth 100000 in
set_option maxHeartbeats 40000000 in
theorem dustC_ok {W H : Nat} {c : Bool} {l : List UInt8} (hW : W ≤ 48) (hH : H ≤ 48) (hl : l.length = W * H) {w g : Int} (hw : 0 ≤ w ∧ w ≤ 256) (hg : 0 ≤ g ∧ g ≤ 12) {x y : Nat} (hx : x < W) (hy : y < H)
    {ro : Nat} {b0 b3 b5 b6 b7 b8 : B} {K : V → List B → Prop} (hK : K (.int .i64 (dv (boxHit W H l w g x y (y + g + 1)))) [b0, .blk [.int .i64 w] false, .blk [.int .i64 g] false, b3, .blk [.int .i64 W, .int .i64 H, .sl c l.length (ofBytes l)] false, b5, b6, b7, b8, .unborn]) :
    CallP F md ro (.fn 74 duC) [.int .i64 x, .int .i64 y] [b0, .blk [.int .i64 w] false, .blk [.int .i64 g] false, b3, .blk [.int .i64 W, .int .i64 H, .sl c l.length (ofBytes l)] false, b5, b6, b7, b8, .unborn] K := by
  refine call_two rfl rfl rfl ?_
  repeat' (first
    | (conv => whnf)
      first
      | refine Br.t ?_
      | refine Br.f ?_
      | (refine Br.decT ?_ ?_; (focus first | assumption | omega))
      | (refine Br.decF ?_ ?_; (focus first | assumption | omega))
      | refine Br.dec (fun _ => ?_) (fun _ => ?_)
      | refine Br.not ?_
      | refine Br.and ?_
      | refine Br.or ?_
      | (refine Bnd.i64 ?_ ?_ ?_; (focus omega); (focus omega))
      | refine Bnd.any ?_
      | (refine Idx.nat ?_ ?_; (focus omega))
      | refine Idx.nat (le_big (by omega)) ?_
      | (refine Idx.int ?_ ?_ ?_; (focus omega); (focus omega))
      | (refine Idx.int ?_ ?_ ?_; (focus decide); (focus decide))
      | refine Ifz.zero ?_
      | (refine Ifz.pos ?_ ?_; (focus omega))
      | refine Get.mk _ rfl ?_
      | refine Leaves.of ?_
      | refine Ends.of ?_
      | refine Vw.bool ?_
      | refine Vw.int ?_
      | refine Vw.nil
      | refine Vw.sl
      | refine Vw.tup ?_
      | refine Vw.agg ?_
      | refine VwL.cons ?_ ?_
      | refine VwL.nil
      | refine LeavesF.of ?_
      | refine VwF.bool ?_
      | refine VwF.int ?_
      | refine VwF.nil
      | refine VwF.sl
      | refine VwF.tup ?_
      | refine VwF.agg ?_
      | refine VwLF.cons ?_ ?_
      | refine VwLF.nil
      | (refine Req.mk ?_ ?_; (focus first | rfl | decide | exact ⟨rfl, rfl⟩ | exact ⟨rfl, by decide⟩ | exact (fun _ => rfl) | exact (fun h => nomatch h) | (simp; done) | omega | (simp [big]; done) | exact le_big (by omega) | exact lt_big (by omega))))
  refine LoopP.by (fun b : Int => max 0 ((y : Int) - g) ≤ b ∧ b ≤ min ((H : Int) - 1) (y + g) + 1 ∧ ¬ boxHit W H l w g x y b) (fun b => [(8, .int .i64 b)]) (fun _ => [b0, .blk [.int .i64 w] false, .blk [.int .i64 g] false, b3, .blk [.int .i64 W, .int .i64 H, .sl c l.length (ofBytes l)] false, b5, b6, b7, b8, .unborn]) (fun b => (y + g + 1 - b).toNat) (max 0 ((y : Int) - g)) ⟨Int.le_refl _, by omega, fun h => ?_⟩ rfl ?_
  · rw [boxHit_skip (b' := y - g) (by intro c; omega) (by omega)] at h
    exact boxHit_none (by omega) h
  intro b ⟨hb1, hb2, hb3⟩
  by_cases hbe : b ≤ min ((H : Int) - 1) (y + g)
  · repeat' (first
      | (conv => whnf)
        first
        | refine Br.t ?_
        | refine Br.f ?_
        | (refine Br.decT ?_ ?_; (focus first | assumption | omega))
        | (refine Br.decF ?_ ?_; (focus first | assumption | omega))
        | refine Br.dec (fun _ => ?_) (fun _ => ?_)
        | refine Br.not ?_
        | refine Br.and ?_
        | refine Br.or ?_
        | (refine Bnd.i64 ?_ ?_ ?_; (focus omega); (focus omega))
        | refine Bnd.any ?_
        | (refine Idx.nat ?_ ?_; (focus omega))
        | refine Idx.nat (le_big (by omega)) ?_
        | (refine Idx.int ?_ ?_ ?_; (focus omega); (focus omega))
        | (refine Idx.int ?_ ?_ ?_; (focus decide); (focus decide))
        | refine Ifz.zero ?_
        | (refine Ifz.pos ?_ ?_; (focus omega))
        | refine Get.mk _ rfl ?_
        | refine Leaves.of ?_
        | refine Ends.of ?_
        | refine Vw.bool ?_
        | refine Vw.int ?_
        | refine Vw.nil
        | refine Vw.sl
        | refine Vw.tup ?_
        | refine Vw.agg ?_
        | refine VwL.cons ?_ ?_
        | refine VwL.nil
        | refine LeavesF.of ?_
        | refine VwF.bool ?_
        | refine VwF.int ?_
        | refine VwF.nil
        | refine VwF.sl
        | refine VwF.tup ?_
        | refine VwF.agg ?_
        | refine VwLF.cons ?_ ?_
        | refine VwLF.nil
        | (refine Req.mk ?_ ?_; (focus first | rfl | decide | exact ⟨rfl, rfl⟩ | exact ⟨rfl, by decide⟩ | exact (fun _ => rfl) | exact (fun h => nomatch h) | (simp; done) | omega | (simp [big]; done) | exact le_big (by omega) | exact lt_big (by omega))))
    all_goals try (exfalso; omega)
    refine LoopP.by (fun a : Int => max 0 ((x : Int) - g) ≤ a ∧ a ≤ min ((W : Int) - 1) (x + g) + 1 ∧ ¬ rowHit W H l w g x b a) (fun a => [(9, .int .i64 a)]) (fun _ => [b0, .blk [.int .i64 w] false, .blk [.int .i64 g] false, b3, .blk [.int .i64 W, .int .i64 H, .sl c l.length (ofBytes l)] false, b5, b6, b7, b8, .unborn]) (fun a => (x + g + 1 - a).toNat) (max 0 ((x : Int) - g)) ⟨Int.le_refl _, by omega, fun h => ?_⟩ rfl ?_
    · rw [rowHit_skip (a' := x - g) (by intro c; omega) (by omega)] at h
      exact rowHit_none (by omega) h
    intro a ⟨ha1, ha2, ha3⟩
    by_cases hae : a ≤ min ((W : Int) - 1) (x + g)
    · have hp : pixB W H a b := ⟨by omega, by omega, by omega, by omega⟩
      have hat := at_pix (c := c) hW hH hl hp
      by_cases hh : pixV W H l a b < w
      · have hbx : boxHit W H l w g x y (y + g + 1) := ⟨b, by omega, by omega, a, by omega, by omega, hp, hh⟩
        rw [dv_yes hbx] at hK
        generalize pixV W H l a b = px at *
        repeat' (first
          | (conv => whnf)
            first
            | refine Br.t ?_
            | refine Br.f ?_
            | (refine Br.decT ?_ ?_; (focus first | assumption | omega))
            | (refine Br.decF ?_ ?_; (focus first | assumption | omega))
            | refine Br.dec (fun _ => ?_) (fun _ => ?_)
            | refine Br.not ?_
            | refine Br.and ?_
            | refine Br.or ?_
            | (refine Bnd.i64 ?_ ?_ ?_; (focus omega); (focus omega))
            | refine Bnd.any ?_
            | refine call_fun rfl rfl hat (.inl rfl) ?_
            | (refine Idx.nat ?_ ?_; (focus omega))
            | refine Idx.nat (le_big (by omega)) ?_
            | (refine Idx.int ?_ ?_ ?_; (focus omega); (focus omega))
            | (refine Idx.int ?_ ?_ ?_; (focus decide); (focus decide))
            | refine Ifz.zero ?_
            | (refine Ifz.pos ?_ ?_; (focus omega))
            | refine Get.mk _ rfl ?_
            | refine Leaves.of ?_
            | refine Ends.of ?_
            | refine Vw.bool ?_
            | refine Vw.int ?_
            | refine Vw.nil
            | refine Vw.sl
            | refine Vw.tup ?_
            | refine Vw.agg ?_
            | refine VwL.cons ?_ ?_
            | refine VwL.nil
            | refine LeavesF.of ?_
            | refine VwF.bool ?_
            | refine VwF.int ?_
            | refine VwF.nil
            | refine VwF.sl
            | refine VwF.tup ?_
            | refine VwF.agg ?_
            | refine VwLF.cons ?_ ?_
            | refine VwLF.nil
            | (refine Req.mk ?_ ?_; (focus first | rfl | decide | exact ⟨rfl, rfl⟩ | exact ⟨rfl, by decide⟩ | exact (fun _ => rfl) | exact (fun h => nomatch h) | (simp; done) | omega | (simp [big]; done) | exact le_big (by omega) | exact lt_big (by omega))))
        all_goals first | exact hK | (exfalso; omega)
      · have hn : ¬ rowHit W H l w g x b (a + 1) := by rw [rowHit_next (by omega)]; rintro (h | h); exact ha3 h; exact hh h.2
        generalize pixV W H l a b = px at *
        repeat' (first
          | (conv => whnf)
            first
            | refine Br.t ?_
            | refine Br.f ?_
            | (refine Br.decT ?_ ?_; (focus first | assumption | omega))
            | (refine Br.decF ?_ ?_; (focus first | assumption | omega))
            | refine Br.dec (fun _ => ?_) (fun _ => ?_)
            | refine Br.not ?_
            | refine Br.and ?_
            | refine Br.or ?_
            | (refine Bnd.i64 ?_ ?_ ?_; (focus omega); (focus omega))
            | refine Bnd.any ?_
            | refine call_fun rfl rfl hat (.inl rfl) ?_
            | (refine Idx.nat ?_ ?_; (focus omega))
            | refine Idx.nat (le_big (by omega)) ?_
            | (refine Idx.int ?_ ?_ ?_; (focus omega); (focus omega))
            | (refine Idx.int ?_ ?_ ?_; (focus decide); (focus decide))
            | refine Ifz.zero ?_
            | (refine Ifz.pos ?_ ?_; (focus omega))
            | refine Get.mk _ rfl ?_
            | refine Leaves.of ?_
            | refine Ends.of ?_
            | refine Vw.bool ?_
            | refine Vw.int ?_
            | refine Vw.nil
            | refine Vw.sl
            | refine Vw.tup ?_
            | refine Vw.agg ?_
            | refine VwL.cons ?_ ?_
            | refine VwL.nil
            | refine LeavesF.of ?_
            | refine VwF.bool ?_
            | refine VwF.int ?_
            | refine VwF.nil
            | refine VwF.sl
            | refine VwF.tup ?_
            | refine VwF.agg ?_
            | refine VwLF.cons ?_ ?_
            | refine VwLF.nil
            | (refine Req.mk ?_ ?_; (focus first | rfl | decide | exact ⟨rfl, rfl⟩ | exact ⟨rfl, by decide⟩ | exact (fun _ => rfl) | exact (fun h => nomatch h) | (simp; done) | omega | (simp [big]; done) | exact le_big (by omega) | exact lt_big (by omega))))
        all_goals first | exact NextP.mk (a + 1) ⟨by omega, by omega, hn⟩ (by omega) rfl | (exfalso; omega)
    · have hn : ¬ boxHit W H l w g x y (b + 1) := by
        rw [boxHit_next (by omega)]
        rintro (h | h)
        · exact hb3 h
        · rw [rowHit_skip (a' := a) (by intro c; omega) (by omega)] at h; exact ha3 h
      repeat' (first
        | (conv => whnf)
          first
          | refine Br.t ?_
          | refine Br.f ?_
          | (refine Br.decT ?_ ?_; (focus first | assumption | omega))
          | (refine Br.decF ?_ ?_; (focus first | assumption | omega))
          | refine Br.dec (fun _ => ?_) (fun _ => ?_)
          | refine Br.not ?_
          | refine Br.and ?_
          | refine Br.or ?_
          | (refine Bnd.i64 ?_ ?_ ?_; (focus omega); (focus omega))
          | refine Bnd.any ?_
          | (refine Idx.nat ?_ ?_; (focus omega))
          | refine Idx.nat (le_big (by omega)) ?_
          | (refine Idx.int ?_ ?_ ?_; (focus omega); (focus omega))
          | (refine Idx.int ?_ ?_ ?_; (focus decide); (focus decide))
          | refine Ifz.zero ?_
          | (refine Ifz.pos ?_ ?_; (focus omega))
          | refine Get.mk _ rfl ?_
          | refine Leaves.of ?_
          | refine Ends.of ?_
          | refine Vw.bool ?_
          | refine Vw.int ?_
          | refine Vw.nil
          | refine Vw.sl
          | refine Vw.tup ?_
          | refine Vw.agg ?_
          | refine VwL.cons ?_ ?_
          | refine VwL.nil
          | refine LeavesF.of ?_
          | refine VwF.bool ?_
          | refine VwF.int ?_
          | refine VwF.nil
          | refine VwF.sl
          | refine VwF.tup ?_
          | refine VwF.agg ?_
          | refine VwLF.cons ?_ ?_
          | refine VwLF.nil
          | (refine Req.mk ?_ ?_; (focus first | rfl | decide | exact ⟨rfl, rfl⟩ | exact ⟨rfl, by decide⟩ | exact (fun _ => rfl) | exact (fun h => nomatch h) | (simp; done) | omega | (simp [big]; done) | exact le_big (by omega) | exact lt_big (by omega))))
      all_goals first | exact NextP.mk (b + 1) ⟨by omega, by omega, hn⟩ (by omega) rfl | (exfalso; omega)
  · rw [dv_no (by rw [boxHit_skip (b' := b) (by intro c; omega) (by omega)]; exact hb3)] at hK
    repeat' (first
      | (conv => whnf)
        first
        | refine Br.t ?_
        | refine Br.f ?_
        | (refine Br.decT ?_ ?_; (focus first | assumption | omega))
        | (refine Br.decF ?_ ?_; (focus first | assumption | omega))
        | refine Br.dec (fun _ => ?_) (fun _ => ?_)
        | refine Br.not ?_
        | refine Br.and ?_
        | refine Br.or ?_
        | (refine Bnd.i64 ?_ ?_ ?_; (focus omega); (focus omega))
        | refine Bnd.any ?_
        | (refine Idx.nat ?_ ?_; (focus omega))
        | refine Idx.nat (le_big (by omega)) ?_
        | (refine Idx.int ?_ ?_ ?_; (focus omega); (focus omega))
        | (refine Idx.int ?_ ?_ ?_; (focus decide); (focus decide))
        | refine Ifz.zero ?_
        | (refine Ifz.pos ?_ ?_; (focus omega))
        | refine Get.mk _ rfl ?_
        | refine Leaves.of ?_
        | refine Ends.of ?_
        | refine Vw.bool ?_
        | refine Vw.int ?_
        | refine Vw.nil
        | refine Vw.sl
        | refine Vw.tup ?_
        | refine Vw.agg ?_
        | refine VwL.cons ?_ ?_
        | refine VwL.nil
        | refine LeavesF.of ?_
        | refine VwF.bool ?_
        | refine VwF.int ?_
        | refine VwF.nil
        | refine VwF.sl
        | refine VwF.tup ?_
        | refine VwF.agg ?_
        | refine VwLF.cons ?_ ?_
        | refine VwLF.nil
        | (refine Req.mk ?_ ?_; (focus first | rfl | decide | exact ⟨rfl, rfl⟩ | exact ⟨rfl, by decide⟩ | exact (fun _ => rfl) | exact (fun h => nomatch h) | (simp; done) | omega | (simp [big]; done) | exact le_big (by omega) | exact lt_big (by omega))))
    all_goals first | exact hK | (exfalso; omega)

end Go.Dr.T
