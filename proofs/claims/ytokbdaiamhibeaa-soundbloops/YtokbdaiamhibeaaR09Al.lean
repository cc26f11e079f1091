/- Chapter 09: the samples that a mark, and the marks that are taken, allow at a frame. -/
import Derived.Test.YtokbdaiamhibeaaR09Md
namespace Go.Dr.T

/-- a task and its sync: frames, rate, marks (cells), speeds, taken (cells), struck. -/
abbrev syV (fr lo hi : Int) (cm : Bool) (nm : Nat) (mk : List V) (sp : V) (tk st : V) : V := .rp [.int .i64 fr, .int .i64 lo, .int .i64 hi, .sl cm nm mk, sp, tk, st] 0
abbrev okR (lo hi : Int) : Prop := 0 ≤ lo ∧ lo ≤ 1000000 ∧ 0 ≤ hi ∧ hi ≤ 1000000
abbrev okM (n s e : Int) : Prop := -1000000000 ≤ n ∧ n ≤ 1000000000 ∧ -1000000000000 ≤ s ∧ s ≤ 1000000000000 ∧ -1000000000000 ≤ e ∧ e ≤ 1000000000000
theorem mul_in {n r : Int} (hn : -1000000000 ≤ n ∧ n ≤ 1000000000) (hr : 0 ≤ r ∧ r ≤ 1000000) : -1000000000000000 ≤ n * r ∧ n * r ≤ 1000000000000000 := by
  have h1 := Int.mul_le_mul_of_nonneg_right hn.1 hr.1
  have h2 := Int.mul_le_mul_of_nonneg_right hn.2 hr.1
  have h3 : (1000000000 : Int) * r ≤ 1000000000 * 1000000 := Int.mul_le_mul_of_nonneg_left hr.2 (by omega)
  have h4 : (-1000000000 : Int) * r = - (1000000000 * r) := Int.neg_mul _ _
  omega
def alLo (lo hi : Int) (m : Int × Int × Int) (f : Int) : Int := m.2.1 - m.2.2 + min ((f - m.1) * lo) ((f - m.1) * hi)
def alHi (lo hi : Int) (m : Int × Int × Int) (f : Int) : Int := m.2.1 + m.2.2 + max ((f - m.1) * lo) ((f - m.1) * hi)
set_option maxRecDepth 100000 in
set_option maxHeartbeats 20000000 in
theorem allowed_any {fr lo hi f a s e : Int} {cm : Bool} {nm i : Nat} {mk : List V} {sp tk st : V} (hr : okR lo hi) (hm : okM (f - a) s e) (hin : i < nm) (hp : part mk (i * 3) 3 = some [.int .i64 a, .int .i64 s, .int .i64 e]) :
    Fun F md 93 [syV fr lo hi cm nm mk sp tk st, .int .i64 (i : Nat), .int .i64 f] (.agg [.int .i64 (alLo lo hi (a, s, e) f), .int .i64 (alHi lo hi (a, s, e) f)]) := by
  obtain ⟨r1, r2, r3, r4⟩ := hr
  obtain ⟨m1, m2, m3, m4, m5, m6⟩ := hm
  have h1 := mul_in ⟨m1, m2⟩ ⟨r1, r2⟩
  have h2 := mul_in ⟨m1, m2⟩ ⟨r3, r4⟩
  refine fun_of rfl rfl ?_
  repeat' (first
    | (conv => whnf)
      first
      | refine Br.t ?_
      | refine Br.f ?_
      | (refine Br.decT ?_ ?_; (focus first | assumption | omega))
      | (refine Br.decF ?_ ?_; (focus first | assumption | omega))
      | refine Br.dec (fun _ => ?_) (fun _ => ?_)
      | refine Br.not ?_
      | refine Br.and ?_
      | refine Br.or ?_
      | (refine Bnd.i64 ?_ ?_ ?_; (focus omega); (focus omega))
      | refine Get.mk _ hp ?_
      | refine Bnd.any ?_
      | (refine Idx.nat ?_ ?_; (focus omega))
      | refine Idx.nat (le_big (by omega)) ?_
      | (refine Idx.int ?_ ?_ ?_; (focus omega); (focus omega))
      | (refine Idx.int ?_ ?_ ?_; (focus decide); (focus decide))
      | refine Ifz.zero ?_
      | (refine Ifz.pos ?_ ?_; (focus omega))
      | refine Get.mk _ rfl ?_
      | refine Leaves.of ?_
      | refine Ends.of ?_
      | refine Vw.bool ?_
      | refine Vw.int ?_
      | refine Vw.nil
      | refine Vw.sl
      | refine Vw.tup ?_
      | refine Vw.agg ?_
      | refine VwL.cons ?_ ?_
      | refine VwL.nil
      | refine LeavesF.of ?_
      | refine VwF.bool ?_
      | refine VwF.int ?_
      | refine VwF.nil
      | refine VwF.sl
      | refine VwF.tup ?_
      | refine VwF.agg ?_
      | refine VwLF.cons ?_ ?_
      | refine VwLF.nil
      | (refine Req.mk ?_ ?_; (focus first | rfl | decide | exact ⟨rfl, rfl⟩ | exact ⟨rfl, by decide⟩ | exact (fun _ => rfl) | exact (fun h => nomatch h) | (simp; done) | omega | (simp [big]; done) | exact le_big (by omega) | exact lt_big (by omega))))
  all_goals first | rfl | omega

/-! spans in common -/
def narS (g : Nat → Int × Int) (s : Int × Int) (k : Nat) : Int × Int := (max s.1 (g k).1, min s.2 (g k).2)
theorem fold_take {α : Type} {f : α → Nat → α} {s : α} {r : List Nat} {i : Nat} (h : i < r.length) : (r.take (i + 1)).foldl f s = f ((r.take i).foldl f s) r[i] := by
  rw [List.take_succ_eq_append_getElem h, List.foldl_append]; rfl
def tkC (ks : List Nat) : List V := ks.map fun k => V.int .i64 (k : Nat)
theorem tkC_cell : ∀ {ks : List Nat} {i : Nat} (h : i < ks.length), cellAt (tkC ks) (i * 1) = some (.int .i64 (ks[i] : Nat))
  | k :: ks, 0, _ => rfl
  | k :: ks, i + 1, h => by
    have := tkC_cell (ks := ks) (i := i) (by simpa using h)
    rw [show (i + 1) * 1 = i * 1 + 1 by omega]
    simpa only [tkC, List.map_cons, cellAt, List.getElem_cons_succ] using this
theorem tkC_tail (k : Nat) (r : List Nat) : part (tkC (k :: r)) (1 * 1) (((k :: r).length - 1) * 1) = some (tkC r) := by
  rw [List.length_cons, Nat.add_sub_cancel, Nat.mul_one, Nat.mul_one]
  show part (tkC r) 0 r.length = _
  exact part_all (by simp [tkC])

set_option maxRecDepth 100000 in
set_option maxHeartbeats 20000000 in
theorem narrow_any {c : Bool} {k0 : Nat} {r : List Nat} {p1 p2 : List V} {g : Nat → Int × Int} (hn : r.length ≤ 1000) (hcl : ∀ k ∈ k0 :: r, Fun F md 97 [.int .i64 (k : Nat), .rp p1 0, .rp p2 0] (.agg [.int .i64 (g k).1, .int .i64 (g k).2])) :
    Fun F md 96 [.sl c (k0 :: r).length (tkC (k0 :: r)), .fn 97 [.rp p1 0, .rp p2 0]] (.agg [.int .i64 (r.foldl (narS g) (g k0)).1, .int .i64 (r.foldl (narS g) (g k0)).2]) := by
  have hc0 : cellAt (tkC (k0 :: r)) (0 * 1) = some (.int .i64 (k0 : Nat)) := rfl
  have ht := tkC_tail k0 r
  have h0 := hcl k0 (by simp)
  have hL : (k0 :: r).length = r.length + 1 := by simp
  generalize (k0 :: r).length = L at *
  generalize tkC (k0 :: r) = cs at *
  refine fun_of rfl rfl ?_
  repeat' (first
    | (conv => whnf)
      first
      | refine Br.t ?_
      | refine Br.f ?_
      | (refine Br.decT ?_ ?_; (focus first | assumption | omega))
      | (refine Br.decF ?_ ?_; (focus first | assumption | omega))
      | refine Br.dec (fun _ => ?_) (fun _ => ?_)
      | refine Br.not ?_
      | refine Br.and ?_
      | refine Br.or ?_
      | (refine Bnd.i64 ?_ ?_ ?_; (focus omega); (focus omega))
      | (refine Idx.int ?_ ?_ ?_; (focus omega); (focus omega))
      | refine Get.mk _ hc0 ?_
      | refine Get.mk _ ht ?_
      | refine call_fun rfl rfl h0 (.inl rfl) ?_
      | (refine Idx.nat ?_ ?_; (focus omega))
      | refine Idx.nat (le_big (by omega)) ?_
      | (refine Idx.int ?_ ?_ ?_; (focus omega); (focus omega))
      | (refine Idx.int ?_ ?_ ?_; (focus decide); (focus decide))
      | refine Ifz.zero ?_
      | (refine Ifz.pos ?_ ?_; (focus omega))
      | refine Get.mk _ rfl ?_
      | refine Leaves.of ?_
      | refine Ends.of ?_
      | refine Vw.bool ?_
      | refine Vw.int ?_
      | refine Vw.nil
      | refine Vw.sl
      | refine Vw.tup ?_
      | refine Vw.agg ?_
      | refine VwL.cons ?_ ?_
      | refine VwL.nil
      | refine LeavesF.of ?_
      | refine VwF.bool ?_
      | refine VwF.int ?_
      | refine VwF.nil
      | refine VwF.sl
      | refine VwF.tup ?_
      | refine VwF.agg ?_
      | refine VwLF.cons ?_ ?_
      | refine VwLF.nil
      | (refine Req.mk ?_ ?_; (focus first | rfl | decide | exact ⟨rfl, rfl⟩ | exact ⟨rfl, by decide⟩ | exact (fun _ => rfl) | exact (fun h => nomatch h) | (simp; done) | omega | (simp [big]; done) | exact le_big (by omega) | exact lt_big (by omega))))
  refine LoopP.by (fun x : Nat × Int × Int => x.1 ≤ r.length ∧ (r.take x.1).foldl (narS g) (g k0) = x.2) (fun x => [(17, .int .i64 (x.1 : Nat))]) (fun x => [.blk [.int .i64 0, .int .i64 0] false, .blk [.int .i64 x.2.1, .int .i64 x.2.2] false]) (fun x => r.length - x.1) (0, g k0) ⟨Nat.zero_le _, rfl⟩ rfl ?_
  rintro ⟨i, lo, hi⟩ ⟨hir, hf⟩
  simp only at hir hf
  dsimp only
  by_cases hin : i < r.length
  · have hc := tkC_cell hin
    have hk := hcl r[i] (by simp)
    have hs := fold_take (f := narS g) (s := g k0) hin
    rw [hf] at hs
    generalize r[i] = k at *
    simp only [narS] at hs
    generalize g k = q at *
    obtain ⟨q1, q2⟩ := q
    simp only at hs hk
    repeat' (first
      | (conv => whnf)
        first
        | refine Br.t ?_
        | refine Br.f ?_
        | (refine Br.decT ?_ ?_; (focus first | assumption | omega))
        | (refine Br.decF ?_ ?_; (focus first | assumption | omega))
        | refine Br.dec (fun _ => ?_) (fun _ => ?_)
        | refine Br.not ?_
        | refine Br.and ?_
        | refine Br.or ?_
        | (refine Bnd.i64 ?_ ?_ ?_; (focus omega); (focus omega))
        | refine Get.mk _ hc ?_
        | refine call_fun rfl rfl hk (.inl rfl) ?_
        | refine Bnd.any ?_
        | (refine Idx.nat ?_ ?_; (focus omega))
        | refine Idx.nat (le_big (by omega)) ?_
        | (refine Idx.int ?_ ?_ ?_; (focus omega); (focus omega))
        | (refine Idx.int ?_ ?_ ?_; (focus decide); (focus decide))
        | refine Ifz.zero ?_
        | (refine Ifz.pos ?_ ?_; (focus omega))
        | refine Get.mk _ rfl ?_
        | refine Leaves.of ?_
        | refine Ends.of ?_
        | refine Vw.bool ?_
        | refine Vw.int ?_
        | refine Vw.nil
        | refine Vw.sl
        | refine Vw.tup ?_
        | refine Vw.agg ?_
        | refine VwL.cons ?_ ?_
        | refine VwL.nil
        | refine LeavesF.of ?_
        | refine VwF.bool ?_
        | refine VwF.int ?_
        | refine VwF.nil
        | refine VwF.sl
        | refine VwF.tup ?_
        | refine VwF.agg ?_
        | refine VwLF.cons ?_ ?_
        | refine VwLF.nil
        | (refine Req.mk ?_ ?_; (focus first | rfl | decide | exact ⟨rfl, rfl⟩ | exact ⟨rfl, by decide⟩ | exact (fun _ => rfl) | exact (fun h => nomatch h) | (simp; done) | omega | (simp [big]; done) | exact le_big (by omega) | exact lt_big (by omega))))
    all_goals exact NextP.mk (i + 1, _, _) ⟨hin, hs⟩ (by simp only; omega) rfl
  · obtain rfl : i = r.length := by omega
    rw [List.take_length] at hf
    rw [hf]
    repeat' (first
      | (conv => whnf)
        first
        | refine Br.t ?_
        | refine Br.f ?_
        | (refine Br.decT ?_ ?_; (focus first | assumption | omega))
        | (refine Br.decF ?_ ?_; (focus first | assumption | omega))
        | refine Br.dec (fun _ => ?_) (fun _ => ?_)
        | refine Br.not ?_
        | refine Br.and ?_
        | refine Br.or ?_
        | (refine Bnd.i64 ?_ ?_ ?_; (focus omega); (focus omega))
        | (refine Idx.nat ?_ ?_; (focus omega))
        | refine Idx.nat (le_big (by omega)) ?_
        | (refine Idx.int ?_ ?_ ?_; (focus omega); (focus omega))
        | (refine Idx.int ?_ ?_ ?_; (focus decide); (focus decide))
        | refine Ifz.zero ?_
        | (refine Ifz.pos ?_ ?_; (focus omega))
        | refine Get.mk _ rfl ?_
        | refine Leaves.of ?_
        | refine Ends.of ?_
        | refine Vw.bool ?_
        | refine Vw.int ?_
        | refine Vw.nil
        | refine Vw.sl
        | refine Vw.tup ?_
        | refine Vw.agg ?_
        | refine VwL.cons ?_ ?_
        | refine VwL.nil
        | refine LeavesF.of ?_
        | refine VwF.bool ?_
        | refine VwF.int ?_
        | refine VwF.nil
        | refine VwF.sl
        | refine VwF.tup ?_
        | refine VwF.agg ?_
        | refine VwLF.cons ?_ ?_
        | refine VwLF.nil
        | (refine Req.mk ?_ ?_; (focus first | rfl | decide | exact ⟨rfl, rfl⟩ | exact ⟨rfl, by decide⟩ | exact (fun _ => rfl) | exact (fun h => nomatch h) | (simp; done) | omega | (simp [big]; done) | exact le_big (by omega) | exact lt_big (by omega))))
    all_goals rfl

set_option maxRecDepth 100000 in
set_option maxHeartbeats 20000000 in
theorem at1_any {p : List V} {f : Int} {k : Nat} {x y : Int} (h : Fun F md 93 [.rp p 0, .int .i64 (k : Nat), .int .i64 f] (.agg [.int .i64 x, .int .i64 y])) : Fun F md 97 [.int .i64 (k : Nat), .rp [.rp p 0] 0, .rp [.int .i64 f] 0] (.agg [.int .i64 x, .int .i64 y]) := by
  refine fun_of rfl rfl ?_
  repeat' (first
    | (conv => whnf)
      first
      | refine Br.t ?_
      | refine Br.f ?_
      | (refine Br.decT ?_ ?_; (focus first | assumption | omega))
      | (refine Br.decF ?_ ?_; (focus first | assumption | omega))
      | refine Br.dec (fun _ => ?_) (fun _ => ?_)
      | refine Br.not ?_
      | refine Br.and ?_
      | refine Br.or ?_
      | (refine Bnd.i64 ?_ ?_ ?_; (focus omega); (focus omega))
      | refine call_fun rfl rfl h (.inl rfl) ?_
      | (refine Idx.nat ?_ ?_; (focus omega))
      | refine Idx.nat (le_big (by omega)) ?_
      | (refine Idx.int ?_ ?_ ?_; (focus omega); (focus omega))
      | (refine Idx.int ?_ ?_ ?_; (focus decide); (focus decide))
      | refine Ifz.zero ?_
      | (refine Ifz.pos ?_ ?_; (focus omega))
      | refine Get.mk _ rfl ?_
      | refine Leaves.of ?_
      | refine Ends.of ?_
      | refine Vw.bool ?_
      | refine Vw.int ?_
      | refine Vw.nil
      | refine Vw.sl
      | refine Vw.tup ?_
      | refine Vw.agg ?_
      | refine VwL.cons ?_ ?_
      | refine VwL.nil
      | refine LeavesF.of ?_
      | refine VwF.bool ?_
      | refine VwF.int ?_
      | refine VwF.nil
      | refine VwF.sl
      | refine VwF.tup ?_
      | refine VwF.agg ?_
      | refine VwLF.cons ?_ ?_
      | refine VwLF.nil
      | (refine Req.mk ?_ ?_; (focus first | rfl | decide | exact ⟨rfl, rfl⟩ | exact ⟨rfl, by decide⟩ | exact (fun _ => rfl) | exact (fun h => nomatch h) | (simp; done) | omega | (simp [big]; done) | exact le_big (by omega) | exact lt_big (by omega))))
  all_goals rfl

def atS (g : Nat → Int × Int) : List Nat → Int × Int
  | [] => (0, 0)
  | k :: r => r.foldl (narS g) (g k)
set_option maxRecDepth 100000 in
set_option maxHeartbeats 20000000 in
theorem at_any {fr lo hi f : Int} {cm c : Bool} {nm : Nat} {mk : List V} {sp st : V} {ks : List Nat} {g : Nat → Int × Int} (h0 : 0 < ks.length) (hn : ks.length ≤ 1000)
    (h : ∀ k ∈ ks, Fun F md 93 [syV fr lo hi cm nm mk sp (.sl c ks.length (tkC ks)) st, .int .i64 (k : Nat), .int .i64 f] (.agg [.int .i64 (g k).1, .int .i64 (g k).2])) :
    Fun F md 67 [syV fr lo hi cm nm mk sp (.sl c ks.length (tkC ks)) st, .int .i64 f] (.agg [.int .i64 (atS g ks).1, .int .i64 (atS g ks).2]) := by
  cases ks with
  | nil => simp at h0
  | cons k r =>
    have hN := narrow_any (c := c) (g := g) (p1 := [syV fr lo hi cm nm mk sp (.sl c (k :: r).length (tkC (k :: r))) st]) (p2 := [.int .i64 f]) (k0 := k) (r := r) (by simp at hn; omega) (fun q hq => at1_any (h q hq))
    have e : atS g (k :: r) = r.foldl (narS g) (g k) := rfl
    rw [e]
    generalize r.foldl (narS g) (g k) = z at *
    obtain ⟨z1, z2⟩ := z
    simp only at hN ⊢
    clear h e
    generalize (k :: r).length = L at *
    generalize tkC (k :: r) = cs at *
    refine fun_of rfl rfl ?_
    repeat' (first
      | (conv => whnf)
        first
        | refine Br.t ?_
        | refine Br.f ?_
        | (refine Br.decT ?_ ?_; (focus first | assumption | omega))
        | (refine Br.decF ?_ ?_; (focus first | assumption | omega))
        | refine Br.dec (fun _ => ?_) (fun _ => ?_)
        | refine Br.not ?_
        | refine Br.and ?_
        | refine Br.or ?_
        | (refine Bnd.i64 ?_ ?_ ?_; (focus omega); (focus omega))
        | refine call_fun rfl rfl hN (.inr rfl) ?_
        | (refine Idx.nat ?_ ?_; (focus omega))
        | refine Idx.nat (le_big (by omega)) ?_
        | (refine Idx.int ?_ ?_ ?_; (focus omega); (focus omega))
        | (refine Idx.int ?_ ?_ ?_; (focus decide); (focus decide))
        | refine Ifz.zero ?_
        | (refine Ifz.pos ?_ ?_; (focus omega))
        | refine Get.mk _ rfl ?_
        | refine Leaves.of ?_
        | refine Ends.of ?_
        | refine Vw.bool ?_
        | refine Vw.int ?_
        | refine Vw.nil
        | refine Vw.sl
        | refine Vw.tup ?_
        | refine Vw.agg ?_
        | refine VwL.cons ?_ ?_
        | refine VwL.nil
        | refine LeavesF.of ?_
        | refine VwF.bool ?_
        | refine VwF.int ?_
        | refine VwF.nil
        | refine VwF.sl
        | refine VwF.tup ?_
        | refine VwF.agg ?_
        | refine VwLF.cons ?_ ?_
        | refine VwLF.nil
        | (refine Req.mk ?_ ?_; (focus first | rfl | decide | exact ⟨rfl, rfl⟩ | exact ⟨rfl, by decide⟩ | exact (fun _ => rfl) | exact (fun h => nomatch h) | (simp; done) | omega | (simp [big]; done) | exact le_big (by omega) | exact lt_big (by omega))))
    all_goals rfl

end Go.Dr.T
