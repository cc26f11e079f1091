/- Chapter 07: the exposures of frames: the plain laws. -/
import Derived.Test.YtigcchafpenhiaaR07Fc
import Derived.Test.YtigcchafpenhiaaR07Fd
import Derived.Test.YtigcchafpenhiaaR07Fe
namespace Go.Dr.T

def fA (p q : Int) : Int := (cntP (tstA p q) 100000 : Nat) + 1
def fB (p q : Int) : Int := (cntP (tstB p q) 100000 : Nat)
def fC (p q : Int) : Int := (max (cntP (tstB p q) 100000) (cntP (tstA p q) 100000) : Nat)
theorem fC_eq (p q : Int) : fC p q = max (fB p q) (fA p q - 1) := by unfold fA fB fC; omega
theorem fA_range (p q : Int) : 1 ≤ fA p q ∧ fA p q ≤ 100001 := by have := cntP_le (tstA p q) 100000; unfold fA; omega
theorem fB_range (p q : Int) : 0 ≤ fB p q ∧ fB p q ≤ 100000 := by have := cntP_le (tstB p q) 100000; unfold fB; omega
theorem exp_at {p q : Int} (hp : 0 ≤ p ∧ p ≤ 255) (hq : 0 ≤ q ∧ q ≤ 255) : Fun F md 79 [.int .i64 p, .int .i64 q] (.agg [.int .i64 (fA p q), .int .i64 (fB p q)]) := exposures_any hp hq
theorem expR_at {p q : Int} (hp : 0 ≤ p ∧ p ≤ 255) (hq : 0 ≤ q ∧ q ≤ 255) : Fun F md 81 [.int .i64 p, .int .i64 q] (.agg [.int .i64 (fA p q), .int .i64 (fC p q)]) := exposuresR_any hp hq

def foldRow {α : Type} (f : α → Nat → α) (s : α) : Nat → α
  | 0 => s
  | i + 1 => f (foldRow f s i) i
def foldAll {α : Type} (f : α → Nat → Nat → α) (s : α) (w : Nat) : Nat → α
  | 0 => s
  | j + 1 => foldRow (fun a i => f a i j) (foldAll f s w j) w
abbrev St3 := Int × Int × Bool
def pStep (s : St3) (p q : Int) : St3 := match s with
  | (lo, hi, true) => (max lo (fA p q), min hi (fB p q), decide (max lo (fA p q) ≤ min hi (fB p q)))
  | (lo, hi, false) => (lo, hi, false)
def rStep (s : Int × Int) (p q : Int) : Int × Int := (max s.1 (fA p q), min s.2 (fC p q))
/-- what the two have in common. -/
def Like (s : St3) (t : Int × Int) : Prop := s.2.2 = decide (t.1 ≤ t.2) ∧ (s.2.2 = true → t = (s.1, s.2.1))
theorem like_step {s : St3} {t : Int × Int} (h : Like s t) (p q : Int) : Like (pStep s p q) (rStep t p q) := by
  obtain ⟨lo, hi, is⟩ := s
  obtain ⟨a, b⟩ := t
  obtain ⟨h1, h2⟩ := h
  have hc := fC_eq p q
  simp only at h1 h2
  cases is with
  | false =>
    have h1' := decide_eq_false_iff_not.1 h1.symm
    refine ⟨?_, fun h => by cases h⟩
    simp only [pStep, rStep]
    exact (decide_eq_false (by omega)).symm
  | true =>
    have h2' := h2 rfl
    cases h2'
    have h1' := of_decide_eq_true h1.symm
    refine ⟨?_, fun h => ?_⟩
    · simp only [pStep, rStep]
      show decide (max lo (fA p q) ≤ min hi (fB p q)) = decide (max lo (fA p q) ≤ min hi (fC p q))
      rw [Bool.eq_iff_iff, decide_eq_true_eq, decide_eq_true_eq]; omega
    · simp only [pStep, rStep, decide_eq_true_eq] at h ⊢
      rw [Prod.mk.injEq]; exact ⟨rfl, by omega⟩
theorem like_row {f : Nat → Int × Int} {s : St3} {t : Int × Int} (h : Like s t) : ∀ n, Like (foldRow (fun a i => pStep a (f i).1 (f i).2) s n) (foldRow (fun a i => rStep a (f i).1 (f i).2) t n)
  | 0 => h
  | n + 1 => like_step (like_row h n) _ _
theorem like_all {f : Nat → Nat → Int × Int} {s : St3} {t : Int × Int} {w : Nat} (h : Like s t) : ∀ n, Like (foldAll (fun a i j => pStep a (f i j).1 (f i j).2) s w n) (foldAll (fun a i j => rStep a (f i j).1 (f i j).2) t w n)
  | 0 => h
  | n + 1 => like_row (f := fun i => f i n) (like_all h n) w
theorem row_stop {f : Nat → Int × Int} {s : St3} {i : Nat} (h : (foldRow (fun a i => pStep a (f i).1 (f i).2) s i).2.2 = false) : ∀ {n}, i ≤ n → foldRow (fun a i => pStep a (f i).1 (f i).2) s n = foldRow (fun a i => pStep a (f i).1 (f i).2) s i
  | 0, hn => by obtain rfl : i = 0 := by omega
                rfl
  | n + 1, hn => by
    by_cases e : i = n + 1
    · rw [e]
    · have := row_stop h (n := n) (by omega)
      simp only [foldRow, this]
      generalize foldRow (fun a i => pStep a (f i).1 (f i).2) s i = z at *
      obtain ⟨lo, hi, is⟩ := z
      simp only at h
      subst h; rfl

section
variable (W H : Nat) (b0 : List UInt8) (rb : Nat → List UInt8) (a d : Nat)
def pxs (k i j : Nat) : Int × Int := (pixV W H b0 ((a + i : Nat) : Int) ((d + j : Nat) : Int), pixV W H (rb k) ((a + i : Nat) : Int) ((d + j : Nat) : Int))
def pT (k : Nat) (s : St3) (i j : Nat) : St3 := pStep s (pxs W H b0 rb a d k i j).1 (pxs W H b0 rb a d k i j).2
def rT (k : Nat) (s : Int × Int) (i j : Nat) : Int × Int := rStep s (pxs W H b0 rb a d k i j).1 (pxs W H b0 rb a d k i j).2
variable (nx ny : Nat)
def pF (k : Nat) : St3 := foldAll (pT W H b0 rb a d k) (1, 100000, true) nx ny
def rF (k : Nat) : Int × Int := foldAll (rT W H b0 rb a d k) (1, 100000) nx ny
theorem like_fin (k : Nat) : Like (pF W H b0 rb a d nx ny k) (rF W H b0 rb a d nx ny k) :=
  like_all (f := pxs W H b0 rb a d k) (s := (1, 100000, true)) (t := (1, 100000)) ⟨rfl, fun _ => rfl⟩ ny
/-- the exposures of a frame; whether it contradicts the first one. -/
def resF (k : Nat) : Int × Int := if (rF W H b0 rb a d nx ny k).1 ≤ (rF W H b0 rb a d nx ny k).2 then rF W H b0 rb a d nx ny k else (0, 0)
def wrF (k : Nat) : Bool := !decide ((rF W H b0 rb a d nx ny k).1 ≤ (rF W H b0 rb a d nx ny k).2)
def allF (n : Nat) : List (Int × Int) := (1000, 1000) :: (List.range n).map (resF W H b0 rb a d nx ny)
def wrsF : Nat → List Int
  | 0 => []
  | n + 1 => if wrF W H b0 rb a d nx ny n then wrsF n ++ [((n + 1 : Nat) : Int)] else wrsF n
end
section
variable {W H : Nat} {b0 : List UInt8} {rb : Nat → List UInt8} {a d : Nat} {nx ny : Nat}
theorem pF_true {k : Nat} {lo hi : Int} (h : pF W H b0 rb a d nx ny k = (lo, hi, true)) : resF W H b0 rb a d nx ny k = (lo, hi) ∧ wrF W H b0 rb a d nx ny k = false := by
  have h1 := like_fin W H b0 rb a d nx ny k
  rw [h] at h1
  obtain ⟨h1, h2⟩ := h1
  have h2 := h2 rfl
  simp only at h1 h2
  have h3 := of_decide_eq_true h1.symm
  unfold resF wrF
  rw [if_pos h3, h2]
  rw [h2] at h3
  exact ⟨rfl, by rw [decide_eq_true h3]; rfl⟩
theorem pF_false {k : Nat} {lo hi : Int} (h : pF W H b0 rb a d nx ny k = (lo, hi, false)) : resF W H b0 rb a d nx ny k = (0, 0) ∧ wrF W H b0 rb a d nx ny k = true := by
  have h1 := like_fin W H b0 rb a d nx ny k
  rw [h] at h1
  obtain ⟨h1, _⟩ := h1
  simp only at h1
  have h3 := decide_eq_false_iff_not.1 h1.symm
  unfold resF wrF
  rw [if_neg h3]
  exact ⟨rfl, by rw [decide_eq_false h3]; rfl⟩
theorem rF_true {k : Nat} {lo hi : Int} (h : rF W H b0 rb a d nx ny k = (lo, hi)) (hl : lo ≤ hi) : resF W H b0 rb a d nx ny k = (lo, hi) ∧ wrF W H b0 rb a d nx ny k = false := by
  unfold resF wrF
  rw [h, if_pos hl]
  exact ⟨rfl, by rw [decide_eq_true hl]; rfl⟩
theorem rF_false {k : Nat} {lo hi : Int} (h : rF W H b0 rb a d nx ny k = (lo, hi)) (hl : ¬ lo ≤ hi) : resF W H b0 rb a d nx ny k = (0, 0) ∧ wrF W H b0 rb a d nx ny k = true := by
  unfold resF wrF
  rw [h, if_neg hl]
  exact ⟨rfl, by rw [decide_eq_false hl]; rfl⟩
theorem allF_length (n : Nat) : (allF W H b0 rb a d nx ny n).length = n + 1 := by simp [allF]
theorem allF_cells (n : Nat) : (ofSh (allF W H b0 rb a d nx ny n)).length = 2 * (n + 1) := by rw [ofSh_length, allF_length]; omega
theorem fl_append (a b : List (Int × Int)) : ofSh (a ++ b) = ofSh a ++ ofSh b := by
  induction a with
  | nil => rfl
  | cons x a ih => simp only [List.cons_append, ofSh, ih]
theorem allF_snoc {n : Nat} {lo hi : Int} (h : resF W H b0 rb a d nx ny n = (lo, hi)) : ofSh (allF W H b0 rb a d nx ny n) ++ [.int .i64 lo, .int .i64 hi] = ofSh (allF W H b0 rb a d nx ny (n + 1)) := by
  have e : allF W H b0 rb a d nx ny (n + 1) = allF W H b0 rb a d nx ny n ++ [(lo, hi)] := by
    unfold allF
    rw [List.range_succ, List.map_append, List.map_singleton, h, List.cons_append]
  rw [e, fl_append]; rfl
theorem allF_one {lo hi : Int} (h : resF W H b0 rb a d nx ny 0 = (lo, hi)) : [V.int .i64 1000, .int .i64 1000] ++ [.int .i64 lo, .int .i64 hi] = ofSh (allF W H b0 rb a d nx ny 1) := allF_snoc (n := 0) h
theorem wrsF_keep {n : Nat} (h : wrF W H b0 rb a d nx ny n = false) : wrsF W H b0 rb a d nx ny (n + 1) = wrsF W H b0 rb a d nx ny n := by simp only [wrsF, h, Bool.false_eq_true, if_false]
theorem wrsF_snoc {n : Nat} (h : wrF W H b0 rb a d nx ny n = true) : wrsF W H b0 rb a d nx ny (n + 1) = wrsF W H b0 rb a d nx ny n ++ [((n + 1 : Nat) : Int)] := by simp only [wrsF, h, if_true]
theorem wrsF_le : ∀ n, (wrsF W H b0 rb a d nx ny n).length ≤ n
  | 0 => Nat.le_refl _
  | n + 1 => by have := wrsF_le n; simp only [wrsF]; split <;> simp <;> omega
end
section
variable {W H : Nat} {b0 : List UInt8} {rb : Nat → List UInt8} {a d k nx : Nat} {lo hi : Int}
theorem all_stop {s : St3} {j : Nat} (h : foldAll (pT W H b0 rb a d k) s nx j = (lo, hi, false)) : foldAll (pT W H b0 rb a d k) s nx (j + 1) = (lo, hi, false) := by
  have e := row_stop (f := fun i => pxs W H b0 rb a d k i j) (s := foldAll (pT W H b0 rb a d k) s nx j) (i := 0) (by simp only [foldRow, h]) (n := nx) (Nat.zero_le _)
  simp only [foldRow, h] at e
  simp only [foldAll, h]
  exact e
theorem all_row {α : Type} {f : α → Nat → Nat → α} {s t u : α} {j : Nat} (h : foldAll f s nx j = t) (hr : foldRow (fun z i => f z i j) t nx = u) : foldAll f s nx (j + 1) = u := by
  simp only [foldAll, h]; exact hr
theorem row_end {s : St3} {i j : Nat} (h : foldRow (fun z i => pT W H b0 rb a d k z i j) s i = (lo, hi, false)) (hle : i ≤ nx) : foldRow (fun z i => pT W H b0 rb a d k z i j) s nx = (lo, hi, false) := by
  rw [← h]
  exact row_stop (f := fun i => pxs W H b0 rb a d k i j) (by
    have : (foldRow (fun a_1 i => pStep a_1 (pxs W H b0 rb a d k i j).1 (pxs W H b0 rb a d k i j).2) s i) = _ := h
    rw [this]) hle
theorem row_next {s : St3} {i j : Nat} (h : foldRow (fun z i => pT W H b0 rb a d k z i j) s i = (lo, hi, true)) : foldRow (fun z i => pT W H b0 rb a d k z i j) s (i + 1) = (max lo (fA (pixV W H b0 ((a + i : Nat) : Int) ((d + j : Nat) : Int)) (pixV W H (rb k) ((a + i : Nat) : Int) ((d + j : Nat) : Int))), min hi (fB (pixV W H b0 ((a + i : Nat) : Int) ((d + j : Nat) : Int)) (pixV W H (rb k) ((a + i : Nat) : Int) ((d + j : Nat) : Int))), decide (max lo (fA (pixV W H b0 ((a + i : Nat) : Int) ((d + j : Nat) : Int)) (pixV W H (rb k) ((a + i : Nat) : Int) ((d + j : Nat) : Int))) ≤ min hi (fB (pixV W H b0 ((a + i : Nat) : Int) ((d + j : Nat) : Int)) (pixV W H (rb k) ((a + i : Nat) : Int) ((d + j : Nat) : Int))))) := by
  simp only [foldRow, h]; rfl
theorem rrow_next {s : Int × Int} {i j : Nat} (h : foldRow (fun z i => rT W H b0 rb a d k z i j) s i = (lo, hi)) : foldRow (fun z i => rT W H b0 rb a d k z i j) s (i + 1) = (max lo (fA (pixV W H b0 ((a + i : Nat) : Int) ((d + j : Nat) : Int)) (pixV W H (rb k) ((a + i : Nat) : Int) ((d + j : Nat) : Int))), min hi (fC (pixV W H b0 ((a + i : Nat) : Int) ((d + j : Nat) : Int)) (pixV W H (rb k) ((a + i : Nat) : Int) ((d + j : Nat) : Int)))) := by
  simp only [foldRow, h]; rfl
variable {ny : Nat}
theorem wrs_cells {n : Nat} {v : Int} (h : wrF W H b0 rb a d nx ny n = true) (hv : v = ((n + 1 : Nat) : Int)) : (wrsF W H b0 rb a d nx ny n).map (V.int .i64) ++ [.int .i64 v] = (wrsF W H b0 rb a d nx ny (n + 1)).map (V.int .i64) := by
  rw [wrsF_snoc h, List.map_append, hv]; rfl
theorem wrs_first {n : Nat} {v : Int} (h0 : wrsF W H b0 rb a d nx ny n = []) (h : wrF W H b0 rb a d nx ny n = true) (hv : v = ((n + 1 : Nat) : Int)) : [] ++ [V.int .i64 v] = (wrsF W H b0 rb a d nx ny (n + 1)).map (V.int .i64) := by
  rw [← wrs_cells h hv, h0]; rfl
theorem wrs_len {n m : Nat} (h : wrF W H b0 rb a d nx ny n = true) (hm : m = (wrsF W H b0 rb a d nx ny n).length) : m + 1 = (wrsF W H b0 rb a d nx ny (n + 1)).length := by
  rw [wrsF_snoc h, hm]; simp
end
theorem VwL.fl {h : List B} {d : Nat} (l : List (Int × Int)) : VwL h (d + 1) (ofSh l) (ofSh l) := by
  induction l with
  | nil => exact VwL.nil
  | cons x l ih => exact VwL.cons (Vw.int rfl) (VwL.cons (Vw.int rfl) ih)
theorem VwL.fi {h : List B} {d : Nat} (l : List Int) : VwL h (d + 1) (l.map (V.int .i64)) (l.map (V.int .i64)) := by
  induction l with
  | nil => exact VwL.nil
  | cons x l ih => exact VwL.cons (Vw.int rfl) ih
theorem Vw.fl {h : List B} {d id g len n : Nat} {clip dat : Bool} {cs : List V} {l : List (Int × Int)} (h1 : bget h id = some (.blk cs dat)) (h0 : cs = ofSh l) (h2 : g = 2 * l.length) (h3 : len = l.length) (hn : n = l.length) :
    Vw h (d + 1 + 1) (.ms 2 id g 0 len clip) (.sl clip n (ofSh l)) := by
  subst h0 h2 h3 hn
  have e : (ofSh l).length = 2 * l.length := by rw [ofSh_length]; omega
  exact Vw.ms h1 e (part_all (by rw [e, Nat.mul_comm])) (VwL.fl l)
theorem Vw.fi {h : List B} {d id g len n : Nat} {clip dat : Bool} {cs : List V} {l : List Int} (h1 : bget h id = some (.blk cs dat)) (h0 : cs = l.map (V.int .i64)) (h2 : g = l.length) (h3 : len = l.length) (hn : n = l.length) :
    Vw h (d + 1 + 1) (.ms 1 id g 0 len clip) (.sl clip n (l.map (V.int .i64))) := by
  subst h0 h2 h3 hn
  exact Vw.ms h1 (by simp) (part_all (by simp)) (VwL.fi l)

end Go.Dr.T
