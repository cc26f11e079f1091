/- Chapter 07: lists of numbers as cells. -/
import Derived.Test.YtigcchafpenhiaaR07De
namespace Go.Dr.T

theorem part_of {cs r : List V} {a n : Nat} (h : (cs.drop a).take n = r) (hl : r.length = n) : part cs a n = some r := by
  unfold part
  simp only [take'_eq, drop'_eq, h, hl, if_true]
theorem cellAt_ints : ∀ {l : List Int} {i : Nat} (h : i < l.length), cellAt (l.map (V.int .i64)) (i * 1) = some (.int .i64 l[i])
  | x :: l, 0, _ => rfl
  | x :: l, i + 1, h => by
    have ih := cellAt_ints (l := l) (i := i) (by simpa using h)
    rw [Nat.mul_one] at ih ⊢
    simpa [cellAt] using ih

/-! numbers -/
def gI (l : List Int) (i : Nat) : Int := l.getD i 0
abbrev ofI (l : List Int) : List V := l.map (V.int .i64)
theorem gI_get {l : List Int} {i : Nat} (h : i < l.length) : gI l i = l[i] := by
  unfold gI; rw [List.getD_eq_getElem?_getD, List.getElem?_eq_getElem h]; rfl
theorem gI_cell {l : List Int} {i : Nat} (h : i < l.length) : cellAt (ofI l) (i * 1) = some (.int .i64 (gI l i)) := by rw [gI_get h]; exact cellAt_ints h
theorem gI_cell0 {l : List Int} {i : Nat} (h : i < l.length) : cellAt (ofI l) (0 + i * 1) = some (.int .i64 (gI l i)) := by rw [Nat.zero_add]; exact gI_cell h
theorem ofI_length (l : List Int) : (ofI l).length = l.length := by simp [ofI]
theorem ofI_append (a b : List Int) : ofI (a ++ b) = ofI a ++ ofI b := by simp [ofI]
theorem ofI_put {l : List Int} {i : Nat} {v : Int} (h : i < l.length) : over (ofI l) (i * 1) [.int .i64 v] = ofI (l.set i v) := by
  rw [Nat.mul_one, Dr.over_eq _ _ _ (by simp [ofI]; omega), List.set_eq_take_append_cons_drop, if_pos h]
  simp [ofI]
theorem ofI_put0 {l : List Int} {i : Nat} {v : Int} (h : i < l.length) : over (ofI l) (0 + i * 1) [.int .i64 v] = ofI (l.set i v) := by rw [Nat.zero_add]; exact ofI_put h
theorem ofI_part {l : List Int} {a n : Nat} (h : a + n ≤ l.length) : part (ofI l) (a * 1) (n * 1) = some (ofI ((l.drop a).take n)) := by
  rw [Nat.mul_one, Nat.mul_one]
  exact part_of (by simp [ofI, List.map_drop, List.map_take]) (by simp [ofI]; omega)
theorem ofI_over {l m : List Int} {a : Nat} (h : a + m.length ≤ l.length) : over (ofI l) (a * 1) (ofI m) = ofI (l.take a ++ m ++ l.drop (a + m.length)) := by
  rw [Nat.mul_one, Dr.over_eq _ _ _ (by simp [ofI]; omega)]
  simp [ofI, List.map_drop, List.map_take]
theorem reps_int (n : Nat) (v : Int) : reps n [.int .i64 v] = ofI (List.replicate n v) := by
  induction n with
  | zero => rfl
  | succ n ih => simp only [reps, List.replicate_succ, ofI, List.map_cons, List.singleton_append, ih]
theorem scal_ints (l : List Int) : scalars (ofI l) = true := by
  induction l with
  | nil => rfl
  | cons x l ih => simp [ofI, scalars, V.scalar] at ih ⊢; exact ih
theorem ones_ints (l : List Int) : ones (ofI l) = true := by
  induction l with
  | nil => rfl
  | cons x l ih => simp [ofI, ones, V.one] at ih ⊢; exact ih
theorem blos_ints (k : Nat) (l : List Int) : blos k (ofI l) = true := by
  induction l with
  | nil => rfl
  | cons x l ih => simp [ofI, blos, V.blo] at ih ⊢; exact ih
theorem VwL.ints {h : List B} {d : Nat} (l : List Int) : VwL h (d + 1) (ofI l) (ofI l) := by
  induction l with
  | nil => exact VwL.nil
  | cons x l ih => exact VwL.cons (Vw.int rfl) ih
theorem Vw.ints {h : List B} {d id g len n : Nat} {clip dat : Bool} {cs : List V} {l : List Int} (h1 : bget h id = some (.blk cs dat)) (h0 : cs = ofI l) (h2 : g = l.length) (h3 : len = l.length) (hn : n = l.length) :
    Vw h (d + 1 + 1) (.ms 1 id g 0 len clip) (.sl clip n (ofI l)) := by
  subst h0 h2 h3 hn
  exact Vw.ms h1 (ofI_length l) (part_all (by rw [ofI_length, Nat.mul_one])) (VwL.ints l)
/-! lists that are filled, or grow -/
def pfx (f : Nat → Int) (n i : Nat) : List Int := (List.range n).map fun j => if j < i then f j else 0
theorem pfx_length (f : Nat → Int) (n i : Nat) : (pfx f n i).length = n := by simp [pfx]
theorem pfx_zero (f : Nat → Int) (n : Nat) : List.replicate n 0 = pfx f n 0 := by
  refine List.ext_getElem (by simp [pfx]) fun i h1 h2 => ?_
  simp [pfx]
theorem pfx_full (f : Nat → Int) (n : Nat) : pfx f n n = (List.range n).map f := by
  refine List.ext_getElem (by simp [pfx]) fun i h1 h2 => ?_
  have : i < n := by simpa [pfx] using h1
  simp [pfx, this]
theorem pfx_set {f : Nat → Int} {n i : Nat} (_h : i < n) : (pfx f n i).set i (f i) = pfx f n (i + 1) := by
  refine List.ext_getElem (by simp [pfx]) fun j h1 h2 => ?_
  rw [List.getElem_set]
  simp only [pfx, List.getElem_map, List.getElem_range]
  by_cases e : i = j
  · subst e; simp
  · rw [if_neg e]
    by_cases e2 : j < i
    · rw [if_pos e2, if_pos (by omega)]
    · rw [if_neg e2, if_neg (by omega)]
def acc (f : Nat → Int) (i : Nat) : List Int := (List.range i).map f
theorem acc_length (f : Nat → Int) (i : Nat) : (acc f i).length = i := by simp [acc]
theorem acc_next (f : Nat → Int) (i : Nat) : ofI (acc f i) ++ [.int .i64 (f i)] = ofI (acc f (i + 1)) := by simp [acc, ofI, List.range_succ]
theorem acc_one (f : Nat → Int) : [] ++ [V.int .i64 (f 0)] = ofI (acc f 1) := acc_next f 0


end Go.Dr.T
