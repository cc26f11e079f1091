/- Chapter 07: shifts, their order, sums over a window: the plain laws. -/
import Derived.Test.YtigcchafpenhiaaR07Px
namespace Go.Dr.T

/-- A shift: x, y, by how much it differs. -/
abbrev Sh3 := Int × Int × Int
def absI (n : Int) : Int := max n (-n)
def bet (a b : Sh3) : Bool :=
  if a.2.2 ≠ b.2.2 then decide (a.2.2 < b.2.2) else
  if absI a.1 + absI a.2.1 ≠ absI b.1 + absI b.2.1 then decide (absI a.1 + absI a.2.1 < absI b.1 + absI b.2.1) else
  decide (a.2.1 < b.2.1) || decide (a.2.1 = b.2.1) && decide (a.1 < b.1)
theorem bet_iff (a b : Sh3) : bet a b = true ↔ (a.2.2 < b.2.2 ∨ a.2.2 = b.2.2 ∧ (absI a.1 + absI a.2.1 < absI b.1 + absI b.2.1 ∨ absI a.1 + absI a.2.1 = absI b.1 + absI b.2.1 ∧ (a.2.1 < b.2.1 ∨ a.2.1 = b.2.1 ∧ a.1 < b.1))) := by
  unfold bet
  split
  · rw [decide_eq_true_eq]; omega
  · split
    · rw [decide_eq_true_eq]; omega
    · simp only [Bool.or_eq_true, Bool.and_eq_true, decide_eq_true_eq]; omega
theorem bet_total {a b : Sh3} (h1 : bet a b = false) (h2 : bet b a = false) : a = b := by
  have h1 := mt (bet_iff a b).2 (by rw [h1]; decide)
  have h2 := mt (bet_iff b a).2 (by rw [h2]; decide)
  obtain ⟨x, y, s⟩ := a
  obtain ⟨x', y', s'⟩ := b
  simp only [Prod.mk.injEq] at h1 h2 ⊢
  omega
theorem bet_trans {a b c : Sh3} (h1 : bet a b = true) (h2 : bet b c = true) : bet a c = true := by
  rw [bet_iff] at h1 h2 ⊢
  omega
theorem bet_irr (a : Sh3) : bet a a = false := by
  rw [← Bool.not_eq_true, bet_iff]; omega

def minF : Sh3 → List Sh3 → Sh3
  | m, [] => m
  | m, y :: l => minF (if bet y m then y else m) l
theorem minF_mem : ∀ (m : Sh3) (l : List Sh3), minF m l ∈ m :: l
  | m, [] => by simp [minF]
  | m, y :: l => by
    have h := minF_mem (if bet y m then y else m) l
    simp only [minF]
    simp only [List.mem_cons] at h ⊢
    split at h <;> rename_i hb <;> (rcases h with h | h <;> simp [h, hb])
theorem minF_least : ∀ (m : Sh3) (l : List Sh3), ∀ y ∈ m :: l, bet y (minF m l) = false
  | m, [], y, hy => by
    obtain rfl : y = m := by simpa using hy
    exact bet_irr _
  | m, z :: l, y, hy => by
    have h := minF_least (if bet z m then z else m) l
    simp only [minF]
    by_cases hb : bet z m = true
    · simp only [hb, if_true] at h ⊢
      rcases List.mem_cons.1 hy with rfl | hy
      · rw [← Bool.not_eq_true]
        intro hc
        have := bet_trans hb hc
        rw [h z (by simp)] at this
        cases this
      · rcases List.mem_cons.1 hy with rfl | hy
        · exact h _ (by simp)
        · exact h _ (by simp [hy])
    · simp only [hb] at h ⊢
      simp only [Bool.false_eq_true, if_false] at h ⊢
      rcases List.mem_cons.1 hy with rfl | hy
      · exact h _ (by simp)
      · rcases List.mem_cons.1 hy with rfl | hy
        · have hm := h m (by simp)
          rw [← Bool.not_eq_true]
          intro hc
          by_cases hmy : bet m y = true
          · rw [bet_trans hmy hc] at hm; cases hm
          · have e := bet_total (Bool.eq_false_iff.2 hmy) (Bool.eq_false_iff.2 hb)
            subst e; rw [hc] at hm; cases hm
        · exact h _ (by simp [hy])

def ordI (a b : Sh3) : Int :=
  if a.2.2 - b.2.2 ≠ 0 then a.2.2 - b.2.2 else
  if absI a.1 + absI a.2.1 - absI b.1 - absI b.2.1 ≠ 0 then absI a.1 + absI a.2.1 - absI b.1 - absI b.2.1 else
  if a.2.1 - b.2.1 ≠ 0 then a.2.1 - b.2.1 else
  if a.1 - b.1 ≠ 0 then a.1 - b.1 else 0
theorem ordI_neg (a b : Sh3) : decide (ordI a b < 0) = bet a b := by
  rw [Bool.eq_iff_iff, bet_iff, decide_eq_true_eq]
  unfold ordI
  split
  · omega
  · split
    · omega
    · split
      · omega
      · split <;> omega

def orL : List Int → Int
  | [] => 0
  | x :: l => if x ≠ 0 then x else orL l
theorem orL_drop {l : List Int} {i : Nat} (h : i < l.length) : orL (l.drop i) = if l[i] ≠ 0 then l[i] else orL (l.drop (i + 1)) := by
  rw [List.drop_eq_getElem_cons h]; rfl

/-! sums -/
def rowA (t : Nat → Int) (a : Int) : Nat → Int
  | 0 => a
  | i + 1 => rowA t a i + t i
def allS (t : Nat → Nat → Int) (w : Nat) : Nat → Int
  | 0 => 0
  | j + 1 => rowA (fun i => t i j) (allS t w j) w
theorem rowA_bound {t : Nat → Int} {a : Int} (ht : ∀ i, 0 ≤ t i ∧ t i ≤ 255) : ∀ i, a ≤ rowA t a i ∧ rowA t a i ≤ a + 255 * i
  | 0 => by simp [rowA]
  | i + 1 => by
    have := rowA_bound ht (a := a) i
    have := ht i
    simp only [rowA]; omega
theorem allS_bound {t : Nat → Nat → Int} {w : Nat} (hw : w ≤ 48) (ht : ∀ i j, 0 ≤ t i j ∧ t i j ≤ 255) : ∀ j, 0 ≤ allS t w j ∧ allS t w j ≤ 12240 * j
  | 0 => by simp [allS]
  | j + 1 => by
    have h1 := allS_bound hw ht j
    have h2 := rowA_bound (a := allS t w j) (fun i => ht i j) w
    simp only [allS]; omega
theorem rowA_congr {t t' : Nat → Int} {a : Int} : ∀ {i : Nat}, (∀ k < i, t k = t' k) → rowA t a i = rowA t' a i
  | 0, _ => rfl
  | i + 1, h => by simp only [rowA]; rw [rowA_congr fun k hk => h k (by omega), h i (by omega)]
theorem allS_congr {t t' : Nat → Nat → Int} {w : Nat} : ∀ {j : Nat}, (∀ i < w, ∀ k < j, t i k = t' i k) → allS t w j = allS t' w j
  | 0, _ => rfl
  | j + 1, h => by
    simp only [allS]
    rw [allS_congr fun i hi k hk => h i hi k (by omega)]
    exact rowA_congr fun k hk => h k hk j (by omega)

/-- by how much two pixels differ: the i-th and j-th of a window. -/
def tS (W H : Nat) (l l' : List UInt8) (x0 y0 : Nat) (px py : Nat → Int) (i j : Nat) : Int := absI (pixV W H l ((x0 + i : Nat) : Int) ((y0 + j : Nat) : Int) - pixV W H l' (px i) (py j))
theorem tS_range (W H : Nat) (l l' : List UInt8) (x0 y0 : Nat) (px py : Nat → Int) (i j : Nat) : 0 ≤ tS W H l l' x0 y0 px py i j ∧ tS W H l l' x0 y0 px py i j ≤ 255 := by
  have := pixV_le W H l ((x0 + i : Nat) : Int) ((y0 + j : Nat) : Int)
  have := pixV_le W H l' (px i) (py j)
  unfold tS absI; omega

/-! cells of shifts -/
abbrev sh3V (s : Sh3) : V := .agg [.int .i64 s.1, .int .i64 s.2.1, .int .i64 s.2.2]
def ofS3 : List Sh3 → List V
  | [] => []
  | x :: l => .int .i64 x.1 :: .int .i64 x.2.1 :: .int .i64 x.2.2 :: ofS3 l
theorem ofS3_length (l : List Sh3) : (ofS3 l).length = 3 * l.length := by
  induction l with
  | nil => rfl
  | cons x l ih => simp only [ofS3, List.length_cons, ih]; omega
theorem ofS3_part : ∀ {l : List Sh3} {i : Nat} (h : i < l.length), part (ofS3 l) (i * 3) 3 = some [.int .i64 l[i].1, .int .i64 l[i].2.1, .int .i64 l[i].2.2]
  | x :: l, 0, _ => by simp [ofS3, part, take', drop']
  | x :: l, i + 1, h => by
    have h1 := ofS3_part (l := l) (i := i) (by simpa using h)
    rw [show (i + 1) * 3 = i * 3 + 1 + 1 + 1 by omega]
    simp only [ofS3, part, drop', List.getElem_cons_succ] at h1 ⊢
    exact h1
theorem ofS3_append (a b : List Sh3) : ofS3 (a ++ b) = ofS3 a ++ ofS3 b := by
  induction a with
  | nil => rfl
  | cons x a ih => simp only [List.cons_append, ofS3, ih]
theorem VwL.s3 {h : List B} {d : Nat} (l : List Sh3) : VwL h (d + 1) (ofS3 l) (ofS3 l) := by
  induction l with
  | nil => exact VwL.nil
  | cons x l ih => exact VwL.cons (Vw.int rfl) (VwL.cons (Vw.int rfl) (VwL.cons (Vw.int rfl) ih))
theorem cellAt_ints : ∀ {l : List Int} {i : Nat} (h : i < l.length), cellAt (l.map (V.int .i64)) (i * 1) = some (.int .i64 l[i])
  | x :: l, 0, _ => rfl
  | x :: l, i + 1, h => by
    have := cellAt_ints (l := l) (i := i) (by simpa using h)
    rw [show (i + 1) * 1 = i * 1 + 1 by omega]
    simpa only [List.map_cons, cellAt, List.getElem_cons_succ] using this

end Go.Dr.T
