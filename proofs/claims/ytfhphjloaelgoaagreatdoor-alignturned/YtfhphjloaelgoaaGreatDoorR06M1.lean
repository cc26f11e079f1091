/- Chapter 06: the worth of the best alignments, plain laws: more slack, a further shot, at most all Frames. -/
import Derived.Test.YtfhphjloaelgoaaGreatDoorR06B4
namespace Go.Dr.T
theorem shr_slack {s s' : Int} {x y : Int × Int} (h : s ≤ s') (hx : 1 ≤ x.2 ∧ x.2 ≤ 200000) (hy : 1 ≤ y.2 ∧ y.2 ≤ 200000) : shr s x y ≤ shr s' x y := by
  have h0 := shr_rng (s := s') hx hy
  obtain ⟨m, n⟩ := x
  obtain ⟨m', n'⟩ := y
  by_cases hc : s < max n n' - min n n'
  · rw [shr_case, if_pos hc]; exact h0.1
  · rw [shr_case (s := s), shr_case (s := s'), if_neg hc, if_neg (show ¬ s' < max n n' - min n n' by omega)]; exact Int.le_refl _
theorem shr_min {s : Int} {x y : Int × Int} (hx : 1 ≤ x.2 ∧ x.2 ≤ 200000) (hy : 1 ≤ y.2 ∧ y.2 ≤ 200000) : shr s x y ≤ x.2 ∧ shr s x y ≤ y.2 := by
  obtain ⟨m, n⟩ := x
  obtain ⟨m', n'⟩ := y
  rw [shr_case]
  dsimp only at hx hy ⊢
  split
  · omega
  · split
    · omega
    · split <;> omega
def frOk (l : List (Int × Int)) : Prop := ∀ p ∈ l, 1 ≤ p.2 ∧ p.2 ≤ 200000
theorem shOk.fr {l : List (Int × Int)} (h : shOk l) : frOk l := fun p hp => ⟨(h.2 p hp).2.2.1, (h.2 p hp).2.2.2⟩
theorem shA_at {a b : List (Int × Int)} {s : Int} {i j : Nat} (hi : i < a.length) (hj : j < b.length) : shA a b s i j = shr s a[i] b[j] := by
  unfold shA; rw [List.getD_eq_getElem?_getD, List.getElem?_eq_getElem hi, List.getD_eq_getElem?_getD, List.getElem?_eq_getElem hj]; rfl
theorem wN_T {a b : List (Int × Int)} {s : Int} {k l : Nat} : wN a b s (-1) 0 (k + 1) (l + 1) =
    (if 0 < shA a b s (a.length - (k + 1)) (b.length - (l + 1)) then max (max (wN a b s (-1) 0 k (l + 1)) (wN a b s (-1) 0 (k + 1) l)) (shA a b s (a.length - (k + 1)) (b.length - (l + 1)) + wN a b s (-1) 0 k l) else max (wN a b s (-1) 0 k (l + 1)) (wN a b s (-1) 0 (k + 1) l)) := by
  rw [wN_S]
  dsimp only
  by_cases h : 0 < shA a b s (a.length - (k + 1)) (b.length - (l + 1))
  · rw [if_pos h, if_pos ⟨h, fun q => by omega⟩]
  · rw [if_neg h, if_neg (fun q => h q.1)]
theorem wN_S0 {a b : List (Int × Int)} {s bi bj : Int} {k : Nat} : wN a b s bi bj (k + 1) 0 = 0 := rfl
theorem wN_slack {a b : List (Int × Int)} {s s' : Int} (h : s ≤ s') (ha : frOk a) (hb : frOk b) : ∀ k l, k ≤ a.length → l ≤ b.length → wN a b s (-1) 0 k l ≤ wN a b s' (-1) 0 k l := by
  intro k
  induction k with
  | zero => intro l _ _; exact Int.le_refl _
  | succ k ihk =>
    intro l
    induction l with
    | zero => intro _ _; exact Int.le_refl _
    | succ l ihl =>
      intro hk hl
      have i1 := ihk (l + 1) (by omega) hl
      have i2 := ihl hk (by omega)
      have i3 := ihk l (by omega) (by omega)
      have e1 : shA a b s (a.length - (k + 1)) (b.length - (l + 1)) ≤ shA a b s' (a.length - (k + 1)) (b.length - (l + 1)) := by
        rw [shA_at (by omega) (by omega), shA_at (by omega) (by omega)]
        exact shr_slack h (ha _ (List.getElem_mem _)) (hb _ (List.getElem_mem _))
      rw [wN_T, wN_T]
      generalize shA a b s (a.length - (k + 1)) (b.length - (l + 1)) = u at *
      generalize shA a b s' (a.length - (k + 1)) (b.length - (l + 1)) = v at *
      split <;> split <;> omega
def frS : List (Int × Int) → Int
  | [] => 0
  | p :: l => p.2 + frS l
theorem frS_append : ∀ {l m : List (Int × Int)}, frS (l ++ m) = frS l + frS m
  | [], m => by simp [frS]
  | p :: l, m => by simp only [List.cons_append, frS, frS_append (l := l)]; omega
theorem frS_drop {l : List (Int × Int)} {k : Nat} (h : k + 1 ≤ l.length) : frS (l.drop (l.length - (k + 1))) = (l[l.length - (k + 1)]'(by omega)).2 + frS (l.drop (l.length - k)) := by
  rw [List.drop_eq_getElem_cons (by omega), frS, show l.length - (k + 1) + 1 = l.length - k by omega]
theorem frS_pos {l : List (Int × Int)} (h : frOk l) : 0 ≤ frS l ∧ frS l ≤ 200000 * l.length := by
  induction l with
  | nil => simp [frS]
  | cons p l ih =>
    have := ih fun q hq => h q (by simp [hq])
    have := h p (by simp)
    simp only [frS, List.length_cons]
    omega
theorem frOk.drop {l : List (Int × Int)} {n : Nat} (h : frOk l) : frOk (l.drop n) := fun p hp => h p (List.mem_of_mem_drop hp)
theorem wN_low {a b : List (Int × Int)} {s : Int} : ∀ k l, 0 ≤ wN a b s (-1) 0 k l := by
  intro k
  induction k with
  | zero => intro l; exact Int.le_refl _
  | succ k ihk =>
    intro l
    induction l with
    | zero => exact Int.le_refl _
    | succ l ihl =>
      have i1 := ihk (l + 1)
      rw [wN_T]
      split <;> omega
theorem wN_left {a b : List (Int × Int)} {s : Int} (ha : frOk a) (hb : frOk b) : ∀ k l, k ≤ a.length → l ≤ b.length → wN a b s (-1) 0 k l ≤ frS (a.drop (a.length - k)) := by
  intro k
  induction k with
  | zero => intro l _ _; rw [Nat.sub_zero, List.drop_length]; exact Int.le_refl _
  | succ k ihk =>
    intro l
    induction l with
    | zero => intro _ _; rw [wN_S0]; exact (frS_pos ha.drop).1
    | succ l ihl =>
      intro hk hl
      have i1 := ihk (l + 1) (by omega) hl
      have i2 := ihl hk (by omega)
      have i3 := ihk l (by omega) (by omega)
      rw [frS_drop hk] at i2 ⊢
      have e1 := (shr_min (s := s) (ha _ (List.getElem_mem (show a.length - (k + 1) < a.length by omega))) (hb _ (List.getElem_mem (show b.length - (l + 1) < b.length by omega)))).1
      have e2 := ha _ (List.getElem_mem (show a.length - (k + 1) < a.length by omega))
      rw [wN_T, shA_at (by omega) (by omega)]
      split <;> omega
theorem wN_right {a b : List (Int × Int)} {s : Int} (ha : frOk a) (hb : frOk b) : ∀ k l, k ≤ a.length → l ≤ b.length → wN a b s (-1) 0 k l ≤ frS (b.drop (b.length - l)) := by
  intro k
  induction k with
  | zero => intro l _ _; rw [wN_0]; exact (frS_pos hb.drop).1
  | succ k ihk =>
    intro l
    induction l with
    | zero => intro _ _; rw [wN_S0]; exact (frS_pos hb.drop).1
    | succ l ihl =>
      intro hk hl
      have i1 := ihk (l + 1) (by omega) hl
      have i2 := ihl hk (by omega)
      have i3 := ihk l (by omega) (by omega)
      rw [frS_drop hl] at i1 ⊢
      have e1 := (shr_min (s := s) (ha _ (List.getElem_mem (show a.length - (k + 1) < a.length by omega))) (hb _ (List.getElem_mem (show b.length - (l + 1) < b.length by omega)))).2
      have e2 := hb _ (List.getElem_mem (show b.length - (l + 1) < b.length by omega))
      rw [wN_T, shA_at (by omega) (by omega)]
      split <;> omega
theorem wN_mono {a b : List (Int × Int)} {s : Int} {k l : Nat} : wN a b s (-1) 0 k l ≤ wN a b s (-1) 0 k (l + 1) := by
  cases k with
  | zero => exact Int.le_refl _
  | succ k => rw [wN_T]; split <;> omega
theorem wN_cons {a b : List (Int × Int)} {p : Int × Int} {s : Int} : ∀ k l, k ≤ a.length → l ≤ b.length → wN (p :: a) b s (-1) 0 k l = wN a b s (-1) 0 k l := by
  intro k
  induction k with
  | zero => intro l _ _; rfl
  | succ k ihk =>
    intro l
    induction l with
    | zero => intro _ _; rfl
    | succ l ihl =>
      intro hk hl
      have e1 : shA (p :: a) b s ((p :: a).length - (k + 1)) (b.length - (l + 1)) = shA a b s (a.length - (k + 1)) (b.length - (l + 1)) := by
        unfold shA
        rw [show (p :: a).length - (k + 1) = a.length - (k + 1) + 1 by simp only [List.length_cons]; omega]
        rfl
      rw [wN_T, wN_T, e1, ihk (l + 1) (by omega) hl, ihl hk (by omega), ihk l (by omega) (by omega)]
theorem wN_front {a b : List (Int × Int)} {p : Int × Int} {s : Int} (hp : 1 ≤ p.2 ∧ p.2 ≤ 200000) (hb : frOk b) : ∀ l, l ≤ b.length → wN a b s (-1) 0 a.length l ≤ wN (p :: a) b s (-1) 0 (a.length + 1) l ∧ wN (p :: a) b s (-1) 0 (a.length + 1) l ≤ wN a b s (-1) 0 a.length l + p.2 := by
  intro l
  induction l with
  | zero => intro _; rw [wN_S0, wN_1]; omega
  | succ l ih =>
    intro hl
    have i := ih (by omega)
    have m := wN_mono (a := a) (b := b) (s := s) (k := a.length) (l := l)
    have e : shA (p :: a) b s ((p :: a).length - (a.length + 1)) (b.length - (l + 1)) ≤ p.2 := by
      rw [show (p :: a).length - (a.length + 1) = 0 by simp, shA_at (by simp) (by omega)]
      exact (shr_min (x := p) hp (hb _ (List.getElem_mem _))).1
    rw [wN_T, wN_cons _ _ (Nat.le_refl _) hl, wN_cons _ _ (Nat.le_refl _) (by omega)]
    generalize shA (p :: a) b s ((p :: a).length - (a.length + 1)) (b.length - (l + 1)) = u at *
    split <;> omega
theorem wN_end {a b : List (Int × Int)} {p : Int × Int} {s : Int} (hp : 1 ≤ p.2 ∧ p.2 ≤ 200000) (ha : frOk a) (hb : frOk b) : ∀ k l, k ≤ a.length → l ≤ b.length → wN a b s (-1) 0 k l ≤ wN (a ++ [p]) b s (-1) 0 (k + 1) l ∧ wN (a ++ [p]) b s (-1) 0 (k + 1) l ≤ wN a b s (-1) 0 k l + p.2 := by
  have hap : frOk (a ++ [p]) := fun q hq => by
    rcases List.mem_append.1 hq with h | h
    · exact ha q h
    · simp only [List.mem_singleton] at h; subst h; exact hp
  intro k
  induction k with
  | zero =>
    intro l _ hl
    have h1 := wN_left (s := s) hap hb 1 l (by simp) hl
    have e : (a ++ [p]).drop ((a ++ [p]).length - 1) = [p] := by simp
    rw [e] at h1
    have h2 := wN_low (a := a ++ [p]) (b := b) (s := s) 1 l
    rw [wN_0]
    simp only [frS] at h1
    show _ ≤ wN (a ++ [p]) b s (-1) 0 1 l ∧ wN (a ++ [p]) b s (-1) 0 1 l ≤ _
    omega
  | succ k ihk =>
    intro l
    induction l with
    | zero => intro _ _; rw [wN_S0, wN_S0]; omega
    | succ l ihl =>
      intro hk hl
      have i1 := ihk (l + 1) (by omega) hl
      have i2 := ihl hk (by omega)
      have i3 := ihk l (by omega) (by omega)
      have e1 : shA (a ++ [p]) b s ((a ++ [p]).length - (k + 1 + 1)) (b.length - (l + 1)) = shA a b s (a.length - (k + 1)) (b.length - (l + 1)) := by
        rw [shA_at (by simp; omega) (by omega), shA_at (by omega) (by omega)]
        congr 1
        rw [List.getElem_append_left (by simp; omega)]
        congr 1
        simp
      rw [wN_T, wN_T, e1]
      generalize shA a b s (a.length - (k + 1)) (b.length - (l + 1)) = u at *
      split <;> omega
theorem openT_00 {x y : El} {s : Int} : openT x y s 0 0 = wN x.l y.l s (-1) 0 x.l.length y.l.length := by rw [openT_eq]; rfl
end Go.Dr.T
