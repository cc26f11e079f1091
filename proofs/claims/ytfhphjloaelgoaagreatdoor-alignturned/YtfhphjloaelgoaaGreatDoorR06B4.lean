/- Chapter 06: the counts of the best alignments, plain. -/
import Derived.Test.YtfhphjloaelgoaaGreatDoorR06B1
namespace Go.Dr.T
theorem openT_eq {x y : El} {s : Int} (i j : Nat) : openT x y s i j = wT x.l y.l s (-1) 0 i j := by
  unfold openT mixT zT
  by_cases h : i < x.l.length ∧ j < y.l.length
  · rw [if_pos (by omega)]
  · rw [if_neg (by omega)]
    by_cases h2 : i < x.l.length
    · rw [wT_end2 (by omega)]
    · rw [wT_end1 (by omega)]
theorem openT_rng {x y : El} {s : Int} (ha : shOk x.l) (hb : shOk y.l) (i j : Nat) : 0 ≤ openT x y s i j ∧ openT x y s i j ≤ 8000000 := by
  rw [openT_eq]; exact wT_rng ha hb i j
theorem wT_cell {a b : List (Int × Int)} {s : Int} (ha : shOk a) (hb : shOk b) {i j : Nat} (hi : i < a.length) (hj : j < b.length) : wT a b s (-1) 0 i j = if 0 < shA a b s i j then max (max (wT a b s (-1) 0 (i + 1) j) (wT a b s (-1) 0 i (j + 1))) (shA a b s i j + wT a b s (-1) 0 (i + 1) (j + 1)) else max (wT a b s (-1) 0 (i + 1) j) (wT a b s (-1) 0 i (j + 1)) := by
  have e : shA a b s i j = shr s a[i] b[j] := by
    unfold shA; rw [List.getD_eq_getElem?_getD, List.getElem?_eq_getElem hi, List.getD_eq_getElem?_getD, List.getElem?_eq_getElem hj]; rfl
  rw [wT_step (List.getElem?_eq_getElem hi) (List.getElem?_eq_getElem hj), e]
  by_cases h : 0 < shr s a[i] b[j]
  · rw [if_pos ⟨h, by omega⟩, if_pos h]
  · rw [if_neg (fun q => h q.1), if_neg h]
theorem wT_down {a b : List (Int × Int)} {s : Int} (ha : shOk a) (hb : shOk b) (i j : Nat) : wT a b s (-1) 0 (i + 1) j ≤ wT a b s (-1) 0 i j := by
  by_cases hi : i < a.length
  · by_cases hj : j < b.length
    · rw [wT_cell ha hb hi hj]; split <;> omega
    · rw [wT_end2 (by omega), wT_end2 (by omega)]; exact Int.le_refl _
  · rw [wT_end1 (by omega), wT_end1 (by omega)]; exact Int.le_refl _
theorem wT_right {a b : List (Int × Int)} {s : Int} (ha : shOk a) (hb : shOk b) (i j : Nat) : wT a b s (-1) 0 i (j + 1) ≤ wT a b s (-1) 0 i j := by
  by_cases hi : i < a.length
  · by_cases hj : j < b.length
    · rw [wT_cell ha hb hi hj]; split <;> omega
    · rw [wT_end2 (by omega), wT_end2 (by omega)]; exact Int.le_refl _
  · rw [wT_end1 (by omega), wT_end1 (by omega)]; exact Int.le_refl _
theorem wT_mono1 {a b : List (Int × Int)} {s : Int} (ha : shOk a) (hb : shOk b) {j : Nat} : ∀ (k k' : Nat), k ≤ k' → wT a b s (-1) 0 k' j ≤ wT a b s (-1) 0 k j := by
  intro k k' h
  obtain ⟨d, rfl⟩ := Nat.le.dest h
  induction d with
  | zero => exact Int.le_refl _
  | succ d ih => exact Int.le_trans (wT_down ha hb (k + d) j) (ih (by omega))
theorem wT_mono2 {a b : List (Int × Int)} {s : Int} (ha : shOk a) (hb : shOk b) {i : Nat} : ∀ (k k' : Nat), k ≤ k' → wT a b s (-1) 0 i k' ≤ wT a b s (-1) 0 i k := by
  intro k k' h
  obtain ⟨d, rfl⟩ := Nat.le.dest h
  induction d with
  | zero => exact Int.le_refl _
  | succ d ih => exact Int.le_trans (wT_right ha hb i (k + d)) (ih (by omega))
theorem wT_take {a b : List (Int × Int)} {s : Int} (ha : shOk a) (hb : shOk b) {k l : Nat} (hk : k < a.length) (hl : l < b.length) (h : 0 < shA a b s k l) : shA a b s k l + wT a b s (-1) 0 (k + 1) (l + 1) ≤ wT a b s (-1) 0 k l := by
  rw [wT_cell ha hb hk hl, if_pos h]; omega
theorem begins_same {x y : El} {s : Int} (ha : shOk x.l) (hb : shOk y.l) (i j : Nat) : bgs (shA x.l y.l s) (openT x y s) x.l.length y.l.length i j = bgA (shA x.l y.l s) (openT x y s) x.l.length y.l.length i j := by
  refine bgs_eq (fun k k' h => ?_) (fun k l hk hj hl h => ?_)
  · rw [openT_eq, openT_eq]; exact wT_mono1 ha hb k k' h
  · rw [openT_eq, openT_eq]
    exact Int.le_trans (wT_take ha hb hk hl h) (wT_mono2 ha hb j l hj)
def cvT (S W : Nat → Nat → Int) (n m : Nat) (T : Nat → Nat → Int) (i j : Nat) : Int :=
  if W i j = 0 then 1 else (bgs S W n m i j).foldl (fun c p => min 1000000 (c + T (p.1 + 1) (p.2 + 1))) 0
def cRow (S W : Nat → Nat → Int) (n m i : Nat) : Nat → (Nat → Nat → Int) → (Nat → Nat → Int)
  | 0, T => T
  | l + 1, T => cRow S W n m i l (upT T i l (cvT S W n m T i l))
def cAll (S W : Nat → Nat → Int) (n m : Nat) : Nat → (Nat → Nat → Int) → (Nat → Nat → Int)
  | 0, T => T
  | k + 1, T => cAll S W n m k (cRow S W n m k (m + 1) T)
def bestV2 (x y : El) (s : Int) : V :=
  if openE x y s ≠ 0 then .tup [.int .i64 0, .int .i64 0, .int .i64 (openE x y s)] else
  .tup [.int .i64 (openT x y s 0 0), .int .i64 (cAll (shA x.l y.l s) (openT x y s) x.l.length y.l.length (x.l.length + 1) zT 0 0), .int .i64 0]
end Go.Dr.T
