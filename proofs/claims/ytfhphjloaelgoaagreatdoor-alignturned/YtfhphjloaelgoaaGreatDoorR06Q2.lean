/- Chapter 06: the elements exchanged: what Surely returns. Plain. -/
import Derived.Test.YtfhphjloaelgoaaGreatDoorR06Q1
import Derived.Test.YtfhphjloaelgoaaGreatDoorR06S3
namespace Go.Dr.T
def grid (c : Nat → Nat → Bool) (n m : Nat) : List (Int × Int) := (List.range' 0 n).flatMap fun i => ((List.range' 0 m).filter (c i)).map (prI i)
theorem grid_mem {c : Nat → Nat → Bool} {n m : Nat} {p : Int × Int} : p ∈ grid c n m ↔ ∃ i j, i < n ∧ j < m ∧ c i j = true ∧ p = prI i j := by
  unfold grid
  simp only [List.mem_flatMap, List.mem_map, List.mem_filter, List.mem_range'_1]
  constructor
  · rintro ⟨i, hi, j, ⟨hj, hc⟩, rfl⟩
    exact ⟨i, j, by omega, by omega, hc, rfl⟩
  · rintro ⟨i, j, hi, hj, hc, rfl⟩
    exact ⟨i, by omega, j, ⟨by omega, hc⟩, rfl⟩
theorem sm_len {c : Nat → Bool} : ∀ m, ((((List.range' 0 m).filter c).length : Nat) : Int) = sm m (fun j => if c j = true then 1 else 0)
  | 0 => rfl
  | m + 1 => by
    rw [List.range'_concat, List.filter_append, List.length_append]
    have := sm_len (c := c) m
    simp only [sm, Nat.zero_add, Nat.one_mul]
    rw [Int.natCast_add, this]
    cases h : c m <;> simp [h]
theorem grid_len {c : Nat → Nat → Bool} {m : Nat} : ∀ n, (((grid c n m).length : Nat) : Int) = sm n (fun i => sm m (fun j => if c i j = true then 1 else 0))
  | 0 => rfl
  | n + 1 => by
    have ih := grid_len (c := c) (m := m) n
    unfold grid at ih ⊢
    rw [List.range'_concat, List.flatMap_append, List.length_append, Int.natCast_add, ih]
    simp only [sm, Nat.zero_add, Nat.one_mul, List.flatMap_cons, List.flatMap_nil, List.append_nil, List.length_map]
    rw [sm_len]
theorem grid_swap {c d : Nat → Nat → Bool} {n m : Nat} (h : ∀ i j, i < n → j < m → c i j = d j i) : (grid c n m).length = (grid d m n).length ∧ ∀ p ∈ grid c n m, (p.2, p.1) ∈ grid d m n := by
  constructor
  · have e : (((grid c n m).length : Nat) : Int) = ((grid d m n).length : Nat) := by
      rw [grid_len, grid_len, sm_comm]
      exact sm_congr fun j hj => sm_congr fun i hi => by rw [h i j hi hj]
    omega
  · intro p hp
    obtain ⟨i, j, hi, hj, hc, rfl⟩ := grid_mem.1 hp
    exact grid_mem.2 ⟨j, i, hj, hi, by rw [← h i j hi hj]; exact hc, rfl⟩
def cM (W V Sh : Nat → Nat → Int) (i j : Nat) : Bool := decide (¬ (Sh i j = 0 ∨ V i j + Sh i j + W (i + 1) (j + 1) ≠ W 0 0))
def cS (W V Sh Wb : Nat → Nat → Int) (i j : Nat) : Bool := cM W V Sh i j && decide (Wb i j < W 0 0)
theorem suStep_eq {W V Sh Wb : Nat → Nat → Int} {i j : Nat} {p : List (Int × Int) × List (Int × Int)} : suStep W V Sh Wb i j p = (p.1 ++ (([j].filter (cM W V Sh i)).map (prI i)), p.2 ++ (([j].filter (cS W V Sh Wb i)).map (prI i))) := by
  unfold suStep
  by_cases h : Sh i j = 0 ∨ V i j + Sh i j + W (i + 1) (j + 1) ≠ W 0 0
  · have e : cM W V Sh i j = false := by unfold cM; simpa using fun a => (by rcases h with h | h; exact absurd h a; exact h)
    rw [if_pos h, List.filter_cons_of_neg (by simp [e]), List.filter_cons_of_neg (by simp [cS, e])]
    simp
  · have e : cM W V Sh i j = true := by unfold cM; exact decide_eq_true h
    rw [if_neg h, List.filter_cons_of_pos e]
    by_cases hw : Wb i j < W 0 0
    · rw [if_pos hw, List.filter_cons_of_pos (by simp [cS, e, hw])]; rfl
    · rw [if_neg hw, List.filter_cons_of_neg (by simp [cS, e, hw])]; simp
theorem suRow_eq {W V Sh Wb : Nat → Nat → Int} {m i : Nat} : ∀ (l : Nat) (p : List (Int × Int) × List (Int × Int)), l ≤ m → suRow W V Sh Wb m i l p = (p.1 ++ (((List.range' (m - l) l).filter (cM W V Sh i)).map (prI i)), p.2 ++ (((List.range' (m - l) l).filter (cS W V Sh Wb i)).map (prI i)))
  | 0, p, _ => by simp [suRow]
  | l + 1, p, h => by
    unfold suRow
    rw [suRow_eq l _ (by omega), suStep_eq, List.range'_succ, show m - (l + 1) + 1 = m - l by omega]
    dsimp only
    have e : ∀ c : Nat → Bool, ((m - (l + 1)) :: List.range' (m - l) l).filter c = [m - (l + 1)].filter c ++ (List.range' (m - l) l).filter c := fun c => by rw [← List.filter_append]; rfl
    rw [e, e, List.map_append, List.map_append, List.append_assoc, List.append_assoc]
theorem suAll_eq {W V Sh Wb : Nat → Nat → Int} {n m : Nat} : ∀ (k : Nat) (p : List (Int × Int) × List (Int × Int)), k ≤ n → suAll W V Sh Wb n m k p = (p.1 ++ ((List.range' (n - k) k).flatMap fun i => ((List.range' 0 m).filter (cM W V Sh i)).map (prI i)), p.2 ++ ((List.range' (n - k) k).flatMap fun i => ((List.range' 0 m).filter (cS W V Sh Wb i)).map (prI i)))
  | 0, p, _ => by simp [suAll]
  | k + 1, p, h => by
    unfold suAll
    rw [suAll_eq k _ (by omega), suRow_eq m p (Nat.le_refl _), Nat.sub_self, List.range'_succ, show n - (k + 1) + 1 = n - k by omega]
    dsimp only
    rw [List.flatMap_cons, List.flatMap_cons, List.append_assoc, List.append_assoc]
theorem rSurely_eq {x y : El} {s : Int} : rSurely x y s = (grid (cM (openT x y s) (vT (shA x.l y.l s)) (shA x.l y.l s)) x.l.length y.l.length, grid (cS (openT x y s) (vT (shA x.l y.l s)) (shA x.l y.l s) (wbT x.l y.l s)) x.l.length y.l.length) := by
  unfold rSurely
  rw [suAll_eq _ _ (Nat.le_refl _), Nat.sub_self]
  simp only [List.nil_append]
  rfl
theorem vT_symm {S S' : Nat → Nat → Int} (h : ∀ i j, S i j = S' j i) : ∀ i j, vT S i j = vT S' j i
  | 0, j => by rw [vT_0, vT_1]
  | i + 1, 0 => by rw [vT_1, vT_0]
  | i + 1, j + 1 => by
    rw [vT_S, vT_S, vT_symm h i (j + 1), vT_symm h (i + 1) j, vT_symm h i j, h i j]
    split <;> omega
termination_by i j => i + j
theorem cM_symm {x y : El} {s : Int} {i j : Nat} : cM (openT x y s) (vT (shA x.l y.l s)) (shA x.l y.l s) i j = cM (openT y x s) (vT (shA y.l x.l s)) (shA y.l x.l s) j i := by
  unfold cM
  rw [openT_symm (x := x), openT_symm (x := x), shA_symm (a := x.l), vT_symm (S := shA x.l y.l s) (S' := shA y.l x.l s) fun _ _ => shA_symm]
theorem cS_symm {x y : El} {s : Int} {i j : Nat} : cS (openT x y s) (vT (shA x.l y.l s)) (shA x.l y.l s) (wbT x.l y.l s) i j = cS (openT y x s) (vT (shA y.l x.l s)) (shA y.l x.l s) (wbT y.l x.l s) j i := by
  unfold cS
  rw [cM_symm, openT_symm (x := x)]
  unfold wbT
  rw [wT_symm]
theorem surely_symm {x y : El} {s : Int} : ((rSurely x y s).1.length = (rSurely y x s).1.length ∧ ∀ p ∈ (rSurely x y s).1, (p.2, p.1) ∈ (rSurely y x s).1) ∧ (rSurely x y s).2.length = (rSurely y x s).2.length ∧ ∀ p ∈ (rSurely x y s).2, (p.2, p.1) ∈ (rSurely y x s).2 := by
  rw [rSurely_eq, rSurely_eq]
  exact ⟨grid_swap fun i j _ _ => cM_symm, grid_swap fun i j _ _ => cS_symm⟩
end Go.Dr.T
