/- Chapter 09: plain laws of samples that are pulled, bridged, and without their hum. -/
import Derived.Test.YtokbdaiamhibeaaR09Bp
import Derived.Test.YtokbdaiamhibeaaR09Pl
namespace Go.Dr.T

theorem interp {x y r : Int} (h0 : 0 ≤ r) (h1 : r < 1000) : min x y ≤ x + (y - x) * r / 1000 ∧ x + (y - x) * r / 1000 ≤ max x y := by
  rcases Int.le_total x y with h | h
  · have p1 : 0 ≤ (y - x) * r := Int.mul_nonneg (by omega) h0
    have p2 : (y - x) * r ≤ (y - x) * 1000 := Int.mul_le_mul_of_nonneg_left (by omega) (by omega)
    omega
  · have p1 : 0 ≤ (x - y) * r := Int.mul_nonneg (by omega) h0
    have p2 : (x - y) * r ≤ (x - y) * 1000 := Int.mul_le_mul_of_nonneg_left (by omega) (by omega)
    have e : (y - x) * r = -((x - y) * r) := by rw [← Int.neg_mul]; congr 1; omega
    rw [e]
    omega
theorem pull_between {l : List Int} {lo hi b s : Int} {i : Nat} (h0 : 0 < l.length) (h : ∀ j, j < l.length → lo ≤ gI l j ∧ gI l j ≤ hi) : lo ≤ pullX l b s i ∧ pullX l b s i ≤ hi := by
  unfold pullX
  dsimp only
  generalize (b + (i : Int) * s).toNat = x
  split
  · exact h _ (by omega)
  · have h1 := h (x / 1000) (by omega)
    have h2 := h (x / 1000 + 1) (by omega)
    have h3 := interp (x := gI l (x / 1000)) (y := gI l (x / 1000 + 1)) (r := ((x % 1000 : Nat) : Int)) (by omega) (by omega)
    omega
theorem pull_same {l : List Int} {i : Nat} (hi : i < l.length) : pullX l 0 1000 i = gI l i := by
  unfold pullX
  dsimp only
  have e : ((0 : Int) + (i : Int) * 1000).toNat = i * 1000 := by omega
  rw [e, Nat.mul_div_cancel _ (by omega), Nat.mul_mod_left]
  split
  · rw [show l.length - 1 = i by omega]
  · simp
theorem acc_same (l : List Int) : acc (pullX l 0 1000) l.length = l := by
  refine List.ext_getElem (by simp [acc]) fun i h1 h2 => ?_
  simp only [acc, List.getElem_map, List.getElem_range]
  rw [pull_same h2, gI_get h2]
theorem gI_rep {n : Nat} {v : Int} {i : Nat} (h : i < n) : gI (List.replicate n v) i = v := by
  rw [gI_get (by simpa using h)]; simp
theorem pull_flat {n : Nat} {v b s : Int} {i : Nat} (h0 : 0 < n) : pullX (List.replicate n v) b s i = v := by
  have := pull_between (l := List.replicate n v) (lo := v) (hi := v) (b := b) (s := s) (i := i) (by simpa using h0) (fun j hj => by rw [gI_rep (by simpa using hj)]; omega)
  omega
theorem brg_flat (v : Int) (n k : Nat) : brg v v n k = v := by unfold brg; simp
theorem blN_flat {n a b : Nat} {v : Int} (hb : b < n) (hab : a ≤ b) (hc : ¬ (a = 0 ∧ b + 1 = n)) : blN n (List.replicate n v) a b = List.replicate n v := by
  have hA : blA (List.replicate n v) a b = v := by
    unfold blA
    split
    · exact gI_rep (by omega)
    · exact gI_rep (by omega)
  have hB : blB n (List.replicate n v) a b = v := by
    unfold blB
    split
    · exact gI_rep (by omega)
    · exact gI_rep (by omega)
  have hR : blR n (List.replicate n v) a b = List.replicate (b + 1 - a) v := by
    unfold blR
    rw [hA, hB]
    refine List.ext_getElem (by simp [acc]) fun i h1 h2 => ?_
    simp [acc, brg_flat]
  unfold blN
  rw [hR]
  simp only [List.take_replicate, List.drop_replicate, List.length_replicate, List.replicate_append_replicate]
  congr 1; omega
/-- samples that are all the same stay so. -/
theorem blp_flat {n : Nat} {v : Int} : ∀ {S : List (Int × Int)} {kept : List Int}, (∀ x ∈ S, 0 ≤ x.1 ∧ x.1 ≤ x.2 ∧ x.2 ≤ (n : Int) - 1) → blp n S (List.replicate n v) kept = none ∨ ∃ k, blp n S (List.replicate n v) kept = some (List.replicate n v, k)
  | [], kept, _ => .inr ⟨kept, rfl⟩
  | x :: S, kept, h => by
    have hx := h x (by simp)
    simp only [blp]
    split
    · exact .inl rfl
    · rename_i hc
      rw [blN_flat (by omega) (by omega) hc]
      exact blp_flat fun y hy => h y (by simp [hy])

/-! samples without their hum -/
theorem clean_at {l : List Int} {p i : Nat} (hp : 0 < p) (hi : i < l.length) : gI (acc (clX l (acc (humX l p) p) (-1)) l.length) i = gI l i - humX l p (i % p) := by
  have hm : i % p < p := Nat.mod_lt _ hp
  have e1 : gI (acc (clX l (acc (humX l p) p) (-1)) l.length) i = clX l (acc (humX l p) p) (-1) i := by
    rw [gI_get (by rw [acc_length]; exact hi)]; simp [acc]
  have e2 : gI (acc (humX l p) p) (i % p) = humX l p (i % p) := by
    rw [gI_get (by rw [acc_length]; exact hm)]; simp [acc]
  rw [e1]
  unfold clX
  rw [acc_length, e2]
  omega
theorem sum_clean {l : List Int} {p k : Nat} (hp : 0 < p) : ∀ {i : Nat}, i ≤ l.length → sumR (acc (clX l (acc (humX l p) p) (-1)) l.length) p k i = sumR l p k i - cntR p k i * humX l p k
  | 0, _ => by simp [sumR, cntR]
  | i + 1, h => by
    have ih := sum_clean (l := l) (k := k) hp (i := i) (by omega)
    simp only [sumR, cntR]
    rw [ih]
    by_cases e : i % p = k
    · rw [if_pos e, if_pos e, if_pos e, clean_at (l := l) (p := p) (i := i) hp (by omega), e, Int.add_mul, Int.one_mul]; omega
    · rw [if_neg e, if_neg e, if_neg e]; simp only [Int.add_zero]
theorem mean_clean {l : List Int} {p k : Nat} (hk : k < p) (hpl : p ≤ l.length) : meanR (acc (clX l (acc (humX l p) p) (-1)) l.length) k p = meanR l 0 1 := by
  have hc := cntR_pos (p := p) hk (n := l.length) (by omega)
  unfold meanR
  rw [acc_length, sum_clean (by omega) (Nat.le_refl _)]
  have e : (sumR l p k l.length - cntR p k l.length * humX l p k) / cntR p k l.length = sumR l p k l.length / cntR p k l.length - humX l p k := by
    rw [Int.sub_eq_add_neg, ← Int.mul_neg, Int.add_mul_ediv_left _ _ (by omega)]; omega
  rw [e]
  unfold humX meanR
  omega
theorem clean_range {l : List Int} {p : Nat} (hp : 0 < p) (hpl : p ≤ l.length) (hg : ∀ i, -1000000 ≤ gI l i ∧ gI l i ≤ 1000000) (hh : ∀ k, k < p → -2000000 ≤ humX l p k ∧ humX l p k ≤ 2000000) : ∀ i, -10000000 ≤ gI (acc (clX l (acc (humX l p) p) (-1)) l.length) i ∧ gI (acc (clX l (acc (humX l p) p) (-1)) l.length) i ≤ 10000000 := by
  intro i
  by_cases hi : i < l.length
  · rw [clean_at hp hi]
    have := hg i
    have := hh (i % p) (Nat.mod_lt _ hp)
    omega
  · unfold gI
    rw [List.getD_eq_getElem?_getD, List.getElem?_eq_none (by rw [acc_length]; omega)]
    simp

end Go.Dr.T
