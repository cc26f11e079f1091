/- Chapter 07: masks and spots: plain laws. -/
import Derived.Test.YtigcchafpenhiaaR07Dj
namespace Go.Dr.T

/-! the mask -/
theorem genL_at {g : Nat → UInt8} {n i : Nat} (h : i < (genL g n).length) : (genL g n)[i] = g i := by simp [genL]
theorem duAt_two {W H : Nat} {l : List UInt8} {w g : Int} {k : Nat} : (duAt W H l w g k).toNat = 0 ∨ (duAt W H l w g k).toNat = 255 := by
  unfold duAt; split
  · exact .inr rfl
  · exact .inl rfl
theorem duAt_mono {W H : Nat} {l : List UInt8} {w w2 g g2 : Int} {k : Nat} (hw : w ≤ w2) (hg : g ≤ g2) (h : (duAt W H l w g k).toNat ≠ 0) : (duAt W H l w2 g2 k).toNat ≠ 0 := by
  unfold duAt at h ⊢
  split at h
  · rename_i hb
    obtain ⟨b, b1, b2, a, a1, a2, hp, hv⟩ := hb
    have hb2 : boxHit W H l w2 g2 ((k % W : Nat) : Int) ((k / W : Nat) : Int) (((k / W : Nat) : Int) + g2 + 1) := ⟨b, by omega, by omega, a, by omega, by omega, hp, by omega⟩
    rw [if_pos hb2]; decide
  · exact absurd rfl h
theorem duAt_self {W H : Nat} {l : List UInt8} {w g : Int} {k : Nat} (hW : 0 < W) (hl : l.length = W * H) (hk : k < W * H) (hg : 0 ≤ g) (h : ((l.getD k 0).toNat : Int) < w) : (duAt W H l w g k).toNat ≠ 0 := by
  unfold duAt
  have h1 := Nat.mod_lt k hW
  have h2 : k / W < H := (Nat.div_lt_iff_lt_mul hW).2 (by rw [Nat.mul_comm]; exact hk)
  have e : k / W * W + k % W = k := by rw [Nat.mul_comm]; exact Nat.div_add_mod k W
  have hp : pixB W H ((k % W : Nat) : Int) ((k / W : Nat) : Int) := by
    generalize k % W = a at *
    generalize k / W = b at *
    exact ⟨by omega, by omega, by omega, by omega⟩
  have hv : pixV W H l ((k % W : Nat) : Int) ((k / W : Nat) : Int) < w := by
    unfold pixV
    rw [if_pos hp, show (((k / W : Nat) : Int) * (W : Int) + ((k % W : Nat) : Int)) = ((k : Nat) : Int) by rw [← Int.natCast_mul, ← Int.natCast_add, e], Int.toNat_natCast]
    exact h
  generalize k % W = a at *
  generalize k / W = b at *
  rw [if_pos ⟨(b : Int), by omega, by omega, (a : Int), by omega, by omega, hp, hv⟩]
  decide

/-! how many pixels a class has -/
def cnt (Cs : List (Nat × List Nat)) (i k : Nat) : Nat := ((List.range i).filter fun p => (Cs.getD k (0, [])).2.contains p).length
theorem cnt_out {i k : Nat} {Cs : List (Nat × List Nat)} (h : i ∉ (Cs.getD k (0, [])).2) : cnt Cs (i + 1) k = cnt Cs i k := by
  unfold cnt
  rw [List.range_succ, List.filter_append, List.filter_cons_of_neg (by simpa using h), List.filter_nil, List.append_nil]
theorem cnt_in {i k : Nat} {Cs : List (Nat × List Nat)} (h : i ∈ (Cs.getD k (0, [])).2) : cnt Cs (i + 1) k = cnt Cs i k + 1 := by
  unfold cnt
  rw [List.range_succ, List.filter_append, List.filter_cons_of_pos (by simpa using h), List.filter_nil, List.length_append]
  rfl
theorem cnt_le (Cs : List (Nat × List Nat)) (i k : Nat) : cnt Cs i k ≤ i := by
  unfold cnt
  have := List.length_filter_le (fun p => (Cs.getD k (0, [])).2.contains p) (List.range i)
  rwa [List.length_range] at this
def sumC (f : Nat → Nat) : Nat → Nat
  | 0 => 0
  | n + 1 => sumC f n + f n
theorem sumC_congr {f g : Nat → Nat} : ∀ {n : Nat}, (∀ k, k < n → f k = g k) → sumC f n = sumC g n
  | 0, _ => rfl
  | n + 1, h => by simp only [sumC]; rw [sumC_congr (f := f) (g := g) (fun k hk => h k (by omega)), h n (by omega)]
theorem sumC_step {f g : Nat → Nat} {m : Nat} : ∀ {n : Nat}, m < n → g m = f m + 1 → (∀ k, k < n → k ≠ m → g k = f k) → sumC g n = sumC f n + 1
  | 0, h, _, _ => by omega
  | n + 1, hm, h1, h2 => by
    simp only [sumC]
    by_cases e : m = n
    · subst e
      rw [h1, sumC_congr (f := g) (g := f) (fun k hk => h2 k (by omega) (by omega))]; omega
    · rw [sumC_step (m := m) (f := f) (g := g) (by omega) h1 (fun k hk => h2 k (by omega)), h2 n (by omega) (by omega)]; omega
theorem sumC_mono {f : Nat → Nat} : ∀ {n m : Nat}, m ≤ n → sumC f m ≤ sumC f n
  | 0, m, h => by obtain rfl : m = 0 := by omega
                  exact Nat.le_refl _
  | n + 1, m, h => by
    by_cases e : m = n + 1
    · subst e; exact Nat.le_refl _
    · have := sumC_mono (f := f) (n := n) (m := m) (by omega)
      simp only [sumC]; omega

section
variable {W H N i m : Nat} {l : List UInt8} {Cs : List (Nat × List Nat)}
theorem CP.cnt_none (_h : CP W H l N Cs) (hn : labG Cs 0 i < 0) : (∀ k, k < Cs.length → cnt Cs (i + 1) k = cnt Cs i k) ∧ sumC (cnt Cs (i + 1)) Cs.length = sumC (cnt Cs i) Cs.length := by
  rw [labG_neg] at hn
  have h : ∀ k, k < Cs.length → cnt Cs (i + 1) k = cnt Cs i k := fun k hk => cnt_out (by rw [getD_eq hk]; exact hn _ (List.getElem_mem hk))
  exact ⟨h, sumC_congr h⟩
theorem CP.cnt_some (h : CP W H l N Cs) (hm : m < Cs.length) (hi : i ∈ (Cs.getD m (0, [])).2) : cnt Cs (i + 1) m = cnt Cs i m + 1 ∧ (∀ k, k < Cs.length → k ≠ m → cnt Cs (i + 1) k = cnt Cs i k) ∧ sumC (cnt Cs (i + 1)) Cs.length = sumC (cnt Cs i) Cs.length + 1 := by
  have h1 := cnt_in hi
  have h2 : ∀ k, k < Cs.length → k ≠ m → cnt Cs (i + 1) k = cnt Cs i k := fun k hk hne => cnt_out fun hc => hne (h.one hk hm hc hi)
  exact ⟨h1, h2, sumC_step hm h1 h2⟩
theorem CP.cnt_all (h : CP W H l (W * H) Cs) (hm : m < Cs.length) : (spotC W (Cs.getD m (0, []))).n = (cnt Cs (W * H) m : Nat) ∧ 0 < cnt Cs (W * H) m := by
  obtain ⟨a, b, d, f⟩ := h.at hm
  have key : ∀ (L : List Nat) (s : Spt), (L.foldl (Spt.add W) s).n = s.n + (L.length : Int) := by
    intro L
    induction L with
    | nil => intro s; simp
    | cons p L ih => intro s; simp only [List.foldl_cons, ih, Spt.add, List.length_cons]; omega
  have hp := perm_of (s := (List.range (W * H)).filter fun p => (Cs.getD m (0, [])).2.contains p) (List.nodup_range.filter _) a fun p => by
    rw [List.mem_filter]
    simp only [List.contains_eq_mem, decide_eq_true_eq, List.mem_range]
    exact ⟨fun h => h.2, fun h => ⟨(f p h).2, h⟩⟩
  have hc : cnt Cs (W * H) m = (Cs.getD m (0, [])).2.length := hp.length_eq
  have h0 : (s0 W (Cs.getD m (0, [])).1).n = 0 := rfl
  refine ⟨by unfold spotC; rw [key, h0, hc]; omega, ?_⟩
  rw [hc]
  exact List.length_pos_of_mem b
theorem spot_area {c : Nat × List Nat} {p : Nat} (hp : p ∈ c.2) : (spotC W c).x1 ≤ ((p % W : Nat) : Int) ∧ ((p % W : Nat) : Int) ≤ (spotC W c).x2 ∧ (spotC W c).y1 ≤ ((p / W : Nat) : Int) ∧ ((p / W : Nat) : Int) ≤ (spotC W c).y2 := by
  have le : ∀ (L : List Nat) (s : Spt), (L.foldl (Spt.add W) s).x1 ≤ s.x1 ∧ s.x2 ≤ (L.foldl (Spt.add W) s).x2 ∧ (L.foldl (Spt.add W) s).y1 ≤ s.y1 ∧ s.y2 ≤ (L.foldl (Spt.add W) s).y2 := by
    intro L
    induction L with
    | nil => intro s; exact ⟨Int.le_refl _, Int.le_refl _, Int.le_refl _, Int.le_refl _⟩
    | cons q L ih =>
      intro s
      have := ih (s.add W q)
      simp only [List.foldl_cons]
      simp only [Spt.add] at this ⊢
      generalize ((q % W : Nat) : Int) = a at *
      generalize ((q / W : Nat) : Int) = b at *
      omega
  have key : ∀ (L : List Nat) (s : Spt), p ∈ L → (L.foldl (Spt.add W) s).x1 ≤ ((p % W : Nat) : Int) ∧ ((p % W : Nat) : Int) ≤ (L.foldl (Spt.add W) s).x2 ∧ (L.foldl (Spt.add W) s).y1 ≤ ((p / W : Nat) : Int) ∧ ((p / W : Nat) : Int) ≤ (L.foldl (Spt.add W) s).y2 := by
    intro L
    induction L with
    | nil => intro s h; cases h
    | cons q L ih =>
      intro s h
      simp only [List.foldl_cons]
      rcases List.mem_cons.1 h with rfl | h
      · have h1 := le L (s.add W p)
        generalize hF : List.foldl (Spt.add W) (s.add W p) L = F at *
        simp only [Spt.add] at h1
        generalize ((p % W : Nat) : Int) = a at *
        generalize ((p / W : Nat) : Int) = b at *
        omega
      · exact ih _ h
  exact key _ _ hp
/-- the spots, by class. -/
theorem CP.spot (h : CP W H l N Cs) (hm : m < Cs.length) (hs : m < (spS W H l N).2.length) : (spS W H l N).2[m] = spotC W (Cs.getD m (0, [])) := by
  have e := h.spots
  simp only [e, List.getElem_map]
  rw [getD_eq hm]
theorem CP.many (h : CP W H l N Cs) : (spS W H l N).2.length = Cs.length := by rw [h.spots, List.length_map]
end

/-! what was seen -/
theorem acc_set {f g : Nat → Int} {n m : Nat} (h : m < n) (h1 : g m = f m + 1) (h2 : ∀ k, k < n → k ≠ m → g k = f k) : (acc f n).set m (f m + 1) = acc g n := by
  refine List.ext_getElem (by simp [acc]) fun j h3 h4 => ?_
  rw [List.getElem_set]
  simp only [acc, List.getElem_map, List.getElem_range]
  have hj : j < n := by simpa [acc] using h4
  by_cases e : m = j
  · subst e; rw [if_pos rfl, h1]
  · rw [if_neg e, h2 j hj (fun e2 => e e2.symm)]
theorem acc_congr {f g : Nat → Int} {n : Nat} (h : ∀ k, k < n → f k = g k) : acc f n = acc g n := by
  refine List.ext_getElem (by simp [acc]) fun j h3 h4 => ?_
  simp only [acc, List.getElem_map, List.getElem_range]
  exact h j (by simpa [acc] using h4)
theorem acc_at {f : Nat → Int} {n k : Nat} (h : k < n) : gI (acc f n) k = f k := by
  rw [gI_get (by rw [acc_length]; exact h)]; simp [acc]

end Go.Dr.T
