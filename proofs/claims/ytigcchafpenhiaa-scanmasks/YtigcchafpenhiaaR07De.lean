/- Chapter 07: classes and their numbers; the spots of both are the same. No program in sight. -/
import Derived.Test.YtigcchafpenhiaaR07Dd
namespace Go.Dr.T

section
variable {W H : Nat} {l : List UInt8}

theorem mem_nb {p q : Nat} (hW : 0 < W) : q ∈ nb W H p ↔ p < W * H ∧ q < W * H ∧ (q % W ≤ p % W + 1 ∧ p % W ≤ q % W + 1) ∧ (q / W ≤ p / W + 1 ∧ p / W ≤ q / W + 1) := by
  have hmod := Nat.mod_lt q hW
  have hmodp := Nat.mod_lt p hW
  have hq := Nat.div_add_mod q W
  have e : ((q / W : Nat) : Int) * (W : Int) + ((q % W : Nat) : Int) = ((q : Nat) : Int) := by
    rw [← Int.natCast_mul, ← Int.natCast_add, Nat.mul_comm, hq]
  have hdiv : q / W < H ↔ q < W * H := by rw [Nat.div_lt_iff_lt_mul hW, Nat.mul_comm]
  unfold nb
  split
  · rename_i hp
    rw [List.mem_filterMap]
    constructor
    · rintro ⟨⟨a, b⟩, h1, h2⟩
      unfold placeOf at h2
      split at h2
      · rename_i hc
        simp only [Option.some.injEq] at h2
        dsimp only at hc h2
        obtain ⟨A, rfl⟩ := Int.eq_ofNat_of_zero_le hc.1
        obtain ⟨B, rfl⟩ := Int.eq_ofNat_of_zero_le hc.2.2.1
        have hA : A < W := by omega
        have hB : B < H := by omega
        rw [show ((B : Int) * (W : Int) + (A : Int)) = ((B * W + A : Nat) : Int) by push_cast; rfl, Int.toNat_natCast] at h2
        subst h2
        obtain ⟨e1, e2⟩ := place_div (y := B) hA
        rw [e1, e2]
        refine ⟨hp, place_lt hA hB, ?_⟩
        simp only [nine, List.mem_cons, Prod.mk.injEq, List.not_mem_nil, or_false] at h1
        omega
      · cases h2
    · rintro ⟨_, h2, h3, h4⟩
      refine ⟨(((q % W : Nat) : Int), ((q / W : Nat) : Int)), ?_, ?_⟩
      · simp only [nine, List.mem_cons, Prod.mk.injEq, List.not_mem_nil, or_false]
        generalize q % W = a1 at *
        generalize q / W = a2 at *
        generalize p % W = a3 at *
        generalize p / W = a4 at *
        omega
      · unfold placeOf
        rw [if_pos ⟨Int.natCast_nonneg _, Int.ofNat_lt.2 hmod, Int.natCast_nonneg _, Int.ofNat_lt.2 (hdiv.2 h2)⟩]
        dsimp only
        rw [e, Int.toNat_natCast]
  · rename_i hp
    constructor
    · intro h; simp at h
    · rintro ⟨h, _⟩; exact absurd h hp
theorem nb_symm (hW : 0 < W) (p q : Nat) (h : q ∈ nb W H p) : p ∈ nb W H q := by
  rw [mem_nb hW] at h ⊢
  obtain ⟨a, b, ⟨c, d⟩, e, f⟩ := h
  exact ⟨b, a, ⟨d, c⟩, f, e⟩

theorem Spt.add_comm (s : Spt) (i j : Nat) : (s.add W i).add W j = (s.add W j).add W i := by
  unfold Spt.add
  dsimp only
  generalize ((i % W : Nat) : Int) = a
  generalize ((j % W : Nat) : Int) = b
  generalize ((i / W : Nat) : Int) = c
  generalize ((j / W : Nat) : Int) = d
  have h1 : ∀ x y z : Int, min (min x y) z = min (min x z) y := fun x y z => by omega
  have h2 : ∀ x y z : Int, max (max x y) z = max (max x z) y := fun x y z => by omega
  rw [h1 s.x1, h2 s.x2, h1 s.y1, h2 s.y2]
theorem fold_perm {a b : List Nat} (h : a.Perm b) (s : Spt) : a.foldl (Spt.add W) s = b.foldl (Spt.add W) s := by
  induction h generalizing s with
  | nil => rfl
  | cons x _ ih => simp only [List.foldl_cons, ih]
  | swap x y l => simp only [List.foldl_cons, Spt.add_comm]
  | trans _ _ ih1 ih2 => rw [ih1, ih2]

def spotC (W : Nat) (c : Nat × List Nat) : Spt := c.2.foldl (Spt.add W) (s0 W c.1)
/-- Classes, behind i pixels. -/
structure CP (W H : Nat) (l : List UInt8) (i : Nat) (Cs : List (Nat × List Nat)) : Prop where
  spots : (spS W H l i).2 = Cs.map (spotC W)
  vis : ∀ p, p ∈ (spS W H l i).1 ↔ ∃ c ∈ Cs, p ∈ c.2
  closed : ∀ p ∈ (spS W H l i).1, ∀ q ∈ nb W H p, dark l q = true → q ∈ (spS W H l i).1
  all : ∀ j, j < i → dark l j = true → j ∈ (spS W H l i).1
  cls : ∀ c ∈ Cs, c.2.Nodup ∧ c.1 ∈ c.2 ∧ c.1 < i ∧ ∀ p ∈ c.2, c.1 ≤ p ∧ p < W * H
  sorted : Cs.Pairwise fun a b => a.1 < b.1
  disj : Cs.Pairwise fun a b => ∀ p ∈ a.2, p ∉ b.2
theorem CP.zero : CP W H l 0 [] := ⟨rfl, by simp [spS], by simp [spS], by simp, by simp, .nil, .nil⟩
theorem CP.skip {i : Nat} {Cs : List (Nat × List Nat)} (h : CP W H l i Cs) (hn : ¬ (dark l i = true ∧ i ∉ (spS W H l i).1)) : CP W H l (i + 1) Cs := by
  have e : spS W H l (i + 1) = spS W H l i := by simp only [spS]; rw [if_neg hn]
  refine ⟨by rw [e]; exact h.spots, by rw [e]; exact h.vis, by rw [e]; exact h.closed, ?_, ?_, h.sorted, h.disj⟩
  · intro j hj hd
    rw [e]
    by_cases hji : j = i
    · subst hji; exact Classical.byContradiction fun hv => hn ⟨hd, hv⟩
    · exact h.all j (by omega) hd
  · intro c hc
    obtain ⟨a, b, d, f⟩ := h.cls c hc
    exact ⟨a, b, by omega, f⟩
theorem CP.add {i : Nat} {Cs : List (Nat × List Nat)} {v : List Nat} (hl : l.length = W * H) (hN : W * H ≤ 2304) (hW : 0 < W) (h : CP W H l i Cs) (hi : dark l i = true) (hv : i ∉ (spS W H l i).1) (hvn : v.Nodup) (hvc : ∀ p, p ∈ v ↔ Cn (nb W H) (dark l) i p) : CP W H l (i + 1) (Cs ++ [(i, v)]) := by
  have hroom := (spS_room (W := W) (H := H) hl i).1
  obtain ⟨t, e, t1, t2, t3, t4⟩ := dfs_comp (nb := nb W H) (μ := dark l) (N := W * H) (fun p hp => hl ▸ dark_lt hp) (nb_symm hW) (n := 2305) (i := i) (vis := (spS W H l i).1) (by omega) hi hv h.closed
  have hmem : ∀ p, p ∈ t ↔ p ∈ v := fun p => (t2 p).trans (hvc p).symm
  have hperm := perm_of t1 hvn hmem
  have e1 : spS W H l (i + 1) = ((spS W H l i).1 ++ t, (spS W H l i).2 ++ [spotC W (i, v)]) := by
    simp only [spS]
    rw [if_pos ⟨hi, hv⟩, e]
    congr 2
    simp only [sF, List.drop_left, spotC, fold_perm hperm]
  refine ⟨?_, ?_, ?_, ?_, ?_, ?_, ?_⟩
  · rw [e1]; dsimp only; rw [h.spots]; simp
  · intro p
    rw [e1]; dsimp only
    rw [List.mem_append, h.vis p]
    constructor
    · rintro (⟨c, hc, hp⟩ | hp)
      · exact ⟨c, by simp [hc], hp⟩
      · exact ⟨(i, v), by simp, (hmem p).1 hp⟩
    · rintro ⟨c, hc, hp⟩
      rcases List.mem_append.1 hc with hc | hc
      · exact .inl ⟨c, hc, hp⟩
      · rw [List.mem_singleton] at hc; subst hc; exact .inr ((hmem p).2 hp)
  · rw [e1]; exact t4
  · intro j hj hd
    rw [e1]; dsimp only
    by_cases hji : j = i
    · subst hji; exact List.mem_append_right _ ((t2 j).2 (.refl j))
    · exact List.mem_append_left _ (h.all j (by omega) hd)
  · intro c hc
    rcases List.mem_append.1 hc with hc | hc
    · obtain ⟨a, b, d, f⟩ := h.cls c hc; exact ⟨a, b, by omega, f⟩
    · rw [List.mem_singleton] at hc; subst hc
      refine ⟨hvn, (hvc i).2 (.refl i), Nat.lt_succ_self i, fun p hp => ?_⟩
      obtain ⟨q1, q2⟩ := t3 p ((hmem p).2 hp)
      refine ⟨?_, hl ▸ dark_lt q1⟩
      exact Classical.byContradiction fun hlt => q2 (h.all p (by omega) q1)
  · rw [List.pairwise_append]
    refine ⟨h.sorted, by simp, fun a ha b hb => ?_⟩
    rw [List.mem_singleton] at hb; subst hb
    exact (h.cls a ha).2.2.1
  · rw [List.pairwise_append]
    refine ⟨h.disj, by simp, fun a ha b hb p hp => ?_⟩
    rw [List.mem_singleton] at hb; subst hb
    intro hpv
    exact (t3 p ((hmem p).2 hpv)).2 ((h.vis p).2 ⟨a, ha, hp⟩)
end

/-! numbers of classes -/
def labG : List (Nat × List Nat) → Nat → Nat → Int
  | [], _, _ => -1
  | c :: Cs, k, j => if j ∈ c.2 then (k : Int) else labG Cs (k + 1) j
theorem labG_snoc {c : Nat × List Nat} {j : Nat} : ∀ {Cs : List (Nat × List Nat)} {k : Nat}, labG (Cs ++ [c]) k j = if labG Cs k j < 0 then (if j ∈ c.2 then ((k + Cs.length : Nat) : Int) else -1) else labG Cs k j
  | [], k => by simp [labG]
  | d :: Cs, k => by
    by_cases h : j ∈ d.2
    · have e1 : labG (d :: Cs) k j = (k : Int) := by simp only [labG]; rw [if_pos h]
      have e2 : labG (d :: Cs ++ [c]) k j = (k : Int) := by simp only [List.cons_append, labG]; rw [if_pos h]
      rw [e2, if_neg (by omega), e1]
    · have e1 : labG (d :: Cs) k j = labG Cs (k + 1) j := by simp only [labG]; rw [if_neg h]
      have e2 : labG (d :: Cs ++ [c]) k j = labG (Cs ++ [c]) (k + 1) j := by simp only [List.cons_append, labG]; rw [if_neg h]
      rw [e2, labG_snoc (Cs := Cs)]
      simp only [e1]
      rw [show k + 1 + Cs.length = k + (d :: Cs).length by simp; omega]
theorem labG_neg {j : Nat} : ∀ {Cs : List (Nat × List Nat)} {k : Nat}, labG Cs k j < 0 ↔ ∀ c ∈ Cs, j ∉ c.2
  | [], k => by simp [labG]
  | d :: Cs, k => by
    simp only [labG]
    by_cases h : j ∈ d.2
    · rw [if_pos h]
      constructor
      · intro h'; omega
      · intro h'; exact absurd h (h' d (by simp))
    · rw [if_neg h, labG_neg (Cs := Cs)]
      constructor
      · intro h' c hc
        rcases List.mem_cons.1 hc with rfl | hc
        · exact h
        · exact h' c hc
      · intro h' c hc; exact h' c (by simp [hc])
theorem labG_inv {j : Nat} : ∀ {Cs : List (Nat × List Nat)} {k : Nat}, ¬ labG Cs k j < 0 → ∃ m, ∃ hm : m < Cs.length, labG Cs k j = ((k + m : Nat) : Int) ∧ j ∈ Cs[m].2
  | [], k, h => by simp [labG] at h
  | d :: Cs, k, h => by
    simp only [labG] at h ⊢
    by_cases hd : j ∈ d.2
    · rw [if_pos hd]; exact ⟨0, by simp, by simp, hd⟩
    · rw [if_neg hd] at h ⊢
      obtain ⟨m, hm, e, hj⟩ := labG_inv h
      exact ⟨m + 1, by simpa using hm, by rw [e]; omega, by simpa using hj⟩
theorem labG_le {j : Nat} : ∀ {Cs : List (Nat × List Nat)} {k : Nat}, -1 ≤ labG Cs k j ∧ labG Cs k j ≤ ((k + Cs.length : Nat) : Int)
  | [], k => by simp [labG]
  | d :: Cs, k => by
    have := labG_le (j := j) (Cs := Cs) (k := k + 1)
    simp only [labG, List.length_cons]
    split <;> omega

/-! the scan -/
def fS (W : Nat) (Cs : List (Nat × List Nat)) (i k : Nat) : Spt := ((List.range i).filter fun p => (Cs.getD k (0, [])).2.contains p).foldl (Spt.add W) (s0 W (Cs.getD k (0, [])).1)
def outS (W : Nat) (Cs : List (Nat × List Nat)) (i K : Nat) : List Spt := (List.range K).map (fS W Cs i)
def Sc (Cs : List (Nat × List Nat)) (i K : Nat) : Prop := K ≤ Cs.length ∧ ∀ k, k < Cs.length → (k < K ↔ (Cs.getD k (0, [])).1 < i)
theorem fS_out {W i k : Nat} {Cs : List (Nat × List Nat)} (h : i ∉ (Cs.getD k (0, [])).2) : fS W Cs (i + 1) k = fS W Cs i k := by
  unfold fS
  rw [List.range_succ, List.filter_append, List.filter_cons_of_neg (by simpa using h), List.filter_nil, List.append_nil]
theorem fS_in {W i k : Nat} {Cs : List (Nat × List Nat)} (h : i ∈ (Cs.getD k (0, [])).2) : fS W Cs (i + 1) k = (fS W Cs i k).add W i := by
  unfold fS
  rw [List.range_succ, List.filter_append, List.foldl_append, List.filter_cons_of_pos (by simpa using h), List.filter_nil]
  rfl
section
variable {W H N : Nat} {l : List UInt8} {Cs : List (Nat × List Nat)}
theorem getD_eq {k : Nat} (hk : k < Cs.length) : Cs.getD k (0, []) = Cs[k] := by rw [List.getD_eq_getElem?_getD, List.getElem?_eq_getElem hk]; rfl
theorem CP.at (h : CP W H l N Cs) {k : Nat} (hk : k < Cs.length) : (Cs.getD k (0, [])).2.Nodup ∧ (Cs.getD k (0, [])).1 ∈ (Cs.getD k (0, [])).2 ∧ (Cs.getD k (0, [])).1 < N ∧ ∀ p ∈ (Cs.getD k (0, [])).2, (Cs.getD k (0, [])).1 ≤ p ∧ p < W * H := by
  rw [getD_eq hk]; exact h.cls _ (List.getElem_mem hk)
theorem CP.one (h : CP W H l N Cs) {k m p : Nat} (hk : k < Cs.length) (hm : m < Cs.length) (h1 : p ∈ (Cs.getD k (0, [])).2) (h2 : p ∈ (Cs.getD m (0, [])).2) : k = m := by
  rw [getD_eq hk] at h1
  rw [getD_eq hm] at h2
  rcases Nat.lt_trichotomy k m with hlt | he | hlt
  · exact absurd h2 (List.pairwise_iff_getElem.1 h.disj k m hk hm hlt p h1)
  · exact he
  · exact absurd h1 (List.pairwise_iff_getElem.1 h.disj m k hm hk hlt p h2)
theorem CP.mono (h : CP W H l N Cs) {k m : Nat} (hk : k < m) (hm : m < Cs.length) : (Cs.getD k (0, [])).1 < (Cs.getD m (0, [])).1 := by
  rw [getD_eq (by omega), getD_eq hm]
  exact List.pairwise_iff_getElem.1 h.sorted k m (by omega) hm hk
theorem outS_length (i K : Nat) : (outS W Cs i K).length = K := by simp [outS]
theorem Sc.zero : Sc Cs 0 0 := ⟨Nat.zero_le _, fun k _ => by omega⟩
theorem Sc.none (h : CP W H l N Cs) {i K : Nat} (hs : Sc Cs i K) (hn : labG Cs 0 i < 0) : Sc Cs (i + 1) K ∧ outS W Cs (i + 1) K = outS W Cs i K := by
  rw [labG_neg] at hn
  have hno : ∀ k, k < Cs.length → i ∉ (Cs.getD k (0, [])).2 := fun k hk => by rw [getD_eq hk]; exact hn _ (List.getElem_mem hk)
  refine ⟨⟨hs.1, fun k hk => ?_⟩, ?_⟩
  · rw [hs.2 k hk]
    have h1 := (h.at hk).2.1
    have : (Cs.getD k (0, [])).1 ≠ i := fun e => hno k hk (e ▸ h1)
    omega
  · unfold outS
    refine List.map_congr_left fun k hk => ?_
    exact fS_out (hno k (Nat.lt_of_lt_of_le (List.mem_range.1 hk) hs.1))
theorem Sc.first (h : CP W H l N Cs) {i K m : Nat} (hs : Sc Cs i K) (hm : m < Cs.length) (hi : i ∈ (Cs.getD m (0, [])).2) : m ≤ K ∧ (m = K → fS W Cs i K = s0 W i ∧ Sc Cs (i + 1) (K + 1)) ∧ (m < K → Sc Cs (i + 1) K) := by
  have hst := (h.at hm).2.2.2 i hi
  have hle : m ≤ K := by
    refine Classical.byContradiction fun hlt => ?_
    have hK : K < Cs.length := by omega
    have h1 := (hs.2 K hK)
    have h2 := h.mono (show K < m by omega) hm
    omega
  refine ⟨hle, fun e => ?_, fun hlt => ?_⟩
  · subst e
    have h1 := hs.2 m hm
    have he : (Cs.getD m (0, [])).1 = i := by omega
    refine ⟨?_, ⟨by omega, fun k hk => ?_⟩⟩
    · unfold fS
      rw [he, List.filter_eq_nil_iff.2]
      · rfl
      · intro p hp
        have hpi := List.mem_range.1 hp
        simp only [List.contains_eq_mem, decide_eq_true_eq]
        intro hc
        have := ((h.at hm).2.2.2 p hc).1
        omega
    · rcases Nat.lt_trichotomy k m with hlt | he2 | hlt
      · have := hs.2 k hk; omega
      · subst he2; omega
      · have := h.mono hlt hk; omega
  · refine ⟨hs.1, fun k hk => ?_⟩
    rw [hs.2 k hk]
    constructor
    · intro h1; omega
    · intro h1
      have : (Cs.getD k (0, [])).1 ≠ i := by
        intro e
        have h2 := (h.at hk).2.1
        rw [e] at h2
        have := h.one hk hm h2 hi
        subst this
        have := (hs.2 k hk).1 hlt
        omega
      omega
theorem outS_next (h : CP W H l N Cs) {i K m : Nat} (hK : K ≤ Cs.length) (hm : m < Cs.length) (hi : i ∈ (Cs.getD m (0, [])).2) (hmK : m < K) : outS W Cs (i + 1) K = (outS W Cs i K).set m ((fS W Cs i m).add W i) := by
  refine List.ext_getElem (by simp [outS]) fun k h1 h2 => ?_
  rw [outS_length] at h1
  rw [List.getElem_set]
  simp only [outS, List.getElem_map, List.getElem_range]
  by_cases e : m = k
  · subst e; rw [if_pos rfl, fS_in hi]
  · rw [if_neg e, fS_out]
    intro hc
    exact e (h.one hm (by omega) hi hc)
theorem outS_new {i K : Nat} : outS W Cs i (K + 1) = outS W Cs i K ++ [fS W Cs i K] := by
  simp [outS, List.range_succ]
/-- the upper edge of a spot does not move. -/
theorem fS_y1 (h : CP W H l N Cs) {i m : Nat} (hm : m < Cs.length) : (fS W Cs i m).y1 = (((Cs.getD m (0, [])).1 / W : Nat) : Int) := by
  have key : ∀ (L : List Nat) (s : Spt) (a : Nat), s.y1 = ((a / W : Nat) : Int) → (∀ p ∈ L, a ≤ p) → (L.foldl (Spt.add W) s).y1 = ((a / W : Nat) : Int) := by
    intro L
    induction L with
    | nil => intro s a hs _; exact hs
    | cons p L ih =>
      intro s a hs hp
      refine ih _ a ?_ fun q hq => hp q (by simp [hq])
      have := Nat.div_le_div_right (c := W) (hp p (by simp))
      simp only [Spt.add, hs]
      omega
  refine key _ _ _ rfl fun p hp => ?_
  have := (List.mem_filter.1 hp).2
  simp only [List.contains_eq_mem, decide_eq_true_eq] at this
  exact ((h.at hm).2.2.2 p this).1
theorem fS_n (i m : Nat) : 0 ≤ (fS W Cs i m).n ∧ (fS W Cs i m).n ≤ (i : Int) := by
  have key : ∀ (L : List Nat) (s : Spt), (L.foldl (Spt.add W) s).n = s.n + (L.length : Int) := by
    intro L
    induction L with
    | nil => intro s; simp
    | cons p L ih => intro s; simp only [List.foldl_cons, ih, Spt.add, List.length_cons]; omega
  have h0 : (s0 W (Cs.getD m (0, [])).1).n = 0 := rfl
  unfold fS
  rw [key, h0]
  have := List.length_filter_le (fun p => (Cs.getD m (0, [])).2.contains p) (List.range i)
  rw [List.length_range] at this
  omega
theorem outS_all (h : CP W H l (W * H) Cs) {K : Nat} (hs : Sc Cs (W * H) K) : outS W Cs (W * H) K = (spS W H l (W * H)).2 := by
  have hK : K = Cs.length := by
    have h1 := hs.1
    refine Classical.byContradiction fun hne => ?_
    have hlt : K < Cs.length := by omega
    have := hs.2 K hlt
    have := (h.at hlt).2.2.1
    omega
  subst hK
  rw [h.spots]
  refine List.ext_getElem (by simp [outS]) fun k h1 h2 => ?_
  rw [outS_length] at h1
  simp only [outS, List.getElem_map, List.getElem_range]
  obtain ⟨a, b, d, f⟩ := h.at h1
  rw [← getD_eq h1]
  unfold fS spotC
  refine fold_perm (perm_of (List.nodup_range.filter _) a fun p => ?_) _
  rw [List.mem_filter]
  simp only [List.contains_eq_mem, decide_eq_true_eq, List.mem_range]
  exact ⟨fun h => h.2, fun h => ⟨(f p h).2, h⟩⟩
end

end Go.Dr.T
