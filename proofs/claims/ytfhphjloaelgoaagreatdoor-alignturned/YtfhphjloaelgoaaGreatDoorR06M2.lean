/- Chapter 06: AlignMore: the sum of the Frames; the errors with a further shot. -/
import Derived.Test.YtfhphjloaelgoaaGreatDoorR06M1
namespace Go.Dr.T
theorem shC_append : ∀ {l m : List (Int × Int)}, shC (l ++ m) = shC l ++ shC m
  | [], m => rfl
  | p :: l, m => by simp only [List.cons_append, shC, shC_append (l := l)]
theorem views_sh {h : List B} {d : Nat} : ∀ l : List (Int × Int), VwL h (d + 1) (shC l) (shC l)
  | [] => VwL.nil
  | _ :: l => VwL.cons (Vw.int rfl) (VwL.cons (Vw.int rfl) (views_sh l))
theorem scalars_sh : ∀ l : List (Int × Int), scalars (shC l) = true
  | [] => rfl
  | _ :: l => by simp only [shC, scalars, V.scalar, Bool.true_and]; exact scalars_sh l
theorem ckF_val {l : List (Int × Int)} {e : Int} (he : e ≠ 0) : ∀ k i, (∀ j, i ≤ j → j < i + k → eF l j = 0 ∨ eF l j = e) → ((ckF l i k).2 = 0 ∧ ∀ j, i ≤ j → j < i + k → eF l j = 0) ∨ ((ckF l i k).2 = e ∧ ∃ j, i ≤ j ∧ j < i + k ∧ eF l j = e) := by
  intro k
  induction k with
  | zero => intro i _; exact .inl ⟨rfl, fun j h1 h2 => by omega⟩
  | succ k ih =>
    intro i h
    unfold ckF
    rcases h i (Nat.le_refl _) (by omega) with h0 | h0
    · rw [if_neg (by simp [h0])]
      rcases ih (i + 1) (fun j h1 h2 => h j (by omega) (by omega)) with ⟨h1, h2⟩ | ⟨h1, j, h2, h3, h4⟩
      · refine .inl ⟨h1, fun j h3 h4 => ?_⟩
        by_cases hj : j = i
        · subst hj; exact h0
        · exact h2 j (by omega) (by omega)
      · exact .inr ⟨h1, j, by omega, by omega, h4⟩
    · rw [if_pos (by rw [h0]; exact he)]
      exact .inr ⟨h0, i, Nat.le_refl _, by omega, h0⟩
theorem eF_ok {nm : List UInt8} {l : List (Int × Int)} {g : Int} (h : (ckE nm l g).2 = 0) {j : Nat} (hj : j < l.length) : eF l j = 0 := by
  obtain ⟨_, _, _, _, h2⟩ := ck_good h
  obtain ⟨a, b, c, d, e⟩ := h2 j l[j] (List.getElem?_eq_getElem hj)
  unfold eF
  rw [List.getElem?_eq_getElem hj]
  dsimp only
  rw [if_neg (by simp only [outB, Bool.or_eq_true, decide_eq_true_eq]; omega), if_neg (fun q => e (by omega) q.2)]
def outP (p : Int × Int) : Bool := outB p.1 0 999 || outB p.2 1 200000
theorem eF_cons0 {l : List (Int × Int)} {p : Int × Int} : eF (p :: l) 0 = if outP p = true then 7 else 0 := by
  unfold eF outP
  simp
theorem eF_consS {l : List (Int × Int)} {p : Int × Int} {j : Nat} (hj : j < l.length) (h : eF l j = 0) : eF (p :: l) (j + 1) = if 0 < l[j].1 ∧ l[j].1 = p.1 then 5 else 0 := by
  unfold eF at h ⊢
  rw [List.getElem?_eq_getElem hj] at h
  rw [List.getElem?_cons_succ, List.getElem?_eq_getElem hj]
  dsimp only at h ⊢
  split at h
  · cases h
  · rename_i h1
    rw [if_neg h1]
    split at h
    · cases h
    · rename_i h2
      rw [List.take_succ_cons, List.map_cons]
      by_cases hc : 0 < l[j].1 ∧ l[j].1 = p.1
      · rw [if_pos hc, if_pos ⟨hc.1, by rw [hc.2]; simp⟩]
      · rw [if_neg hc, if_neg]
        rintro ⟨h3, h4⟩
        rcases List.mem_cons.1 h4 with h5 | h5
        · exact hc ⟨h3, h5⟩
        · exact h2 ⟨h3, h5⟩
theorem eF_app {l : List (Int × Int)} {p : Int × Int} {j : Nat} (hj : j < l.length) : eF (l ++ [p]) j = eF l j := by
  unfold eF
  rw [List.getElem?_append_left hj, List.take_append_of_le_length (by omega)]
theorem eF_last {l : List (Int × Int)} {p : Int × Int} : eF (l ++ [p]) l.length = if outP p = true then 7 else if 0 < p.1 ∧ p.1 ∈ l.map (·.1) then 5 else 0 := by
  unfold eF outP
  rw [List.getElem?_append_right (Nat.le_refl _), Nat.sub_self, List.take_left]
  rfl
theorem ck_both {nm : List UInt8} {l : List (Int × Int)} {g : Int} {p : Int × Int} (h : (ckE nm l g).2 = 0) : (ckE nm (p :: l) g).2 = (ckE nm (l ++ [p]) g).2 := by
  obtain ⟨h1, h2, h3, h4, h5⟩ := ck_good h
  have hall : ∀ j, j < l.length → eF l j = 0 := fun j hj => eF_ok h hj
  unfold ckE
  have hn : ¬ nmOk nm = false := by simp [h1]
  have hg : ¬ outB g 0 9 = true := by simp only [outB, Bool.or_eq_true, decide_eq_true_eq]; omega
  rw [if_neg hn, if_neg hn, if_neg hg, if_neg hg]
  have hlen : (l ++ [p]).length = (p :: l).length := by simp
  rw [hlen]
  split
  · rfl
  cases hp : outP p with
  | true =>
    have e1 : (ckF (p :: l) 0 (p :: l).length).2 = 7 := by
      have := ckF_err (l := p :: l) (i := 0) (by simp) (by rw [eF_cons0, hp]; decide)
      rw [Nat.sub_zero] at this
      rw [this, eF_cons0, hp]; rfl
    rw [e1]
    rcases ckF_val (l := l ++ [p]) (e := 7) (by decide) (p :: l).length 0 (fun j _ hj => by
      by_cases hj' : j < l.length
      · rw [eF_app hj']; exact .inl (hall j hj')
      · have : j = l.length := by simp at hj; omega
        subst this
        rw [eF_last, hp]; exact .inr rfl) with ⟨_, h6⟩ | ⟨h6, _⟩
    · have := h6 l.length (Nat.zero_le _) (by simp)
      rw [eF_last, hp] at this
      cases this
    · rw [h6]
  | false =>
    have c1 : ∀ j, 0 ≤ j → j < 0 + (p :: l).length → eF (p :: l) j = 0 ∨ eF (p :: l) j = 5 := by
      intro j _ hj
      cases j with
      | zero => rw [eF_cons0, hp]; exact .inl rfl
      | succ j =>
        rw [eF_consS (by simpa using hj) (hall j (by simpa using hj))]
        split
        · exact .inr rfl
        · exact .inl rfl
    have c2 : ∀ j, 0 ≤ j → j < 0 + (p :: l).length → eF (l ++ [p]) j = 0 ∨ eF (l ++ [p]) j = 5 := by
      intro j _ hj
      by_cases hj' : j < l.length
      · rw [eF_app hj']; exact .inl (hall j hj')
      · have : j = l.length := by simp at hj; omega
        subst this
        rw [eF_last, hp]
        simp only [Bool.false_eq_true, if_false]
        split
        · exact .inr rfl
        · exact .inl rfl
    rcases ckF_val (e := 5) (by decide) _ _ c1 with ⟨a1, a2⟩ | ⟨a1, j, a2, a3, a4⟩
    · rcases ckF_val (e := 5) (by decide) _ _ c2 with ⟨b1, b2⟩ | ⟨b1, j, b2, b3, b4⟩
      · rw [a1, b1]
      · exfalso
        by_cases hj' : j < l.length
        · rw [eF_app hj', hall j hj'] at b4; cases b4
        · have : j = l.length := by simp at b3; omega
          subst this
          rw [eF_last, hp] at b4
          simp only [Bool.false_eq_true, if_false] at b4
          split at b4
          · rename_i hc
            obtain ⟨q, hq, hqe⟩ := List.mem_map.1 hc.2
            obtain ⟨i, hi, rfl⟩ := List.getElem_of_mem hq
            have := a2 (i + 1) (Nat.zero_le _) (by simp; omega)
            rw [eF_consS hi (hall i hi), if_pos ⟨by rw [hqe]; exact hc.1, hqe⟩] at this
            cases this
          · cases b4
    · rcases ckF_val (e := 5) (by decide) _ _ c2 with ⟨b1, b2⟩ | ⟨b1, _⟩
      · exfalso
        cases j with
        | zero => rw [eF_cons0, hp] at a4; cases a4
        | succ j =>
          have hj : j < l.length := by simpa using a3
          rw [eF_consS hj (hall j hj)] at a4
          split at a4
          · rename_i hc
            have := b2 l.length (Nat.zero_le _) (by simp)
            rw [eF_last, hp] at this
            simp only [Bool.false_eq_true, if_false] at this
            rw [if_pos ⟨by rw [← hc.2]; exact hc.1, by rw [← hc.2]; exact List.mem_map.2 ⟨_, List.getElem_mem hj, rfl⟩⟩] at this
            cases this
          · cases a4
      · rw [a1, b1]
theorem ckd_two {x y : El} : ckd [x, y] = if x.e ≠ 0 then x.e else if y.e ≠ 0 then y.e else 0 := rfl
theorem openE_0 {x y : El} {s : Int} (h : openE x y s = 0) : x.e = 0 ∧ y.e = 0 ∧ 0 ≤ s ∧ s ≤ 200000 := by
  have h3 := (open_good h).2.2
  unfold openE at h
  rw [ckd_two] at h
  by_cases hx : x.e = 0
  · by_cases hy : y.e = 0
    · exact ⟨hx, hy, h3⟩
    · have e : (if x.e ≠ 0 then x.e else if y.e ≠ 0 then y.e else 0) = y.e := by rw [if_neg (by simp [hx]), if_pos hy]
      rw [e, if_pos hy] at h; exact absurd h hy
  · have e : (if x.e ≠ 0 then x.e else if y.e ≠ 0 then y.e else 0) = x.e := by rw [if_pos hx]
    rw [e, if_pos hx] at h; exact absurd h hx
theorem openE_of {x y : El} {s : Int} (hy : y.e = 0) (hs : 0 ≤ s ∧ s ≤ 200000) : openE x y s = x.e := by
  unfold openE
  rw [ckd_two]
  by_cases hx : x.e = 0
  · have e : (if x.e ≠ 0 then x.e else if y.e ≠ 0 then y.e else 0) = 0 := by rw [if_neg (by simp [hx]), if_neg (by simp [hy])]
    rw [e, if_neg (by decide), if_neg (by simp only [outB, Bool.or_eq_true, decide_eq_true_eq]; omega), hx]
  · have e : (if x.e ≠ 0 then x.e else if y.e ≠ 0 then y.e else 0) = x.e := by rw [if_pos hx]
    rw [e, if_pos hx]
end Go.Dr.T
