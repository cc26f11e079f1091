/- Chapter 06: tables of rows, each row in a block of its own. -/
import Derived.Test.YtfhphjloaelgoaaGreatDoorR06S3
import Derived.Test.YtfhphjloaelgoaaGreatDoorDrJ
namespace Go.Dr.T
def rowC (m : Nat) (f : Nat → Int) : List V := ofInts ((List.range (m + 1)).map f)
def up1 (f : Nat → Int) (j : Nat) (v : Int) : Nat → Int := fun k => if k = j then v else f k
theorem rowC_len {m : Nat} {f : Nat → Int} : (rowC m f).length = m + 1 := by simp [rowC, ofInts]
theorem rowC_get {m j : Nat} {f : Nat → Int} (h : j ≤ m) : cellAt (rowC m f) (0 + j * 1) = some (.int .i64 (f j)) := by
  rw [Nat.zero_add, Nat.mul_one]
  obtain ⟨y, h1, h2⟩ := cells_ints (l := (List.range (m + 1)).map f) (n := j) (by simp; omega)
  have : ((List.range (m + 1)).map f)[j]? = some (f j) := by simp [show j < m + 1 by omega]
  rw [this] at h1
  cases h1
  exact h2
theorem rowC_set {m j : Nat} {f : Nat → Int} {v : Int} (h : j ≤ m) : over (rowC m f) (0 + j * 1) [.int .i64 v] = rowC m (up1 f j v) := by
  unfold rowC
  rw [Nat.zero_add, Nat.mul_one, over_ints]
  congr 1
  apply List.ext_getElem?
  intro k
  rw [List.getElem?_set]
  by_cases hk : j = k
  · subst hk
    simp [up1, show j < m + 1 by omega]
  · rw [if_neg hk]
    by_cases hk2 : k < m + 1
    · simp [hk2, up1, show ¬ k = j from fun e => hk e.symm]
    · rw [List.getElem?_eq_none (by simp; omega), List.getElem?_eq_none (by simp; omega)]
theorem rowC_zero {m : Nat} : reps (m + 1) [.int .i64 0] = rowC m (fun _ => 0) := by
  have key : ∀ k, reps k [V.int .i64 0] = ofInts (List.replicate k 0) := by
    intro k
    induction k with
    | zero => rfl
    | succ k ih => rw [reps, ih]; rfl
  unfold rowC
  rw [key]
  congr 1
  rw [List.map_const']
  simp
theorem rowC_blo {m n : Nat} {f : Nat → Int} : (B.blk (rowC m f) true).blo n = true := rfl
def outC (n m : Nat) (rid : Nat → Nat) (hv : Nat → Bool) : List V := (List.range (n + 1)).map fun i => if hv i = true then .ms 1 (rid i) ((m + 1) * 1) 0 (m + 1) true else .nilsl
theorem outC_len {n m : Nat} {rid : Nat → Nat} {hv : Nat → Bool} : (outC n m rid hv).length = n + 1 := by simp [outC]
theorem cellAt_eq : ∀ {l : List V} {n : Nat}, cellAt l n = l[n]?
  | [], n => by cases n <;> rfl
  | _ :: l, 0 => rfl
  | _ :: l, n + 1 => by simpa [cellAt] using cellAt_eq (l := l) (n := n)
theorem over_one : ∀ {l : List V} {i : Nat} {v : V}, over l i [v] = l.set i v
  | [], i, v => by cases i <;> rfl
  | _ :: l, 0, v => by cases l <;> rfl
  | _ :: l, i + 1, v => by simp only [over, List.set_cons_succ, over_one (l := l)]
theorem outC_get {n m i : Nat} {rid : Nat → Nat} {hv : Nat → Bool} (h : i ≤ n) (hi : hv i = true) : cellAt (outC n m rid hv) (0 + i * 1) = some (.ms 1 (rid i) ((m + 1) * 1) 0 (m + 1) true) := by
  rw [Nat.zero_add, Nat.mul_one i, cellAt_eq]
  simp [outC, show i < n + 1 by omega, hi]
theorem outC_set {n m i : Nat} {rid : Nat → Nat} {hv : Nat → Bool} (h : i ≤ n) : over (outC n m rid hv) (0 + i * 1) [.ms 1 (rid i) ((m + 1) * 1) 0 (m + 1) true] = outC n m rid (fun k => decide (k = i) || hv k) := by
  unfold outC
  rw [Nat.zero_add, Nat.mul_one i, over_one]
  apply List.ext_getElem?
  intro k
  rw [List.getElem?_set]
  by_cases hk : i = k
  · subst hk
    simp [show i < n + 1 by omega]
  · rw [if_neg hk]
    by_cases hk2 : k < n + 1
    · simp [hk2, show ¬ k = i from fun e => hk e.symm]
    · rw [List.getElem?_eq_none (by simp; omega), List.getElem?_eq_none (by simp; omega)]
theorem outC_none {n m : Nat} {rid : Nat → Nat} : reps (n + 1) [.nilsl] = outC n m rid (fun _ => false) := by
  have key : ∀ k, reps k [V.nilsl] = List.replicate k .nilsl := by
    intro k
    induction k with
    | zero => rfl
    | succ k ih => rw [reps, ih]; rfl
  unfold outC
  rw [key]
  simp only [Bool.false_eq_true, if_false]
  rw [List.map_const']
  simp
theorem outC_ext {n m : Nat} {rid : Nat → Nat} {hv hv' : Nat → Bool} (h : ∀ k, k ≤ n → hv k = hv' k) : outC n m rid hv = outC n m rid hv' := by
  unfold outC
  apply List.map_congr_left
  intro k hk
  rw [h k (by simp at hk; omega)]
theorem blos_mem {k : Nat} : ∀ {l : List V} {v : V}, blos k l = true → v ∈ l → v.blo k = true
  | x :: l, v, h, hm => by
    simp only [blos, Bool.and_eq_true] at h
    rcases List.mem_cons.1 hm with e | e
    · subst e; exact h.1
    · exact blos_mem h.2 e
theorem outC_blo {n m i k : Nat} {rid : Nat → Nat} {hv : Nat → Bool} (h : (B.blk (outC n m rid hv) false).blo k = true) (hi : i ≤ n) (hh : hv i = true) : rid i < k := by
  simp only [B.blo, Bool.false_or] at h
  have := blos_mem (v := .ms 1 (rid i) ((m + 1) * 1) 0 (m + 1) true) h (by unfold outC; exact List.mem_map.2 ⟨i, by simp; omega, by rw [if_pos hh]⟩)
  simpa [V.blo] using this
theorem blos_of : ∀ {k : Nat} {l : List V}, (∀ v ∈ l, v.blo k = true) → blos k l = true
  | k, [], _ => rfl
  | k, x :: l, h => by simp only [blos, Bool.and_eq_true]; exact ⟨h x (by simp), blos_of fun v hv => h v (by simp [hv])⟩
theorem outC_ok {n m k : Nat} {rid : Nat → Nat} {hv : Nat → Bool} (h : ∀ i, i ≤ n → hv i = true → rid i < k) : (B.blk (outC n m rid hv) false).blo k = true := by
  simp only [B.blo, Bool.false_or]
  refine blos_of fun v hv' => ?_
  unfold outC at hv'
  obtain ⟨i, hi, rfl⟩ := List.mem_map.1 hv'
  split
  · rename_i hh
    simpa [V.blo] using h i (by simp at hi; omega) hh
  · rfl
theorem norm_all {mk : List Bool} {n o r : Nat} {tm : List V} {h : List B} {b : B} (hr : h.length = r + 1) (hn : n ≤ r) (ho : o < n) (hb : bget h o = some b) (hv : ∀ k, b.blo k = true → r < k) : norm mk n ⟨tm, h⟩ = ⟨masked mk tm, h⟩ := by
  unfold norm trunc
  dsimp only
  obtain ⟨d, hd⟩ : ∃ d, h.length - n = d + 1 := ⟨h.length - n - 1, by omega⟩
  rw [hd]
  unfold strip
  rw [show n + d = r by omega]
  have : hbelow r (h.take r) = false := by
    cases hc : hbelow r (h.take r) with
    | false => rfl
    | true =>
      have h1 : bget (h.take r) o = some b := by rw [bget_take (by omega)]; exact hb
      have hm : b ∈ h.take r := by
        have key : ∀ {l : List B} {i : Nat} {b : B}, bget l i = some b → b ∈ l := by
          intro l
          induction l with
          | nil => intro i b e; cases e
          | cons x l ih =>
            intro i b e
            cases i with
            | zero => simp only [bget, Option.some.injEq] at e; subst e; simp
            | succ i => exact List.mem_cons_of_mem _ (ih e)
        exact key h1
      exact absurd (hv r (blo_of_hbelow hc hm)) (Nat.lt_irrefl r)
  rw [this, Bool.and_false]
  rfl
def rowV (m : Nat) (f : Nat → Int) : V := .sl true (m + 1) (rowC m f)
def tabV (n m : Nat) (T : Nat → Nat → Int) : V := .sl true (n + 1) ((List.range (n + 1)).map fun i => rowV m (T i))
theorem VwLF.ints {h : List B} {d : Nat} : ∀ l : List Int, VwLF h (d + 1) (ofInts l) (ofInts l)
  | [] => VwLF.nil
  | _ :: l => VwLF.cons (VwF.int rfl) (VwLF.ints l)
theorem VwLF.map {h : List B} {d : Nat} {α : Type} {f g : α → V} : ∀ {l : List α}, (∀ x ∈ l, VwF h d (f x) (g x)) → VwLF h d (l.map f) (l.map g)
  | [], _ => VwLF.nil
  | x :: l, h => VwLF.cons (h x (by simp)) (VwLF.map fun y hy => h y (by simp [hy]))
theorem tab_view {h : List B} {d o n m : Nat} {rid : Nat → Nat} {hv : Nat → Bool} {T : Nat → Nat → Int} {c : Bool} (hc : c = true) (ho : bget h o = some (.blk (outC n m rid hv) false)) (hall : ∀ i, i ≤ n → hv i = true) (hr : ∀ i, i ≤ n → bget h (rid i) = some (.blk (rowC m (T i)) true)) :
    VwF h (d + 3) (.ms 1 o ((n + 1) * 1) 0 (n + 1) c) (tabV n m T) := by
  subst hc
  refine VwF.ms (d := d + 2) ho (by rw [outC_len, Nat.mul_one]) (part_all (by rw [outC_len, Nat.mul_one])) ?_
  unfold outC
  refine VwLF.map fun i hi => ?_
  have hi' : i ≤ n := by simp at hi; omega
  rw [if_pos (hall i hi')]
  exact VwF.ms (d := d + 1) (hr i hi') (by rw [rowC_len, Nat.mul_one]) (part_all (by rw [rowC_len, Nat.mul_one])) (VwLF.ints _)
theorem rowC_ext {m : Nat} {f g : Nat → Int} (h : ∀ j, j ≤ m → f j = g j) : rowC m f = rowC m g := by
  unfold rowC
  congr 1
  apply List.map_congr_left
  intro k hk
  exact h k (by simp at hk; omega)
theorem up1_same {f : Nat → Int} {j : Nat} {v : Int} : up1 f j v j = v := by unfold up1; rw [if_pos rfl]
theorem up1_other {f : Nat → Int} {j k : Nat} {v : Int} (h : k ≠ j) : up1 f j v k = f k := by unfold up1; rw [if_neg h]
theorem up1_two {f : Nat → Int} {j : Nat} {v w : Int} : up1 (up1 f j v) j w = up1 f j w := by
  funext k
  unfold up1
  split <;> rfl
end Go.Dr.T
