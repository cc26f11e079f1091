/- Chapter 09: lists of numbers and of records as cells. -/
import Derived.Test.YtokbdaiamhibeaaR09Tr
namespace Go.Dr.T

theorem drop'_drop (n : Nat) (l : List V) : drop' n l = l.drop n := by
  induction n generalizing l with
  | zero => rfl
  | succ n ih => cases l with
    | nil => rfl
    | cons x l => simp only [drop', List.drop_succ_cons]; exact ih l
theorem part_of {cs r : List V} {a n : Nat} (h : (cs.drop a).take n = r) (hl : r.length = n) : part cs a n = some r := by
  unfold part
  simp only [take'_take, drop'_drop, h, hl, if_true]
theorem over_eq : ∀ {cs : List V} {a : Nat} {vs : List V}, a + vs.length ≤ cs.length → over cs a vs = cs.take a ++ vs ++ cs.drop (a + vs.length)
  | cs, 0, [], _ => by simp [over]
  | [], 0, v :: vs, h => by simp at h
  | c :: cs, 0, v :: vs, h => by
    simp only [over]
    rw [over_eq (cs := cs) (a := 0) (vs := vs) (by simp at h ⊢; omega)]
    simp
  | [], a + 1, vs, h => by simp at h
  | c :: cs, a + 1, vs, h => by
    simp only [over]
    rw [over_eq (cs := cs) (a := a) (vs := vs) (by simp at h; omega)]
    simp [Nat.add_right_comm]

theorem fVe {l l' : List V} {K : List V → Prop} (e : l = l') (h : K l') : fV l K := fV.mk (e ▸ h)

/-! numbers -/
def gI (l : List Int) (i : Nat) : Int := l.getD i 0
abbrev ofI (l : List Int) : List V := l.map (V.int .i64)
theorem gI_get {l : List Int} {i : Nat} (h : i < l.length) : gI l i = l[i] := by
  unfold gI; rw [List.getD_eq_getElem?_getD, List.getElem?_eq_getElem h]; rfl
theorem gI_cell {l : List Int} {i : Nat} (h : i < l.length) : cellAt (ofI l) (i * 1) = some (.int .i64 (gI l i)) := by rw [gI_get h]; exact cellAt_ints h
theorem gI_cell0 {l : List Int} {i : Nat} (h : i < l.length) : cellAt (ofI l) (0 + i * 1) = some (.int .i64 (gI l i)) := by rw [Nat.zero_add]; exact gI_cell h
theorem ofI_length (l : List Int) : (ofI l).length = l.length := by simp [ofI]
theorem ofI_append (a b : List Int) : ofI (a ++ b) = ofI a ++ ofI b := by simp [ofI]
theorem ofI_put {l : List Int} {i : Nat} {v : Int} (h : i < l.length) : over (ofI l) (i * 1) [.int .i64 v] = ofI (l.set i v) := by
  rw [Nat.mul_one, over_eq (by simp [ofI]; omega), List.set_eq_take_append_cons_drop, if_pos h]
  simp [ofI]
theorem ofI_put0 {l : List Int} {i : Nat} {v : Int} (h : i < l.length) : over (ofI l) (0 + i * 1) [.int .i64 v] = ofI (l.set i v) := by rw [Nat.zero_add]; exact ofI_put h
theorem ofI_part {l : List Int} {a n : Nat} (h : a + n ≤ l.length) : part (ofI l) (a * 1) (n * 1) = some (ofI ((l.drop a).take n)) := by
  rw [Nat.mul_one, Nat.mul_one]
  exact part_of (by simp [ofI, List.map_drop, List.map_take]) (by simp [ofI]; omega)
theorem ofI_over {l m : List Int} {a : Nat} (h : a + m.length ≤ l.length) : over (ofI l) (a * 1) (ofI m) = ofI (l.take a ++ m ++ l.drop (a + m.length)) := by
  rw [Nat.mul_one, over_eq (by simp [ofI]; omega)]
  simp [ofI, List.map_drop, List.map_take]
theorem reps_int (n : Nat) (v : Int) : reps n [.int .i64 v] = ofI (List.replicate n v) := by
  induction n with
  | zero => rfl
  | succ n ih => simp only [reps, List.replicate_succ, ofI, List.map_cons, List.singleton_append, ih]
theorem scal_ints (l : List Int) : scalars (ofI l) = true := by
  induction l with
  | nil => rfl
  | cons x l ih => simp [ofI, scalars, V.scalar] at ih ⊢; exact ih
theorem ones_ints (l : List Int) : ones (ofI l) = true := by
  induction l with
  | nil => rfl
  | cons x l ih => simp [ofI, ones, V.one] at ih ⊢; exact ih
theorem blos_ints (k : Nat) (l : List Int) : blos k (ofI l) = true := by
  induction l with
  | nil => rfl
  | cons x l ih => simp [ofI, blos, V.blo] at ih ⊢; exact ih
theorem VwL.ints {h : List B} {d : Nat} (l : List Int) : VwL h (d + 1) (ofI l) (ofI l) := by
  induction l with
  | nil => exact VwL.nil
  | cons x l ih => exact VwL.cons (Vw.int rfl) ih
theorem VwLF.ints {h : List B} {d : Nat} (l : List Int) : VwLF h (d + 1) (ofI l) (ofI l) := by
  induction l with
  | nil => exact VwLF.nil
  | cons x l ih => exact VwLF.cons (VwF.int rfl) ih
theorem Vw.ints {h : List B} {d id g len n : Nat} {clip dat : Bool} {cs : List V} {l : List Int} (h1 : bget h id = some (.blk cs dat)) (h0 : cs = ofI l) (h2 : g = l.length) (h3 : len = l.length) (hn : n = l.length) :
    Vw h (d + 1 + 1) (.ms 1 id g 0 len clip) (.sl clip n (ofI l)) := by
  subst h0 h2 h3 hn
  exact Vw.ms h1 (ofI_length l) (part_all (by rw [ofI_length, Nat.mul_one])) (VwL.ints l)
theorem VwF.ints {h : List B} {d id g len n : Nat} {clip dat : Bool} {cs : List V} {l : List Int} (h1 : bget h id = some (.blk cs dat)) (h0 : cs = ofI l) (h2 : g = l.length) (h3 : len = l.length) (hn : n = l.length) :
    VwF h (d + 1 + 1) (.ms 1 id g 0 len clip) (.sl clip n (ofI l)) := by
  subst h0 h2 h3 hn
  exact VwF.ms h1 (ofI_length l) (part_all (by rw [ofI_length, Nat.mul_one])) (VwLF.ints l)

/-! lists that are filled, or grow -/
def pfx (f : Nat → Int) (n i : Nat) : List Int := (List.range n).map fun j => if j < i then f j else 0
theorem pfx_length (f : Nat → Int) (n i : Nat) : (pfx f n i).length = n := by simp [pfx]
theorem pfx_zero (f : Nat → Int) (n : Nat) : List.replicate n 0 = pfx f n 0 := by
  refine List.ext_getElem (by simp [pfx]) fun i h1 h2 => ?_
  simp [pfx]
theorem pfx_full (f : Nat → Int) (n : Nat) : pfx f n n = (List.range n).map f := by
  refine List.ext_getElem (by simp [pfx]) fun i h1 h2 => ?_
  have : i < n := by simpa [pfx] using h1
  simp [pfx, this]
theorem pfx_set {f : Nat → Int} {n i : Nat} (_h : i < n) : (pfx f n i).set i (f i) = pfx f n (i + 1) := by
  refine List.ext_getElem (by simp [pfx]) fun j h1 h2 => ?_
  rw [List.getElem_set]
  simp only [pfx, List.getElem_map, List.getElem_range]
  by_cases e : i = j
  · subst e; simp
  · rw [if_neg e]
    by_cases e2 : j < i
    · rw [if_pos e2, if_pos (by omega)]
    · rw [if_neg e2, if_neg (by omega)]
def acc (f : Nat → Int) (i : Nat) : List Int := (List.range i).map f
theorem acc_length (f : Nat → Int) (i : Nat) : (acc f i).length = i := by simp [acc]
theorem acc_next (f : Nat → Int) (i : Nat) : ofI (acc f i) ++ [.int .i64 (f i)] = ofI (acc f (i + 1)) := by simp [acc, ofI, List.range_succ]
theorem acc_one (f : Nat → Int) : [] ++ [V.int .i64 (f 0)] = ofI (acc f 1) := acc_next f 0

/-! records -/
section
variable {α : Type} {enc : α → List V} {k : Nat}
def flat (enc : α → List V) : List α → List V
  | [] => []
  | a :: l => enc a ++ flat enc l
theorem flat_length (hk : ∀ a, (enc a).length = k) (l : List α) : (flat enc l).length = l.length * k := by
  induction l with
  | nil => simp [flat]
  | cons a l ih => simp only [flat, List.length_append, hk, ih, List.length_cons, Nat.add_mul, Nat.one_mul]; omega
theorem flat_append (a b : List α) : flat enc (a ++ b) = flat enc a ++ flat enc b := by
  induction a with
  | nil => rfl
  | cons x a ih => simp only [List.cons_append, flat, ih, List.append_assoc]
theorem flat_drop (hk : ∀ a, (enc a).length = k) : ∀ (l : List α) (i : Nat), (flat enc l).drop (i * k) = flat enc (l.drop i)
  | l, 0 => by simp
  | [], i + 1 => by simp [flat]
  | a :: l, i + 1 => by
    rw [show (i + 1) * k = (enc a).length + i * k by rw [hk, Nat.add_mul]; omega]
    simp only [flat, List.drop_succ_cons]
    rw [← List.drop_drop, List.drop_left, flat_drop hk l i]
theorem flat_take (hk : ∀ a, (enc a).length = k) : ∀ (l : List α) (i : Nat), (flat enc l).take (i * k) = flat enc (l.take i)
  | l, 0 => by simp [flat]
  | [], i + 1 => by simp [flat]
  | a :: l, i + 1 => by
    rw [show (i + 1) * k = (enc a).length + i * k by rw [hk, Nat.add_mul]; omega]
    simp only [flat, List.take_succ_cons]
    rw [List.take_length_add_append, flat_take hk l i]
theorem flat_part (hk : ∀ a, (enc a).length = k) {l : List α} {i : Nat} (h : i < l.length) : part (flat enc l) (i * k) k = some (enc l[i]) := by
  refine part_of ?_ (hk _)
  rw [flat_drop hk, List.drop_eq_getElem_cons h]
  simp only [flat]
  rw [← hk l[i], List.take_left]
theorem cellAt_drop : ∀ (cs : List V) (a j : Nat), cellAt cs (a + j) = cellAt (cs.drop a) j
  | cs, 0, j => by simp
  | [], a + 1, j => by simp [cellAt]
  | c :: cs, a + 1, j => by
    rw [show a + 1 + j = a + j + 1 by omega, List.drop_succ_cons]
    exact cellAt_drop cs a j
theorem cellAt_app : ∀ (a b : List V) (j : Nat), j < a.length → cellAt (a ++ b) j = cellAt a j
  | [], _, _, h => by simp at h
  | x :: a, b, 0, _ => rfl
  | x :: a, b, j + 1, h => by
    simp only [List.cons_append, cellAt]
    exact cellAt_app a b j (by simpa using h)
theorem flat_cell (hk : ∀ a, (enc a).length = k) {l : List α} {i j : Nat} (h : i < l.length) (hj : j < k) : cellAt (flat enc l) (i * k + j) = cellAt (enc l[i]) j := by
  rw [cellAt_drop, flat_drop hk, List.drop_eq_getElem_cons h]
  simp only [flat]
  exact cellAt_app _ _ _ (by rw [hk]; exact hj)
theorem flat_set (hk : ∀ a, (enc a).length = k) {l : List α} {i j : Nat} {vs : List V} {a : α} (h : i < l.length) (hj : j + vs.length ≤ k) (he : over (enc l[i]) j vs = enc a) : over (flat enc l) (i * k + j) vs = flat enc (l.set i a) := by
  have hik : i * k + k ≤ l.length * k := by
    have := Nat.mul_le_mul_right k (show i + 1 ≤ l.length by omega)
    rw [Nat.add_mul, Nat.one_mul] at this; exact this
  have e1 : (flat enc l).take (i * k + j) = flat enc (l.take i) ++ (enc l[i]).take j := by
    rw [List.take_add, flat_take hk, flat_drop hk, List.drop_eq_getElem_cons h]
    simp only [flat]
    rw [List.take_append_of_le_length (by rw [hk]; omega)]
  have e2 : (flat enc l).drop (i * k + j + vs.length) = (enc l[i]).drop (j + vs.length) ++ flat enc (l.drop (i + 1)) := by
    rw [Nat.add_assoc, ← List.drop_drop, flat_drop hk, List.drop_eq_getElem_cons h]
    simp only [flat]
    rw [List.drop_append_of_le_length (by rw [hk]; omega)]
  rw [over_eq (by rw [flat_length hk]; omega), e1, e2, List.set_eq_take_append_cons_drop, if_pos h, flat_append]
  simp only [flat]
  rw [← he, over_eq (by rw [hk]; omega)]
  simp only [List.append_assoc]
theorem flat_scal (hs : ∀ a, scalars (enc a) = true) (l : List α) : scalars (flat enc l) = true := by
  have key : ∀ a b : List V, scalars a = true → scalars b = true → scalars (a ++ b) = true := by
    intro a b ha hb
    induction a with
    | nil => exact hb
    | cons x a ih => simp [scalars] at ha ⊢; exact ⟨ha.1, ih ha.2⟩
  induction l with
  | nil => rfl
  | cons a l ih => exact key _ _ (hs a) ih
theorem VwL.flat {h : List B} {d : Nat} (hv : ∀ a, VwL h d (enc a) (enc a)) (l : List α) : VwL h d (flat enc l) (flat enc l) := by
  induction l with
  | nil => exact VwL.nil
  | cons a l ih => exact VwL.append (hv a) ih
theorem Vw.flat {h : List B} {d id g len n : Nat} {clip dat : Bool} {cs : List V} {l : List α} (hk : ∀ a, (enc a).length = k) (hv : ∀ a, VwL h (d + 1) (enc a) (enc a)) (h1 : bget h id = some (.blk cs dat)) (h0 : cs = T.flat enc l) (h2 : g = l.length * k) (h3 : len = l.length) (hn : n = l.length) :
    Vw h (d + 1 + 1) (.ms k id g 0 len clip) (.sl clip n (T.flat enc l)) := by
  subst h0 h2 h3 hn
  exact Vw.ms h1 (flat_length hk l) (part_all (flat_length hk l)) (VwL.flat hv l)
end

end Go.Dr.T
