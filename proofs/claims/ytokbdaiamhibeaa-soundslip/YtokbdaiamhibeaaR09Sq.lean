/- Chapter 09: the plain law of SoundSlip; lists of blocks that grow. -/
import Derived.Test.YtokbdaiamhibeaaR09Sl
namespace Go.Dr.T

/-! frames that are cut out -/
def cutL : List Int → List (Int × Int) → List Int
  | cur, [] => cur
  | cur, x :: l => cutL (cur.take x.1.toNat ++ cur.drop (x.2.toNat + 1)) l
theorem cut_fits {m : Int} {x : Int × Int} {l : List (Int × Int)} (h : (cutsE m (x :: l)).2 = 0) : 0 ≤ x.1 ∧ x.1 ≤ x.2 ∧ x.2 ≤ m - 1 ∧ (cutsE (m - (x.2 - x.1 + 1)) l).2 = 0 := by
  simp only [cutsE] at h
  split at h
  · simp at h
  · split at h
    · simp at h
    · exact ⟨by omega, by omega, by omega, h⟩
theorem cut_len {cur : List Int} {a b : Nat} (hab : a ≤ b) (hb : b < cur.length) : (cur.take a ++ cur.drop (b + 1)).length = cur.length - (b + 1 - a) := by
  simp only [List.length_append, List.length_take, List.length_drop]; omega
theorem cut_at : ∀ {l : List (Int × Int)} {cur : List Int} {p : Nat} {v p' : Int}, (cutsE cur.length l).2 = 0 → cur[p]? = some v → afterF p l = (p', 0) → ∃ q : Nat, p' = q ∧ (cutL cur l)[q]? = some v
  | [], cur, p, v, p', _, hv, h => by
    simp only [afterF, Prod.mk.injEq] at h
    exact ⟨p, h.1.symm, hv⟩
  | x :: l, cur, p, v, p', hc, hv, h => by
    obtain ⟨h1, h2, h3, h4⟩ := cut_fits hc
    obtain ⟨x1, x2⟩ := x
    dsimp only at h1 h2 h3 h4
    obtain ⟨a, rfl⟩ := Int.eq_ofNat_of_zero_le h1
    obtain ⟨b, rfl⟩ := Int.eq_ofNat_of_zero_le (show 0 ≤ x2 by omega)
    have hl := cut_len (cur := cur) (a := a) (b := b) (by omega) (by omega)
    have hlen : ((cur.take a ++ cur.drop (b + 1)).length : Int) = (cur.length : Int) - ((b : Int) - (a : Int) + 1) := by rw [hl]; omega
    simp only [afterF] at h
    simp only [cutL, Int.toNat_natCast]
    split at h
    · rename_i hb
      have hp : (p : Int) - ((b : Int) - (a : Int) + 1) = ((p - (b + 1 - a) : Nat) : Int) := by omega
      rw [hp] at h
      refine cut_at (by rw [hlen]; exact h4) ?_ h
      have hta : (cur.take a).length = a := by rw [List.length_take]; omega
      rw [List.getElem?_append_right (by omega), hta, List.getElem?_drop, ← hv]
      congr 1; omega
    · rename_i hb
      split at h
      · simp at h
      · rename_i ha
        refine cut_at (by rw [hlen]; exact h4) ?_ h
        have hta : (cur.take a).length = a := by rw [List.length_take]; omega
        rw [List.getElem?_append_left (by omega), List.getElem?_take_of_lt (by omega), hv]
theorem cut_sub {cur : List Int} {a b : Nat} (hab : a ≤ b) : (cur.take a ++ cur.drop (b + 1)).Sublist cur := by
  have h : (cur.drop (b + 1)).Sublist (cur.drop a) := by
    rw [show b + 1 = a + (b + 1 - a) by omega, ← List.drop_drop]
    exact List.drop_sublist _ _
  have := (List.Sublist.refl (cur.take a)).append h
  rwa [List.take_append_drop] at this
theorem cutL_sorted : ∀ {l : List (Int × Int)} {cur : List Int}, (cutsE cur.length l).2 = 0 → cur.Pairwise (· < ·) → (cutL cur l).Pairwise (· < ·)
  | [], cur, _, h => h
  | x :: l, cur, hc, h => by
    obtain ⟨h1, h2, h3, h4⟩ := cut_fits hc
    have hl := cut_len (cur := cur) (a := x.1.toNat) (b := x.2.toNat) (by omega) (by omega)
    simp only [cutL]
    refine cutL_sorted ?_ (h.sublist (cut_sub (by omega)))
    rw [hl, show ((cur.length - (x.2.toNat + 1 - x.1.toNat) : Nat) : Int) = (cur.length : Int) - (x.2 - x.1 + 1) by omega]
    exact h4
/-- how many lie above f, and not above g. -/
def cntB (f g : Int) : List Int → Int
  | [] => 0
  | x :: l => (if f < x ∧ x ≤ g then 1 else 0) + cntB f g l
theorem cntB_append {f g : Int} : ∀ {a b : List Int}, cntB f g (a ++ b) = cntB f g a + cntB f g b
  | [], b => by simp [cntB]
  | x :: a, b => by simp only [List.cons_append, cntB, cntB_append (a := a)]; omega
theorem cntB_next {f g : Int} {l : List Int} {i : Nat} (h : i < l.length) : cntB f g (l.take (i + 1)) = cntB f g (l.take i) + if f < gI l i ∧ gI l i ≤ g then 1 else 0 := by
  rw [List.take_succ_eq_append_getElem h, cntB_append, gI_get h]
  simp only [cntB]; omega
theorem cntB_range {f g : Int} : ∀ {l : List Int}, 0 ≤ cntB f g l ∧ cntB f g l ≤ (l.length : Int)
  | [] => by simp [cntB]
  | x :: l => by
    have := cntB_range (f := f) (g := g) (l := l)
    simp only [cntB, List.length_cons]
    split <;> omega
def cle (v : Int) : List Int → Int
  | [] => 0
  | x :: l => (if x ≤ v then 1 else 0) + cle v l
theorem cle_none {v : Int} : ∀ {l : List Int}, (∀ x ∈ l, v < x) → cle v l = 0
  | [], _ => rfl
  | x :: l, h => by
    have := h x (by simp)
    simp only [cle]
    rw [if_neg (by omega), cle_none fun y hy => h y (by simp [hy])]; rfl
theorem cle_at {v : Int} : ∀ {l : List Int} {p : Nat}, l.Pairwise (· < ·) → l[p]? = some v → cle v l = (p : Int) + 1
  | [], p, _, h => by simp at h
  | x :: l, 0, hs, h => by
    simp only [List.getElem?_cons_zero, Option.some.injEq] at h
    subst h
    rw [List.pairwise_cons] at hs
    simp only [cle]
    rw [if_pos (by omega), cle_none hs.1]; rfl
  | x :: l, p + 1, hs, h => by
    rw [List.pairwise_cons] at hs
    rw [List.getElem?_cons_succ] at h
    have := hs.1 v (List.mem_of_getElem? h)
    simp only [cle]
    rw [if_pos (by omega), cle_at hs.2 h]; omega
theorem cnt_cle {f g : Int} (hfg : f ≤ g) : ∀ {l : List Int}, cntB f g l = cle g l - cle f l
  | [] => rfl
  | x :: l => by
    simp only [cntB, cle, cnt_cle hfg (l := l)]
    split <;> split <;> split <;> omega
theorem cnt_le {f g : Int} : ∀ {l : List Int}, l.Pairwise (· < ·) → f ≤ g → cntB f g l ≤ g - f
  | [], _, h => by simp only [cntB]; omega
  | x :: l, hs, h => by
    rw [List.pairwise_cons] at hs
    simp only [cntB]
    by_cases q : f < x ∧ x ≤ g
    · rw [if_pos q]
      have e : ∀ {m : List Int}, (∀ y ∈ m, x < y) → cntB f g m = cntB x g m := by
        intro m
        induction m with
        | nil => intro _; rfl
        | cons y m ih =>
          intro hm
          have := hm y (by simp)
          simp only [cntB, ih fun z hz => hm z (by simp [hz])]
          split <;> split <;> omega
      rw [e hs.1]
      have := cnt_le hs.2 q.2
      omega
    · rw [if_neg q]
      have := cnt_le hs.2 h
      omega
def idL (n : Nat) : List Int := acc (fun i => (i : Int)) n
theorem idL_length (n : Nat) : (idL n).length = n := acc_length _ _
theorem idL_sorted (n : Nat) : (idL n).Pairwise (· < ·) := by
  unfold idL acc
  rw [List.pairwise_map]
  exact List.pairwise_lt_range.imp fun h => by omega
theorem idL_at {n i : Nat} (h : i < n) : (idL n)[i]? = some (i : Int) := by
  simp [idL, acc, h]
/-- the law. -/
theorem slip_count {n : Nat} {lead f : Int} {l : List (Int × Int)} (h : (slipE n lead l f).2 = 0) : (slipE n lead l f).1 = lead - cntB f (f + lead) (cutL (idL n) l) ∧ 0 ≤ (slipE n lead l f).1 ∧ (cutsE n l).2 = 0 ∧ 1 ≤ n ∧ (0 ≤ lead ∧ lead ≤ 100) ∧ f + lead < n := by
  unfold slipE at h ⊢
  by_cases h1 : lead < 0 ∨ 100 < lead
  · rw [if_pos h1] at h; simp at h
  rw [if_neg h1] at h ⊢
  by_cases h2 : (aftE n l f).2 ≠ 0
  · rw [if_pos h2] at h; exact absurd h h2
  rw [if_neg h2] at h ⊢
  by_cases h3 : (n : Int) ≤ f + lead
  · rw [if_pos h3] at h; simp at h
  rw [if_neg h3] at h ⊢
  by_cases h4 : (aftE n l (f + lead)).2 ≠ 0
  · rw [if_pos h4] at h; simp at h
  rw [if_neg h4] at h ⊢
  have key : ∀ g : Int, ¬ (aftE n l g).2 ≠ 0 → 0 ≤ g ∧ g < n ∧ (cutsE n l).2 = 0 ∧ aftE n l g = afterF g l := by
    intro g hg
    unfold aftE at hg ⊢
    by_cases q1 : (madeE n l).2 ≠ 0
    · rw [if_pos q1] at hg; exact absurd q1 hg
    rw [if_neg q1] at hg ⊢
    by_cases q2 : g < 0 ∨ (n : Int) - 1 < g
    · rw [if_pos q2] at hg; simp at hg
    rw [if_neg q2] at hg ⊢
    refine ⟨by omega, by omega, ?_, rfl⟩
    unfold madeE at q1
    split at q1
    · simp at q1
    · split at q1
      · simp at q1
      · exact Classical.not_not.1 q1
  obtain ⟨a1, a2, a3, a4⟩ := key f h2
  obtain ⟨b1, b2, _, b4⟩ := key (f + lead) h4
  rw [a4] at h2 ⊢
  rw [b4] at h4 ⊢
  obtain ⟨p, hp⟩ := Int.eq_ofNat_of_zero_le a1
  obtain ⟨q, hq⟩ := Int.eq_ofNat_of_zero_le b1
  have hA : afterF p l = ((afterF f l).1, 0) := by rw [← hp]; exact Prod.ext rfl (Classical.not_not.1 h2)
  have hB : afterF q l = ((afterF (f + lead) l).1, 0) := by rw [← hq]; exact Prod.ext rfl (Classical.not_not.1 h4)
  have hc : (cutsE (idL n).length l).2 = 0 := by rw [idL_length]; exact a3
  obtain ⟨p', e1, e2⟩ := cut_at (cur := idL n) (p := p) (v := (p : Int)) hc (idL_at (by omega)) hA
  obtain ⟨q', e3, e4⟩ := cut_at (cur := idL n) (p := q) (v := (q : Int)) hc (idL_at (by omega)) hB
  have hs := cutL_sorted hc (idL_sorted n)
  have c1 := cle_at hs e2
  have c2 := cle_at hs e4
  have c3 := cnt_cle (f := f) (g := f + lead) (by omega) (l := cutL (idL n) l)
  have c4 := cnt_le (f := f) (g := f + lead) hs (by omega)
  rw [← hp] at c1
  rw [← hq] at c2
  dsimp only
  refine ⟨by omega, by omega, a3, by omega, by omega, by omega⟩
theorem slip_none {n lead f : Int} (h : (slipE n lead [] f).2 = 0) : (slipE n lead [] f).1 = 0 := by
  unfold slipE at h ⊢
  by_cases h1 : lead < 0 ∨ 100 < lead
  · rw [if_pos h1] at h; simp at h
  rw [if_neg h1] at h ⊢
  by_cases h2 : (aftE n [] f).2 ≠ 0
  · rw [if_pos h2] at h; exact absurd h h2
  rw [if_neg h2] at h ⊢
  by_cases h3 : (n : Int) ≤ f + lead
  · rw [if_pos h3] at h; simp at h
  rw [if_neg h3] at h ⊢
  by_cases h4 : (aftE n [] (f + lead)).2 ≠ 0
  · rw [if_pos h4] at h; simp at h
  rw [if_neg h4] at h ⊢
  have key : ∀ g : Int, ¬ (aftE n [] g).2 ≠ 0 → (aftE n [] g).1 = g := by
    intro g hg
    unfold aftE at hg ⊢
    by_cases q1 : (madeE n []).2 ≠ 0
    · rw [if_pos q1] at hg; exact absurd q1 hg
    rw [if_neg q1] at hg ⊢
    by_cases q2 : g < 0 ∨ (n : Int) - 1 < g
    · rw [if_pos q2] at hg; simp at hg
    rw [if_neg q2]; rfl
  rw [key _ h2, key _ h4]; dsimp only; omega
theorem slip_plain {n lead f : Int} (hn : 1 ≤ n ∧ n ≤ 200000) (hl : 0 ≤ lead ∧ lead ≤ 100) (hf : 0 ≤ f ∧ f + lead < n) : slipE n lead [] f = (0, 0) := by
  have hm : madeE n [] = (n, 0) := by
    unfold madeE
    rw [if_neg (by omega), if_neg (by simp)]; rfl
  have key : ∀ g, 0 ≤ g → g < n → aftE n [] g = (g, 0) := by
    intro g h1 h2
    unfold aftE
    rw [hm, if_neg (by simp), if_neg (by omega)]; rfl
  unfold slipE
  rw [if_neg (by omega), key f (by omega) (by omega), key (f + lead) (by omega) (by omega), if_neg (by simp), if_neg (by omega), if_neg (by simp)]
  exact Prod.ext (by dsimp only; omega) rfl
theorem slip_err {n lead f : Int} {l : List (Int × Int)} (h : (slipE n lead l f).2 ≠ 0) : (slipE n lead l f).1 = 0 := by
  unfold slipE at h ⊢
  split
  · rfl
  · split
    · rfl
    · split
      · rfl
      · split
        · rfl
        · rename_i h1 h2 h3 h4
          rw [if_neg h1, if_neg h2, if_neg h3, if_neg h4] at h
          exact absurd rfl h

/-! lists of blocks that grow -/
theorem fLen_mk {h : List B} {K : Nat → Prop} (hk : K h.length) : fLen h 0 K := fLen_eq.2 (by rw [Nat.zero_add]; exact hk)
theorem bget_app {h g : List B} {i : Nat} {b : B} (e : bget h i = some b) : bget (h ++ g) i = some b := by
  induction h generalizing i with
  | nil => simp [bget] at e
  | cons x l ih =>
    cases i with
    | zero => exact e
    | succ i => exact ih e
theorem bget_new {h g : List B} {i : Nat} : bget (h ++ g) (h.length + i) = bget g i := by
  induction h with
  | nil => simp
  | cons x l ih => rw [List.length_cons, show l.length + 1 + i = (l.length + i) + 1 by omega]; exact ih
theorem bget_lt' {h : List B} {i : Nat} {b : B} (e : bget h i = some b) : i < h.length := by
  induction h generalizing i with
  | nil => simp [bget] at e
  | cons x l ih =>
    cases i with
    | zero => simp
    | succ i => have := ih (i := i) e; simp; omega
theorem bset_other {h : List B} {i j : Nat} {b : B} (hne : i ≠ j) : bget (bset h i b) j = bget h j := by
  induction h generalizing i j with
  | nil => rfl
  | cons x l ih =>
    cases i with
    | zero => cases j with
      | zero => exact absurd rfl hne
      | succ j => rfl
    | succ i => cases j with
      | zero => rfl
      | succ j => exact ih (by omega)
theorem bset_same {h : List B} {i : Nat} {b : B} (hi : i < h.length) : bget (bset h i b) i = some b := by
  induction h generalizing i with
  | nil => simp at hi
  | cons x l ih =>
    cases i with
    | zero => rfl
    | succ i => exact ih (by simpa using hi)
theorem bset_length {h : List B} {i : Nat} {b : B} : (bset h i b).length = h.length := by
  induction h generalizing i with
  | nil => rfl
  | cons x l ih =>
    cases i with
    | zero => rfl
    | succ i => simp [bset, ih]
theorem bget_take {h : List B} {i n : Nat} (hi : i < n) : bget (h.take n) i = bget h i := by
  induction h generalizing i n with
  | nil => simp
  | cons x l ih =>
    cases n with
    | zero => omega
    | succ n => cases i with
      | zero => rfl
      | succ i => exact ih (by omega)
theorem blos_tg {n : Nat} : ∀ {tm : List V} {i : Nat}, blos n tm = true → (tg tm i).blo n = true
  | [], _, _ => by simp [tg, V.blo]
  | v :: l, 0, h => by simp only [blos, Bool.and_eq_true] at h; exact h.1
  | v :: l, i + 1, h => by simp only [blos, Bool.and_eq_true] at h; exact blos_tg (tm := l) (i := i) h.2
theorem strip_keep {n i id : Nat} {tm : List V} {b : B} (hv : ∀ k, (tg tm i).blo k = true → id < k) : ∀ {j : Nat} {h : List B}, h.length = n + j → bget h id = some b → bget (strip n tm j h) id = some b
  | 0, h, _, e => e
  | j + 1, h, hl, e => by
    unfold strip
    split
    · rename_i hc
      rw [Bool.and_eq_true] at hc
      have hid := hv _ (blos_tg (i := i) hc.1)
      exact strip_keep hv (by rw [List.length_take]; omega) (by rw [bget_take hid]; exact e)
    · exact e
theorem strip_len {n : Nat} {tm : List V} : ∀ {j : Nat} {h : List B}, h.length = n + j → n ≤ (strip n tm j h).length
  | 0, h, hl => by unfold strip; omega
  | j + 1, h, hl => by
    unfold strip
    split
    · exact strip_len (by rw [List.length_take]; omega)
    · omega
theorem norm_keep {m : List Bool} {n i id : Nat} {s : St} {b : B} (hn : n ≤ s.h.length) (hv : ∀ k, (tg (masked m s.tm) i).blo k = true → id < k) (e : bget s.h id = some b) : bget (norm m n s).h id = some b :=
  strip_keep (i := i) hv (by omega) e
theorem norm_len {m : List Bool} {n : Nat} {s : St} (hn : n ≤ s.h.length) : n ≤ (norm m n s).h.length := strip_len (by omega)
theorem NextP.of {α : Type} {P : α → Prop} {I : α → St} {μ : α → Nat} {a : α} {s : St} (f : List B → α) (h1 : P (f s.h)) (h2 : μ (f s.h) < μ a) (h3 : s = I (f s.h)) : NextP P I μ a s := ⟨f s.h, h1, h2, h3⟩

end Go.Dr.T
