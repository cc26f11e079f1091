/- Chapter 07: lists of blocks that grow; painted frames in blocks. -/
import Derived.Test.YtigcchafpenhiaaR07Fj
namespace Go.Dr.T

/-! lists of blocks that grow -/
theorem fLen_mk {h : List B} {K : Nat → Prop} (hk : K h.length) : fLen h 0 K := fLen_eq.2 (by rw [Nat.zero_add]; exact hk)
theorem bget_app {h g : List B} {i : Nat} {b : B} (e : bget h i = some b) : bget (h ++ g) i = some b := by
  induction h generalizing i with
  | nil => simp [bget] at e
  | cons x l ih =>
    cases i with
    | zero => exact e
    | succ i => exact ih e
theorem bget_new {h g : List B} {i : Nat} : bget (h ++ g) (h.length + i) = bget g i := by
  induction h with
  | nil => simp
  | cons x l ih => rw [List.length_cons, show l.length + 1 + i = (l.length + i) + 1 by omega]; exact ih
theorem bget_lt' {h : List B} {i : Nat} {b : B} (e : bget h i = some b) : i < h.length := by
  induction h generalizing i with
  | nil => simp [bget] at e
  | cons x l ih =>
    cases i with
    | zero => simp
    | succ i => have := ih (i := i) e; simp; omega
theorem bset_other {h : List B} {i j : Nat} {b : B} (hne : i ≠ j) : bget (bset h i b) j = bget h j := by
  induction h generalizing i j with
  | nil => rfl
  | cons x l ih =>
    cases i with
    | zero => cases j with
      | zero => exact absurd rfl hne
      | succ j => rfl
    | succ i => cases j with
      | zero => rfl
      | succ j => exact ih (by omega)
theorem bset_same {h : List B} {i : Nat} {b : B} (hi : i < h.length) : bget (bset h i b) i = some b := by
  induction h generalizing i with
  | nil => simp at hi
  | cons x l ih =>
    cases i with
    | zero => rfl
    | succ i => exact ih (by simpa using hi)
theorem bset_length {h : List B} {i : Nat} {b : B} : (bset h i b).length = h.length := by
  induction h generalizing i with
  | nil => rfl
  | cons x l ih =>
    cases i with
    | zero => rfl
    | succ i => simp [bset, ih]
theorem bset_new {h g : List B} {i : Nat} {b : B} : bset (h ++ g) (h.length + i) b = h ++ bset g i b := by
  induction h with
  | nil => simp
  | cons x l ih =>
    rw [List.length_cons, show l.length + 1 + i = (l.length + i) + 1 by omega]
    show x :: bset (l ++ g) (l.length + i) b = _
    rw [ih]; rfl
theorem bset_app {h g : List B} {i : Nat} {b : B} (hi : i < h.length) : bset (h ++ g) i b = bset h i b ++ g := by
  induction h generalizing i with
  | nil => simp at hi
  | cons x l ih =>
    cases i with
    | zero => rfl
    | succ i =>
      show x :: bset (l ++ g) i b = x :: (bset l i b ++ g)
      rw [ih (by simpa using hi)]
theorem fBn {h g : List B} {k : Nat} {b : B} {K : List B → Prop} (hk : K (h ++ bset g k b)) : Dr.fB (bset (h ++ g) (h.length + k) b) K := fB.mk (by rw [bset_new]; exact hk)
theorem fBo {h g : List B} {k : Nat} {b : B} {K : List B → Prop} (hi : k < h.length) (hk : K (bset h k b ++ g)) : Dr.fB (bset (h ++ g) k b) K := fB.mk (by rw [bset_app hi]; exact hk)
theorem bget_take {h : List B} {i n : Nat} (hi : i < n) : bget (h.take n) i = bget h i := by
  induction h generalizing i n with
  | nil => simp
  | cons x l ih =>
    cases n with
    | zero => omega
    | succ n => cases i with
      | zero => rfl
      | succ i => exact ih (by omega)
theorem blos_tg {n : Nat} : ∀ {tm : List V} {i : Nat}, blos n tm = true → (tg tm i).blo n = true
  | [], _, _ => by simp [tg, V.blo]
  | v :: l, 0, h => by simp only [blos, Bool.and_eq_true] at h; exact h.1
  | v :: l, i + 1, h => by simp only [blos, Bool.and_eq_true] at h; exact blos_tg (tm := l) (i := i) h.2
theorem hbelow_get {n : Nat} : ∀ {h : List B} {i : Nat} {b : B}, hbelow n h = true → bget h i = some b → b.blo n = true
  | [], _, _, _, e => by simp [bget] at e
  | x :: l, 0, b, h, e => by simp only [hbelow, Bool.and_eq_true] at h; simp only [bget, Option.some.injEq] at e; subst e; exact h.1
  | x :: l, i + 1, b, h, e => by simp only [hbelow, Bool.and_eq_true] at h; exact hbelow_get (h := l) (i := i) h.2 e
theorem strip_keep {n i id : Nat} {tm : List V} {b : B} (hv : ∀ k, (tg tm i).blo k = true → id < k) : ∀ {j : Nat} {h : List B}, h.length = n + j → bget h id = some b → bget (strip n tm j h) id = some b
  | 0, h, _, e => e
  | j + 1, h, hl, e => by
    unfold strip
    split
    · rename_i hc
      rw [Bool.and_eq_true] at hc
      have hid := hv _ (blos_tg (i := i) hc.1)
      exact strip_keep hv (by rw [List.length_take]; omega) (by rw [bget_take hid]; exact e)
    · exact e
/-- a block of which a block that is kept speaks is kept. -/
theorem strip_keep2 {n i id id2 : Nat} {tm : List V} {b b2 : B} (hv : ∀ k, (tg tm i).blo k = true → id < k) (hv2 : ∀ k, b.blo k = true → id2 < k) : ∀ {j : Nat} {h : List B}, h.length = n + j → bget h id = some b → bget h id2 = some b2 → bget (strip n tm j h) id2 = some b2
  | 0, h, _, _, e => e
  | j + 1, h, hl, e, e2 => by
    unfold strip
    split
    · rename_i hc
      rw [Bool.and_eq_true] at hc
      have hid := hv _ (blos_tg (i := i) hc.1)
      have h1 : bget (h.take (n + j)) id = some b := by rw [bget_take hid]; exact e
      have hid2 := hv2 _ (hbelow_get hc.2 h1)
      exact strip_keep2 hv hv2 (by rw [List.length_take]; omega) h1 (by rw [bget_take hid2]; exact e2)
    · exact e2
theorem strip_len {n : Nat} {tm : List V} : ∀ {j : Nat} {h : List B}, h.length = n + j → n ≤ (strip n tm j h).length
  | 0, h, hl => by unfold strip; omega
  | j + 1, h, hl => by
    unfold strip
    split
    · exact strip_len (by rw [List.length_take]; omega)
    · omega
theorem norm_keep {m : List Bool} {n i id : Nat} {s : St} {b : B} (hn : n ≤ s.h.length) (hv : ∀ k, (tg (masked m s.tm) i).blo k = true → id < k) (e : bget s.h id = some b) : bget (norm m n s).h id = some b :=
  strip_keep (i := i) hv (by omega) e
theorem norm_keep2 {m : List Bool} {n i id id2 : Nat} {s : St} {b b2 : B} (hn : n ≤ s.h.length) (hv : ∀ k, (tg (masked m s.tm) i).blo k = true → id < k) (e : bget s.h id = some b) (hv2 : ∀ k, b.blo k = true → id2 < k) (e2 : bget s.h id2 = some b2) : bget (norm m n s).h id2 = some b2 :=
  strip_keep2 (i := i) hv hv2 (by omega) e e2
theorem norm_len {m : List Bool} {n : Nat} {s : St} (hn : n ≤ s.h.length) : n ≤ (norm m n s).h.length := strip_len (by omega)
theorem norm_self {m : List Bool} {tm : List V} {h : List B} : norm m h.length ⟨tm, h⟩ = ⟨masked m tm, h⟩ := by
  simp only [norm, trunc, Nat.sub_self, strip]
theorem NextP.of {α : Type} {P : α → Prop} {I : α → St} {μ : α → Nat} {a : α} {s : St} (f : List B → α) (h1 : P (f s.h)) (h2 : μ (f s.h) < μ a) (h3 : s = I (f s.h)) : NextP P I μ a s := ⟨f s.h, h1, h2, h3⟩

/-! frames in blocks -/
def mC (W H : Nat) : List Nat → List V
  | [] => []
  | id :: ids => .int .i64 W :: .int .i64 H :: .ms 1 id (W * H) 0 (W * H) false :: mC W H ids
theorem mC_append (W H : Nat) : ∀ (a b : List Nat), mC W H (a ++ b) = mC W H a ++ mC W H b
  | [], _ => rfl
  | x :: a, b => by simp only [List.cons_append, mC, mC_append W H a b]
theorem mC_length (W H : Nat) : ∀ (a : List Nat), (mC W H a).length = a.length * 3
  | [] => rfl
  | x :: a => by simp only [mC, List.length_cons, mC_length W H a]; omega
theorem mC_ones (W H : Nat) : ∀ (a : List Nat), ones (mC W H a) = true
  | [] => rfl
  | x :: a => by simp only [mC, ones, V.one, mC_ones W H a, Bool.and_self]
theorem mC_blo {W H k id : Nat} : ∀ {a : List Nat}, id ∈ a → blos k (mC W H a) = true → id < k
  | x :: a, hm, h => by
    simp only [mC, blos, V.blo, Bool.and_eq_true, decide_eq_true_eq] at h
    rcases List.mem_cons.1 hm with rfl | hm
    · exact h.2.2.1
    · exact mC_blo hm h.2.2.2
theorem mC_view {W H : Nat} {h : List B} {d : Nat} : ∀ {ids : List Nat} {q : List (List UInt8)}, ids.length = q.length → (∀ k (h1 : k < ids.length) (h2 : k < q.length), bget h ids[k] = some (.blk (ofBytes q[k]) true) ∧ q[k].length = W * H) → VwL h (d + 1 + 1 + 1) (mC W H ids) (ofFr (q.map fun x => ((W : Int), (H : Int), x)))
  | [], [], _, _ => VwL.nil
  | id :: ids, x :: q, hl, hq => by
    obtain ⟨h1, h2⟩ := hq 0 (by simp) (by simp)
    simp only [List.getElem_cons_zero] at h1 h2
    refine VwL.cons (Vw.int rfl) (VwL.cons (Vw.int rfl) (VwL.cons (Vw.bytes h1 h2.symm h2.symm rfl rfl) (mC_view (by simpa using hl) fun k a b => ?_)))
    have := hq (k + 1) (by simpa using a) (by simpa using b)
    simpa using this

end Go.Dr.T
