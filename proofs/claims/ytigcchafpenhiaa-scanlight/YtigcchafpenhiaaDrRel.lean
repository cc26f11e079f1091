/- The door: how abstract values and blocks stand to the model's values and memory, and how that carries over steps. -/
import Derived.Test.YtigcchafpenhiaaDrComp
import Derived.Below
import Derived.CallsIn
namespace Go.Dr
open Go.RowKit (Below)

/-- The context: blocks below n0 that may be read (A), the own blocks, where they lie (block, shift), the world. -/
structure K where
  n0 : Nat
  A : Nat → Prop
  h : List B
  β : Nat → Nat × Nat
  w : World

def live (h : List B) (id : Nat) : Prop := ∃ b, bget h id = some b ∧ b ≠ .unborn
def K.own (k : K) (b : Nat) : Prop := ∃ id, live k.h id ∧ (k.β id).1 = b
def K.ok (k : K) (b : Nat) : Prop := (b < k.n0 ∧ k.A b) ∨ (k.n0 ≤ b ∧ ¬ k.own b)

/-- The cells from off on of block b. -/
def cellsAt (w : World) (b : Nat) : Nat → List Value → Prop
  | _, [] => True
  | off, v :: l => w.cell? ⟨b, off, none⟩ = some v ∧ cellsAt w b (off + 1) l

def rowSize (w : World) (b : Nat) : Option Nat :=
  match w.heap[b]? with
  | some (.cells cs _ _) => some cs.size
  | _ => none

def V.pure (cells : List V) : Prop := ones cells = true ∧ blos 0 cells = true

/-- Cells that may be read: none, or those of a block that nobody writes. -/
def okv (k : K) (b : Nat) (vs : List Value) : Prop := vs = [] ∨ (k.ok b ∧ b < k.w.heap.size)
theorem okv.sub {k : K} {b : Nat} {vs ys : List Value} (h : okv k b vs) (hs : vs = [] → ys = []) : okv k b ys := h.imp hs id
theorem okv.mk {k : K} {b : Nat} {vs : List Value} (h : k.ok b) (hl : b < k.w.heap.size) : okv k b vs := .inr ⟨h, hl⟩

mutual
def R (k : K) : V → Value → Prop
  | .bool b, x => x = .bool b
  | .int kk n, x => x = .int kk n
  | .str s, x => x = .string ⟨s.toArray⟩
  | .nilp, x => x = .pointer none
  | .nilsl, x => x = .slice none 0 0
  | .nilmap, x => x = .map none
  | .nilfn, x => x = .nilFunc
  | .nilif, x => x = .nilIface
  | .sl clip len cells, x => (∃ a, x = .slice a 0 0 ∧ len = 0 ∧ cells = []) ∨ ∃ b off cap vs, x = .slice (some ⟨b, off, none⟩) len cap ∧ okv k b vs ∧ cellsAt k.w b off vs ∧ RL k cells vs ∧ V.pure cells ∧ len ≤ cap ∧ (clip = true → cap = len)
  | .rp cells off, x => ∃ b o vs, x = .pointer (some ⟨b, o + off, none⟩) ∧ okv k b vs ∧ cellsAt k.w b o vs ∧ RL k cells vs ∧ V.pure cells
  | .agg cells, x => ∃ vs, x = .agg ⟨vs⟩ ∧ RL k cells vs
  | .tup cells, x => ∃ vs, x = .tuple ⟨vs⟩ ∧ RL k cells vs
  | .iface t v, x => ∃ y, x = .iface t y ∧ R k v y
  | .fn f caps, x => ∃ vs, x = .func (.func f) #[] ⟨vs⟩ ∧ RL k caps vs
  | .ref id g off, x => ∃ b o c dat, x = .pointer (some ⟨b, o, none⟩) ∧ bget k.h id = some (.blk c dat) ∧ g ≤ c.length ∧ (g = c.length → (k.β id).1 = b ∧ off = o + (k.β id).2)
  | .ms es id g off len clip, x => ∃ b o cap c dat, x = .slice (some ⟨b, o, none⟩) len cap ∧ bget k.h id = some (.blk c dat) ∧ g ≤ c.length ∧ len ≤ cap ∧ (clip = true → cap = len) ∧
      (g = c.length → off + len * es ≤ g ∧ (k.β id).1 = b ∧ (cap ≠ 0 → (k.β id).1 = b ∧ off = o + (k.β id).2 ∧ (clip = false → 0 < es → off + len * es = g → rowSize k.w b = some (o + cap * es))))
  | .yld id, x => x = .func (.yield (k.β id).1) #[] #[] ∧ ∃ r p tm ps a b, bget k.h id = some (.lop r p tm ps a b)
  | .dead, _ => True
def RL (k : K) : List V → List Value → Prop
  | [], xs => xs = []
  | v :: l, xs => ∃ x r, xs = x :: r ∧ R k v x ∧ RL k l r
end

/-! ### lists -/
theorem RL.len {k : K} : ∀ {l : List V} {xs : List Value}, RL k l xs → xs.length = l.length
  | [], _, h => by simp [RL] at h; simp [h]
  | v :: l, xs, h => by obtain ⟨x, r, rfl, _, hr⟩ := (by simpa [RL] using h : ∃ x r, xs = x :: r ∧ R k v x ∧ RL k l r); simp [RL.len hr]
theorem RL.nil {k : K} : RL k [] [] := by simp [RL]
theorem RL.cons {k : K} {v x l xs} (h : R k v x) (hl : RL k l xs) : RL k (v :: l) (x :: xs) := by simp only [RL]; exact ⟨x, xs, rfl, h, hl⟩
theorem RL.cons_iff {k : K} {v x l xs} : RL k (v :: l) (x :: xs) ↔ R k v x ∧ RL k l xs := by
  simp only [RL]
  constructor
  · rintro ⟨_, _, he, h1, h2⟩; cases he; exact ⟨h1, h2⟩
  · rintro ⟨h1, h2⟩; exact ⟨_, _, rfl, h1, h2⟩
theorem RL.append {k : K} : ∀ {l m : List V} {xs ys : List Value}, RL k l xs → RL k m ys → RL k (l ++ m) (xs ++ ys)
  | [], _, xs, _, h, h' => by simp [RL] at h; subst h; simpa using h'
  | v :: l, m, xs, ys, h, h' => by
    obtain ⟨x, r, rfl, hx, hr⟩ := (by simpa [RL] using h : ∃ x r, xs = x :: r ∧ R k v x ∧ RL k l r)
    exact RL.cons hx (RL.append hr h')
theorem RL.split {k : K} : ∀ {l m : List V} {zs : List Value}, RL k (l ++ m) zs → ∃ xs ys, zs = xs ++ ys ∧ RL k l xs ∧ RL k m ys
  | [], m, zs, h => ⟨[], zs, rfl, RL.nil, h⟩
  | v :: l, m, zs, h => by
    obtain ⟨x, r, rfl, hx, hr⟩ := (by simpa [RL] using h : ∃ x r, zs = x :: r ∧ R k v x ∧ RL k (l ++ m) r)
    obtain ⟨xs, ys, rfl, h1, h2⟩ := RL.split hr
    exact ⟨x :: xs, ys, rfl, RL.cons hx h1, h2⟩
theorem RL.get {k : K} : ∀ {l : List V} {xs : List Value} (n : Nat), RL k l xs → R k (tg l n) (xs.getD n undef)
  | [], xs, n, h => by simp [tg, R]
  | v :: l, xs, 0, h => by
    obtain ⟨x, r, rfl, hx, hr⟩ := (by simpa [RL] using h : ∃ x r, xs = x :: r ∧ R k v x ∧ RL k l r)
    simpa [tg] using hx
  | v :: l, xs, n + 1, h => by
    obtain ⟨x, r, rfl, hx, hr⟩ := (by simpa [RL] using h : ∃ x r, xs = x :: r ∧ R k v x ∧ RL k l r)
    simpa [tg] using RL.get n hr
theorem RL.set {k : K} {v : V} {x : Value} (hv : R k v x) : ∀ {l : List V} {xs : List Value} (n : Nat), RL k l xs → RL k (tset l n v) (xs.set n x)
  | [], xs, n, h => by simp [RL] at h; simp [tset, h, RL]
  | v' :: l, xs, 0, h => by
    obtain ⟨x', r, rfl, hx, hr⟩ := (by simpa [RL] using h : ∃ x r, xs = x :: r ∧ R k v' x ∧ RL k l r)
    exact RL.cons hv hr
  | v' :: l, xs, n + 1, h => by
    obtain ⟨x', r, rfl, hx, hr⟩ := (by simpa [RL] using h : ∃ x r, xs = x :: r ∧ R k v' x ∧ RL k l r)
    exact RL.cons hx (RL.set hv n hr)

theorem take'_eq (n : Nat) (l : List V) : take' n l = l.take n := by
  induction n generalizing l with
  | zero => simp [take']
  | succ n ih => cases l <;> simp [take', ih]
theorem drop'_eq (n : Nat) (l : List V) : drop' n l = l.drop n := by
  induction n generalizing l with
  | zero => simp [drop']
  | succ n ih => cases l <;> simp [drop', ih]
theorem part_eq {cs : List V} {off n : Nat} {r : List V} (h : part cs off n = some r) : off + n ≤ cs.length ∨ n = 0 := by
  unfold part at h; simp only [take'_eq, drop'_eq] at h
  split at h <;> simp_all
  rename_i h'; omega
theorem part_some {cs : List V} {off n : Nat} {r : List V} (h : part cs off n = some r) : r = (cs.drop off).take n ∧ r.length = n := by
  unfold part at h; simp only [take'_eq, drop'_eq] at h
  split at h
  · rename_i h'; cases h; exact ⟨rfl, h'⟩
  · cases h
theorem part_mk {cs : List V} {off n : Nat} (h : off + n ≤ cs.length) : part cs off n = some ((cs.drop off).take n) := by
  unfold part; simp only [take'_eq, drop'_eq]; rw [if_pos (by simp; omega)]
theorem over_eq : ∀ (cs : List V) (n : Nat) (l : List V), n + l.length ≤ cs.length → over cs n l = cs.take n ++ l ++ cs.drop (n + l.length)
  | [], 0, [], _ => by simp [over]
  | [], 0, v :: l, h => by simp at h
  | [], n + 1, l, h => by simp at h
  | c :: cs, 0, [], _ => by simp [over]
  | c :: cs, 0, v :: l, h => by
    have := over_eq cs 0 l (by simp at h ⊢; omega)
    simp [over, this]
  | c :: cs, n + 1, l, h => by
    have := over_eq cs n l (by simp at h; omega)
    simp only [over, this, List.take_succ_cons, List.cons_append]
    rw [show n + 1 + l.length = (n + l.length) + 1 by omega]; simp
theorem over_len (cs : List V) (n : Nat) (l : List V) (h : n + l.length ≤ cs.length) : (over cs n l).length = cs.length := by
  rw [over_eq _ _ _ h]; simp; omega

theorem RL.take {k : K} : ∀ {l : List V} {xs : List Value} (n : Nat), RL k l xs → RL k (l.take n) (xs.take n)
  | [], xs, n, h => by simp [RL] at h; simp [h, RL]
  | v :: l, xs, 0, h => by simp [RL]
  | v :: l, xs, n + 1, h => by
    obtain ⟨x', r, rfl, hx, hr⟩ := (by simpa [RL] using h : ∃ x r, xs = x :: r ∧ R k v x ∧ RL k l r)
    exact RL.cons hx (RL.take n hr)
theorem RL.drop {k : K} : ∀ {l : List V} {xs : List Value} (n : Nat), RL k l xs → RL k (l.drop n) (xs.drop n)
  | [], xs, n, h => by simp [RL] at h; simp [h, RL]
  | v :: l, xs, 0, h => by simpa using h
  | v :: l, xs, n + 1, h => by
    obtain ⟨x', r, rfl, hx, hr⟩ := (by simpa [RL] using h : ∃ x r, xs = x :: r ∧ R k v x ∧ RL k l r)
    simpa using RL.drop n hr

theorem bget_eq (h : List B) (n : Nat) : bget h n = h[n]? := by
  induction h generalizing n with
  | nil => simp [bget]
  | cons b l ih => cases n <;> simp [bget, ih]
theorem bset_eq (h : List B) (n : Nat) (b : B) : bset h n b = h.set n b := by
  induction h generalizing n with
  | nil => simp [bset]
  | cons x l ih => cases n <;> simp [bset, ih]
theorem bget_lt {h : List B} {n : Nat} {b : B} (e : bget h n = some b) : n < h.length := by
  rw [bget_eq] at e; exact (List.getElem?_eq_some_iff.1 e).1
theorem bset_len (h : List B) (n : Nat) (b : B) : (bset h n b).length = h.length := by rw [bset_eq]; simp
theorem bget_bset (h : List B) (n m : Nat) (b : B) : bget (bset h n b) m = if n = m ∧ n < h.length then some b else bget h m := by
  rw [bget_eq, bget_eq, bset_eq, List.getElem?_set]
  by_cases e : n = m
  · subst e
    by_cases hl : n < h.length
    · simp [hl]
    · simp [hl]
  · simp [e]

/-! ### one cell -/
theorem R.one {k : K} {v : V} {x : Value} (h : R k v x) (hv : v.one = true) : x.oneCell' = true := by
  cases v <;> simp only [R] at h <;> try (first | (subst h; rfl) | (simp [V.one] at hv; done))
  · rcases h with ⟨a, rfl, _⟩ | ⟨b, off, cap, vs, rfl, _⟩ <;> rfl
  · obtain ⟨b, off, vs, rfl, _⟩ := h; rfl
  · obtain ⟨y, rfl, _⟩ := h; rfl
  · obtain ⟨y, rfl, _⟩ := h; rfl
  · obtain ⟨b, o, c, dat, rfl, _⟩ := h; rfl
  · obtain ⟨b, o, cap, c, dat, rfl, _⟩ := h; rfl
  · obtain ⟨rfl, _⟩ := h; rfl

theorem ones_get {cells : List V} (h : ones cells = true) {v : V} (hv : v ∈ cells) : v.one = true := by
  induction cells with
  | nil => simp at hv
  | cons c l ih =>
    simp only [ones, Bool.and_eq_true] at h
    rcases List.mem_cons.1 hv with rfl | hv
    · exact h.1
    · exact ih h.2 hv
theorem ones_append (a b : List V) : ones (a ++ b) = (ones a && ones b) := by
  induction a with
  | nil => simp [ones]
  | cons c l ih => simp [ones, ih, Bool.and_assoc]
theorem ones_sub {a : List V} (h : ones a = true) : ∀ {b : List V}, (∀ v ∈ b, v ∈ a) → ones b = true
  | [], _ => rfl
  | v :: b, hb => by
    simp only [ones, Bool.and_eq_true]
    exact ⟨ones_get h (hb v (by simp)), ones_sub h fun x hx => hb x (by simp [hx])⟩
theorem ones_take {a : List V} (h : ones a = true) (n : Nat) : ones (a.take n) = true := ones_sub h fun _ hv => List.mem_of_mem_take hv
theorem ones_drop {a : List V} (h : ones a = true) (n : Nat) : ones (a.drop n) = true := ones_sub h fun _ hv => List.mem_of_mem_drop hv
theorem blos_append (n : Nat) (a b : List V) : blos n (a ++ b) = (blos n a && blos n b) := by
  induction a with
  | nil => simp [blos]
  | cons c l ih => simp [blos, ih, Bool.and_assoc]
theorem blos_get {n : Nat} {cells : List V} (h : blos n cells = true) {v : V} (hv : v ∈ cells) : v.blo n = true := by
  induction cells with
  | nil => simp at hv
  | cons c l ih =>
    simp only [blos, Bool.and_eq_true] at h
    rcases List.mem_cons.1 hv with rfl | hv
    · exact h.1
    · exact ih h.2 hv
theorem blos_sub {n : Nat} {a : List V} (h : blos n a = true) : ∀ {b : List V}, (∀ v ∈ b, v ∈ a) → blos n b = true
  | [], _ => rfl
  | v :: b, hb => by
    simp only [blos, Bool.and_eq_true]
    exact ⟨blos_get h (hb v (by simp)), blos_sub h fun x hx => hb x (by simp [hx])⟩
theorem blos_take {n : Nat} {a : List V} (h : blos n a = true) (m : Nat) : blos n (a.take m) = true := blos_sub h fun _ hv => List.mem_of_mem_take hv
theorem blos_drop {n : Nat} {a : List V} (h : blos n a = true) (m : Nat) : blos n (a.drop m) = true := blos_sub h fun _ hv => List.mem_of_mem_drop hv
mutual
theorem blo_mono {n m : Nat} (hnm : n ≤ m) : ∀ (v : V), v.blo n = true → v.blo m = true
  | .agg cs, h => by simp only [V.blo] at *; exact blos_mono hnm cs h
  | .tup cs, h => by simp only [V.blo] at *; exact blos_mono hnm cs h
  | .iface _ v, h => by simp only [V.blo] at *; exact blo_mono hnm v h
  | .fn _ cs, h => by simp only [V.blo] at *; exact blos_mono hnm cs h
  | .ref id _ _, h => by simp only [V.blo, decide_eq_true_eq] at *; omega
  | .ms _ id _ _ _ _, h => by simp only [V.blo, decide_eq_true_eq] at *; omega
  | .yld id, h => by simp only [V.blo, decide_eq_true_eq] at *; omega
  | .bool _, _ | .int _ _, _ | .str _, _ | .nilp, _ | .nilsl, _ | .nilmap, _ | .nilfn, _ | .nilif, _ | .sl _ _ _, _ | .rp _ _, _ | .dead, _ => by simp [V.blo]
theorem blos_mono {n m : Nat} (hnm : n ≤ m) : ∀ (l : List V), blos n l = true → blos m l = true
  | [], _ => rfl
  | v :: l, h => by simp only [blos, Bool.and_eq_true] at *; exact ⟨blo_mono hnm v h.1, blos_mono hnm l h.2⟩
end
mutual
theorem R.blo {k : K} : ∀ {v : V} {x : Value}, R k v x → v.blo k.h.length = true
  | .agg cs, x, h => by simp only [R] at h; obtain ⟨vs, _, hl⟩ := h; simp only [V.blo]; exact RL.blos hl
  | .tup cs, x, h => by simp only [R] at h; obtain ⟨vs, _, hl⟩ := h; simp only [V.blo]; exact RL.blos hl
  | .iface _ v, x, h => by simp only [R] at h; obtain ⟨y, _, hy⟩ := h; simp only [V.blo]; exact R.blo hy
  | .fn _ cs, x, h => by simp only [R] at h; obtain ⟨vs, _, hl⟩ := h; simp only [V.blo]; exact RL.blos hl
  | .ref id _ _, x, h => by simp only [R] at h; obtain ⟨b, o, c, dat, _, hb, _⟩ := h; simpa [V.blo] using bget_lt hb
  | .ms _ id _ _ _ _, x, h => by simp only [R] at h; obtain ⟨b, o, cap, c, dat, _, hb, _⟩ := h; simpa [V.blo] using bget_lt hb
  | .yld id, x, h => by simp only [R] at h; obtain ⟨_, r, p, tm, ps, a, b, hb⟩ := h; simpa [V.blo] using bget_lt hb
  | .bool _, _, _ | .int _ _, _, _ | .str _, _, _ | .nilp, _, _ | .nilsl, _, _ | .nilmap, _, _ | .nilfn, _, _ | .nilif, _, _ | .sl _ _ _, _, _ | .rp _ _, _, _ | .dead, _, _ => by simp [V.blo]
theorem RL.blos {k : K} : ∀ {l : List V} {xs : List Value}, RL k l xs → Dr.blos k.h.length l = true
  | [], _, _ => rfl
  | v :: l, xs, h => by
    obtain ⟨x, r, rfl, hx, hr⟩ := (by simpa [RL] using h : ∃ x r, xs = x :: r ∧ R k v x ∧ RL k l r)
    simp only [Dr.blos, Bool.and_eq_true]; exact ⟨R.blo hx, RL.blos hr⟩
end

/-! ### steps -/
/-- k' comes behind k: what was readable reads as it did; the first m own blocks are still there, the first ro unchanged. -/
structure Ev (ro m : Nat) (k k' : K) : Prop where
  n0 : k'.n0 = k.n0
  A : k'.A = k.A
  low : Below k.n0 k.w k'.w
  prot : ∀ b, k.ok b → b < k.w.heap.size → k'.ok b ∧ k'.w.heap[b]? = k.w.heap[b]?
  blk : ∀ id, id < m → ∀ c dat, bget k.h id = some (.blk c dat) → ∃ c', bget k'.h id = some (.blk c' dat) ∧ c.length ≤ c'.length ∧
    (c'.length = c.length → k'.β id = k.β id ∧ rowSize k'.w (k.β id).1 = rowSize k.w (k.β id).1)
  lop : ∀ id, id < m → ∀ r p tm ps a b, bget k.h id = some (.lop r p tm ps a b) → k'.β id = k.β id ∧ ∃ r' p', bget k'.h id = some (.lop r' p' tm ps a b)
  rd : ∀ id, id < ro → id < m → live k.h id → bget k'.h id = bget k.h id ∧ k'.β id = k.β id ∧ k'.w.heap[(k.β id).1]? = k.w.heap[(k.β id).1]?
  un : ∀ id, id < ro → id < m → ∀ b, bget k.h id = some b → bget k'.h id = some b

theorem Ev.refl (ro m : Nat) (k : K) : Ev ro m k k :=
  ⟨rfl, rfl, Below.refl _ _, fun _ h _ => ⟨h, rfl⟩, fun _ _ c dat h => ⟨c, h, Nat.le_refl _, fun _ => ⟨rfl, rfl⟩⟩, fun _ _ r p _ _ _ _ h => ⟨rfl, r, p, h⟩, fun _ _ _ _ => ⟨rfl, rfl, rfl⟩, fun _ _ _ _ h => h⟩

theorem Ev.mono {ro ro' m m' : Nat} {k k' : K} (h : Ev ro m k k') (hr : ro' ≤ ro) (hm : m' ≤ m) : Ev ro' m' k k' :=
  ⟨h.n0, h.A, h.low, h.prot, fun id hid => h.blk id (by omega), fun id hid => h.lop id (by omega), fun id h1 h2 => h.rd id (by omega) (by omega), fun id h1 h2 => h.un id (by omega) (by omega)⟩

theorem live_of_bget {h h' : List B} {id : Nat} (e : bget h' id = bget h id) : live h id → live h' id := fun ⟨b, hb, hn⟩ => ⟨b, e.trans hb, hn⟩

theorem Ev.trans {ro m : Nat} {a b c : K} (h : Ev ro m a b) (k : Ev ro m b c) : Ev ro m a c := by
  refine ⟨k.n0.trans h.n0, k.A.trans h.A, h.low.trans (h.n0 ▸ k.low), ?_, ?_, ?_, ?_, fun id h1 h2 b hb => k.un id h1 h2 b (h.un id h1 h2 b hb)⟩
  · intro x hx hs
    obtain ⟨h1, h2⟩ := h.prot x hx hs
    obtain ⟨h3, h4⟩ := k.prot x h1 (Nat.lt_of_lt_of_le hs h.low.size)
    exact ⟨h3, h4.trans h2⟩
  · intro id hid c dat hc
    obtain ⟨c1, e1, l1, p1⟩ := h.blk id hid c dat hc
    obtain ⟨c2, e2, l2, p2⟩ := k.blk id hid c1 dat e1
    refine ⟨c2, e2, by omega, fun e => ?_⟩
    obtain ⟨q1, q2⟩ := p1 (by omega)
    obtain ⟨q3, q4⟩ := p2 (by omega)
    exact ⟨q3.trans q1, by rw [← q2, ← q1]; exact q4⟩
  · intro id hid r p tm ps x y hc
    obtain ⟨q1, r1, p1, e1⟩ := h.lop id hid r p tm ps x y hc
    obtain ⟨q2, r2, p2, e2⟩ := k.lop id hid r1 p1 tm ps x y e1
    exact ⟨q2.trans q1, r2, p2, e2⟩
  · intro id h1 h2 hl
    obtain ⟨e1, b1, w1⟩ := h.rd id h1 h2 hl
    obtain ⟨e2, b2, w2⟩ := k.rd id h1 h2 (live_of_bget e1 hl)
    exact ⟨e2.trans e1, b2.trans b1, by rw [← w1, ← b1]; exact w2⟩

theorem cell_of_block {w w' : World} {b : Nat} (h : w'.heap[b]? = w.heap[b]?) (o : Nat) : w'.cell? ⟨b, o, none⟩ = w.cell? ⟨b, o, none⟩ := by
  simp [World.cell?, h]
theorem cellsAt_of_block {w w' : World} {b : Nat} (h : w'.heap[b]? = w.heap[b]?) : ∀ {off : Nat} {vs : List Value}, cellsAt w b off vs → cellsAt w' b off vs
  | _, [], _ => trivial
  | off, v :: l, ⟨h1, h2⟩ => ⟨(cell_of_block h off).trans h1, cellsAt_of_block h h2⟩

theorem okv.ev {ro m : Nat} {k k' : K} (e : Ev ro m k k') {b off : Nat} {vs : List Value} (h : okv k b vs) (hc : cellsAt k.w b off vs) : okv k' b vs ∧ cellsAt k'.w b off vs := by
  rcases h with rfl | ⟨h1, h2⟩
  · exact ⟨.inl rfl, trivial⟩
  · obtain ⟨p1, p2⟩ := e.prot b h1 h2
    exact ⟨.inr ⟨p1, Nat.lt_of_lt_of_le h2 e.low.size⟩, cellsAt_of_block p2 hc⟩

mutual
theorem R.ev {ro m : Nat} {k k' : K} (e : Ev ro m k k') : ∀ {v : V} {x : Value}, v.blo m = true → R k v x → R k' v x
  | .bool _, _, _, h | .int _ _, _, _, h | .str _, _, _, h | .nilp, _, _, h | .nilsl, _, _, h | .nilmap, _, _, h | .nilfn, _, _, h | .nilif, _, _, h => by simpa only [R] using h
  | .dead, _, _, _ => by simp [R]
  | .sl clip len cells, x, hb, h => by
    simp only [R] at h ⊢
    rcases h with h | ⟨b, off, cap, vs, hx, hok, hc, hl, hp, h1, h2⟩
    · exact .inl h
    obtain ⟨p1, p2⟩ := hok.ev e hc
    exact .inr ⟨b, off, cap, vs, hx, p1, p2, RL.ev e (blos_mono (Nat.zero_le _) _ hp.2) hl, hp, h1, h2⟩
  | .rp cells off, x, hb, h => by
    simp only [R] at h ⊢
    obtain ⟨b, o, vs, hx, hok, hc, hl, hp⟩ := h
    obtain ⟨p1, p2⟩ := hok.ev e hc
    exact ⟨b, o, vs, hx, p1, p2, RL.ev e (blos_mono (Nat.zero_le _) _ hp.2) hl, hp⟩
  | .agg cs, x, hb, h => by
    simp only [R] at h ⊢; obtain ⟨vs, hx, hl⟩ := h; exact ⟨vs, hx, RL.ev e (by simpa [V.blo] using hb) hl⟩
  | .tup cs, x, hb, h => by
    simp only [R] at h ⊢; obtain ⟨vs, hx, hl⟩ := h; exact ⟨vs, hx, RL.ev e (by simpa [V.blo] using hb) hl⟩
  | .iface t v, x, hb, h => by
    simp only [R] at h ⊢; obtain ⟨y, hx, hl⟩ := h; exact ⟨y, hx, R.ev e (by simpa [V.blo] using hb) hl⟩
  | .fn f cs, x, hb, h => by
    simp only [R] at h ⊢; obtain ⟨vs, hx, hl⟩ := h; exact ⟨vs, hx, RL.ev e (by simpa [V.blo] using hb) hl⟩
  | .ref id g off, x, hb, h => by
    simp only [V.blo, decide_eq_true_eq] at hb
    simp only [R] at h ⊢
    obtain ⟨b, o, c, dat, hx, hc, hg, hp⟩ := h
    obtain ⟨c', e1, l1, p1⟩ := e.blk id hb c dat hc
    refine ⟨b, o, c', dat, hx, e1, by omega, fun hgc => ?_⟩
    obtain ⟨q1, _⟩ := p1 (by omega)
    rw [q1]; exact hp (by omega)
  | .ms es id g off len clip, x, hb, h => by
    simp only [V.blo, decide_eq_true_eq] at hb
    simp only [R] at h ⊢
    obtain ⟨b, o, cap, c, dat, hx, hc, hg, hl, hcl, hp⟩ := h
    obtain ⟨c', e1, l1, p1⟩ := e.blk id hb c dat hc
    refine ⟨b, o, cap, c', dat, hx, e1, by omega, hl, hcl, fun hgc => ?_⟩
    obtain ⟨q1, q2⟩ := p1 (by omega)
    obtain ⟨h1, hb0, h2⟩ := hp (by omega)
    refine ⟨h1, by rw [q1]; exact hb0, fun hc0 => ?_⟩
    obtain ⟨h3, h4, h5⟩ := h2 hc0
    rw [q1]; refine ⟨h3, h4, fun hcf => ?_⟩
    rw [h3] at q2; rw [q2]; exact h5 hcf
  | .yld id, x, hb, h => by
    simp only [V.blo, decide_eq_true_eq] at hb
    simp only [R] at h ⊢
    obtain ⟨hx, r, p, tm, ps, a, b, hc⟩ := h
    obtain ⟨q1, r', p', e1⟩ := e.lop id hb r p tm ps a b hc
    exact ⟨by rw [q1]; exact hx, r', p', tm, ps, a, b, e1⟩
theorem RL.ev {ro m : Nat} {k k' : K} (e : Ev ro m k k') : ∀ {l : List V} {xs : List Value}, Dr.blos m l = true → RL k l xs → RL k' l xs
  | [], _, _, h => by simpa [RL] using h
  | v :: l, xs, hb, h => by
    simp only [Dr.blos, Bool.and_eq_true] at hb
    obtain ⟨x, r, rfl, hx, hr⟩ := (by simpa [RL] using h : ∃ x r, xs = x :: r ∧ R k v x ∧ RL k l r)
    exact RL.cons (R.ev e hb.1 hx) (RL.ev e hb.2 hr)
end

end Go.Dr
