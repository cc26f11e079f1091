/- The door: good contexts (each own block lies in memory as it says), and how single changes keep them good. -/
import Derived.Test.YtigcchafpenhiaaDrRel
namespace Go.Dr
open Go.RowKit (Below)

def BlkOk (k : K) (id : Nat) (c : List V) (dat : Bool) : Prop :=
  k.n0 ≤ (k.β id).1 ∧ (k.β id).2 ≤ c.length ∧ ones c = true ∧ (dat = true → scalars c = true) ∧
  ∃ xs rest T, k.w.heap[(k.β id).1]? = some (.cells ⟨xs ++ rest⟩ T (0, 0)) ∧ RL k (c.drop (k.β id).2) xs

def pendRel : Bool → X → Option Code → Prop
  | true, .nrm, c => c = none
  | false, .nrm, _ => True
  | _, .exit i, c => c = some (.exit i)
  | _, .ret, c => c = some .ret
def stateRel : Bool → X → LoopState → Prop
  | true, _, s => s = .ready
  | false, .nrm, _ => True
  | false, _, s => s ≠ .busy

def LopOk (P : Program) (k : K) (id : Nat) (r : Bool) (p : X) (tm : List V) (ps : List Nat) (a b : MC) : Prop :=
  k.n0 ≤ (k.β id).1 ∧ ∃ lp : Loop, k.w.heap[(k.β id).1]? = some (.loop lp) ∧ stateRel r p lp.state ∧ pendRel r p lp.pending ∧ RL k tm lp.tmps.toList ∧
    lp.params.toList = ps ∧ cCode P lp.assign = some a ∧ cCode P lp.body = some b

structure Good (P : Program) (k : K) : Prop where
  size : k.n0 ≤ k.w.heap.size
  blk : ∀ id c dat, bget k.h id = some (.blk c dat) → BlkOk k id c dat
  lop : ∀ id r p tm ps a b, bget k.h id = some (.lop r p tm ps a b) → LopOk P k id r p tm ps a b
  inj : ∀ id id', live k.h id → live k.h id' → (k.β id).1 = (k.β id').1 → id = id'

variable {P : Program} {k : K}

theorem live_cases {h : List B} {id : Nat} (l : live h id) : (∃ c dat, bget h id = some (.blk c dat)) ∨ (∃ r p tm ps a b, bget h id = some (.lop r p tm ps a b)) := by
  obtain ⟨b, hb, hn⟩ := l
  cases b with
  | blk c dat => exact .inl ⟨c, dat, hb⟩
  | unborn => exact absurd rfl hn
  | lop r p tm ps a b => exact .inr ⟨r, p, tm, ps, a, b, hb⟩
theorem live_blk {h : List B} {id : Nat} {c dat} (e : bget h id = some (.blk c dat)) : live h id := ⟨_, e, by simp⟩
theorem live_lop {h : List B} {id : Nat} {r p tm ps a b} (e : bget h id = some (.lop r p tm ps a b)) : live h id := ⟨_, e, by simp⟩

theorem Good.at (g : Good P k) {id : Nat} (l : live k.h id) : k.n0 ≤ (k.β id).1 ∧ (k.β id).1 < k.w.heap.size := by
  rcases live_cases l with ⟨c, dat, e⟩ | ⟨r, p, tm, ps, a, b, e⟩
  · obtain ⟨h1, _, _, _, xs, rest, T, h2, _⟩ := g.blk id c dat e
    exact ⟨h1, (Array.getElem?_eq_some_iff.1 h2).1⟩
  · obtain ⟨h1, lp, h2, _⟩ := g.lop id r p tm ps a b e
    exact ⟨h1, (Array.getElem?_eq_some_iff.1 h2).1⟩

theorem ok_ne (g : Good P k) {id : Nat} (l : live k.h id) {b : Nat} (h : k.ok b) : b ≠ (k.β id).1 := by
  rintro rfl
  rcases h with ⟨h, _⟩ | ⟨_, h⟩
  · have := (g.at l).1; omega
  · exact h ⟨id, l, rfl⟩

/-- A world that differs in no block that was there. -/
theorem Good.world (g : Good P k) {w' : World} (hlow : Below k.n0 k.w w') (hs : ∀ b, b < k.w.heap.size → w'.heap[b]? = k.w.heap[b]?) (ro m : Nat) :
    Good P { k with w := w' } ∧ Ev ro m k { k with w := w' } := by
  have e : ∀ m, Ev ro m k { k with w := w' } := fun m => ⟨rfl, rfl, hlow, fun b h hb => ⟨h, hs b hb⟩,
    fun id _ c dat h => ⟨c, h, Nat.le_refl _, fun _ => ⟨rfl, by
      have := hs _ (g.at (live_blk h)).2
      simp [rowSize, this]⟩⟩,
    fun _ _ r p _ _ _ _ h => ⟨rfl, r, p, h⟩, fun id _ _ l => ⟨rfl, rfl, hs _ (g.at l).2⟩, fun _ _ _ _ h => h⟩
  refine ⟨⟨Nat.le_trans g.size hlow.size, ?_, ?_, g.inj⟩, e m⟩
  · intro id c dat h
    obtain ⟨h1, h2, h3, h4, xs, rest, T, h5, h6⟩ := g.blk id c dat h
    exact ⟨h1, h2, h3, h4, xs, rest, T, (hs _ (g.at (live_blk h)).2).trans h5, RL.ev (e k.h.length) (RL.blos h6) h6⟩
  · intro id r p tm ps a b h
    obtain ⟨h1, lp, h2, h3, h4, h5, h6⟩ := g.lop id r p tm ps a b h
    exact ⟨h1, lp, (hs _ (g.at (live_lop h)).2).trans h2, h3, h4, RL.ev (e k.h.length) (RL.blos h5) h5, h6⟩

def K.set (k : K) (id : Nat) (b : B) (p : Nat × Nat) (w' : World) : K :=
  { k with h := bset k.h id b, β := fun i => if i = id then p else k.β i, w := w' }

/-- One own block changes, or is born. -/
theorem Good.upd (g : Good P k) {id : Nat} {c' : List V} {dat : Bool} {p : Nat × Nat} {w' : World} {ro : Nat} {xs rest : List Value} {T : TypeId}
    (hid : id < k.h.length) (hro : ro ≤ id)
    (hold : bget k.h id = some .unborn ∨ ∃ c, bget k.h id = some (.blk c dat) ∧ c.length ≤ c'.length ∧ (c'.length = c.length → p = k.β id ∧ rowSize w' p.1 = rowSize k.w p.1))
    (hlow : Below k.n0 k.w w')
    (hsame : ∀ b, b < k.w.heap.size → (live k.h id → b ≠ (k.β id).1) → w'.heap[b]? = k.w.heap[b]?)
    (hp : k.n0 ≤ p.1) (hfresh : k.w.heap.size ≤ p.1 ∨ (live k.h id ∧ p.1 = (k.β id).1))
    (hxs : w'.heap[p.1]? = some (.cells ⟨xs ++ rest⟩ T (0, 0)))
    (hsh : p.2 ≤ c'.length) (hl : RL k (c'.drop p.2) xs) (h1 : ones c' = true) (hd : dat = true → scalars c' = true) :
    Good P (k.set id (.blk c' dat) p w') ∧ Ev ro k.h.length k (k.set id (.blk c' dat) p w') := by
  have hget : ∀ i, bget (bset k.h id (.blk c' dat)) i = if i = id then some (.blk c' dat) else bget k.h i := by
    intro i; rw [bget_bset]
    by_cases e : id = i
    · subst e; simp [hid]
    · simp [e, Ne.symm e]
  have hlive : ∀ i, i ≠ id → live (bset k.h id (.blk c' dat)) i → live k.h i := by
    rintro i hne ⟨b, hb, hn⟩; rw [hget, if_neg hne] at hb; exact ⟨b, hb, hn⟩
  have hne : ∀ i, i ≠ id → live k.h i → (live k.h id → (k.β i).1 ≠ (k.β id).1) := fun i hi l l' e => hi (g.inj i id l l' e)
  have hpne : ∀ i, i ≠ id → live k.h i → (k.β i).1 ≠ p.1 := by
    intro i hi l e
    rcases hfresh with hf | ⟨l', hf⟩
    · have := (g.at l).2; omega
    · exact hi (g.inj i id l l' (e.trans hf))
  have ev : Ev ro k.h.length k (k.set id (.blk c' dat) p w') := by
    refine ⟨rfl, rfl, hlow, ?_, ?_, ?_, ?_, fun i h1 h2 b hb => by
      have hii : i ≠ id := by omega
      simp only [K.set, hget, hii, if_false]; exact hb⟩
    · intro b hb hlt
      refine ⟨?_, hsame b hlt fun l => ok_ne g l hb⟩
      rcases hb with ⟨hb, hA⟩ | ⟨hb, hA⟩
      · exact .inl ⟨hb, hA⟩
      · refine .inr ⟨hb, ?_⟩
        rintro ⟨i, l, e⟩
        by_cases hi : i = id
        · simp only [K.set, hi, if_true] at e
          rcases hfresh with hf | ⟨l', hf⟩
          · omega
          · exact hA ⟨id, l', hf.symm.trans e⟩
        · simp only [K.set, hi, if_false] at e
          exact hA ⟨i, hlive i hi l, e⟩
    · intro i hi c d hc
      by_cases hii : i = id
      · subst hii
        rcases hold with hu | ⟨c0, hc0, hle, hq⟩
        · rw [hc] at hu; cases hu
        · rw [hc] at hc0; cases hc0
          refine ⟨c', by simp [K.set, hget], hle, fun e => ?_⟩
          obtain ⟨q1, q2⟩ := hq e
          exact ⟨by simp [K.set, q1], by simp only [K.set]; rw [← q1]; exact q2⟩
      · refine ⟨c, by simp only [K.set, hget, hii, if_false]; exact hc, Nat.le_refl _, fun _ => ⟨by simp [K.set, hii], ?_⟩⟩
        have := hsame (k.β i).1 (g.at (live_blk hc)).2 (hne i hii (live_blk hc))
        simp only [rowSize, K.set, this]
    · intro i hi r q tm ps a b hc
      have hii : i ≠ id := by
        rintro rfl; rcases hold with hu | ⟨c0, hc0, _⟩
        · rw [hc] at hu; cases hu
        · rw [hc] at hc0; cases hc0
      exact ⟨by simp [K.set, hii], r, q, by simp only [K.set, hget, hii, if_false]; exact hc⟩
    · intro i h1 h2 l
      have hii : i ≠ id := by omega
      refine ⟨by simp only [K.set, hget, hii, if_false], by simp [K.set, hii], ?_⟩
      exact hsame (k.β i).1 (g.at l).2 (hne i hii l)
  refine ⟨⟨Nat.le_trans g.size hlow.size, ?_, ?_, ?_⟩, ev⟩
  · intro i c d hc
    by_cases hii : i = id
    · subst hii
      simp only [K.set, hget, if_true] at hc; cases hc
      refine ⟨by simpa [K.set] using hp, by simpa [K.set] using hsh, h1, hd, xs, rest, T, by simpa [K.set] using hxs, ?_⟩
      have := RL.ev ev (RL.blos hl) hl
      simpa [K.set] using this
    · simp only [K.set, hget, hii, if_false] at hc
      obtain ⟨a1, a2, a3, a4, xs', rest', T', a5, a6⟩ := g.blk i c d hc
      refine ⟨by simpa [K.set, hii] using a1, by simpa [K.set, hii] using a2, a3, a4, xs', rest', T', ?_, ?_⟩
      · have := hsame (k.β i).1 (g.at (live_blk hc)).2 (hne i hii (live_blk hc))
        simp only [K.set, hii, if_false, this]; exact a5
      · have := RL.ev ev (RL.blos a6) a6
        simpa [K.set, hii] using this
  · intro i r q tm ps a b hc
    have hii : i ≠ id := by
      rintro rfl; simp only [K.set, hget, if_true] at hc; cases hc
    simp only [K.set, hget, hii, if_false] at hc
    obtain ⟨a1, lp, a2, a3, a4, a5, a6⟩ := g.lop i r q tm ps a b hc
    refine ⟨by simpa [K.set, hii] using a1, lp, ?_, a3, a4, RL.ev ev (RL.blos a5) a5, a6⟩
    have := hsame (k.β i).1 (g.at (live_lop hc)).2 (hne i hii (live_lop hc))
    simp only [K.set, hii, if_false, this]; exact a2
  · intro i j hi hj e
    by_cases h1 : i = id <;> by_cases h2 : j = id
    · omega
    · simp only [K.set, h1, h2, if_true, if_false] at e
      exact absurd e.symm (hpne j h2 (hlive j h2 hj))
    · simp only [K.set, h1, h2, if_true, if_false] at e
      exact absurd e (hpne i h1 (hlive i h1 hi))
    · simp only [K.set, h1, h2, if_false] at e
      exact g.inj i j (hlive i h1 hi) (hlive j h2 hj) e

/-! ### more places, fewer places -/
theorem bget_unborns (n i : Nat) : bget (unborns n) i = if i < n then some .unborn else none := by
  induction n generalizing i with
  | zero => simp [unborns, bget]
  | succ n ih => cases i with
    | zero => simp [unborns, bget]
    | succ i => simp [unborns, bget, ih]
theorem unborns_len (n : Nat) : (unborns n).length = n := by induction n <;> simp_all [unborns]
theorem bget_append (h l : List B) (i : Nat) : bget (h ++ l) i = if i < h.length then bget h i else bget l (i - h.length) := by
  simp only [bget_eq]
  by_cases e : i < h.length
  · rw [if_pos e, List.getElem?_append_left e]
  · rw [if_neg e, List.getElem?_append_right (by omega)]

theorem Good.more (g : Good P k) (n ro : Nat) : Good P { k with h := k.h ++ unborns n } ∧ Ev ro k.h.length k { k with h := k.h ++ unborns n } := by
  have hget : ∀ i b, bget (k.h ++ unborns n) i = some b → b ≠ .unborn → bget k.h i = some b := by
    intro i b hb hn
    rw [bget_append] at hb
    split at hb
    · exact hb
    · rw [bget_unborns] at hb; split at hb <;> simp_all
  have hget' : ∀ i, i < k.h.length → bget (k.h ++ unborns n) i = bget k.h i := fun i hi => by rw [bget_append, if_pos hi]
  have hlive : ∀ i, live (k.h ++ unborns n) i → live k.h i := fun i ⟨b, hb, hn⟩ => ⟨b, hget i b hb hn, hn⟩
  have ev : Ev ro k.h.length k { k with h := k.h ++ unborns n } := by
    refine ⟨rfl, rfl, Below.refl _ _, fun b hb _ => ⟨?_, rfl⟩, fun id hid c dat hc => ⟨c, by rw [hget' id hid]; exact hc, Nat.le_refl _, fun _ => ⟨rfl, rfl⟩⟩,
      fun id hid r p tm ps a b hc => ⟨rfl, r, p, by rw [hget' id hid]; exact hc⟩, fun id _ h2 _ => ⟨hget' id h2, rfl, rfl⟩, fun id _ h2 b hb => (hget' id h2).trans hb⟩
    rcases hb with h | ⟨h, h'⟩
    · exact .inl h
    · exact .inr ⟨h, fun ⟨i, l, e⟩ => h' ⟨i, hlive i l, e⟩⟩
  refine ⟨⟨g.size, ?_, ?_, fun i j hi hj e => g.inj i j (hlive i hi) (hlive j hj) e⟩, ev⟩
  · intro id c dat hc
    obtain ⟨a1, a2, a3, a4, xs, rest, T, a5, a6⟩ := g.blk id c dat (hget id _ hc (by simp))
    exact ⟨a1, a2, a3, a4, xs, rest, T, a5, RL.ev ev (RL.blos a6) a6⟩
  · intro id r p tm ps a b hc
    obtain ⟨a1, lp, a2, a3, a4, a5, a6⟩ := g.lop id r p tm ps a b (hget id _ hc (by simp))
    exact ⟨a1, lp, a2, a3, a4, RL.ev ev (RL.blos a5) a5, a6⟩

mutual
theorem scalar_blo (n : Nat) : ∀ (v : V), v.scalar = true → v.blo n = true
  | .agg cs, h => by simp only [V.scalar, V.blo] at *; exact scalars_blos n cs h
  | .tup cs, h => by simp only [V.scalar, V.blo] at *; exact scalars_blos n cs h
  | .iface _ v, h => by simp only [V.scalar, V.blo] at *; exact scalar_blo n v h
  | .fn _ cs, h => by simp only [V.scalar, V.blo] at *; exact scalars_blos n cs h
  | .ref _ _ _, h | .ms _ _ _ _ _ _, h | .yld _, h => by simp [V.scalar] at h
  | .bool _, _ | .int _ _, _ | .str _, _ | .nilp, _ | .nilsl, _ | .nilmap, _ | .nilfn, _ | .nilif, _ | .sl _ _ _, _ | .rp _ _, _ | .dead, _ => by simp [V.blo]
theorem scalars_blos (n : Nat) : ∀ (l : List V), scalars l = true → blos n l = true
  | [], _ => rfl
  | v :: l, h => by simp only [scalars, blos, Bool.and_eq_true] at *; exact ⟨scalar_blo n v h.1, scalars_blos n l h.2⟩
end

theorem hbelow_get {n : Nat} : ∀ {h : List B} {i : Nat} {b : B}, hbelow n h = true → bget h i = some b → b.blo n = true
  | [], _, _, _, h => by simp [bget] at h
  | b :: l, 0, b', h, e => by simp [bget] at e; subst e; simp only [hbelow, Bool.and_eq_true] at h; exact h.1
  | b :: l, i + 1, b', h, e => by simp only [hbelow, Bool.and_eq_true] at h; exact hbelow_get h.2 (by simpa [bget] using e)

theorem Good.less (g : Good P k) (n ro : Nat) (hb : hbelow n (k.h.take n) = true) : Good P { k with h := k.h.take n } ∧ Ev ro n k { k with h := k.h.take n } := by
  have hget : ∀ i b, bget (k.h.take n) i = some b → bget k.h i = some b := by
    intro i b h; rw [bget_eq, List.getElem?_take] at h; rw [bget_eq]
    split at h <;> simp_all
  have hget' : ∀ i, i < n → bget (k.h.take n) i = bget k.h i := by
    intro i hi; rw [bget_eq, bget_eq, List.getElem?_take, if_pos hi]
  have hlive : ∀ i, live (k.h.take n) i → live k.h i := fun i ⟨b, hb, hn⟩ => ⟨b, hget i b hb, hn⟩
  have ev : Ev ro n k { k with h := k.h.take n } := by
    refine ⟨rfl, rfl, Below.refl _ _, fun b hb _ => ⟨?_, rfl⟩, fun id hid c dat hc => ⟨c, by rw [hget' id hid]; exact hc, Nat.le_refl _, fun _ => ⟨rfl, rfl⟩⟩,
      fun id hid r p tm ps a b hc => ⟨rfl, r, p, by rw [hget' id hid]; exact hc⟩, fun id _ h2 _ => ⟨hget' id h2, rfl, rfl⟩, fun id _ h2 b hb => (hget' id h2).trans hb⟩
    rcases hb with h | ⟨h, h'⟩
    · exact .inl h
    · exact .inr ⟨h, fun ⟨i, l, e⟩ => h' ⟨i, hlive i l, e⟩⟩
  refine ⟨⟨g.size, ?_, ?_, fun i j hi hj e => g.inj i j (hlive i hi) (hlive j hj) e⟩, ev⟩
  · intro id c dat hc
    obtain ⟨a1, a2, a3, a4, xs, rest, T, a5, a6⟩ := g.blk id c dat (hget id _ hc)
    have hbl : blos n c = true := by
      have := hbelow_get hb hc
      simp only [B.blo, Bool.or_eq_true] at this
      rcases this with h | h
      · exact scalars_blos n c (a4 h)
      · exact h
    exact ⟨a1, a2, a3, a4, xs, rest, T, a5, RL.ev ev (blos_drop hbl _) a6⟩
  · intro id r p tm ps a b hc
    obtain ⟨a1, lp, a2, a3, a4, a5, a6⟩ := g.lop id r p tm ps a b (hget id _ hc)
    have := hbelow_get hb hc
    exact ⟨a1, lp, a2, a3, a4, RL.ev ev (by simpa [B.blo] using this) a5, a6⟩

end Go.Dr
