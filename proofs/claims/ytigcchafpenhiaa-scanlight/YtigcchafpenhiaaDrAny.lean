/- The door: a region, plain or with an order that is drawn, against the model. -/
import Derived.Test.YtigcchafpenhiaaDrDraw
namespace Go.Dr
open Go.RowKit (Below)

variable {P : Program} {md : Nat → Nat} {oc : Orc} {ro base : Nat}

theorem Ev.after {m : Nat} {a b c : K} (h : Ev ro m a b) (k : Ev ro b.h.length b c) : Ev ro m a c := by
  refine ⟨k.n0.trans h.n0, k.A.trans h.A, h.low.trans (h.n0 ▸ k.low), ?_, ?_, ?_, ?_, fun id h1 h2 b hb => by
    have := h.un id h1 h2 b hb
    exact k.un id h1 (bget_lt this) b this⟩
  · intro x hx hs
    obtain ⟨h1, h2⟩ := h.prot x hx hs
    obtain ⟨h3, h4⟩ := k.prot x h1 (Nat.lt_of_lt_of_le hs h.low.size)
    exact ⟨h3, h4.trans h2⟩
  · intro id hid c0 dat hc
    obtain ⟨c1, e1, l1, p1⟩ := h.blk id hid c0 dat hc
    obtain ⟨c2, e2, l2, p2⟩ := k.blk id (bget_lt e1) c1 dat e1
    refine ⟨c2, e2, by omega, fun e => ?_⟩
    obtain ⟨q1, q2⟩ := p1 (by omega)
    obtain ⟨q3, q4⟩ := p2 (by omega)
    exact ⟨q3.trans q1, by rw [← q2, ← q1]; exact q4⟩
  · intro id hid r p tm ps x y hc
    obtain ⟨h1, r', p', h2⟩ := h.lop id hid r p tm ps x y hc
    obtain ⟨h3, r2, p2, h4⟩ := k.lop id (bget_lt h2) r' p' tm ps x y h2
    exact ⟨h3.trans h1, r2, p2, h4⟩
  · intro id h1 h2 l
    obtain ⟨q1, q2, q3⟩ := h.rd id h1 h2 l
    obtain ⟨b0, hb, hn⟩ := l
    have l' : live b.h id := ⟨b0, q1.trans hb, hn⟩
    obtain ⟨r1, r2, r3⟩ := k.rd id h1 (bget_lt (q1.trans hb)) l'
    exact ⟨r1.trans q1, r2.trans q2, by rw [← q3, ← q2]; exact r3⟩

/-- What the compiled rows say of the operations. -/
structure RowsOk (P : Program) (ops : Array Oper) (rs : List G) : Prop where
  len : rs.length = ops.size
  row : ∀ i r, rs[i]? = some r → ∃ o, ops[i]? = some o ∧ RowOk P ops o r ∧ (∀ e ∈ o.after, Region.binds .any e = true → e.on < i) ∧
    ∀ j, r.b.testBit j = true → ∃ e ∈ o.after, Region.binds .any e = true ∧ (e.on = j ∨ ∃ r', rs[e.on]? = some r' ∧ r'.b.testBit j = true)

theorem maskBits_spec {acc : List Nat} {j : Nat} : ∀ {es : List Edge}, (maskBits acc es).testBit j = true → ∃ e ∈ es, Region.binds .any e = true ∧ (e.on = j ∨ (acc.getD e.on 0).testBit j = true)
  | [], h => by simp [maskBits] at h
  | e :: l, h => by
    simp only [maskBits] at h
    by_cases hb : Region.binds .any e = true
    · simp only [hb, if_true, Nat.testBit_or, Bool.or_eq_true] at h
      rcases h with (h | h) | h
      · obtain ⟨e', he, h'⟩ := maskBits_spec h
        exact ⟨e', by simp [he], h'⟩
      · rw [Nat.testBit_two_pow] at h
        exact ⟨e, by simp, hb, .inl (by simpa using h)⟩
      · exact ⟨e, by simp, hb, .inr h⟩
    · simp only [hb, if_false] at h
      obtain ⟨e', he, h'⟩ := maskBits_spec h
      exact ⟨e', by simp [he], h'⟩

theorem cRows_spec {all : Array Oper} : ∀ {l : List Oper} {i k : Nat} {acc : List Nat} {n : Nat} {rs : List G}, cRows P all i k acc l = some (n, rs) → acc.length = i → (∀ t, l[t]? = all[i + t]?) →
    rs.length = l.length ∧ ∀ t r, rs[t]? = some r → ∃ o, all[i + t]? = some o ∧ RowOk P all o r ∧ (∀ e ∈ o.after, Region.binds .any e = true → e.on < i + t) ∧
      ∀ j, r.b.testBit j = true → ∃ e ∈ o.after, Region.binds .any e = true ∧ (e.on = j ∨ ((acc ++ rs.map (·.b)).getD e.on 0).testBit j = true)
  | [], i, k, acc, n, rs, h, _, _ => by
    simp only [cRows, Option.some.injEq, Prod.mk.injEq] at h
    obtain ⟨_, rfl⟩ := h
    exact ⟨rfl, fun t r e => by simp at e⟩
  | o :: l, i, k, acc, n, rs, h, hacc, hl => by
    simp only [cRows] at h
    split at h <;> (try (cases h; done))
    rename_i hedge
    split at h <;> (try (cases h; done))
    rename_i m hm
    split at h <;> (try (cases h; done))
    rename_i g hg
    split at h <;> (try (cases h; done))
    rename_i n' r' hrest
    cases h
    obtain ⟨h1, h2⟩ := cRows_spec hrest (by simp [hacc]) (fun t => by have := hl (t + 1); simpa [Nat.add_assoc, Nat.add_comm 1 t] using this)
    have ho : all[i]? = some o := by simpa using (hl 0).symm
    refine ⟨by simp [h1], fun t r ht => ?_⟩
    cases t with
    | zero =>
      simp only [List.getElem?_cons_zero, Option.some.injEq] at ht
      subst ht
      refine ⟨o, ho, ⟨k, hm, rfl, ?_⟩, ?_, ?_⟩
      · cases hgd : o.guard with
        | none => rw [hgd] at hg; simp only [Option.some.injEq] at hg; exact hg.symm
        | some q =>
          obtain ⟨j, want⟩ := q
          rw [hgd] at hg; simp only at hg
          split at hg <;> (try (cases hg; done))
          rename_i oj hj
          split at hg <;> (try (cases hg; done))
          rename_i s hs
          split at hg <;> (try (cases hg; done))
          simp only [Option.some.injEq] at hg
          exact ⟨oj, s, hj, hs, hg.symm⟩
      · intro e he hb
        simp only [edgesOk, List.all_eq_true] at hedge
        have := hedge e (by simpa using he)
        rw [hb] at this; simpa using this
      · intro j hj
        obtain ⟨e, he, hb, h'⟩ := maskBits_spec hj
        refine ⟨e, by simpa using he, hb, h'.imp id fun h' => ?_⟩
        simp only [edgesOk, List.all_eq_true] at hedge
        have := hedge e he
        rw [hb] at this
        replace this : e.on < i := by simpa using this
        rw [List.getD_eq_getElem?_getD, List.getElem?_append_left (by omega), ← List.getD_eq_getElem?_getD]; exact h'
    | succ t =>
      simp only [List.getElem?_cons_succ] at ht
      obtain ⟨o', q1, q2, q3, q4⟩ := h2 t r ht
      rw [show i + 1 + t = i + (t + 1) by omega] at q1 q3
      refine ⟨o', q1, q2, q3, fun j hj => ?_⟩
      obtain ⟨e, he, hb, h'⟩ := q4 j hj
      exact ⟨e, he, hb, h'.imp id fun h' => by simpa using h'⟩

theorem cRows_ok {ops : Array Oper} {n : Nat} {rs : List G} (h : cRows P ops 0 0 [] ops.toList = some (n, rs)) : RowsOk P ops rs := by
  obtain ⟨h1, h2⟩ := cRows_spec h rfl (fun t => by simp)
  refine ⟨by simpa using h1, fun i r hr => ?_⟩
  obtain ⟨o, q1, q2, q3, q4⟩ := h2 i r hr
  simp only [Nat.zero_add] at q1 q3
  refine ⟨o, q1, q2, q3, fun j hj => ?_⟩
  obtain ⟨e, he, hb, h'⟩ := q4 j hj
  refine ⟨e, he, hb, h'.imp id fun h' => ?_⟩
  simp only [List.nil_append, List.getD_eq_getElem?_getD, List.getElem?_map] at h'
  cases hr' : rs[e.on]? with
  | none => rw [hr'] at h'; simp at h'
  | some r' => rw [hr'] at h'; exact ⟨r', rfl, by simpa using h'⟩

/-- Rows in order. -/
theorem evOps_wp {ops : Array Oper} {fr : Option Nat} {n : Nat} {Q : Exit → Act → World → Prop} (hoc : OrcOk P oc ro) : ∀ {l : List Oper} {rs : List G} {k : K} {tm : List V} {a : Act} {t : List V × List B}, rs.length = l.length →
    (∀ (i : Nat) o r, l[i]? = some o → rs[i]? = some r → RowOk P ops o r) → Good P k → RL k tm a.tmps.toList → evOps oc ro base rs tm k.h = some t →
    (∀ k' a', Good P k' → k'.h = t.2 → Ev ro k.h.length k k' → RL k' t.1 a'.tmps.toList → a'.defers = a.defers → Q .normal a' k'.w) →
    wpListIn (fen fr) n P ops Q l a k.w
  | [], [], k, tm, a, t, _, _, g, ht, e, hQ => by
    simp only [evOps, Option.some.injEq] at e
    subst e
    exact hQ k a g rfl (Ev.refl _ _ _) ht rfl
  | o :: l, r :: rs, k, tm, a, t, hlen, hrow, g, ht, e, hQ => by
    simp only [evOps] at e
    split at e <;> (try (cases e; done))
    rename_i tm' h' hg
    have := evG_wp (fr := fr) (n := n) (Q := Q) (next := wpListIn (fen fr) n P ops Q l) hoc (hrow 0 o r rfl rfl) g ht hg (fun k' a' g' hh ev hl hd =>
      evOps_wp hoc (by simpa using hlen) (fun i o r h1 h2 => hrow (i + 1) o r h1 h2) g' hl (by rw [hh]; exact e) (fun k2 a2 g2 hh2 ev2 hl2 hd2 =>
        hQ k2 a2 g2 hh2 (ev.after ev2) hl2 (hd2.trans hd)))
    exact this
  | [], _ :: _, _, _, _, _, h, _, _, _, _, _ => by simp at h
  | _ :: _, [], _, _, _, _, h, _, _, _, _, _ => by simp at h


/-! ### any order -/
theorem binds_any {m : Region.Mode} {e : Edge} (h : Region.binds .any e = true) : Region.binds m e = true := by
  unfold Region.binds at *
  split at h
  · exact absurd h (by decide)
  · exact absurd h (by decide)
  · rfl

/-- What holds of the rows that are left. -/
structure Left (P : Program) (ops : Array Oper) (rs : List G) (listed : Array Bool) (L : List Row) : Prop where
  size : listed.size = ops.size
  un : ∀ x ∈ L, listed.getD x.1 true = false ∧ rs[x.1]? = some x.2.1
  all : ∀ i, i < ops.size → listed.getD i true = false → ∃ x ∈ L, x.1 = i
  sorted : L.Pairwise (fun a b => a.1 < b.1)
  loose : L.Pairwise (fun a b => b.2.1.b.testBit a.1 = true ∨ (apart a.2.1 b.2.1 = true ∧ b.2.2.free a.2.2 = true))
  closed : ∀ i r j, rs[i]? = some r → listed.getD i true = true → r.b.testBit j = true → listed.getD j true = true

theorem getD_tf {listed : Array Bool} {i : Nat} (h : i < listed.size) : listed.getD i true = listed.getD i false := by
  simp [h]

theorem pairwise_mid {α : Type} {p : α → α → Prop} {A C : List α} {x : α} (h : (A ++ x :: C).Pairwise p) : (∀ a ∈ A, p a x) ∧ (A ++ C).Pairwise p := by
  rw [List.pairwise_append] at h ⊢
  obtain ⟨h1, h2, h3⟩ := h
  rw [List.pairwise_cons] at h2
  exact ⟨fun a ha => h3 a ha x (by simp), h1, h2.2, fun a ha b hb => h3 a ha b (by simp [hb])⟩

theorem rankRows_spec {m : Region.Mode} {n : Nat} {ord : List Nat} : ∀ {l : List Oper} {i : Nat}, rankRows m n ord i l = true → ∀ t o, l[t]? = some o → ∀ e ∈ o.after, Region.binds m e = true → e.on < n ∧ ord.idxOf e.on < ord.idxOf (i + t)
  | [], _, _, t, o, h => by simp at h
  | o0 :: l, i, h, t, o, ht => by
    simp only [rankRows, Bool.and_eq_true] at h
    cases t with
    | zero =>
      simp only [List.getElem?_cons_zero, Option.some.injEq] at ht
      subst ht
      intro e he hb
      have := h.1
      simp only [rankRow, List.all_eq_true] at this
      have := this e (by simpa using he)
      rw [hb] at this
      simpa using this
    | succ t =>
      have := rankRows_spec h.2 t o (by simpa using ht)
      rw [show i + 1 + t = i + (t + 1) by omega] at this
      exact this

theorem rank_of {ops : Array Oper} (h : ranksOk ops = true) (m : Region.Mode) : ∃ ord : List Nat, ∀ i o, ops[i]? = some o → ∀ e ∈ o.after, Region.binds m e = true → e.on < ops.size ∧ ord.idxOf e.on < ord.idxOf i := by
  have key : ∀ m, rankOk ops m = true → ∃ ord : List Nat, ∀ i o, ops[i]? = some o → ∀ e ∈ o.after, Region.binds m e = true → e.on < ops.size ∧ ord.idxOf e.on < ord.idxOf i := by
    intro m hm
    refine ⟨topo m ops.toList (ops.size + 1) [], fun i o ho e he hb => ?_⟩
    have := rankRows_spec hm i o (by simpa using ho) e he hb
    rwa [Nat.zero_add] at this
  simp only [ranksOk, Bool.and_eq_true] at h
  cases m
  · exact key _ h.1.1
  · exact key _ h.1.2
  · exact key _ h.2

theorem any_wp {ops : Array Oper} {rs : List G} {fr : Option Nat} {n : Nat} {Q : Exit → Act → World → Prop} {m : Region.Mode} (hr : RowsOk P ops rs) (hrk : ∃ ord : List Nat, ∀ i o, ops[i]? = some o → ∀ e ∈ o.after, Region.binds m e = true → e.on < ops.size ∧ ord.idxOf e.on < ord.idxOf i) (hoc : OrcOk P oc ro) (hfp : OrcFp md oc) :
    ∀ (fuel : Nat) {listed : Array Bool} {L : List Row} {k : K} {tm : List V} {a : Act} {t : List V × List B}, L.length = fuel → Left P ops rs listed L → Good P k → RL k tm a.tmps.toList → Run md oc ro base L (tm, k.h) t →
    (∀ k' a', Good P k' → k'.h = t.2 → Ev ro k.h.length k k' → RL k' t.1 a'.tmps.toList → a'.defers = a.defers → Q .normal a' k'.w) →
    wpAnyIn (fen fr) n P m ops Q fuel listed a k.w := by
  intro fuel
  induction fuel with
  | zero =>
    intro listed L k tm a t hlen hL g ht hrun hQ
    have hnil : L = [] := List.eq_nil_of_length_eq_zero hlen
    subst hnil
    simp only [Run] at hrun
    refine ⟨?_, hQ k a g (by rw [← hrun]) (Ev.refl _ _ _) (by rw [← hrun]; exact ht) rfl⟩
    apply List.eq_nil_iff_forall_not_mem.2
    intro i hi
    obtain ⟨h1, o, h2, _⟩ := mem_ready.1 hi
    obtain ⟨x, hx, _⟩ := hL.all i (Array.getElem?_eq_some_iff.1 h2).1 h1
    simp at hx
  | succ fuel ih =>
    intro listed L k tm a t hlen hL g ht hrun hQ
    constructor
    · -- something is ready
      intro hnil
      exfalso
      cases L with
      | nil => simp at hlen
      | cons x0 L =>
        obtain ⟨ord, hord⟩ := hrk
        have hmin : ∀ (k : Nat) (x : Row), x ∈ x0 :: L → ord.idxOf x.1 < k → ∃ y : Row, y.1 ∈ Region.ready m ops listed := by
          intro k
          induction k with
          | zero => intro x _ h; omega
          | succ k ihk =>
            intro x hx hk
            obtain ⟨h1, h2⟩ := hL.un x hx
            obtain ⟨o, ho, _⟩ := hr.row _ _ h2
            by_cases hall : ∀ e ∈ o.after, Region.binds m e = true → listed.getD e.on false = true
            · exact ⟨x, mem_ready.2 ⟨h1, o, ho, hall⟩⟩
            · simp only [Classical.not_forall] at hall
              obtain ⟨e, he, hb, hne⟩ := hall
              obtain ⟨q1, q2⟩ := hord _ _ ho e he hb
              have hsz : e.on < listed.size := by rw [hL.size]; exact q1
              have hf : listed.getD e.on true = false := by
                rw [getD_tf hsz]; simpa using hne
              obtain ⟨y, hy, hye⟩ := hL.all e.on q1 hf
              exact ihk y hy (by rw [hye]; omega)
        obtain ⟨y, hmem⟩ := hmin _ x0 (by simp) (Nat.lt_succ_self _)
        rw [hnil] at hmem; simp at hmem
    · intro i hi
      obtain ⟨h1, o, ho, hedges⟩ := mem_ready.1 hi
      have hisz : i < ops.size := (Array.getElem?_eq_some_iff.1 ho).1
      obtain ⟨x, hx, rfl⟩ := hL.all i hisz h1
      obtain ⟨A, C, rfl⟩ := List.append_of_mem hx
      obtain ⟨_, hrx⟩ := hL.un x hx
      obtain ⟨o', ho', hrow, hlt, hmask⟩ := hr.row _ _ hrx
      rw [ho] at ho'; cases ho'
      -- what it must follow is listed
      have hanc : ∀ j, x.2.1.b.testBit j = true → listed.getD j true = true := by
        intro j hj
        obtain ⟨e, he, hb, h'⟩ := hmask j hj
        have hel := hedges e he (binds_any hb)
        have hsz : e.on < listed.size := by rw [hL.size]; have := hlt e he hb; omega
        rw [← getD_tf hsz] at hel
        rcases h' with rfl | ⟨r', hr', hbit⟩
        · exact hel
        · exact hL.closed e.on r' j hr' hel hbit
      obtain ⟨hmid, hpw⟩ := pairwise_mid hL.loose
      obtain ⟨hsmid, hsw⟩ := pairwise_mid hL.sorted
      have hbub := bubble hfp (fun b hb => by
        rcases hmid b hb with h | h
        · have hl := hanc _ h
          have := (hL.un b (by simp [hb])).1
          rw [hl] at this; cases this
        · exact h) hrun
      obtain ⟨_, u, hu, hrest⟩ := hbub
      -- what is left
      have hne : ∀ y ∈ A ++ C, y.1 ≠ x.1 := by
        have hs := hL.sorted
        rw [List.pairwise_append, List.pairwise_cons] at hs
        intro y hy
        rcases List.mem_append.1 hy with hy | hy
        · have := hs.2.2 y hy x (by simp); omega
        · have := hs.2.1.1 y hy; omega
      have hleft : Left P ops rs (listed.setIfInBounds x.1 true) (A ++ C) := by
        refine ⟨by simp [hL.size], fun y hy => ?_, fun i hi hun => ?_, hsw, hpw, fun i r j hri hli hbit => ?_⟩
        · have := hL.un y (by rcases List.mem_append.1 hy with h | h <;> simp [h])
          exact ⟨by rw [getD_set_ne true (Ne.symm (hne y hy))]; exact this.1, this.2⟩
        · have hix : x.1 ≠ i := by
            rintro rfl
            have : (listed.setIfInBounds x.1 true).getD x.1 true = true := by
              simp [Array.getElem?_setIfInBounds]
              split <;> rfl
            rw [this] at hun; cases hun
          rw [getD_set_ne true hix] at hun
          obtain ⟨y, hy, hyi⟩ := hL.all i hi hun
          refine ⟨y, ?_, hyi⟩
          rcases List.mem_append.1 hy with h | h
          · simp [h]
          · rcases List.mem_cons.1 h with rfl | h
            · exact absurd hyi hix
            · simp [h]
        · have hj : listed.getD j true = true := by
            by_cases hix : x.1 = i
            · subst hix
              rw [hrx] at hri; cases hri
              exact hanc j hbit
            · rw [getD_set_ne true hix] at hli
              exact hL.closed i r j hri hli hbit
          by_cases hjx : x.1 = j
          · subst hjx; simp [Array.getElem?_setIfInBounds]; split <;> rfl
          · rw [getD_set_ne true hjx]; exact hj
      unfold wpOpIn
      simp only [ho]
      exact evG_wp (fr := fr) hoc hrow g ht hu (fun k' a' g' hh ev hl hd =>
        ih (by simp at hlen ⊢; omega) hleft g' hl (by rw [hh]; exact hrest) (fun k2 a2 g2 hh2 ev2 hl2 hd2 => hQ k2 a2 g2 hh2 (ev.after ev2) hl2 (hd2.trans hd)))

theorem enum_mem : ∀ {l : List G} {i : Nat} {q : Nat × G}, q ∈ enum i l → ∃ j, q.1 = i + j ∧ l[j]? = some q.2
  | [], _, _, h => by simp [enum] at h
  | r :: l, i, q, h => by
    rcases List.mem_cons.1 h with rfl | h
    · exact ⟨0, rfl, rfl⟩
    · obtain ⟨j, h1, h2⟩ := enum_mem h
      exact ⟨j + 1, by omega, by simpa using h2⟩
theorem enum_get : ∀ {l : List G} {i j : Nat}, j < l.length → ∃ r, (i + j, r) ∈ enum i l
  | [], _, _, h => by simp at h
  | r :: l, i, 0, _ => ⟨r, by simp [enum]⟩
  | r :: l, i, j + 1, h => by
    obtain ⟨r', h'⟩ := enum_get (l := l) (i := i + 1) (j := j) (by simpa using h)
    exact ⟨r', by simp only [enum, List.mem_cons]; right; rw [show i + (j + 1) = i + 1 + j by omega]; exact h'⟩
theorem enum_sorted : ∀ (l : List G) (i : Nat), (enum i l).Pairwise (fun a b => a.1 < b.1)
  | [], _ => .nil
  | r :: l, i => .cons (fun q hq => by obtain ⟨j, h, _⟩ := enum_mem hq; show i < q.1; omega) (enum_sorted l (i + 1))
theorem enum_len : ∀ (l : List G) (i : Nat), (enum i l).length = l.length
  | [], _ => rfl
  | r :: l, i => by simp [enum, enum_len l (i + 1)]

/-- A region whose order is drawn. -/
theorem draw_wp {id : Nat} {ops : Array Oper} {rs : List G} {fr : Option Nat} {n : Nat} {Q : Exit → Act → World → Prop} (hr : RowsOk P ops rs) (hst : statOk [] rs = true) (hrk : ranksOk ops = true) (hoc : OrcOk P oc ro) (hfp : OrcFp md oc)
    {k : K} {tm : List V} {a : Act} {t : List V × List B} (g : Good P k) (ht : RL k tm a.tmps.toList) (e : evDraw md oc ro base 0 [] rs tm k.h = some t)
    (hQ : ∀ k' a', Good P k' → k'.h = t.2 → Ev ro k.h.length k k' → RL k' t.1 a'.tmps.toList → a'.defers = a.defers → Q .normal a' k'.w) :
    (Code.region id ops true).wpIn (fen fr) n P Q a k.w := by
  obtain ⟨L, l1, l2, _, l4⟩ := evDraw_run e
  have hlen : L.length = ops.size := by
    have := congrArg List.length l1
    simpa [enum_len, hr.len] using this
  have hw : Below k.n0 k.w { k.w with drawn := k.w.drawn + 1 } := ⟨rfl, rfl, rfl, Nat.le_refl _, fun _ _ => rfl⟩
  obtain ⟨g1, ev1⟩ := g.world (w' := { k.w with drawn := k.w.drawn + 1 }) hw (fun _ _ => rfl) ro k.h.length
  have hsorted : L.Pairwise (fun a b => a.1 < b.1) := by
    have := enum_sorted rs 0
    rw [← l1, List.pairwise_map] at this
    exact this
  have hap : L.Pairwise (fun a b => b.2.1.b.testBit a.1 = true ∨ apart a.2.1 b.2.1 = true) := by
    have := (statOk_spec hst).2
    simp only [List.length_nil] at this
    rw [← l1, List.pairwise_map] at this
    exact this
  have hmem : ∀ x ∈ L, rs[x.1]? = some x.2.1 := fun x hx => by
    have : (x.1, x.2.1) ∈ enum 0 rs := by rw [← l1]; exact List.mem_map.2 ⟨x, hx, rfl⟩
    obtain ⟨j, h1, h2⟩ := enum_mem this
    simp only [Nat.zero_add] at h1 h2
    rw [h1]; exact h2
  have hsize : ∀ x ∈ L, x.1 < ops.size := fun x hx => by
    have := (List.getElem?_eq_some_iff.1 (hmem x hx)).1
    rw [hr.len] at this; exact this
  have hleft : Left P ops rs (Array.replicate ops.size false) L := by
    refine ⟨by simp, fun x hx => ⟨?_, hmem x hx⟩, fun i hi _ => ?_, hsorted, ?_, fun i r j hri hli _ => ?_⟩
    · have := hsize x hx
      simp [this]
    · obtain ⟨r, h⟩ := enum_get (l := rs) (i := 0) (j := i) (by rw [hr.len]; exact hi)
      rw [← l1] at h
      obtain ⟨x, hx, hxe⟩ := List.mem_map.1 h
      exact ⟨x, hx, by simp only [Prod.mk.injEq, Nat.zero_add] at hxe; exact hxe.1⟩
    · exact (hap.and l4).imp fun ⟨h1, h2⟩ => by
        rcases h1 with h1 | h1
        · exact .inl h1
        · exact h2.imp (fun h => h) fun h2 => ⟨h1, h2⟩
    · have := (List.getElem?_eq_some_iff.1 hri).1
      rw [hr.len] at this
      simp [this] at hli
  have key : ∀ m, wpAnyIn (fen fr) n P m ops Q ops.size (Array.replicate ops.size false) a { k.w with drawn := k.w.drawn + 1 } := fun m =>
    any_wp (m := m) hr (rank_of hrk m) hoc hfp ops.size hlen hleft g1 (RL.ev ev1 (RL.blos ht) ht) l2 (fun k' a' g' hh ev hl hd => hQ k' a' g' hh (ev1.after ev) hl hd)
  refine wpIn_region_draw fun c => ?_
  unfold Region.schedule
  split
  · exact wpAnyIn_sound ops.size c _ a _ (key _)
  · exact wpAnyIn_sound ops.size _ _ a _ (key _)

/-- A region whose order is the text's. -/
theorem plain_wp {id : Nat} {ops : Array Oper} {rs : List G} {fr : Option Nat} {n : Nat} {Q : Exit → Act → World → Prop} (hr : RowsOk P ops rs) (hoc : OrcOk P oc ro)
    {k : K} {tm : List V} {a : Act} {t : List V × List B} (g : Good P k) (ht : RL k tm a.tmps.toList) (e : evOps oc ro base rs tm k.h = some t)
    (hQ : ∀ k' a', Good P k' → k'.h = t.2 → Ev ro k.h.length k k' → RL k' t.1 a'.tmps.toList → a'.defers = a.defers → Q .normal a' k'.w) :
    (Code.region id ops false).wpIn (fen fr) n P Q a k.w := by
  refine wpIn_region_list (evOps_wp hoc (by simpa using hr.len) (fun i o r h1 h2 => ?_) g ht e hQ)
  obtain ⟨o', q1, q2, _⟩ := hr.row i r h2
  rw [Array.getElem?_toList, q1] at h1
  cases h1; exact q2

end Go.Dr
