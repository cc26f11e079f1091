/- The door: calls over no blocks (mode 0), and all walks. -/
import Derived.Test.YtigcchafpenhiaaDrRange
namespace Go.Dr
open Go.RowKit (Below)

variable {P : Program} {md : Nat → Nat} {F : Nat → Option Fc}

theorem okv.over {k k' : K} (hsz : k.w.heap.size ≤ k'.w.heap.size) (hok : ∀ b, k.ok b → b < k.w.heap.size → k'.ok b ∧ k'.w.heap[b]? = k.w.heap[b]?) {b off : Nat} {vs : List Value} (h : okv k b vs) (hc : cellsAt k.w b off vs) : okv k' b vs ∧ cellsAt k'.w b off vs := by
  rcases h with rfl | ⟨h1, h2⟩
  · exact ⟨.inl rfl, trivial⟩
  · obtain ⟨p1, p2⟩ := hok b h1 h2
    exact ⟨.inr ⟨p1, Nat.lt_of_lt_of_le h2 hsz⟩, cellsAt_of_block p2 hc⟩

mutual
/-- A value without own blocks, in another context over the same memory. -/
theorem R.over {k k' : K} (hsz : k.w.heap.size ≤ k'.w.heap.size) (hok : ∀ b, k.ok b → b < k.w.heap.size → k'.ok b ∧ k'.w.heap[b]? = k.w.heap[b]?) : ∀ {v : V} {x : Value}, v.blo 0 = true → R k v x → R k' v x
  | .bool _, _, _, h | .int _ _, _, _, h | .str _, _, _, h | .nilp, _, _, h | .nilsl, _, _, h | .nilmap, _, _, h | .nilfn, _, _, h | .nilif, _, _, h => by simpa only [R] using h
  | .dead, _, _, _ => by simp [R]
  | .sl clip len cells, x, hb, h => by
    simp only [R] at h ⊢
    rcases h with h | ⟨b, off, cap, vs, hx, hk, hc, hl, hp, h1, h2⟩
    · exact .inl h
    obtain ⟨p1, p2⟩ := hk.over hsz hok hc
    exact .inr ⟨b, off, cap, vs, hx, p1, p2, RL.over hsz hok hp.2 hl, hp, h1, h2⟩
  | .rp cells off, x, hb, h => by
    simp only [R] at h ⊢
    obtain ⟨b, o, vs, hx, hk, hc, hl, hp⟩ := h
    obtain ⟨p1, p2⟩ := hk.over hsz hok hc
    exact ⟨b, o, vs, hx, p1, p2, RL.over hsz hok hp.2 hl, hp⟩
  | .agg cs, x, hb, h => by
    simp only [R] at h ⊢; obtain ⟨vs, hx, hl⟩ := h; exact ⟨vs, hx, RL.over hsz hok (by simpa [V.blo] using hb) hl⟩
  | .tup cs, x, hb, h => by
    simp only [R] at h ⊢; obtain ⟨vs, hx, hl⟩ := h; exact ⟨vs, hx, RL.over hsz hok (by simpa [V.blo] using hb) hl⟩
  | .iface t v, x, hb, h => by
    simp only [R] at h ⊢; obtain ⟨y, hx, hl⟩ := h; exact ⟨y, hx, R.over hsz hok (by simpa [V.blo] using hb) hl⟩
  | .fn f cs, x, hb, h => by
    simp only [R] at h ⊢; obtain ⟨vs, hx, hl⟩ := h; exact ⟨vs, hx, RL.over hsz hok (by simpa [V.blo] using hb) hl⟩
  | .ref id g off, x, hb, h => by simp [V.blo] at hb
  | .ms es id g off len clip, x, hb, h => by simp [V.blo] at hb
  | .yld id, x, hb, h => by simp [V.blo] at hb
theorem RL.over {k k' : K} (hsz : k.w.heap.size ≤ k'.w.heap.size) (hok : ∀ b, k.ok b → b < k.w.heap.size → k'.ok b ∧ k'.w.heap[b]? = k.w.heap[b]?) : ∀ {l : List V} {xs : List Value}, Dr.blos 0 l = true → RL k l xs → RL k' l xs
  | [], _, _, h => by simpa [RL] using h
  | v :: l, xs, hb, h => by
    simp only [Dr.blos, Bool.and_eq_true] at hb
    obtain ⟨x, r, rfl, hx, hr⟩ := (by simpa [RL] using h : ∃ x r, xs = x :: r ∧ R k v x ∧ RL k l r)
    exact RL.cons (R.over hsz hok hb.1 hx) (RL.over hsz hok hb.2 hr)
end

mutual
/-- A value that holds no memory stands in every context. -/
theorem scalar_R {k k' : K} : ∀ {v : V} {x : Value}, v.scalar = true → R k v x → R k' v x
  | .bool _, _, _, h | .int _ _, _, _, h | .str _, _, _, h | .nilp, _, _, h | .nilsl, _, _, h | .nilmap, _, _, h | .nilfn, _, _, h | .nilif, _, _, h => by simpa only [R] using h
  | .dead, _, hb, _ => by simp [V.scalar] at hb
  | .sl clip len cells, x, hb, h => by simp [V.scalar] at hb
  | .rp cells off, x, hb, h => by simp [V.scalar] at hb
  | .agg cs, x, hb, h => by
    simp only [R] at h ⊢; obtain ⟨vs, hx, hl⟩ := h; exact ⟨vs, hx, scalars_R (by simpa [V.scalar] using hb) hl⟩
  | .tup cs, x, hb, h => by
    simp only [R] at h ⊢; obtain ⟨vs, hx, hl⟩ := h; exact ⟨vs, hx, scalars_R (by simpa [V.scalar] using hb) hl⟩
  | .iface t v, x, hb, h => by
    simp only [R] at h ⊢; obtain ⟨y, hx, hl⟩ := h; exact ⟨y, hx, scalar_R (by simpa [V.scalar] using hb) hl⟩
  | .fn f cs, x, hb, h => by
    simp only [R] at h ⊢; obtain ⟨vs, hx, hl⟩ := h; exact ⟨vs, hx, scalars_R (by simpa [V.scalar] using hb) hl⟩
  | .ref id g off, x, hb, h => by simp [V.scalar] at hb
  | .ms es id g off len clip, x, hb, h => by simp [V.scalar] at hb
  | .yld id, x, hb, h => by simp [V.scalar] at hb
theorem scalars_R {k k' : K} : ∀ {l : List V} {xs : List Value}, scalars l = true → RL k l xs → RL k' l xs
  | [], _, _, h => by simpa [RL] using h
  | v :: l, xs, hb, h => by
    simp only [scalars, Bool.and_eq_true] at hb
    obtain ⟨x, r, rfl, hx, hr⟩ := (by simpa [RL] using h : ∃ x r, xs = x :: r ∧ R k v x ∧ RL k l r)
    exact RL.cons (scalar_R hb.1 hx) (scalars_R hb.2 hr)
end

theorem mapO_len {f : V → Option V} : ∀ {l l' : List V}, mapO f l = some l' → l'.length = l.length
  | [], l', e => by simp only [mapO, Option.some.injEq] at e; rw [← e]
  | v :: l, l', e => by
    simp only [mapO] at e
    split at e <;> (try (cases e; done))
    split at e <;> (try (cases e; done))
    rename_i r hr
    cases e
    simp [mapO_len hr]
theorem views_len {h : List B} {n : Nat} {l l' : List V} (e : views h n l = some l') : l'.length = l.length := mapO_len e

theorem mapO_any {f g : V → Option V} (hfg : ∀ v v', f v = some v' → v.blo 0 = true → g v = some v') : ∀ {l l' : List V}, mapO f l = some l' → blos 0 l = true → mapO g l = some l'
  | [], l', e, _ => by simp only [mapO, Option.some.injEq] at e ⊢; exact e
  | v :: l, l', e, hb => by
    simp only [blos, Bool.and_eq_true] at hb
    simp only [mapO] at e ⊢
    split at e <;> (try (cases e; done))
    rename_i x hx
    split at e <;> (try (cases e; done))
    rename_i r hr
    cases e
    rw [hfg _ _ hx hb.1, mapO_any hfg hr hb.2]
/-- Without own blocks nothing is read. -/
theorem view_any {h g : List B} : ∀ {n : Nat} {v v' : V}, V.view h n v = some v' → v.blo 0 = true → V.view g n v = some v'
  | 0, _, _, e, _ => by simp [V.view] at e
  | n + 1, v, v', e, hb => by
    have ih : ∀ v v', V.view h n v = some v' → v.blo 0 = true → V.view g n v = some v' := fun v v' => view_any
    cases v with
    | ms es id gg off len clip => simp [V.blo] at hb
    | ref id gg off => simp [V.blo] at hb
    | yld id => simp [V.blo] at hb
    | dead => simp [V.view] at e
    | agg cs =>
      simp only [V.view] at e ⊢
      obtain ⟨r, h1, rfl⟩ := map_some e
      rw [mapO_any ih h1 (by simpa [V.blo] using hb)]; rfl
    | tup cs =>
      simp only [V.view] at e ⊢
      obtain ⟨r, h1, rfl⟩ := map_some e
      rw [mapO_any ih h1 (by simpa [V.blo] using hb)]; rfl
    | iface t y =>
      simp only [V.view] at e ⊢
      obtain ⟨r, h1, rfl⟩ := map_some e
      rw [ih _ _ h1 (by simpa [V.blo] using hb)]; rfl
    | fn f cs =>
      simp only [V.view] at e ⊢
      obtain ⟨r, h1, rfl⟩ := map_some e
      rw [mapO_any ih h1 (by simpa [V.blo] using hb)]; rfl
    | _ => simp only [V.view, Option.some.injEq] at e ⊢; exact e
theorem views_any {h g : List B} {n : Nat} {l l' : List V} (e : views h n l = some l') (hb : blos 0 l = true) : views g n l = some l' :=
  mapO_any (fun _ _ => view_any) e hb

theorem mapO_mono {f g : V → Option V} (hfg : ∀ v v', f v = some v' → g v = some v') : ∀ {l l' : List V}, mapO f l = some l' → mapO g l = some l'
  | [], l', e => by simp only [mapO, Option.some.injEq] at e ⊢; exact e
  | v :: l, l', e => by
    simp only [mapO] at e ⊢
    split at e <;> (try (cases e; done))
    rename_i x hx
    split at e <;> (try (cases e; done))
    rename_i r hr
    cases e
    rw [hfg _ _ hx, mapO_mono hfg hr]
/-- What is not born is not read. -/
theorem view_born {h : List B} {id : Nat} {b : B} (hu : bget h id = some .unborn) : ∀ {n : Nat} {v v' : V}, V.view h n v = some v' → V.view (bset h id b) n v = some v'
  | 0, _, _, e => by simp [V.view] at e
  | n + 1, v, v', e => by
    have ih : ∀ v v', V.view h n v = some v' → V.view (bset h id b) n v = some v' := fun v v' => view_born hu
    cases v with
    | ms es i gg off len clip =>
      simp only [V.view] at e ⊢
      have hne : id ≠ i := by rintro rfl; rw [hu] at e; simp at e
      rw [bget_bset, if_neg (by rintro ⟨e, _⟩; exact hne e)]
      split at e <;> (try (cases e; done))
      rename_i c d hb
      split at e <;> (try (cases e; done))
      rename_i hc
      simp only [hc, if_true] at e ⊢
      split at e <;> (try (cases e; done))
      rename_i cs hcs
      split at e <;> (try (cases e; done))
      rename_i r hr
      cases e
      simp only [mapO_mono ih hr]
    | ref i gg off => simp [V.view] at e
    | yld i => simp [V.view] at e
    | dead => simp [V.view] at e
    | agg cs =>
      simp only [V.view] at e ⊢
      obtain ⟨r, h1, rfl⟩ := map_some e
      rw [mapO_mono ih h1]; rfl
    | tup cs =>
      simp only [V.view] at e ⊢
      obtain ⟨r, h1, rfl⟩ := map_some e
      rw [mapO_mono ih h1]; rfl
    | iface t y =>
      simp only [V.view] at e ⊢
      obtain ⟨r, h1, rfl⟩ := map_some e
      rw [ih _ _ h1]; rfl
    | fn f cs =>
      simp only [V.view] at e ⊢
      obtain ⟨r, h1, rfl⟩ := map_some e
      rw [mapO_mono ih h1]; rfl
    | _ => simp only [V.view, Option.some.injEq] at e ⊢; exact e
theorem views_born {h : List B} {id : Nat} {b : B} (hu : bget h id = some .unborn) {n : Nat} {l l' : List V} (e : views h n l = some l') : views (bset h id b) n l = some l' :=
  mapO_mono (fun _ _ => view_born hu) e

theorem mapO_R {k k0 : K} {A : Prop} {f : V → Option V} (hf : ∀ v v' x, (v.blo 0 = true ∨ A) → f v = some v' → R k v x → R k0 v' x ∧ (v.one = true → v'.one = true) ∧ v'.blo 0 = true) : ∀ {l l' : List V} {xs : List Value}, (blos 0 l = true ∨ A) → mapO f l = some l' → RL k l xs →
    RL k0 l' xs ∧ (ones l = true → ones l' = true) ∧ blos 0 l' = true
  | [], l', xs, ho, e, hx => by
    simp only [mapO, Option.some.injEq] at e; subst e
    simp only [RL] at hx; subst hx
    exact ⟨RL.nil, fun h => h, rfl⟩
  | v :: l, l', xs, ho, e, hx => by
    obtain ⟨x, r0, rfl, hx, hr0⟩ := (by simpa [RL] using hx : ∃ x r, xs = x :: r ∧ R k v x ∧ RL k l r)
    simp only [mapO] at e
    split at e <;> (try (cases e; done))
    rename_i y hy
    split at e <;> (try (cases e; done))
    rename_i r hr
    cases e
    obtain ⟨q1, q2, q3⟩ := hf _ _ _ (ho.imp (fun h => by simp only [blos, Bool.and_eq_true] at h; exact h.1) id) hy hx
    obtain ⟨q4, q5, q6⟩ := mapO_R hf (ho.imp (fun h => by simp only [blos, Bool.and_eq_true] at h; exact h.2) id) hr hr0
    refine ⟨RL.cons q1 q4, fun h => ?_, ?_⟩
    · simp only [ones, Bool.and_eq_true] at h ⊢; exact ⟨q2 h.1, q5 h.2⟩
    · simp only [blos, Bool.and_eq_true]; exact ⟨q3, q6⟩

/-- A view stands where all that could be read may be read. -/
theorem view_R {k k0 : K} (g : Good P k) (hw : k0.w = k.w) (hok : ∀ b, b < k.w.heap.size → k.ok b → k0.ok b) : ∀ {n : Nat} {v v' : V} {x : Value}, (v.blo 0 = true ∨ ∀ b, b < k.w.heap.size → k.own b → k0.ok b) → V.view k.h n v = some v' → R k v x →
    R k0 v' x ∧ (v.one = true → v'.one = true) ∧ v'.blo 0 = true
  | 0, _, _, _, _, e, _ => by simp [V.view] at e
  | n + 1, v, v', x, ho, e, hx => by
    have ih : ∀ v v' x, (v.blo 0 = true ∨ ∀ b, b < k.w.heap.size → k.own b → k0.ok b) → V.view k.h n v = some v' → R k v x → R k0 v' x ∧ (v.one = true → v'.one = true) ∧ v'.blo 0 = true := fun v v' x => view_R g hw hok
    have hov : ∀ (c : List V) (ys : List Value), V.pure c → RL k c ys → RL k0 c ys := fun c ys hp hl =>
      RL.over (k := k) (k' := k0) (by rw [hw]; exact Nat.le_refl _) (fun b h1 h2 => ⟨hok b h2 h1, by rw [hw]⟩) hp.2 hl
    cases v with
    | ms es id gg off len clip =>
      simp only [V.view] at e
      split at e <;> (try (cases e; done))
      rename_i c dat0 hbk
      split at e <;> (try (cases e; done))
      rename_i hcg
      split at e <;> (try (cases e; done))
      rename_i cs hcs
      split at e <;> (try (cases e; done))
      rename_i r hr
      cases e
      simp only [R] at hx
      obtain ⟨b, o', cap, c0, dat, rfl, hbk0, hgc, hlc, hclip, hpos⟩ := hx
      rw [hbk] at hbk0; cases hbk0
      obtain ⟨p1, p0, p2⟩ := hpos hcg.symm
      obtain ⟨_, _, hones, _⟩ := g.blk id c dat0 hbk
      obtain ⟨rfl, hl⟩ := part_some hcs
      have hat := g.at (live_blk hbk)
      rw [p0] at hat
      have hokb : k0.ok b := (ho.resolve_left (by simp [V.blo])) b hat.2 ⟨id, live_blk hbk, p0⟩
      have hsz : b < k0.w.heap.size := by rw [hw]; exact hat.2
      by_cases hc0 : cap = 0
      · have hn0 : len = 0 := by omega
        subst hn0
        have hr0 := mapO_len hr
        simp only [Nat.zero_mul, List.take_zero, List.length_nil] at hr0
        have hr1 : r = [] := List.eq_nil_of_length_eq_zero hr0
        subst hr1
        refine ⟨?_, fun _ => rfl, rfl⟩
        simp only [R]
        exact .inr ⟨b, o', cap, [], rfl, .inl rfl, trivial, RL.nil, ⟨rfl, rfl⟩, hlc, hclip⟩
      · obtain ⟨p3, p4, p5⟩ := p2 hc0
        obtain ⟨vs, c1, c2, c3⟩ := own_cells g hbk hcs p4
        obtain ⟨q1, q2, q3⟩ := mapO_R ih (.inr (ho.resolve_left (by simp [V.blo]))) hr c2
        refine ⟨?_, fun _ => rfl, rfl⟩
        simp only [R]
        rw [p3, ← hw] at c1
        exact .inr ⟨b, o', cap, vs, rfl, okv.mk hokb hsz, c1, q1, ⟨q2 (ones_take (ones_drop hones _) _), q3⟩, hlc, hclip⟩
    | ref id gg off => simp [V.view] at e
    | yld id => simp [V.view] at e
    | dead => simp [V.view] at e
    | agg cs =>
      simp only [V.view] at e
      obtain ⟨r, h1, rfl⟩ := map_some e
      simp only [R] at hx ⊢
      obtain ⟨vs, hx, hl⟩ := hx
      obtain ⟨q1, q2, q3⟩ := mapO_R ih (by simpa [V.blo] using ho) h1 hl
      exact ⟨⟨vs, hx, q1⟩, fun h => by simp [V.one] at h, by simpa [V.blo] using q3⟩
    | tup cs =>
      simp only [V.view] at e
      obtain ⟨r, h1, rfl⟩ := map_some e
      simp only [R] at hx ⊢
      obtain ⟨vs, hx, hl⟩ := hx
      obtain ⟨q1, q2, q3⟩ := mapO_R ih (by simpa [V.blo] using ho) h1 hl
      exact ⟨⟨vs, hx, q1⟩, fun h => by simp [V.one] at h, by simpa [V.blo] using q3⟩
    | iface t y =>
      simp only [V.view] at e
      obtain ⟨r, h1, rfl⟩ := map_some e
      simp only [R] at hx ⊢
      obtain ⟨vs, hx, hl⟩ := hx
      obtain ⟨q1, q2, q3⟩ := ih _ _ _ (by simpa [V.blo] using ho) h1 hl
      exact ⟨⟨vs, hx, q1⟩, fun _ => rfl, by simpa [V.blo] using q3⟩
    | fn f cs =>
      simp only [V.view] at e
      obtain ⟨r, h1, rfl⟩ := map_some e
      simp only [R] at hx ⊢
      obtain ⟨vs, hx, hl⟩ := hx
      obtain ⟨q1, q2, q3⟩ := mapO_R ih (by simpa [V.blo] using ho) h1 hl
      exact ⟨⟨vs, hx, q1⟩, fun _ => rfl, by simpa [V.blo] using q3⟩
    | sl clip len cells =>
      simp only [V.view, Option.some.injEq] at e; subst e
      simp only [R] at hx ⊢
      rcases hx with hx | ⟨b, off, cap, vs, hx, hk, hc, hl, hp, h1, h2⟩
      · exact ⟨.inl hx, fun h => h, rfl⟩
      exact ⟨.inr ⟨b, off, cap, vs, hx, hk.imp id fun h => ⟨hok b h.2 h.1, by rw [hw]; exact h.2⟩, by rw [hw]; exact hc, hov _ _ hp hl, hp, h1, h2⟩, fun h => h, rfl⟩
    | rp cells off =>
      simp only [V.view, Option.some.injEq] at e; subst e
      simp only [R] at hx ⊢
      obtain ⟨b, o, vs, hx, hk, hc, hl, hp⟩ := hx
      exact ⟨⟨b, o, vs, hx, hk.imp id fun h => ⟨hok b h.2 h.1, by rw [hw]; exact h.2⟩, by rw [hw]; exact hc, hov _ _ hp hl, hp⟩, fun h => h, rfl⟩
    | nilsl =>
      simp only [V.view, Option.some.injEq] at e; subst e
      simp only [R] at hx ⊢
      exact ⟨.inl ⟨none, by simp [hx]⟩, fun _ => rfl, rfl⟩
    | _ => simp only [V.view, Option.some.injEq] at e; subst e; exact ⟨by simpa only [R] using hx, fun h => h, rfl⟩
theorem views_R {k k0 : K} (g : Good P k) (hw : k0.w = k.w) (hok : ∀ b, b < k.w.heap.size → k.ok b → k0.ok b) {n : Nat} {l l' : List V} {xs : List Value} (ho : blos 0 l = true ∨ ∀ b, b < k.w.heap.size → k.own b → k0.ok b) (e : views k.h n l = some l') (hx : RL k l xs) :
    RL k0 l' xs ∧ (ones l = true → ones l' = true) ∧ blos 0 l' = true := mapO_R (fun _ _ _ => view_R g hw hok) ho e hx

/-- A context without own blocks. -/
def K.bare (A : Nat → Prop) (w : World) : K := { n0 := w.heap.size, A := A, h := [], β := fun _ => (0, 0), w := w }
theorem bare_good (A : Nat → Prop) (w : World) : Good P (K.bare A w) :=
  ⟨Nat.le_refl _, fun id c dat h => by simp [K.bare, bget] at h, fun id r p tm ps a b h => by simp [K.bare, bget] at h, fun i j h _ _ => by obtain ⟨b, hb, _⟩ := h; simp [K.bare, bget] at hb⟩

/-- Calls of functions over no blocks. -/
theorem fn_zero {n : Nat} (hF : TableOk P F) (hn : AllWalk P F md n) {ro f : Nat} {caps args : List V} {k : K} {fx : Value} {xs : List Value} {v : V} {h' : List B} (g : Good P k) (hf : R k (.fn f caps) fx) (ha : RL k args xs)
    (e : doCall F md ro (run F md n) (.fn f caps) args k.h = some (v, h')) (hm : mode md (.fn f caps) args = 0) : ∃ cvs, fx = .func (.func f) #[] ⟨cvs⟩ ∧ (callSem fx ⟨xs⟩).run P k.w = .ok (.enter f ⟨xs ++ cvs⟩) k.w ∧ Calls P f ⟨xs ++ cvs⟩ k.w (Back P ro k v h') := by
  obtain ⟨fc, hfc, hnp, hcase⟩ := doCall_fn e
  obtain ⟨fn, hfn, hcf, hname⟩ := hF f fc hfc
  obtain ⟨c, hb, _⟩ := cFunc_spec hcf
  simp only [R] at hf
  obtain ⟨cvs, rfl, hcaps⟩ := hf
  have has := RL.append ha hcaps
  refine ⟨cvs, rfl, call_enter hfn (by simp [hb]) hname cvs xs k.w, ?_⟩
  rcases hcase with ⟨_, as', x, st, v0, v1, hvs, hrun, hx, hv, hv', hcond, hr⟩ | ⟨h1, _⟩ | ⟨h0, _⟩
  rotate_left
  · rw [hm] at h1; cases h1
  · exact absurd hm h0
  simp only [Prod.mk.injEq] at hr
  obtain ⟨rfl, rfl⟩ := hr
  have hlen : as'.length = fc.np := by rw [views_len hvs]; exact hnp
  by_cases hz : blos 0 (args ++ caps) = true
  · have g0 := bare_good (P := P) k.ok k.w
    obtain ⟨h0, _, _⟩ := views_R (k0 := K.bare k.ok k.w) g rfl (fun b hb h => .inl ⟨hb, h⟩) (.inl hz) hvs has
    refine call_wp (k := K.bare k.ok k.w) hn hfn hcf g0 h0 hlen hrun hx hv fun y k1 hh g1 e1 hy => ?_
    have hbel : Below k.w.heap.size k.w k1.w := e1.low
    obtain ⟨g2, e2⟩ := g.world (hbel.mono g.size) (fun b hb => hbel.block b hb) ro k.h.length
    have hown : ∀ b, k.own b → b < k.w.heap.size := by rintro b ⟨id, l, rfl⟩; exact (g.at l).2
    rw [← hh] at hv'
    have hall : ∀ b, b < k1.w.heap.size → k1.ok b ∨ k1.own b → K.ok { k with w := k1.w } b := fun b hb hbo => by
      have hn1 : k1.n0 = k.w.heap.size := e1.n0
      have hA1 : k1.A = k.ok := e1.A
      have hge : k.w.heap.size ≤ b → K.ok { k with w := k1.w } b := fun h => .inr ⟨Nat.le_trans g.size h, fun ho => by have := hown b ho; omega⟩
      rcases hbo with (⟨h1, h2⟩ | ⟨h1, _⟩) | ⟨id, l, rfl⟩
      · rw [hA1] at h2; exact h2
      · exact hge (by omega)
      · exact hge (by have := (g1.at l).1; omega)
    obtain ⟨q1, _, _⟩ := view_R (k0 := { k with w := k1.w }) g1 rfl (fun b hb h => hall b hb (.inl h)) (.inr fun b hb h => hall b hb (.inr h)) hv' hy
    exact ⟨y, { k with w := k1.w }, rfl, rfl, rfl, g2, e2, q1⟩
  · have hsc := hcond.resolve_left hz
    have g0 := bare_good (P := P) (fun _ => True) k.w
    obtain ⟨h0, _, _⟩ := views_R (k0 := K.bare (fun _ => True) k.w) g rfl (fun b hb _ => .inl ⟨hb, trivial⟩) (.inr fun b hb _ => .inl ⟨hb, trivial⟩) hvs has
    refine call_wp (k := K.bare (fun _ => True) k.w) hn hfn hcf g0 h0 hlen hrun hx hv fun y k1 hh g1 e1 hy => ?_
    have hbel : Below k.w.heap.size k.w k1.w := e1.low
    obtain ⟨g2, e2⟩ := g.world (hbel.mono g.size) (fun b hb => hbel.block b hb) ro k.h.length
    rw [← hh] at hv'
    obtain ⟨q1, _, _⟩ := view_R (k0 := K.bare (fun _ => True) k1.w) g1 rfl (fun b hb _ => .inl ⟨hb, trivial⟩) (.inr fun b hb _ => .inl ⟨hb, trivial⟩) hv' hy
    exact ⟨y, { k with w := k1.w }, rfl, rfl, rfl, g2, e2, scalar_R hsc q1⟩

theorem fn_any {n : Nat} (hF : TableOk P F) (hn : AllWalk P F md n) {ro f : Nat} {caps args : List V} {k : K} {fx : Value} {xs : List Value} {v : V} {h' : List B} (g : Good P k) (hf : R k (.fn f caps) fx) (ha : RL k args xs)
    (e : doCall F md ro (run F md n) (.fn f caps) args k.h = some (v, h')) : ∃ cvs, fx = .func (.func f) #[] ⟨cvs⟩ ∧ (callSem fx ⟨xs⟩).run P k.w = .ok (.enter f ⟨xs ++ cvs⟩) k.w ∧ Calls P f ⟨xs ++ cvs⟩ k.w (Back P ro k v h') := by
  by_cases hm : mode md (.fn f caps) args = 0
  · exact fn_zero hF hn g hf ha e hm
  · exact fn_called hF hn g hf ha e hm

theorem orc_ok {n : Nat} (hF : TableOk P F) (hn : AllWalk P F md n) (ro : Nat) : OrcOk P (doCall F md ro (run F md n)) ro := by
  intro k fv as fx xs v h' g hf ha e
  cases fv with
  | fn f caps =>
    obtain ⟨cvs, _, h1, h2⟩ := fn_any hF hn g hf ha e
    exact .called f _ k.w h1 h2
  | yld id => exact yld_done hn g hf ha e
  | _ => simp [doCall] at e

theorem orc_fp {n ro : Nat} : OrcFp md (doCall F md ro (run F md n)) := by
  intro fv as h v h' e
  cases fv with
  | fn f caps =>
    obtain ⟨fc, hfc, hnp, hcase⟩ := doCall_fn e
    refine ⟨fun hm => ?_, fun hm => ?_⟩
    · rcases hcase with ⟨_, as', x, st, v0, v', hvs, hrun, hx, hv, hv', hcond, hr⟩ | ⟨h1, _⟩ | ⟨h0, _⟩
      · simp only [Prod.mk.injEq] at hr
        obtain ⟨rfl, rfl⟩ := hr
        refine ⟨rfl, fun hb g => ?_, fun id b hu => ?_⟩
        · have hb' : blos 0 (as ++ caps) = true := by
            rw [blos_append]
            simp only [blos, V.blo, Bool.and_eq_true] at hb ⊢
            exact ⟨hb.2, hb.1⟩
          have q2 := views_any (g := g) hvs hb'
          simp only [doCall, hfc, hnp, if_true, hm, q2]
          rcases hx with rfl | rfl <;> simp only [hrun, hv, hv', hb', Bool.true_or, if_true]
        · have q2 := views_born (b := b) hu hvs
          have hc2 : (blos 0 (as ++ caps) || v.scalar) = true := by rcases hcond with h | h <;> simp [h]
          simp only [doCall, hfc, hnp, if_true, hm, q2]
          rcases hx with rfl | rfl <;> simp only [hrun, hv, hv', hc2, if_true]
      · rw [hm] at h1; cases h1
      · exact absurd hm h0
    · rcases hcase with ⟨h0, _⟩ | ⟨h1, _⟩ | ⟨_, _, x, st, v0, _, _, _, _, hr⟩
      · rw [hm] at h0; cases h0
      · rw [hm] at h1; cases h1
      · simp only [Prod.mk.injEq] at hr; exact hr.2
  | yld id => exact ⟨fun h => by simp [mode] at h, fun h => by simp [mode] at h⟩
  | _ => simp [doCall] at e

theorem all_walks (hF : TableOk P F) : ∀ n, AllWalk P F md n ∧ (∀ ro m hl mc st x st', run F md n ro (.lp m hl mc) st = some (x, st') → LoopWalks P ro hl mc st x st')
  | 0 => ⟨fun ro mc st x st' h => by simp [run] at h, fun ro m hl mc st x st' h => by simp [run] at h⟩
  | n + 1 => by
    obtain ⟨h1, h2⟩ := all_walks hF n
    exact ⟨walk_step h1 h2 (fun ro => ⟨orc_ok hF h1 ro, orc_fp⟩) (ranges_ok hF h1), fun ro m hl mc st x st' h => loop_step h1 h2 h⟩

/-- What is computed over no blocks is what the model's call returns; nothing that was there has changed. -/
theorem call0_calls (hF : TableOk P F) {n f : Nat} {args : List V} {v : V} {xs : List Value} {w : World} (e : call0 F md n f args = some v) (ha : RL (K.bare (fun _ => True) w) args xs) :
    Calls P f ⟨xs⟩ w fun en w' => ∃ y k', en = .returned y ∧ k'.w = w' ∧ Below w.heap.size w w' ∧ R k' v y := by
  unfold call0 at e
  split at e <;> (try (cases e; done))
  rename_i v0 h' he
  cases e
  have hf : R (K.bare (fun _ => True) w) (.fn f []) (.func (.func f) #[] #[]) := by simp only [R]; exact ⟨[], rfl, RL.nil⟩
  obtain ⟨cvs, hc, _, h2⟩ := fn_any hF (all_walks hF n).1 (bare_good (fun _ => True) w) hf ha he
  simp only [Value.func.injEq] at hc
  obtain ⟨_, _, hc⟩ := hc
  cases hc
  rw [List.append_nil] at h2
  refine h2.mono ?_
  rintro en w' ⟨y, k', rfl, rfl, _, _, ev, hy⟩
  exact ⟨y, k', rfl, rfl, ev.low, hy⟩

end Go.Dr
