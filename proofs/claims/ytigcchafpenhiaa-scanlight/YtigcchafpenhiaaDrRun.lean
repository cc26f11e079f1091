/- The door: code, by its runs. -/
import Derived.Test.YtigcchafpenhiaaDrAny
import Derived.RangeFuncLeaves
import Derived.Scope
namespace Go.Dr
open Go.RowKit (Below)

variable {P : Program} {md : Nat → Nat} {F : Nat → Option Fc}

def X.out : X → Exit
  | .nrm => .normal
  | .exit i => .exit i
  | .ret => .ret

/-- Deferred calls that came on top: marks of ranges, whose blocks nobody writes. -/
def Marks (k : K) (n1 : Nat) : List Deferred → List Deferred → Prop
  | ds, ds0 => ∃ ms, ds = ms ++ ds0 ∧ ms.Nodup ∧ ∀ d ∈ ms, ∃ r, d = { target := .collected r, args := #[] } ∧ n1 ≤ r ∧ k.ok r ∧ k.w.heap[r]? = some (.deferred (some []))

theorem Marks.refl (k : K) (n1 : Nat) (ds : List Deferred) : Marks k n1 ds ds := ⟨[], rfl, .nil, by simp⟩

theorem Marks.trans {ro m : Nat} {k k' : K} {n1 : Nat} {a b c : List Deferred} (h : Marks k n1 b a) (e : Ev ro m k k') (h' : Marks k' k.w.heap.size c b) (hn : n1 ≤ k.w.heap.size) : Marks k' n1 c a := by
  obtain ⟨ms, rfl, d1, h⟩ := h
  obtain ⟨ns, rfl, d2, h'⟩ := h'
  refine ⟨ns ++ ms, by simp, ?_, fun d hd => ?_⟩
  · rw [List.nodup_append]
    refine ⟨d2, d1, fun x hx y hy => ?_⟩
    rintro rfl
    obtain ⟨r, h1, h2, h3, h4⟩ := h x hy
    obtain ⟨r', q1, q2, q3, q4⟩ := h' x hx
    have hlt := (Array.getElem?_eq_some_iff.1 h4).1
    rw [h1] at q1
    simp only [Deferred.mk.injEq, Target.collected.injEq] at q1
    omega
  rcases List.mem_append.1 hd with hd | hd
  · obtain ⟨r, h1, h2, h3⟩ := h' d hd
    exact ⟨r, h1, by omega, h3⟩
  · obtain ⟨r, h1, h2, h3, h4⟩ := h d hd
    have hlt := (Array.getElem?_eq_some_iff.1 h4).1
    obtain ⟨h5, h6⟩ := e.prot r h3 hlt
    exact ⟨r, h1, h2, h5, h6.trans h4⟩

/-- Where code comes to: the exit, the frame, the blocks. -/
def Lands (P : Program) (ro : Nat) (k : K) (ds : List Deferred) (x : X) (st : St) (Q : Exit → Act → World → Prop) : Prop :=
  ∀ k' a', Good P k' → k'.h = st.h → Ev ro k.h.length k k' → RL k' st.tm a'.tmps.toList → Marks k' k.w.heap.size a'.defers ds → Q x.out a' k'.w

/-- In a round's frame: the range's record is an own block. -/
def FrOk (k : K) (fr : Option Nat) : Prop := ∀ l, fr = some l → ∃ id r p tm ps a b, bget k.h id = some (.lop r p tm ps a b) ∧ (k.β id).1 = l

theorem FrOk.ev {k k' : K} {fr : Option Nat} {ro m : Nat} (h : FrOk k fr) (e : Ev ro m k k') (hm : m = k.h.length) : FrOk k' fr := by
  intro l hl
  obtain ⟨id, r, p, tm, ps, a, b, h1, h2⟩ := h l hl
  obtain ⟨q1, r', p', q2⟩ := e.lop id (by rw [hm]; exact bget_lt h1) r p tm ps a b h1
  exact ⟨id, r', p', tm, ps, a, b, q2, by rw [q1]; exact h2⟩
theorem FrOk.none (k : K) : FrOk k none := fun _ h => by cases h

/-- Code is walked by its run. -/
def Walks (P : Program) (ro : Nat) (mc : MC) (st : St) (x : X) (st' : St) : Prop :=
  ∀ (c : Code) (k : K) (a : Act) (fr : Option Nat) (n : Nat) (Q : Exit → Act → World → Prop), cCode P c = some mc → Good P k → k.h = st.h → RL k st.tm a.tmps.toList → FrOk k fr → Lands P ro k a.defers x st' Q → c.wpIn (fen fr) n P Q a k.w

theorem stepR_scope {b : Frame} {a : Act} {k : List Item} {cs : List Frame} {w : World} {c : Code} : step P (lone (b.atR a (.code (.scope c) :: k)) cs w) = .next (lone (b.atR a (.code c :: .inScope c :: k)) cs w) :=
  step_lone_go (by simp [stepG, stepG.exec, Frame.atR])
theorem stepR_inScope {b : Frame} {a : Act} {k : List Item} {cs : List Frame} {w : World} {c : Code} : step P (lone (b.atR a (.inScope c :: k)) cs w) = .next (lone (b.atR a k) cs w) :=
  step_lone_go (by simp [stepG, stepG.exec, Frame.atR])

theorem wpIn_scope {F : Fence} {n : Nat} {Q : Exit → Act → World → Prop} {a : Act} {w : World} {c : Code} (h : c.wpIn F n P (Exit.noGoto Q) a w) : (Code.scope c).wpIn F n P Q a w := by
  intro b k cs hro hb hr
  have h0 : (lone (b.atR a (.code (.scope c) :: k)) cs w).fenced P F := fenced_calm hb hr rfl
  obtain ⟨e, a₁, w₁, hq, harr⟩ := h b (.inScope c :: k) cs hro hb hr
  cases e with
  | normal => exact ⟨.normal, a₁, w₁, hq, .head h0 stepR_scope (StepsIn.trans harr (.one (fenced_calm hb hr rfl) stepR_inScope))⟩
  | exit id =>
    have hx : exitTo id (.inScope c :: k) = exitTo id k := by simp [exitTo]
    exact ⟨.exit id, a₁, w₁, hq, fun k' hk => .head h0 stepR_scope (harr.1 k' (by rw [hx]; exact hk)),
      fun hr' hk => let ⟨k₁, h1, h2⟩ := harr.2 hr' (by rw [hx]; exact hk); ⟨k₁, h1, .head h0 stepR_scope h2⟩⟩
  | goto l => exact hq.elim
  | ret => exact ⟨_, a₁, w₁, hq, .of_steps (.one h0 stepR_scope) harr⟩
  | panic ch => exact ⟨_, a₁, w₁, hq, .of_steps (.one h0 stepR_scope) harr⟩
  | outgrown => exact ⟨_, a₁, w₁, hq, .of_steps (.one h0 stepR_scope) harr⟩

/-- Within a loop, before a round. -/
def InLoop (F : Fence) (n : Nat) (P : Program) (c : Code) (Q : Exit → Act → World → Prop) (a : Act) (w : World) : Prop :=
  ∀ (b : Frame) (k : List Item) (cs : List Frame), b.roundOf = F.round → F.fn b.fn → F.room (cs.length + 1 + n) →
    ∃ e a' w', Q e a' w' ∧ ArrivesIn (Machine.fenced P F) P (lone (b.atR a (.code c :: .inLoop c :: k)) cs w) b k cs e a' w'

theorem InLoop.start {F : Fence} {n : Nat} {Q : Exit → Act → World → Prop} {a : Act} {w : World} {c : Code} (h : InLoop F n P c Q a w) : (Code.loop c).wpIn F n P Q a w := by
  intro b k cs hro hb hr
  obtain ⟨e, a', w', hq, harr⟩ := h b k cs hro hb hr
  exact ⟨e, a', w', hq, .of_steps (.one (fenced_calm hb hr rfl) stepR_loop) harr⟩
theorem InLoop.round {F : Fence} {n : Nat} {Q : Exit → Act → World → Prop} {a : Act} {w : World} {c : Code} (h : c.wpIn F n P (Exit.then (InLoop F n P c Q) Q) a w) : InLoop F n P c Q a w := by
  intro b k cs hro hb hr
  obtain ⟨e, a₁, w₁, hq, harr⟩ := h b (.inLoop c :: k) cs hro hb hr
  cases e with
  | normal =>
    obtain ⟨e₂, a₂, w₂, hq₂, harr₂⟩ := hq b k cs hro hb hr
    exact ⟨e₂, a₂, w₂, hq₂, .of_steps (StepsIn.trans harr (.one (fenced_calm hb hr rfl) stepR_inLoop)) harr₂⟩
  | exit id => exact ⟨_, a₁, w₁, hq, .pass (x := .inLoop c) rfl (fun _ _ => .inl (by simp)) harr⟩
  | goto l => exact ⟨_, a₁, w₁, hq, .pass (x := .inLoop c) rfl (fun _ _ => .inl (by simp)) harr⟩
  | ret => exact ⟨_, a₁, w₁, hq, .pass (x := .inLoop c) rfl (fun _ _ => .inl (by simp)) harr⟩
  | panic ch => exact ⟨_, a₁, w₁, hq, .pass (x := .inLoop c) rfl (fun _ _ => .inl (by simp)) harr⟩
  | outgrown => exact ⟨_, a₁, w₁, hq, .pass (x := .inLoop c) rfl (fun _ _ => .inl (by simp)) harr⟩

/-- One thing after the other. -/
theorem Lands.seq {ro : Nat} {k k1 : K} {ds ds1 : List Deferred} {x : X} {st : St} {Q : Exit → Act → World → Prop} (h : Lands P ro k ds x st Q) (e : Ev ro k.h.length k k1) (hm : Marks k1 k.w.heap.size ds1 ds) : Lands P ro k1 ds1 x st Q :=
  fun k' a' g hh ev hl hm' => h k' a' g hh (e.after ev) hl (hm.trans ev hm' e.low.size)

theorem masked_R {k : K} : ∀ {m : List Bool} {l : List V} {xs : List Value}, RL k l xs → RL k (masked m l) xs
  | true :: m, v :: l, xs, h => by
    obtain ⟨x, r, rfl, _, hr⟩ := (by simpa [RL] using h : ∃ x r, xs = x :: r ∧ R k v x ∧ RL k l r)
    exact RL.cons (by simp [R]) (masked_R hr)
  | false :: m, v :: l, xs, h => by
    obtain ⟨x, r, rfl, hx, hr⟩ := (by simpa [RL] using h : ∃ x r, xs = x :: r ∧ R k v x ∧ RL k l r)
    exact RL.cons hx (masked_R hr)
  | [], _, _, h => by simpa [masked] using h
  | true :: _, [], _, h => by simpa [masked] using h
  | false :: _, [], _, h => by simpa [masked] using h

/-- Blocks that nothing speaks of any more are dropped. -/
theorem strip_ok (n ro : Nat) (tm : List V) : ∀ (j : Nat) {k : K}, Good P k → (k.h.length = n + j ∨ j = 0) → ∃ k', k'.h = strip n tm j k.h ∧ k'.w = k.w ∧ Good P k' ∧ Ev ro n k k' ∧ (∀ b, k.ok b → k'.ok b) ∧ ∀ xs, RL k tm xs → RL k' tm xs
  | 0, k, g, _ => ⟨k, rfl, rfl, g, Ev.refl _ _ _, fun _ h => h, fun _ h => h⟩
  | j + 1, k, g, hj => by
    unfold strip
    by_cases h2 : (blos (n + j) tm && hbelow (n + j) (k.h.take (n + j))) = true
    · rw [if_pos h2]
      rw [Bool.and_eq_true] at h2
      obtain ⟨g1, e1⟩ := g.less (n + j) ro h2.2
      have hlen : k.h.length = n + (j + 1) := hj.resolve_right (by omega)
      obtain ⟨k', q1, q2, q3, q4, q5, q6⟩ := strip_ok n ro tm j (k := { k with h := k.h.take (n + j) }) g1 (.inl (by simp only [List.length_take]; omega))
      refine ⟨k', q1, q2, q3, (e1.mono (Nat.le_refl _) (by omega)).trans q4, fun b hb => q5 b ?_, fun xs h => q6 xs (RL.ev e1 h2.1 h)⟩
      rcases hb with h | ⟨h, h'⟩
      · exact .inl h
      · refine .inr ⟨h, fun ⟨i, ⟨b0, hb0, hn⟩, e⟩ => h' ⟨i, ⟨b0, ?_, hn⟩, e⟩⟩
        simp only [bget_eq, List.getElem?_take] at hb0 ⊢
        split at hb0 <;> simp_all
    · rw [if_neg h2]
      exact ⟨k, rfl, rfl, g, Ev.refl _ _ _, fun _ h => h, fun _ h => h⟩
theorem trunc_ok {k : K} (g : Good P k) (n ro : Nat) (tm : List V) : ∃ k', k'.h = trunc n tm k.h ∧ k'.w = k.w ∧ Good P k' ∧ Ev ro n k k' ∧ (∀ b, k.ok b → k'.ok b) ∧ ∀ xs, RL k tm xs → RL k' tm xs :=
  strip_ok n ro tm _ g (by omega)

/-- What is to be shown of a run, of fuel n. -/
def AllWalk (P : Program) (F : Nat → Option Fc) (md : Nat → Nat) (n : Nat) : Prop :=
  ∀ ro mc st x st', run F md n ro mc st = some (x, st') → Walks P ro mc st x st'

def LoopWalks (P : Program) (ro : Nat) (hl : Nat) (mc : MC) (st : St) (x : X) (st' : St) : Prop :=
  ∀ (c : Code) (k0 k : K) (ds0 : List Deferred) (a : Act) (fr : Option Nat) (n : Nat) (Q : Exit → Act → World → Prop), cCode P c = some mc → Good P k → k.h = st.h → RL k st.tm a.tmps.toList →
    Ev ro hl k0 k → hl = k0.h.length → FrOk k0 fr → Marks k k0.w.heap.size a.defers ds0 →
    (∀ k' a', Good P k' → k'.h = st'.h → Ev ro hl k0 k' → RL k' st'.tm a'.tmps.toList → Marks k' k0.w.heap.size a'.defers ds0 → Q x.out a' k'.w) → InLoop (fen fr) n P c Q a k.w

theorem Marks.same {k k' : K} {n1 : Nat} {a b : List Deferred} (h : Marks k n1 a b) (hok : ∀ b, k.ok b → k'.ok b) (hw : k'.w = k.w) : Marks k' n1 a b := by
  obtain ⟨ms, rfl, hd, h⟩ := h
  exact ⟨ms, rfl, hd, fun d hd => by obtain ⟨r, h1, h2, h3, h4⟩ := h d hd; exact ⟨r, h1, h2, hok r h3, by rw [hw]; exact h4⟩⟩

theorem loop_step {n : Nat} (hn : AllWalk P F md n) (hl2 : ∀ ro m hl mc st x st', run F md n ro (.lp m hl mc) st = some (x, st') → LoopWalks P ro hl mc st x st') {ro : Nat} {m : List Bool} {hl : Nat} {mc : MC} {st st' : St} {x : X}
    (h : run F md (n + 1) ro (.lp m hl mc) st = some (x, st')) : LoopWalks P ro hl mc st x st' := by
  intro c k0 k ds0 a fr nn Q hc g hk ht e0 hhl hfr hm hQ
  simp only [run] at h
  refine InLoop.round ?_
  split at h
  · rename_i st1 h1
    refine hn _ _ _ _ _ h1 c k a fr nn _ hc g hk ht (hfr.ev e0 hhl) ?_
    intro k1 a1 g1 hh1 ev1 hl1 hm1
    obtain ⟨k2, t1, t2, t3, t4, t5, t6⟩ := trunc_ok g1 hl ro (masked m st1.tm)
    have := hl2 _ _ _ _ _ _ _ h c k0 k2 ds0 a1 fr nn Q hc t3 (by rw [t1, hh1]; rfl) (t6 _ (masked_R hl1)) ((e0.after ev1).trans t4) hhl hfr
      ((hm.trans ev1 hm1 e0.low.size).same t5 t2) hQ
    rw [t2] at this
    exact this
  · rename_i hne
    have hq : ∀ a w, Q x.out a w → Exit.then (InLoop (fen fr) nn P c Q) Q x.out a w := by
      intro a w hqq
      cases x with
      | nrm => exact absurd h (by intro h'; exact hne _ h')
      | exit i => exact hqq
      | ret => exact hqq
    exact hn _ _ _ _ _ h c k a fr nn _ hc g hk ht (hfr.ev e0 hhl) (fun k1 a1 g1 hh1 ev1 hl1 hm1 => hq _ _ (hQ k1 a1 g1 hh1 (e0.after ev1) hl1 (hm.trans ev1 hm1 e0.low.size)))

/-- What the evaluator's calls come to, from what its runs come to. -/
def CallsOk (P : Program) (F : Nat → Option Fc) (md : Nat → Nat) (n : Nat) : Prop := ∀ ro, OrcOk P (doCall F md ro (run F md n)) ro ∧ OrcFp md (doCall F md ro (run F md n))

/-- A range over a function, from what calls come to. -/
def RangesOk (P : Program) (F : Nat → Option Fc) (md : Nat → Nat) (n : Nat) : Prop :=
  ∀ ro (f : Operand) (ps : Array Tmp) (ca cb : Code) mc st x st', cCode P (.rangeFunc f ps ca cb) = some mc → run F md (n + 1) ro mc st = some (x, st') →
    ∀ (k : K) (a : Act) (fr : Option Nat) (nn : Nat) (Q : Exit → Act → World → Prop), Good P k → k.h = st.h → RL k st.tm a.tmps.toList → FrOk k fr → Lands P ro k a.defers x st' Q → (Code.rangeFunc f ps ca cb).wpIn (fen fr) nn P Q a k.w

theorem walk_step {n : Nat} (hn : AllWalk P F md n) (hl : ∀ ro m hl mc st x st', run F md n ro (.lp m hl mc) st = some (x, st') → LoopWalks P ro hl mc st x st') (hc : CallsOk P F md n) (hr : RangesOk P F md n) : AllWalk P F md (n + 1) := by
  intro ro mc st x st' h c
  induction c generalizing ro mc st x st' with
  | skip =>
    intro k a fr nn Q hcc g hk ht hfr hQ
    simp only [cCode, Option.some.injEq] at hcc; subst hcc
    simp only [run, Option.some.injEq, Prod.mk.injEq] at h
    obtain ⟨rfl, rfl⟩ := h
    exact wpIn_skip (hQ k a g hk (Ev.refl _ _ _) ht (Marks.refl _ _ _))
  | label l =>
    intro k a fr nn Q hcc g hk ht hfr hQ
    simp only [cCode, Option.some.injEq] at hcc; subst hcc
    simp only [run, Option.some.injEq, Prod.mk.injEq] at h
    obtain ⟨rfl, rfl⟩ := h
    exact wpIn_label (hQ k a g hk (Ev.refl _ _ _) ht (Marks.refl _ _ _))
  | exit id =>
    intro k a fr nn Q hcc g hk ht hfr hQ
    simp only [cCode, Option.some.injEq] at hcc; subst hcc
    simp only [run, Option.some.injEq, Prod.mk.injEq] at h
    obtain ⟨rfl, rfl⟩ := h
    exact wpIn_exit (hQ k a g hk (Ev.refl _ _ _) ht (Marks.refl _ _ _))
  | ret =>
    intro k a fr nn Q hcc g hk ht hfr hQ
    simp only [cCode, Option.some.injEq] at hcc; subst hcc
    simp only [run, Option.some.injEq, Prod.mk.injEq] at h
    obtain ⟨rfl, rfl⟩ := h
    exact wpIn_ret (hQ k a g hk (Ev.refl _ _ _) ht (Marks.refl _ _ _))
  | goto l => intro k a fr nn Q hcc; simp [cCode] at hcc
  | refuse r => intro k a fr nn Q hcc; simp [cCode] at hcc
  | scope c ih =>
    intro k a fr nn Q hcc g hk ht hfr hQ
    simp only [cCode] at hcc
    refine wpIn_scope (ih ro mc st x st' h k a fr nn _ hcc g hk ht hfr ?_)
    intro k' a' g' hh e hl' hm
    have := hQ k' a' g' hh e hl' hm
    cases x <;> exact this
  | block id c ih =>
    intro k a fr nn Q hcc g hk ht hfr hQ
    simp only [cCode] at hcc
    obtain ⟨mc', hm, rfl⟩ := map_some hcc
    simp only [run] at h
    refine wpIn_block ?_
    split at h
    · rename_i i st1 h1
      refine hn _ _ _ _ _ h1 c k a fr nn _ hm g hk ht hfr ?_
      intro k' a' g' hh e hl' hm'
      by_cases hi : i = id
      · simp only [hi, if_true, Option.some.injEq, Prod.mk.injEq] at h
        obtain ⟨rfl, rfl⟩ := h
        simp only [X.out, Exit.inBlock, hi, if_true]
        exact hQ k' a' g' hh e hl' hm'
      · simp only [hi, if_false, Option.some.injEq, Prod.mk.injEq] at h
        obtain ⟨rfl, rfl⟩ := h
        simp only [X.out, Exit.inBlock, hi, if_false]
        exact hQ k' a' g' hh e hl' hm'
    · rename_i hne
      refine hn _ _ _ _ _ h c k a fr nn _ hm g hk ht hfr ?_
      intro k' a' g' hh e hl' hm'
      have := hQ k' a' g' hh e hl' hm'
      cases x with
      | nrm => exact this
      | ret => exact this
      | exit i => exact absurd h (hne i st')
  | cond x0 c1 c2 ih1 ih2 =>
    intro k a fr nn Q hcc g hk ht hfr hQ
    simp only [cCode] at hcc
    split at hcc <;> (try (cases hcc; done))
    rename_i y m1 m2 hy h1 h2
    cases hcc
    simp only [run] at h
    split at h <;> (try (cases h; done))
    rename_i t htv
    have hyR := cO_R ht hy
    rw [htv] at hyR; simp only [R] at hyR
    refine wpIn_cond hyR ?_
    cases t
    · exact hn _ _ _ _ _ (by simpa using h) c2 k a fr nn Q h2 g hk ht hfr hQ
    · exact hn _ _ _ _ _ (by simpa using h) c1 k a fr nn Q h1 g hk ht hfr hQ
  | seq c1 c2 ih1 ih2 =>
    intro k a fr nn Q hcc g hk ht hfr hQ
    simp only [cCode] at hcc
    split at hcc <;> (try (cases hcc; done))
    rename_i m1 m2 h1 h2
    cases hcc
    simp only [run] at h
    refine wpIn_seq ?_
    split at h
    · rename_i st1 hr1
      refine hn _ _ _ _ _ hr1 c1 k a fr nn _ h1 g hk ht hfr ?_
      intro k1 a1 g1 hh1 e1 hl1 hm1
      exact hn _ _ _ _ _ h c2 k1 a1 fr nn Q h2 g1 hh1 hl1 (hfr.ev e1 rfl) (hQ.seq e1 hm1)
    · rename_i hne
      refine hn _ _ _ _ _ h c1 k a fr nn _ h1 g hk ht hfr ?_
      intro k1 a1 g1 hh1 e1 hl1 hm1
      have := hQ k1 a1 g1 hh1 e1 hl1 hm1
      cases x with
      | nrm => exact absurd h (hne st')
      | ret => exact this
      | exit i => exact this
  | loop c ih =>
    intro k a fr nn Q hcc g hk ht hfr hQ
    simp only [cCode] at hcc
    obtain ⟨mc', hm, rfl⟩ := map_some hcc
    simp only [run] at h
    exact (hl _ _ _ _ _ _ _ h c k k a.defers a fr nn Q hm g hk ht (Ev.refl _ _ _) (by rw [hk]) hfr (Marks.refl _ _ _) (fun k' a' g' hh e hl' hm' => hQ k' a' g' hh (by rw [hk]; exact e) hl' hm')).start
  | rangeFunc f ps asg body ih1 ih2 =>
    intro k a fr nn Q hcc g hk ht hfr hQ
    exact hr _ _ _ _ _ _ _ _ _ hcc h k a fr nn Q g hk ht hfr hQ
  | region id ops draw =>
    intro k a fr nn Q hcc g hk ht hfr hQ
    simp only [cCode] at hcc
    split at hcc <;> (try (cases hcc; done))
    rename_i na l hrows
    split at hcc <;> (try (cases hcc; done))
    rename_i hst
    cases hcc
    simp only [run] at h
    split at h <;> (try (cases h; done))
    rename_i tm h' hres
    simp only [Option.some.injEq, Prod.mk.injEq] at h
    obtain ⟨rfl, rfl⟩ := h
    have hrs := cRows_ok hrows
    obtain ⟨ho1, ho2⟩ := hc ro
    -- room for the blocks that are born here
    obtain ⟨k1, a1, a2, g1, ev1, hok1⟩ : ∃ k1 : K, k1.w = k.w ∧ k1.h = (if na = 0 then st.h else st.h ++ unborns na) ∧ Good P k1 ∧ Ev ro k.h.length k k1 ∧ ∀ l xs, RL k l xs → RL k1 l xs := by
      by_cases h0 : na = 0
      · exact ⟨k, rfl, by simp [h0, hk], g, Ev.refl _ _ _, fun _ _ h => h⟩
      · obtain ⟨g1, e1⟩ := g.more na ro
        exact ⟨{ k with h := k.h ++ unborns na }, rfl, by simp [h0, hk], g1, e1, fun l xs h => RL.ev e1 (RL.blos h) h⟩
    rw [← a2] at hres
    have fin : ∀ k' a', Good P k' → k'.h = h' → Ev ro k1.h.length k1 k' → RL k' tm a'.tmps.toList → a'.defers = a.defers → Q .normal a' k'.w := fun k' a' g' hh e hl' hd =>
      hQ k' a' g' hh (ev1.after e) hl' (by rw [hd]; exact Marks.refl _ _ _)
    rw [← a1]
    cases draw
    · simp only [Bool.false_eq_true, if_false] at hres
      exact plain_wp hrs ho1 g1 (hok1 _ _ ht) hres fin
    · simp only [if_true] at hres
      have hst2 : statOk [] l = true ∧ ranksOk ops = true := by simpa using hst
      exact draw_wp hrs hst2.1 hst2.2 ho1 ho2 g1 (hok1 _ _ ht) hres fin

end Go.Dr
