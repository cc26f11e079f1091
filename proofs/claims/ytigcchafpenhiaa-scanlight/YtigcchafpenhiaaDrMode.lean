/- The door: how calls are run: over the blocks that are there (1), or writing none of them (2). -/
import Derived.Test.YtigcchafpenhiaaDrCall
namespace Go.Dr
open Go.RowKit (Below)

variable {P : Program} {md : Nat → Nat} {F : Nat → Option Fc}

/-- Back to the caller's blocks, when none of them was written. -/
theorem back_ro {k k' : K} {ro : Nat} (g : Good P k) (g' : Good P k') (e : Ev (max ro k.h.length) k.h.length k k') :
    Good P { k with w := k'.w } ∧ Ev ro k.h.length k { k with w := k'.w } ∧ ∀ v x, v.blo k.h.length = true → R k' v x → R { k with w := k'.w } v x := by
  have same : ∀ b, b < k.w.heap.size → k'.w.heap[b]? = k.w.heap[b]? := by
    intro b hb
    by_cases h0 : b < k.n0
    · exact e.low.block b h0
    · by_cases ho : k.own b
      · obtain ⟨id, l, rfl⟩ := ho
        have hid : id < k.h.length := by obtain ⟨b0, hb0, _⟩ := l; exact bget_lt hb0
        exact (e.rd id (by omega) hid l).2.2
      · exact (e.prot b (.inr ⟨by omega, ho⟩) hb).2
  obtain ⟨g1, e1⟩ := g.world e.low same ro k.h.length
  refine ⟨g1, e1, fun v x hv hx => ?_⟩
  have e2 : Ev 0 k.h.length k' { k with w := k'.w } := by
    have hget : ∀ id, id < k.h.length → ∃ b, bget k.h id = some b := fun id hid => by
      rw [bget_eq]; exact ⟨_, List.getElem?_eq_getElem hid⟩
    refine ⟨e.n0.symm, e.A.symm, Below.refl _ _, ?_, ?_, ?_, ?_, fun id h => absurd h (by omega)⟩
    · intro b hb _
      refine ⟨?_, rfl⟩
      rcases hb with ⟨h1, h2⟩ | ⟨h1, h2⟩
      · exact .inl ⟨by rw [e.n0] at h1; exact h1, by rw [e.A] at h2; exact h2⟩
      · refine .inr ⟨by rw [e.n0] at h1; exact h1, ?_⟩
        rintro ⟨id, l, hb⟩
        have l : live k.h id := l
        have hid : id < k.h.length := by obtain ⟨b0, hb0, _⟩ := l; exact bget_lt hb0
        obtain ⟨q1, q2, q3⟩ := e.rd id (by omega) hid l
        exact h2 ⟨id, live_of_bget q1 l, by rw [q2]; exact hb⟩
    · intro id hid c dat hc
      obtain ⟨b, hb⟩ := hget id hid
      have := e.un id (by omega) hid b hb
      rw [hc] at this; cases this
      obtain ⟨q1, q2, q3⟩ := e.rd id (by omega) hid (live_blk hb)
      exact ⟨c, hb, Nat.le_refl _, fun _ => ⟨q2.symm, rfl⟩⟩
    · intro id hid r p tm ps a b hc
      obtain ⟨b', hb⟩ := hget id hid
      have := e.un id (by omega) hid b' hb
      rw [hc] at this; cases this
      obtain ⟨q1, q2, q3⟩ := e.rd id (by omega) hid (live_lop hb)
      exact ⟨q2.symm, r, p, hb⟩
    · intro id h; exact absurd h (by omega)
  exact R.ev e2 hv hx

theorem doCall_fn {ro : Nat} {rn : Nat → MC → St → Option (X × St)} {f : Nat} {caps args : List V} {h : List B} {r : V × List B} (e : doCall F md ro rn (.fn f caps) args h = some r) :
    ∃ fc, F f = some fc ∧ (args ++ caps).length = fc.np ∧
      ((mode md (.fn f caps) args = 0 ∧ ∃ as' x st v v', views h depth (args ++ caps) = some as' ∧ rn 0 fc.body ⟨as' ++ deads (fc.ntm - fc.np), []⟩ = some (x, st) ∧ (x = .nrm ∨ x = .ret) ∧ result st fc.res = some v ∧ V.view st.h depth v = some v' ∧ (blos 0 (args ++ caps) = true ∨ v'.scalar = true) ∧ r = (v', h)) ∨
       (mode md (.fn f caps) args = 1 ∧ ∃ x st v, rn ro fc.body ⟨args ++ caps ++ deads (fc.ntm - fc.np), h⟩ = some (x, st) ∧ (x = .nrm ∨ x = .ret) ∧ result st fc.res = some v ∧ r = (v, trunc h.length [v] st.h)) ∨
       (mode md (.fn f caps) args ≠ 0 ∧ mode md (.fn f caps) args ≠ 1 ∧ ∃ x st v, rn (max ro h.length) fc.body ⟨args ++ caps ++ deads (fc.ntm - fc.np), h⟩ = some (x, st) ∧ (x = .nrm ∨ x = .ret) ∧ result st fc.res = some v ∧ v.blo h.length = true ∧ r = (v, h))) := by
  simp only [doCall] at e
  split at e <;> (try (cases e; done))
  rename_i fc hfc
  split at e <;> (try (cases e; done))
  rename_i hnp
  refine ⟨fc, hfc, hnp, ?_⟩
  split at e
  · rename_i hm
    split at e <;> (try (cases e; done))
    rename_i as' has
    split at e <;> (try (cases e; done))
    all_goals
      rename_i st hrun
      split at e <;> (try (cases e; done))
      rename_i v hv
      split at e <;> (try (cases e; done))
      rename_i v' hv'
      split at e <;> (try (cases e; done))
      rename_i hcond
      cases e
      refine .inl ⟨hm, as', _, st, v, v', has, hrun, by simp, hv, hv', by simpa using hcond, rfl⟩
  · rename_i hm
    split at e <;> (try (cases e; done))
    all_goals
      rename_i st hrun
      split at e <;> (try (cases e; done))
      rename_i v hv
      cases e
      exact .inr (.inl ⟨hm, _, st, v, hrun, by simp, hv, rfl⟩)
  · rename_i hm0 hm1
    split at e <;> (try (cases e; done))
    all_goals
      rename_i st hrun
      split at e <;> (try (cases e; done))
      rename_i v hv
      split at e <;> (try (cases e; done))
      rename_i hb
      cases e
      exact .inr (.inr ⟨hm0, hm1, _, st, v, hrun, by simp, hv, hb, rfl⟩)

/-- Calls of functions, of modes 1 and 2: the function that is entered. -/
theorem fn_called {n : Nat} (hF : TableOk P F) (hn : AllWalk P F md n) {ro f : Nat} {caps args : List V} {k : K} {fx : Value} {xs : List Value} {v : V} {h' : List B} (g : Good P k) (hf : R k (.fn f caps) fx) (ha : RL k args xs)
    (e : doCall F md ro (run F md n) (.fn f caps) args k.h = some (v, h')) (hm : mode md (.fn f caps) args ≠ 0) : ∃ cvs, fx = .func (.func f) #[] ⟨cvs⟩ ∧ (callSem fx ⟨xs⟩).run P k.w = .ok (.enter f ⟨xs ++ cvs⟩) k.w ∧ Calls P f ⟨xs ++ cvs⟩ k.w (Back P ro k v h') := by
  obtain ⟨fc, hfc, hnp, hcase⟩ := doCall_fn e
  obtain ⟨fn, hfn, hcf, hname⟩ := hF f fc hfc
  obtain ⟨c, hb, _⟩ := cFunc_spec hcf
  simp only [R] at hf
  obtain ⟨cvs, rfl, hcaps⟩ := hf
  have has := RL.append ha hcaps
  refine ⟨cvs, rfl, call_enter hfn (by simp [hb]) hname cvs xs k.w, ?_⟩
  rcases hcase with ⟨h0, _⟩ | ⟨h1, x, st, v0, hrun, hx, hv, hr⟩ | ⟨h0, h1, x, st, v0, hrun, hx, hv, hblo, hr⟩
  · exact absurd h0 hm
  · simp only [Prod.mk.injEq] at hr
    obtain ⟨rfl, rfl⟩ := hr
    refine call_wp hn hfn hcf g has hnp hrun hx hv fun y k' hh g' e' hy => ?_
    obtain ⟨k2, t1, t2, t3, t4, t5, t6⟩ := trunc_ok g' k.h.length ro [v]
    refine ⟨y, k2, rfl, t2, by rw [t1, hh], t3, e'.trans t4, ?_⟩
    have := t6 [y] (RL.cons hy RL.nil)
    exact (RL.cons_iff.1 this).1
  · simp only [Prod.mk.injEq] at hr
    obtain ⟨rfl, rfl⟩ := hr
    refine call_wp hn hfn hcf g has hnp hrun hx hv fun y k' hh g' e' hy => ?_
    obtain ⟨q1, q2, q3⟩ := back_ro g g' e'
    exact ⟨y, { k with w := k'.w }, rfl, rfl, rfl, q1, q2, q3 v y hblo hy⟩

/-- Calls of functions, of modes 1 and 2. -/
theorem fn_shared {n : Nat} (hF : TableOk P F) (hn : AllWalk P F md n) {ro f : Nat} {caps args : List V} {k : K} {fx : Value} {xs : List Value} {v : V} {h' : List B} (g : Good P k) (hf : R k (.fn f caps) fx) (ha : RL k args xs)
    (e : doCall F md ro (run F md n) (.fn f caps) args k.h = some (v, h')) (hm : mode md (.fn f caps) args ≠ 0) : Done P ro k (callSem fx ⟨xs⟩) v h' := by
  obtain ⟨cvs, _, h1, h2⟩ := fn_called hF hn g hf ha e hm
  exact .called f _ k.w h1 h2

end Go.Dr
