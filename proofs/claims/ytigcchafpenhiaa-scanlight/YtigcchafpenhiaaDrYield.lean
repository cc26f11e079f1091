/- The door: the rounds of a range over a function. -/
import Derived.Test.YtigcchafpenhiaaDrMode
namespace Go.Dr
open Go.RowKit (Below)

variable {P : Program} {md : Nat → Nat} {F : Nat → Option Fc}

/-- A range's record changes its state. -/
theorem Good.lopset {k : K} (g : Good P k) {id ro m : Nat} {r r' : Bool} {p p' : X} {tm : List V} {ps : List Nat} {a b : MC} (hb : bget k.h id = some (.lop r p tm ps a b)) (hro : ro ≤ id ∨ m ≤ id) {lp lp' : Loop} (hl : k.w.heap[(k.β id).1]? = some (.loop lp))
    (ht : lp'.tmps = lp.tmps) (hps : lp'.params = lp.params) (ha : lp'.assign = lp.assign) (hbd : lp'.body = lp.body) (hst : stateRel r' p' lp'.state) (hpd : pendRel r' p' lp'.pending) :
    Good P (k.set id (.lop r' p' tm ps a b) (k.β id) (k.w.putObj (k.β id).1 (.loop lp'))) ∧ Ev ro m k (k.set id (.lop r' p' tm ps a b) (k.β id) (k.w.putObj (k.β id).1 (.loop lp'))) := by
  obtain ⟨q1, lp0, q2, q3, q4, q5, q6, q7, q8⟩ := g.lop id r p tm ps a b hb
  rw [hl] at q2; cases q2
  have hid := bget_lt hb
  have hlt := (g.at (live_lop hb)).2
  have hget : ∀ i, bget (bset k.h id (.lop r' p' tm ps a b)) i = if i = id then some (.lop r' p' tm ps a b) else bget k.h i := by
    intro i; rw [bget_bset]
    by_cases e : id = i
    · subst e; simp [hid]
    · simp [e, Ne.symm e]
  have hβ : ∀ i, (k.set id (.lop r' p' tm ps a b) (k.β id) (k.w.putObj (k.β id).1 (.loop lp'))).β i = k.β i := by
    intro i; simp only [K.set]; split
    · rename_i h; rw [h]
    · rfl
  have hlive : ∀ i, live (bset k.h id (.lop r' p' tm ps a b)) i → live k.h i := by
    rintro i ⟨b0, hb0, hn⟩
    rw [hget] at hb0
    split at hb0
    · rename_i e; rw [e]; exact live_lop hb
    · exact ⟨b0, hb0, hn⟩
  have hother : ∀ b0, b0 ≠ (k.β id).1 → (k.w.putObj (k.β id).1 (.loop lp')).heap[b0]? = k.w.heap[b0]? := fun b0 h => World.putObj_heap_other h
  have hne : ∀ i, i ≠ id → live k.h i → (k.β i).1 ≠ (k.β id).1 := fun i hi l e => hi (g.inj i id l (live_lop hb) e)
  have evm : ∀ ro m, (ro ≤ id ∨ m ≤ id) → Ev ro m k (k.set id (.lop r' p' tm ps a b) (k.β id) (k.w.putObj (k.β id).1 (.loop lp'))) := by
    intro ro m hrm
    refine ⟨rfl, rfl, ⟨rfl, rfl, rfl, by simp [K.set], fun b0 hb0 => hother b0 (by omega)⟩, ?_, ?_, ?_, ?_, ?_⟩
    · intro b0 hok hlt0
      refine ⟨?_, hother b0 (ok_ne g (live_lop hb) hok)⟩
      rcases hok with h | ⟨h1, h2⟩
      · exact .inl h
      · exact .inr ⟨h1, fun ⟨i, l, e⟩ => h2 ⟨i, hlive i l, by rw [← hβ i]; exact e⟩⟩
    · intro i hi c d hc
      have hii : i ≠ id := by rintro rfl; rw [hc] at hb; cases hb
      refine ⟨c, by simp only [K.set, hget, hii, if_false]; exact hc, Nat.le_refl _, fun _ => ⟨hβ i, ?_⟩⟩
      simp only [rowSize, K.set, hother _ (hne i hii (live_blk hc))]
    · intro i hi r0 p0 tm0 ps0 a0 b0 hc
      refine ⟨hβ i, ?_⟩
      by_cases hii : i = id
      · subst hii
        rw [hc] at hb; cases hb
        exact ⟨r', p', by simp [K.set, hget]⟩
      · exact ⟨r0, p0, by simp only [K.set, hget, hii, if_false]; exact hc⟩
    · intro i h1 h2 l
      have hii : i ≠ id := by omega
      exact ⟨by simp only [K.set, hget, hii, if_false], hβ i, hother _ (hne i hii l)⟩
    · intro i h1 h2 b0 h0
      have hii : i ≠ id := by omega
      simp only [K.set, hget, hii, if_false]; exact h0
  have ev := evm 0 k.h.length (.inl (Nat.zero_le _))
  refine ⟨⟨by simp only [K.set, World.putObj_size]; exact g.size, ?_, ?_, ?_⟩, evm ro m hro⟩
  · intro i c d hc
    have hii : i ≠ id := by rintro rfl; simp only [K.set, hget, if_true] at hc; cases hc
    simp only [K.set, hget, hii, if_false] at hc
    obtain ⟨a1, a2, a3, a4, xs', rest', T', a5, a6⟩ := g.blk i c d hc
    refine ⟨by rw [hβ]; exact a1, by rw [hβ]; exact a2, a3, a4, xs', rest', T', ?_, ?_⟩
    · rw [hβ]; exact (hother _ (hne i hii (live_blk hc))).trans a5
    · rw [hβ]; exact RL.ev ev (RL.blos a6) a6
  · intro i r0 p0 tm0 ps0 a0 b0 hc
    by_cases hii : i = id
    · subst hii
      simp only [K.set, hget, if_true, Option.some.injEq, B.lop.injEq] at hc
      obtain ⟨rfl, rfl, rfl, rfl, rfl, rfl⟩ := hc
      refine ⟨by rw [hβ]; exact q1, lp', ?_, hst, hpd, ?_, by rw [hps]; exact q6, by rw [ha]; exact q7, by rw [hbd]; exact q8⟩
      · rw [hβ]; exact World.putObj_heap_same hlt
      · rw [ht]; exact RL.ev ev (RL.blos q5) q5
    · simp only [K.set, hget, hii, if_false] at hc
      obtain ⟨a1, lp2, a2, a3, a4, a5, a6⟩ := g.lop i r0 p0 tm0 ps0 a0 b0 hc
      exact ⟨by rw [hβ]; exact a1, lp2, by rw [hβ]; exact (hother _ (hne i hii (live_lop hc))).trans a2, a3, a4, RL.ev ev (RL.blos a5) a5, a6⟩
  · intro i j hi hj e
    rw [hβ, hβ] at e
    exact g.inj i j (hlive i hi) (hlive j hj) e

theorem setPs_R {k : K} : ∀ {ps : List Nat} {as tm tm' : List V} {xs : List Value} {ts : List Value}, setPs tm ps as = some tm' → RL k as xs → RL k tm ts →
    ps.length = xs.length ∧ RL k tm' ((ps.zip xs).foldl (fun ts q => ts.set q.1 q.2) ts)
  | [], [], tm, tm', xs, ts, h, ha, ht => by
    simp only [setPs, Option.some.injEq] at h; subst h
    simp only [RL] at ha; subst ha
    exact ⟨rfl, ht⟩
  | p :: ps, v :: as, tm, tm', xs, ts, h, ha, ht => by
    obtain ⟨x, r, rfl, hx, hr⟩ := (by simpa [RL] using ha : ∃ x r, xs = x :: r ∧ R k v x ∧ RL k as r)
    simp only [setPs] at h
    obtain ⟨h1, h2⟩ := setPs_R h hr (RL.set hx p ht)
    exact ⟨by simp [h1], by simpa using h2⟩
  | [], _ :: _, _, _, _, _, h, _, _ => by simp [setPs] at h
  | _ :: _, [], _, _, _, _, h, _, _ => by simp [setPs] at h

def X.ready : X → Bool
  | .nrm => true
  | _ => false

theorem doCall_yld {ro : Nat} {rn : Nat → MC → St → Option (X × St)} {id : Nat} {args : List V} {h : List B} {r : V × List B} (e : doCall F md ro rn (.yld id) args h = some r) :
    ∃ p tm ps asg body tm' st p' tm2 ps2 a2 b2 x st', bget h id = some (.lop true p tm ps asg body) ∧ ro ≤ id ∧ setPs tm ps args = some tm' ∧ rn ro asg ⟨tm', h⟩ = some (.nrm, st) ∧ bget st.h id = some (.lop true p' tm2 ps2 a2 b2) ∧
      rn ro body ⟨st.tm, bset st.h id (.lop false .nrm tm ps asg body)⟩ = some (x, st') ∧ r = (.bool x.ready, bset (trunc h.length [] st'.h) id (.lop x.ready x tm ps asg body)) := by
  simp only [doCall] at e
  split at e <;> (try (cases e; done))
  rename_i p tm ps asg body hb
  split at e <;> (try (cases e; done))
  rename_i hro
  split at e <;> (try (cases e; done))
  rename_i tm' hset
  split at e <;> (try (cases e; done))
  rename_i st hasg
  split at e <;> (try (cases e; done))
  rename_i p' tm2 ps2 a2 b2 hb2
  split at e <;> (try (cases e; done))
  rename_i x st' hbody
  cases e
  refine ⟨p, tm, ps, asg, body, tm', st, p', tm2, ps2, a2, b2, x, st', hb, hro, hset, hasg, hb2, hbody, ?_⟩
  cases x <;> rfl

theorem yld_done {n : Nat} (hn : AllWalk P F md n) {ro id : Nat} {args : List V} {k : K} {fx : Value} {xs : List Value} {v : V} {h' : List B} (g : Good P k) (hf : R k (.yld id) fx) (ha : RL k args xs)
    (e : doCall F md ro (run F md n) (.yld id) args k.h = some (v, h')) : Done P ro k (callSem fx ⟨xs⟩) v h' := by
  obtain ⟨p, tm, ps, asg, body, tm', st, p', tm2, ps2, a2, b2, x, st', hb, hro, hset, hasg, hb2, hbody, hr⟩ := doCall_yld e
  simp only [Prod.mk.injEq] at hr
  obtain ⟨rfl, rfl⟩ := hr
  simp only [R] at hf
  obtain ⟨rfl, _⟩ := hf
  obtain ⟨q1, lp, q2, q3, q4, q5, q6, q7, q8⟩ := g.lop id _ _ _ _ _ _ hb
  obtain ⟨s1, s2⟩ := setPs_R hset ha q5
  have hsz : (⟨xs⟩ : Array Value).size = lp.params.size := by rw [← q6] at s1; simpa using s1.symm
  have hcall : (callSem (.func (.yield (k.β id).1) #[] #[]) ⟨xs⟩).run P k.w = .ok (.round (k.β id).1 lp.fn ((lp.params.zip ⟨xs⟩).foldl (fun tmps (t, a) => tmps.setIfInBounds t a) lp.tmps) lp.assign lp.body) k.w := by
    simp only [callSem, Deferred.ofValue, Sem.run_bind, Sem.run_pure, Result.andThen_ok, invoke]
    have : (#[] ++ (⟨xs⟩ : Array Value)) = ⟨xs⟩ := by simp
    rw [this]
    exact run_yield q2 hsz
  refine .round _ _ _ _ _ k.w hcall fun nn => roundIn_of_wpIn trivial ?_
  have htm : RL k tm' ((lp.params.zip ⟨xs⟩).foldl (fun tmps (t, a) => tmps.setIfInBounds t a) lp.tmps).toList := by
    have key : ∀ (l : List (Nat × Value)) (ts : Array Value), (l.foldl (fun (tmps : Array Value) (q : Nat × Value) => tmps.setIfInBounds q.1 q.2) ts).toList = l.foldl (fun ts q => ts.set q.1 q.2) ts.toList := by
      intro l
      induction l with
      | nil => intro ts; rfl
      | cons q l ih => intro ts; simp only [List.foldl_cons]; rw [ih]; simp
    rw [← Array.foldl_toList, key]
    rw [← q6] at s2
    simpa using s2
  have hfr0 : FrOk k (some (k.β id).1) := fun l hl => by cases hl; exact ⟨id, _, _, _, _, _, _, hb, rfl⟩
  refine hn _ _ _ _ _ hasg lp.assign k { tmps := _, defers := [] } (some (k.β id).1) nn _ q7 g rfl htm hfr0 ?_
  intro k1 a1 g1 hh1 e1 hl1 _
  -- the record, when the body begins
  obtain ⟨hβ1, r1, p1, hlop1⟩ := e1.lop id (bget_lt hb) _ _ _ _ _ _ hb
  have hlop1' := hlop1
  rw [hh1, hb2] at hlop1'
  replace hlop1' := hlop1'.symm
  simp only [Option.some.injEq, B.lop.injEq] at hlop1'
  obtain ⟨rfl, rfl, rfl, rfl, rfl, rfl⟩ := hlop1'
  obtain ⟨t1, lp1, t2, t3, t4, t5, t6, t7, t8⟩ := g1.lop id _ _ _ _ _ _ hlop1
  have t2' := t2
  rw [hβ1] at t2'
  obtain ⟨g2, e2⟩ := g1.lopset (r' := false) (p' := .nrm) (m := k1.h.length) hlop1 (.inl hro) t2 (lp' := { lp1 with state := .busy }) rfl rfl rfl rfl trivial trivial
  rw [hβ1] at g2 e2
  refine ⟨_, run_beginRound t2' t3, ?_⟩
  have hl2 := RL.ev e2 (RL.blos hl1) hl1
  have hbody7 : cCode P lp.body = some body := q8
  refine hn _ _ _ _ _ hbody lp.body _ a1 (some (k.β id).1) nn _ hbody7 g2 (by simp only [K.set, hh1]) hl2 ((hfr0.ev e1 rfl).ev e2 rfl) ?_
  intro k3 a3 g3 hh3 e3 hl3 _
  have e13 : Ev ro k.h.length k k3 := (e1.after e2).after e3
  obtain ⟨k4, u1, u2, u3, u4, u5, u6⟩ := trunc_ok g3 k.h.length ro []
  have e14 := e13.trans u4
  obtain ⟨hβ4, r4, p4, hlop4⟩ := e14.lop id (bget_lt hb) _ _ _ _ _ _ hb
  obtain ⟨v1, lp4, v2, v3, v4, v5, v6, v7, v8⟩ := u3.lop id _ _ _ _ _ _ hlop4
  have v2' := v2
  rw [hβ4, u2] at v2'
  have fin : ∀ (j : Option Code), stateRel x.ready x (if j.isNone then .ready else .done) → pendRel x.ready x j → j.isNone = x.ready →
      ∃ vv w', (Instr.endRound (k.β id).1 j).run P k3.w = .ok vv w' ∧ Back P ro k (.bool x.ready) (bset (trunc k.h.length [] st'.h) id (.lop x.ready x tm ps asg body)) (.returned vv) w' := by
    intro j hj1 hj2 hj3
    obtain ⟨g5, e5⟩ := u3.lopset (r' := x.ready) (p' := x) (m := k4.h.length) hlop4 (.inl hro) v2 (lp' := { lp4 with state := if j.isNone then .ready else .done, pending := j }) rfl rfl rfl rfl hj1 hj2
    refine ⟨_, _, run_endRound j v2', .bool j.isNone, _, rfl, ?_, ?_, g5, e14.after e5, by simp only [R, hj3]⟩
    · simp only [K.set, u2, hβ4]
    · simp only [K.set, u1, hh3]
  cases x with
  | nrm => exact fin none rfl rfl rfl
  | ret => exact fin (some .ret) (by simp [stateRel, X.ready]) rfl rfl
  | exit i => exact fin (some (.exit i)) (by simp [stateRel, X.ready]) rfl rfl

end Go.Dr
