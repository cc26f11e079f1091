/- The door: a range over a function. -/
import Derived.Test.YtigcchafpenhiaaDrYield
namespace Go.Dr
open Go.RowKit (Below)

variable {P : Program} {md : Nat → Nat} {F : Nat → Option Fc}

/-- A range's record is laid. -/
theorem Good.lopborn {k : K} (g : Good P k) {id ro : Nat} {tm : List V} {ps : List Nat} {a b : MC} (hb : bget k.h id = some .unborn) (hro : id = k.h.length - 1) {w' : World} (hlow : Below k.n0 k.w w') (hsame : ∀ b, b < k.w.heap.size → w'.heap[b]? = k.w.heap[b]?)
    {l : Nat} {lp : Loop} (hl0 : k.w.heap.size ≤ l) (hl : w'.heap[l]? = some (.loop lp)) (hst : lp.state = .ready) (hpd : lp.pending = none) (ht : RL k tm lp.tmps.toList) (hps : lp.params.toList = ps) (ha : cCode P lp.assign = some a) (hbd : cCode P lp.body = some b) :
    Good P (k.set id (.lop true .nrm tm ps a b) (l, 0) w') ∧ Ev ro id k (k.set id (.lop true .nrm tm ps a b) (l, 0) w') := by
  have hid := bget_lt hb
  have hget : ∀ i, bget (bset k.h id (.lop true .nrm tm ps a b)) i = if i = id then some (.lop true .nrm tm ps a b) else bget k.h i := by
    intro i; rw [bget_bset]
    by_cases e : id = i
    · subst e; simp [hid]
    · simp [e, Ne.symm e]
  have hβ : ∀ i, i ≠ id → (k.set id (.lop true .nrm tm ps a b) (l, 0) w').β i = k.β i := fun i hi => by simp only [K.set, hi, if_false]
  have hlive : ∀ i, i ≠ id → live (bset k.h id (.lop true .nrm tm ps a b)) i → live k.h i := by
    rintro i hi ⟨b0, hb0, hn⟩
    rw [hget, if_neg hi] at hb0
    exact ⟨b0, hb0, hn⟩
  have hne : ∀ i, live k.h i → i ≠ id := by rintro i ⟨b0, hb0, hn⟩ rfl; rw [hb] at hb0; cases hb0; exact hn rfl
  have evm : ∀ ro m, (ro ≤ id ∨ m ≤ id) → Ev ro m k (k.set id (.lop true .nrm tm ps a b) (l, 0) w') := by
    intro ro m hrm
    refine ⟨rfl, rfl, hlow, ?_, ?_, ?_, ?_, ?_⟩
    · intro b0 hok hlt0
      refine ⟨?_, hsame b0 hlt0⟩
      rcases hok with h | ⟨h1, h2⟩
      · exact .inl h
      · refine .inr ⟨h1, fun ⟨i, lv, e⟩ => ?_⟩
        by_cases hi : i = id
        · simp only [K.set, hi, if_true] at e; omega
        · exact h2 ⟨i, hlive i hi lv, by rw [← hβ i hi]; exact e⟩
    · intro i hi c d hc
      have hii := hne i (live_blk hc)
      refine ⟨c, by simp only [K.set, hget, hii, if_false]; exact hc, Nat.le_refl _, fun _ => ⟨hβ i hii, ?_⟩⟩
      simp only [rowSize, K.set, hsame _ (g.at (live_blk hc)).2]
    · intro i hi r0 p0 tm0 ps0 a0 b0 hc
      have hii := hne i (live_lop hc)
      exact ⟨hβ i hii, r0, p0, by simp only [K.set, hget, hii, if_false]; exact hc⟩
    · intro i h1 h2 lv
      have hii := hne i lv
      exact ⟨by simp only [K.set, hget, hii, if_false], hβ i hii, hsame _ (g.at lv).2⟩
    · intro i h1 h2 b0 h0
      have hii : i ≠ id := by omega
      simp only [K.set, hget, hii, if_false]; exact h0
  have ev := evm 0 k.h.length (.inl (Nat.zero_le _))
  refine ⟨⟨Nat.le_trans g.size hlow.size, ?_, ?_, ?_⟩, evm ro id (.inr (Nat.le_refl _))⟩
  · intro i c d hc
    have hii : i ≠ id := by rintro rfl; simp only [K.set, hget, if_true] at hc; cases hc
    simp only [K.set, hget, hii, if_false] at hc
    obtain ⟨a1, a2, a3, a4, xs', rest', T', a5, a6⟩ := g.blk i c d hc
    refine ⟨by rw [hβ i hii]; exact a1, by rw [hβ i hii]; exact a2, a3, a4, xs', rest', T', ?_, ?_⟩
    · rw [hβ i hii]; exact (hsame _ (g.at (live_blk hc)).2).trans a5
    · rw [hβ i hii]; exact RL.ev ev (RL.blos a6) a6
  · intro i r0 p0 tm0 ps0 a0 b0 hc
    by_cases hii : i = id
    · subst hii
      simp only [K.set, hget, if_true, Option.some.injEq, B.lop.injEq] at hc
      obtain ⟨rfl, rfl, rfl, rfl, rfl, rfl⟩ := hc
      refine ⟨by simp only [K.set, if_true]; exact Nat.le_trans g.size hl0, lp, by simp only [K.set, if_true]; exact hl, hst, hpd, RL.ev ev (RL.blos ht) ht, hps, ha, hbd⟩
    · simp only [K.set, hget, hii, if_false] at hc
      obtain ⟨a1, lp2, a2, a3, a4, a5, a6⟩ := g.lop i r0 p0 tm0 ps0 a0 b0 hc
      exact ⟨by rw [hβ i hii]; exact a1, lp2, by rw [hβ i hii]; exact (hsame _ (g.at (live_lop hc)).2).trans a2, a3, a4, RL.ev ev (RL.blos a5) a5, a6⟩
  · intro i j hi hj e
    by_cases h1 : i = id <;> by_cases h2 : j = id
    · omega
    · exfalso
      rw [hβ j h2] at e
      simp only [K.set, h1, if_true] at e
      have := (g.at (hlive j h2 hj)).2; omega
    · exfalso
      rw [hβ i h1] at e
      simp only [K.set, h2, if_true] at e
      have := (g.at (hlive i h1 hi)).2; omega
    · rw [hβ i h1, hβ j h2] at e
      exact g.inj i j (hlive i h1 hi) (hlive j h2 hj) e

theorem bset_snoc (h : List B) (b c : B) : bset (h ++ [b]) h.length c = h ++ [c] := by
  induction h with
  | nil => rfl
  | cons x l ih => simp [bset, ih]
theorem bget_snoc (h : List B) (b : B) : bget (h ++ [b]) h.length = some b := by
  induction h with
  | nil => rfl
  | cons x l ih => simp [bget, ih]

theorem live_snoc {h : List B} {b : B} {i : Nat} (hi : i ≠ h.length) (l : live (bset (h ++ unborns 1) h.length b) i) : live h i := by
  obtain ⟨b0, hb0, hn⟩ := l
  rw [show unborns 1 = [B.unborn] from rfl, bset_snoc, bget_append] at hb0
  split at hb0
  · exact ⟨b0, hb0, hn⟩
  · have : ∃ j, i - h.length = j + 1 := ⟨i - h.length - 1, by omega⟩
    obtain ⟨j, hj⟩ := this
    rw [hj] at hb0
    simp [bget] at hb0

theorem run_enterLoop_inner (fn : FuncId) (tmps : Array Value) (ps : Array Tmp) (assign body : Code) {l : Nat} {lp : Loop} {w : World} (h : w.heap[l]? = some (.loop lp)) :
    (Instr.enterLoop fn tmps ps assign body (some l)).run P w =
      .ok (w.heap.size, []) (w.alloc (.loop { state := .ready, pending := none, fn, tmps, params := ps, assign, body, defers := lp.defers })) := by
  unfold Instr.enterLoop
  simp only [Sem.run_bind, run_getLoop h, run_newObj_alloc, Result.andThen, Sem.run_pure]

/-- The record is laid, and the range's function may be called. -/
theorem range_enter {k : K} (g : Good P k) {ro : Nat} {fr : Option Nat} (hfr : FrOk k fr) {tm : List V} {ps : Array Tmp} {asg body : MC} {ca cb : Code} (ha : cCode P ca = some asg) (hb : cCode P cb = some body) {a : Act} (ht : RL k tm a.tmps.toList) (fn : FuncId) :
    ∃ (l : Nat) (mark : List Deferred) (k2 : K), (Instr.enterLoop fn a.tmps ps ca cb fr).run P k.w = .ok (l, mark) k2.w ∧ k2.h = k.h ++ [.lop true .nrm tm ps.toList asg body] ∧ Good P k2 ∧ Ev ro k.h.length k k2 ∧ (k2.β k.h.length).1 = l ∧
      Marks k2 k.w.heap.size (mark ++ a.defers) a.defers := by
  obtain ⟨g1, e1⟩ := g.more 1 ro
  have ht1 := RL.ev e1 (RL.blos ht) ht
  have hun : bget (k.h ++ unborns 1) k.h.length = some .unborn := bget_snoc k.h .unborn
  cases fr with
  | none =>
    let lp : Loop := { state := .ready, pending := none, fn, tmps := a.tmps, params := ps, assign := ca, body := cb, defers := k.w.heap.size }
    have hsz : ∀ (w : World) (o : Obj), (w.alloc o).heap.size = w.heap.size + 1 := fun w o => by simp [World.alloc, -World.alloc_eq]
    have hlow : Below k.n0 k.w ((k.w.alloc (.deferred (some []))).alloc (.loop lp)) := ((Below.refl _ _).alloc g.size _).alloc (by rw [hsz]; have := g.size; omega) _
    have hsame : ∀ b, b < k.w.heap.size → ((k.w.alloc (.deferred (some []))).alloc (.loop lp)).heap[b]? = k.w.heap[b]? := fun b hb => by
      rw [Below.heap_alloc _ _ _ (by rw [hsz]; omega), Below.heap_alloc _ _ _ hb]
    have hl : ((k.w.alloc (.deferred (some []))).alloc (.loop lp)).heap[k.w.heap.size + 1]? = some (.loop lp) := by
      have := World.alloc_heap_new (k.w.alloc (.deferred (some []))) (.loop lp)
      rw [hsz] at this; exact this
    have hr : ((k.w.alloc (.deferred (some []))).alloc (.loop lp)).heap[k.w.heap.size]? = some (.deferred (some [])) := by
      rw [Below.heap_alloc _ _ _ (by rw [hsz]; omega)]; exact World.alloc_heap_new _ _
    obtain ⟨g2, e2⟩ := Good.lopborn (ro := ro) (tm := tm) g1 hun (by simp [unborns]) hlow hsame (by simp only; omega) hl rfl rfl ht1 (ps := ps.toList) rfl ha hb
    refine ⟨k.w.heap.size + 1, _, _, run_enterLoop_outer fn a.tmps ps ca cb, ?_, g2, e1.trans e2, by simp [K.set], ?_⟩
    · simp only [K.set]; exact bset_snoc k.h .unborn _
    · refine ⟨[{ target := .collected k.w.heap.size, args := #[] }], rfl, by simp, fun d hd => ?_⟩
      simp only [List.mem_singleton] at hd
      refine ⟨k.w.heap.size, hd, Nat.le_refl _, .inr ⟨g.size, ?_⟩, hr⟩
      rintro ⟨i, lv, e⟩
      by_cases hi : i = k.h.length
      · simp only [K.set, hi, if_true] at e; omega
      · simp only [K.set, hi, if_false] at e
        have := (g.at (live_snoc hi lv)).2
        omega
  | some l =>
    obtain ⟨id0, r0, p0, tm0, ps0, a0, b0, hq1, hq2⟩ := hfr l rfl
    obtain ⟨_, lp0, hq3, _⟩ := g.lop _ _ _ _ _ _ _ hq1
    rw [hq2] at hq3
    have hl := World.alloc_heap_new k.w (.loop { state := .ready, pending := none, fn, tmps := a.tmps, params := ps, assign := ca, body := cb, defers := lp0.defers })
    obtain ⟨g2, e2⟩ := Good.lopborn (ro := ro) (tm := tm) g1 hun (by simp [unborns]) ((Below.refl _ _).alloc g.size _) (fun b hb => Below.heap_alloc _ _ _ hb) (Nat.le_refl _) hl rfl rfl ht1 (ps := ps.toList) rfl ha hb
    refine ⟨k.w.heap.size, [], _, run_enterLoop_inner fn a.tmps ps ca cb hq3, ?_, g2, e1.trans e2, by simp [K.set], ?_⟩
    · simp only [K.set]; exact bset_snoc k.h .unborn _
    · exact Marks.refl _ _ _

theorem Marks.ev {ro m : Nat} {k k' : K} {n1 : Nat} {a b : List Deferred} (h : Marks k n1 a b) (e : Ev ro m k k') : Marks k' n1 a b := by
  obtain ⟨ms, rfl, hd, h⟩ := h
  refine ⟨ms, rfl, hd, fun d hd => ?_⟩
  obtain ⟨r, h1, h2, h3, h4⟩ := h d hd
  have hlt := (Array.getElem?_eq_some_iff.1 h4).1
  obtain ⟨q1, q2⟩ := e.prot r h3 hlt
  exact ⟨r, h1, h2, q1, q2.trans h4⟩

theorem ranges_ok {n : Nat} (hF : TableOk P F) (hn : AllWalk P F md n) : RangesOk P F md n := by
  intro ro f ps ca cb mc st x st' hcc h k a fr nn Q g hk ht hfr hQ
  simp only [cCode] at hcc
  split at hcc <;> (try (cases hcc; done))
  rename_i y asg body hy hca hcb
  cases hcc
  simp only [run] at h
  split at h <;> (try (cases h; done))
  rename_i v0 h1 hcall
  have hfn : ∃ i caps, y.ev st.tm = .fn i caps := by
    unfold isFn at hcall
    split at hcall
    · rename_i i caps he; exact ⟨i, caps, he⟩
    · cases hcall
  obtain ⟨i, caps, hfv⟩ := hfn
  simp only [hfv, isFn] at hcall
  split at h <;> (try (cases h; done))
  rename_i r p tm1 ps1 a1 b1 hb
  split at h <;> (try (cases h; done))
  rename_i x' hpend
  simp only [Option.some.injEq, Prod.mk.injEq] at h
  obtain ⟨rfl, rfl⟩ := h
  refine wpIn_rangeFunc fun fn _ => ?_
  obtain ⟨l, mark, k2, he, hh2, g2, e2, hβ, hmk⟩ := range_enter (ro := ro) g hfr hca hcb ht fn
  have hfx := cO_R ht hy
  rw [hfv] at hfx
  have hfx2 := R.ev e2 (R.blo hfx) hfx
  have hlop2 : bget k2.h k.h.length = some (.lop true .nrm st.tm ps.toList asg body) := by rw [hh2]; exact bget_snoc _ _
  have hyl : R k2 (.yld k.h.length) (.func (.yield l) #[] #[]) := by
    simp only [R]
    exact ⟨by rw [hβ], _, _, _, _, _, _, hlop2⟩
  have hmode : mode md (.fn i caps) [V.yld k.h.length] ≠ 0 := by
    simp only [mode, leans, V.lean, Bool.false_and, Bool.and_false, Bool.false_eq_true, if_false]
    split
    · simp
    · assumption
  rw [← hk] at hcall hb
  have hcall2 : doCall F md ro (run F md n) (.fn i caps) [.yld k.h.length] k2.h = some (v0, h1) := by rw [hh2]; exact hcall
  obtain ⟨cvs, hfx, hs, hc⟩ := fn_called hF hn g2 hfx2 (RL.cons hyl RL.nil) hcall2 hmode
  rw [hfx] at hs
  refine ⟨l, mark, k2.w, { target := .fn (.func i) ⟨cvs⟩, args := #[.func (.yield l) #[] #[]] }, k2.w, i, ⟨[.func (.yield l) #[] #[]] ++ cvs⟩, k2.w, he, ?_, fun _ _ => trivial, ?_, by simp [fen, Fence.wide], ?_⟩
  · have e : resolve a.eval (rangeCall f l) 0 = Deferred.ofValue (a.eval f) #[.func (.yield l) #[] #[]] := by simp only [resolve, rangeCall, List.map_toArray, List.map_cons, List.map_nil]; rfl
    rw [e, hfx]
    simp [Deferred.ofValue]
  · simpa [callSem, Deferred.ofValue, Sem.run_bind] using hs
  · refine CallsIn.mono (calls_fen hc) ?_
    rintro e w' ⟨yv, k3, rfl, rfl, hh3, g3, e3, _⟩
    have e13 := e2.after e3
    obtain ⟨hβ3, r3, p3, hlop3⟩ := e3.lop _ (bget_lt hlop2) _ _ _ _ _ _ hlop2
    have hlop3' := hlop3
    rw [hh3, hb] at hlop3'
    replace hlop3' := hlop3'.symm
    simp only [Option.some.injEq, B.lop.injEq] at hlop3'
    obtain ⟨rfl, rfl, rfl, rfl, rfl, rfl⟩ := hlop3'
    obtain ⟨t1, lp1, t2, t3, t4, t5, t6, t7, t8⟩ := g3.lop _ _ _ _ _ _ _ hlop3
    have hnb : lp1.state ≠ .busy := by
      revert hpend t3
      cases r3 <;> cases p3 <;> simp [pendOf, stateRel] <;> (intro h1 h2; rw [h2]; simp)
    obtain ⟨g4, e4⟩ := g3.lopset (ro := ro) (m := k.h.length) (r' := false) (p' := .nrm) hlop3 (.inr (Nat.le_refl _)) t2 (lp' := { lp1 with state := .exhausted }) rfl rfl rfl rfl trivial trivial
    have hl : (k3.β k.h.length).1 = l := by rw [hβ3, hβ]
    have hend := run_endLoop (P := P) t2 hnb
    rw [hl] at hend g4 e4
    have e14 := e13.trans e4
    have land := hQ _ { a with defers := mark ++ a.defers } g4 (by simp only [K.set, hh3, hk]) e14 (RL.ev e14 (RL.blos ht) ht) ((hmk.ev e3).ev e4)
    have land' : Q x'.out { a with defers := mark ++ a.defers } (k3.w.putObj l (.loop { lp1 with state := .exhausted })) := land
    clear land
    refine ⟨_, _, hend, ?_⟩
    generalize k3.w.putObj l (.loop { lp1 with state := .exhausted }) = W at land' ⊢
    cases r3 <;> cases p3 <;> simp only [pendOf, Option.some.injEq, reduceCtorEq] at hpend <;> subst hpend <;> simp only [pendRel] at t4 <;> rw [t4]
    · exact wpIn_exit land'
    · exact wpIn_ret land'
    · exact land'

end Go.Dr
