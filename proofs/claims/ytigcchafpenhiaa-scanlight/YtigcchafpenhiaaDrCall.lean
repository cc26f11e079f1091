/- The door: calls of functions. -/
import Derived.Test.YtigcchafpenhiaaDrGone
namespace Go.Dr
open Go.RowKit (Below)

variable {P : Program} {md : Nat → Nat} {F : Nat → Option Fc}

/-- One result. -/
def res1 (st : St) : RV → Option V
  | .tmp t => some (tg st.tm t)
  | .cell a agg n => match tg st.tm a with
    | .ref id g off => match bget st.h id with
      | some (.blk c _) => if c.length = g then loadFrom agg n off c else none
      | _ => none
    | _ => none

theorem results_cons {st : St} {r : RV} {l : List RV} {vs : List V} (h : Dr.results st (r :: l) = some vs) : ∃ v r', vs = v :: r' ∧ res1 st r = some v ∧ Dr.results st l = some r' := by
  have e : Dr.results st (r :: l) = (match res1 st r, Dr.results st l with | some v, some r => some (v :: r) | _, _ => none) := by
    cases r <;> rfl
  rw [e] at h
  split at h <;> (try (cases h; done))
  rename_i v r' h1 h2
  cases h
  exact ⟨v, r', rfl, h1, h2⟩

def oneRes (tmps : Array Value) : ResultVar → Sem Value
  | .tmp t => pure (tmps.getD t undef)
  | .cell a t => do loadVar t (← asAddr (tmps.getD a undef))

theorem results_run {k : K} (g : Good P k) {st : St} {tmps : Array Value} (hk : k.h = st.h) (ht : RL k st.tm tmps.toList) : ∀ {l : List ResultVar} {rvs : List RV} {vs : List V}, cRes P l = some rvs → Dr.results st rvs = some vs →
    ∃ ys, (l.mapM (oneRes tmps)).run P k.w = .ok ys k.w ∧ RL k vs ys
  | [], rvs, vs, h, hr => by
    simp only [cRes, Option.some.injEq] at h; subst h
    simp only [Dr.results, Option.some.injEq] at hr; subst hr
    exact ⟨[], by simp, RL.nil⟩
  | .tmp t :: l, rvs, vs, h, hr => by
    simp only [cRes] at h
    obtain ⟨r', h1, rfl⟩ := map_some h
    obtain ⟨v, q, rfl, hv, hq⟩ := results_cons hr
    obtain ⟨ys, h2, h3⟩ := results_run g hk ht h1 hq
    simp only [res1, Option.some.injEq] at hv; subst hv
    refine ⟨tmps.getD t undef :: ys, ?_, RL.cons ?_ h3⟩
    · simp only [List.mapM_cons, oneRes, Sem.run_bind, Sem.run_pure, Result.andThen_ok, h2]
    · have := RL.get t ht
      simpa [Array.getD_eq_getD_getElem?, List.getD_eq_getElem?_getD] using this
  | .cell a t :: l, rvs, vs, h, hr => by
    simp only [cRes] at h
    split at h <;> (try (cases h; done))
    rename_i ga n r' hga hn h1
    split at h <;> (try (cases h; done))
    rename_i hgn
    cases h
    obtain ⟨v, q, rfl, hv, hq⟩ := results_cons hr
    obtain ⟨ys, h2, h3⟩ := results_run g hk ht h1 hq
    simp only [res1] at hv
    split at hv <;> (try (cases hv; done))
    rename_i id gg off ex
    split at hv <;> (try (cases hv; done))
    rename_i c dat hb
    split at hv <;> (try (cases hv; done))
    rename_i hgl
    have hA := RL.get a ht
    rw [ex] at hA
    simp only [R] at hA
    obtain ⟨b, o', c0, dat0, hx, hbk, hgc, hpos⟩ := hA
    rw [← hk, hbk] at hb; cases hb
    obtain ⟨p1, p2⟩ := hpos hgl.symm
    unfold loadFrom at hv
    split at hv <;> (try (cases hv; done))
    rename_i cs hcs
    obtain ⟨zs, hz1, hz2, hz3⟩ := own_cells g hbk hcs p2
    have hx' : tmps.getD a undef = .pointer (some ⟨b, o', none⟩) := by
      rw [← hx]; simp [Array.getD_eq_getD_getElem?, List.getD_eq_getElem?_getD]
    have hcl : cs.length = n := (part_some hcs).2
    have hgn' : ga = true ∨ n = 1 := by simpa using hgn
    subst p1
    have hz : (ga = true ∧ v = .agg cs) ∨ (ga = false ∧ cs = [v]) := by
      cases ga with
      | true => simp only [if_true, Option.some.injEq] at hv; exact .inl ⟨rfl, hv.symm⟩
      | false =>
        simp only [Bool.false_eq_true, if_false] at hv
        split at hv <;> (try (cases hv; done))
        cases hv
        exact .inr ⟨rfl, rfl⟩
    obtain ⟨y, hy, hyR⟩ := loadVar_run (P := P) hga hn hgn' hz1 hz2 hcl hz
    refine ⟨y :: ys, ?_, RL.cons hyR h3⟩
    simp only [List.mapM_cons, oneRes, Sem.run_bind, hx', asAddr, Sem.run_pure, Result.andThen_ok, hy, h2]

theorem result_run {k : K} (g : Good P k) {st : St} {fn : Func} {tmps : Array Value} {rvs : List RV} {v : V} (hk : k.h = st.h) (ht : RL k st.tm tmps.toList) (hc : cRes P fn.results.toList = some rvs) (hr : result st rvs = some v) :
    ∃ y, (Go.results fn tmps).run P k.w = .ok y k.w ∧ R k v y := by
  unfold result at hr
  have base : ∀ vs, Dr.results st rvs = some vs → ∃ ys, RL k vs ys ∧ (Go.results fn tmps).run P k.w = .ok (if h : (⟨ys⟩ : Array Value).size = 1 then (⟨ys⟩ : Array Value)[0] else .tuple ⟨ys⟩) k.w := by
    intro vs hvs
    obtain ⟨ys, h1, h2⟩ := results_run g hk ht hc hvs
    refine ⟨ys, h2, ?_⟩
    have hf : (fun x : ResultVar => match x with
        | .tmp t => (pure (tmps.getD t undef) : Sem Value)
        | .cell a t => do loadVar t (← asAddr (tmps.getD a undef))) = oneRes tmps := by
      funext x; cases x <;> rfl
    have e : Go.results fn tmps = (do let vs ← fn.results.mapM (oneRes tmps); pure (if h : vs.size = 1 then vs[0] else .tuple vs)) := by
      rw [← hf]; rfl
    have e2 : fn.results.mapM (oneRes tmps) = (do pure (← fn.results.toList.mapM (oneRes tmps)).toArray) := by
      rw [Array.mapM_eq_mapM_toList]; rfl
    rw [e, e2]
    simp only [Sem.run_bind, h1, Result.andThen_ok, Sem.run_pure]
  split at hr <;> (try (cases hr; done))
  · rename_i v0 hvs
    cases hr
    obtain ⟨ys, h2, h3⟩ := base _ hvs
    obtain ⟨y, r, rfl, hy, hr'⟩ := (by simpa [RL] using h2 : ∃ x r, ys = x :: r ∧ R k v x ∧ r = [])
    subst hr'
    exact ⟨y, by simpa using h3, hy⟩
  · rename_i vs hne hvs
    cases hr
    obtain ⟨ys, h2, h3⟩ := base _ hvs
    have hl := RL.len h2
    have hn1 : ys.length ≠ 1 := by
      intro h1
      rw [hl] at h1
      match vs, h1 with
      | [v], _ => exact hne v rfl
    rw [dif_neg (by simpa using hn1)] at h3
    exact ⟨.tuple ⟨ys⟩, h3, by simp only [R]; exact ⟨ys, rfl, h2⟩⟩

/-- A frame leaves: its marks' blocks are shut. -/
theorem leaves {fn : Func} {rvs : List RV} {v : V} {st : St} {tmps : Array Value} {ro : Nat} {k : K} {Q : Ending → World → Prop} (g0 : Good P k) (hc : cRes P fn.results.toList = some rvs) (hr : result st rvs = some v)
    (hQ : ∀ y k', k'.h = st.h → Good P k' → Ev ro k.h.length k k' → R k' v y → Q (.returned y) k'.w) :
    ∀ (ms : List Deferred) (k1 : K), Good P k1 → k1.h = st.h → Ev ro k.h.length k k1 → RL k1 st.tm tmps.toList → (∀ d ∈ ms, ∃ r, d = { target := .collected r, args := #[] } ∧ k.w.heap.size ≤ r ∧ k1.ok r ∧ k1.w.heap[r]? = some (.deferred (some []))) → ms.Nodup →
      LeavesInM Fence.wide 0 P fn tmps Q ms .returning k1.w
  | [], k1, g, hh, e, hl, _, _ => by
    obtain ⟨y, h1, h2⟩ := result_run g hh hl hc hr
    exact ⟨y, h1, hQ y k1 hh g e h2⟩
  | d :: ms, k1, g, hh, e, hl, hm, hnd => by
    obtain ⟨r, rfl, h1, h2, h3⟩ := hm d (by simp)
    have hlt := (Array.getElem?_eq_some_iff.1 h3).1
    have o : Off k1.w (k1.w.putObj r (.deferred none)) r := ⟨by simp, fun b hb => World.putObj_heap_other hb, rfl, rfl, rfl, fun _ _ _ => by rw [h3]; simp⟩
    refine ⟨by simp, .inl ⟨r, _, rfl, run_takeDeferred h3, ?_⟩⟩
    rw [List.nodup_cons] at hnd
    exact leaves g0 hc hr hQ ms { k1 with w := k1.w.putObj r (.deferred none) } (g.off o h2) hh (e.off g0 o h1) (RL.off o hl) (fun d hd => by
      obtain ⟨r', q1, q2, q3, q4⟩ := hm d (by simp [hd])
      refine ⟨r', q1, q2, q3, ?_⟩
      have hne : r' ≠ r := by rintro rfl; exact hnd.1 (q1 ▸ hd)
      exact (o.same r' hne).trans q4) hnd.2

/-- The table is the program's. -/
def TableOk (P : Program) (F : Nat → Option Fc) : Prop := ∀ f fc, F f = some fc → ∃ fn, P.funcs[f]? = some fn ∧ cFunc P fn = some fc ∧ fn.name ≠ "runtime.NumGoroutine"

theorem cFunc_spec {fn : Func} {fc : Fc} (h : cFunc P fn = some fc) : ∃ c, fn.body = some c ∧ cCode P c = some fc.body ∧ cRes P fn.results.toList = some fc.res ∧ fc.ntm = fn.ntmps ∧ fc.np = fn.params.size + fn.nfree := by
  unfold cFunc at h
  split at h <;> (try (cases h; done))
  rename_i c hb
  split at h <;> (try (cases h; done))
  rename_i c' r h1 h2
  cases h
  exact ⟨c, hb, h1, h2, rfl, rfl⟩

theorem deads_R {k : K} (n : Nat) : RL k (deads n) (List.replicate n undef) := by
  induction n with
  | zero => simp [deads, RL]
  | succ n ih => simp only [deads, List.replicate_succ]; exact RL.cons (by simp [R]) ih

/-- A function, run over the blocks that are there. -/
theorem call_wp {n : Nat} (hn : AllWalk P F md n) {ro f : Nat} {fn : Func} {fc : Fc} (hf : P.funcs[f]? = some fn) (hfc : cFunc P fn = some fc) {k : K} {as : List V} {xs : List Value} {x : X} {st' : St} {v : V} (g : Good P k) (ha : RL k as xs) (hnp : as.length = fc.np)
    (hrun : run F md n ro fc.body ⟨as ++ deads (fc.ntm - fc.np), k.h⟩ = some (x, st')) (hx : x = .nrm ∨ x = .ret) (hr : result st' fc.res = some v) {Q : Ending → World → Prop}
    (hQ : ∀ y k', k'.h = st'.h → Good P k' → Ev ro k.h.length k k' → R k' v y → Q (.returned y) k'.w) : Calls P f ⟨xs⟩ k.w Q := by
  obtain ⟨c, hb, hcc, hres, hntm, _⟩ := cFunc_spec hfc
  rw [← callsIn_wide (n := 0)]
  refine callsIn_of_wp_marks hf hb trivial ?_
  have hxs : xs.length = fc.np := by rw [RL.len ha, hnp]
  have ht : RL k (as ++ deads (fc.ntm - fc.np)) ((⟨xs⟩ : Array Value) ++ Array.replicate (fn.ntmps - (⟨xs⟩ : Array Value).size) undef).toList := by
    simp only [Array.toList_append, Array.toList_replicate, List.size_toArray, hxs, ← hntm]
    exact RL.append ha (deads_R _)
  refine hn _ _ _ _ _ hrun c k { tmps := (⟨xs⟩ : Array Value) ++ Array.replicate (fn.ntmps - (⟨xs⟩ : Array Value).size) undef, defers := [] } none 0 _ hcc g rfl ht (FrOk.none k) ?_
  intro k' a' g' hh e hl hm
  obtain ⟨ms, hms, hnd, hmm⟩ := hm
  simp only [List.append_nil] at hms
  have := leaves (P := P) (fn := fn) (Q := Q) g hres hr hQ ms k' g' hh e hl hmm hnd
  rcases hx with rfl | rfl
  · show LeavesInM _ _ _ _ _ _ _ _ _; rw [hms]; exact this
  · show LeavesInM _ _ _ _ _ _ _ _ _; rw [hms]; exact this

theorem call_enter {f : Nat} {fn : Func} (hf : P.funcs[f]? = some fn) (hb : fn.body.isSome = true) (hnm : fn.name ≠ "runtime.NumGoroutine") (caps xs : List Value) (w : World) :
    (callSem (.func (.func f) #[] ⟨caps⟩) ⟨xs⟩).run P w = .ok (.enter f ⟨xs ++ caps⟩) w := by
  obtain ⟨c, hc⟩ := Option.isSome_iff_exists.1 hb
  simp [callSem, Deferred.ofValue, invoke, callFunc, Sem.run_bind, hf, hc, hnm]

end Go.Dr
