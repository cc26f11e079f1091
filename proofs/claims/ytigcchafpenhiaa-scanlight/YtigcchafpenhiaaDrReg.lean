/- The door: rows of a region, in any order, against the model. -/
import Derived.Test.YtigcchafpenhiaaDrOpD
import Derived.OrdersIn
import Derived.RangeFuncIn
import Derived.TacticsIn
namespace Go.Dr
open Go.RowKit (Below)

variable {P : Program} {k : K} {tm : List V} {v : V} {h' : List B} {ro base : Nat}

/-- Fences that let everything in: of a function's own frames, or of a round's. -/
def fen (r : Option Nat) : Fence := { Fence.wide with round := r }

theorem calls_fen {r : Option Nat} {n : Nat} {f : FuncId} {args : Array Value} {w : World} {Q : Ending → World → Prop} (h : Calls P f args w Q) : CallsIn (fen r) n P f args w Q := by
  have := (callsIn_wide (n := n)).2 h
  exact this

/-- A called function has come back. -/
def Back (P : Program) (ro : Nat) (k : K) (v : V) (h' : List B) (e : Ending) (w' : World) : Prop :=
  ∃ x k', e = .returned x ∧ k'.w = w' ∧ k'.h = h' ∧ Good P k' ∧ Ev ro k.h.length k k' ∧ R k' v x

/-- An operation: it is done at once, or a function is called, or a range's round. -/
inductive Done (P : Program) (ro : Nat) (k : K) (s : Sem Next) (v : V) (h' : List B) : Prop where
  | at_once (h : Did P ro k s v h')
  | called (f : FuncId) (args : Array Value) (w1 : World) (hs : s.run P k.w = .ok (.enter f args) w1) (h : Calls P f args w1 (Back P ro k v h'))
  | round (l : Nat) (f : FuncId) (tmps : Array Value) (asg body : Code) (w1 : World) (hs : s.run P k.w = .ok (.round l f tmps asg body) w1) (h : ∀ n, RoundIn Fence.wide n P l f tmps asg body w1 (Back P ro k v h'))

def callSem (f : Value) (args : Array Value) : Sem Next := do
  let d ← Deferred.ofValue f args
  invoke d.target d.args

theorem exec_call {ρ : Operand → Value} {o : Oper} {f : Operand} {args : Array Operand} {ts : Array TypeId} (ho : o.op = .call ⟨.value f, args, ts⟩) : execOp ρ o = callSem (ρ f) (args.map ρ) := by
  simp only [execOp, ho, resolve, callSem]

/-- The oracle is right. -/
def OrcOk (P : Program) (oc : Orc) (ro : Nat) : Prop :=
  ∀ (k : K) (fv : V) (as : List V) (fx : Value) (xs : List Value) (v : V) (h' : List B), Good P k → R k fv fx → RL k as xs → oc fv as k.h = some (v, h') → Done P ro k (callSem fx ⟨xs⟩) v h'

def dput (d : Option Nat) (tm : List V) (v : V) : List V :=
  match d with
  | some d => tset tm d v
  | none => tm

theorem put_R {a : Act} {d : Option Tmp} {x : Value} (ht : RL k tm a.tmps.toList) (hx : R k v x) : RL k (dput d tm v) (a.put d x).tmps.toList := by
  cases d with
  | none => exact ht
  | some d =>
    simp only [dput, Act.put, Array.toList_setIfInBounds]
    exact RL.set hx d ht
theorem put_defers (a : Act) (d : Option Tmp) (x : Value) : (a.put d x).defers = a.defers := by cases d <;> rfl

/-- An operation that is done, in a region. -/
theorem done_wp {r : Option Nat} {n : Nat} {o : Oper} {a : Act} {next : Act → World → Prop} {Q : Exit → Act → World → Prop} (hnd : ∀ c, o.op ≠ .defer c)
    (h : Done P ro k (execOp a.eval o) v h') (g : Good P k) (ht : RL k tm a.tmps.toList)
    (hnext : ∀ k' a', Good P k' → k'.h = h' → Ev ro k.h.length k k' → RL k' (dput o.dst tm v) a'.tmps.toList → a'.defers = a.defers → next a' k'.w) :
    o.wpIn (fen r) n P a k.w next Q := by
  refine ⟨fun _ _ => trivial, ?_⟩
  have hsem : Oper.semAt (fen r).round a.eval o = execOp a.eval o := by
    cases r with
    | none => exact Oper.semAt_none _ _
    | some l => exact Oper.semAt_some l _ _ hnd
  rw [hsem]
  have after : ∀ x k', Good P k' → k'.h = h' → Ev ro k.h.length k k' → R k' v x → next (a.put o.dst x) k'.w := fun x k' g' hh e hx =>
    hnext k' _ g' hh e (put_R (RL.ev e (RL.blos ht) ht) hx) (put_defers _ _ _)
  cases h with
  | at_once h =>
    obtain ⟨x, k', hr, hh, g', e, hx⟩ := h
    rcases hr with hr | ⟨hr, rfl⟩
    · rw [hr]; exact after x k' g' hh e hx
    · rw [hr]; exact after _ k' g' hh e hx
  | called f args w1 hs h =>
    rw [hs]
    refine ⟨fun hd => by simp [fen, Fence.wide] at hd, CallsIn.mono (calls_fen h) ?_⟩
    rintro e w' ⟨x, k', rfl, rfl, hh, g', e, hx⟩
    exact after x k' g' hh e hx
  | round l f tmps asg body w1 hs h =>
    rw [hs]
    refine ⟨fun hd => by simp [fen, Fence.wide] at hd, RoundIn.mono (h (n - 1)) ?_⟩
    rintro e w' ⟨x, k', rfl, rfl, hh, g', e, hx⟩
    exact after x k' g' hh e hx

/-- How a row stands to its operation. -/
def RowOk (P : Program) (ops : Array Oper) (o : Oper) (r : G) : Prop :=
  ∃ j, cOp P j o.op = some r.o ∧ r.d = o.dst ∧
    match o.guard with
    | none => r.g = none
    | some (i, want) => ∃ oi s, ops[i]? = some oi ∧ oi.dst = some s ∧ r.g = some (s, want)

theorem cOp_defer {j : Nat} {op : Op} {m : M} (h : cOp P j op = some m) : ∀ c, op ≠ .defer c := by
  rintro c rfl; simp [cOp] at h

theorem cOp_call {j : Nat} {op : Op} {f : O} {as : List O} (h : cOp P j op = some (.call f as)) : ∃ x args ts, op = .call ⟨.value x, args, ts⟩ ∧ cO x = some f ∧ cOs args.toList = some as := by
  unfold cOp at h
  repeat' split at h
  all_goals first
    | (cases h; done)
    | (obtain ⟨_, _, e⟩ := map_some h; cases e; done)
    | skip
  · rename_i x' f' as' hx has
    cases h
    exact ⟨_, _, _, rfl, hx, has⟩
  · unfold cBuiltin at h
    split at h <;> (try (cases h; done))
    · unfold cLen at h; repeat' split at h
      all_goals cases h
    · unfold cApp at h; repeat' split at h
      all_goals cases h
    · unfold cCpy at h; repeat' split at h
      all_goals first | (cases h; done) | (obtain ⟨_, _, e⟩ := map_some h; cases e)

/-- A row's step. -/
theorem evG_wp {oc : Orc} {ops : Array Oper} {o : Oper} {r : G} {fr : Option Nat} {n : Nat} {a : Act} {next : Act → World → Prop} {Q : Exit → Act → World → Prop} {tm' : List V} (hoc : OrcOk P oc ro) (hr : RowOk P ops o r)
    (g : Good P k) (ht : RL k tm a.tmps.toList) (he : evG oc ro base tm k.h r = some (tm', h'))
    (hnext : ∀ k' a', Good P k' → k'.h = h' → Ev ro k.h.length k k' → RL k' tm' a'.tmps.toList → a'.defers = a.defers → next a' k'.w) :
    if Region.wanted o (yielded ops a.tmps) then o.wpIn (fen fr) n P a k.w next Q
    else (∀ f, o.about P k.w a.eval = some f → (fen fr).fn f) ∧ next (a.put o.dst undef) k.w := by
  obtain ⟨j, hc, hd, hg⟩ := hr
  -- the row is taken
  have taken : ∀ (hgo : (match (match r.o with
      | .call f args => oc (f.ev tm) (evs tm args) k.h
      | o => match plan base tm o with
        | none => none
        | some p => p.go ro k.h) with
    | none => none
    | some (v, h') => some (match r.d with | some d => tset tm d v | none => tm, h')) = some (tm', h')), o.wpIn (fen fr) n P a k.w next Q := by
    intro hgo
    split at hgo <;> (try (cases hgo; done))
    rename_i v h1 hres
    simp only [Option.some.injEq, Prod.mk.injEq] at hgo
    obtain ⟨hgo, rfl⟩ := hgo
    have hput : dput o.dst tm v = tm' := by rw [← hd, ← hgo]; rfl
    refine done_wp (v := v) (h' := h1) (ro := ro) (cOp_defer hc) ?_ g ht (fun k' a' g' hh e hl hdf => hnext k' a' g' hh e (by rw [← hput]; exact hl) hdf)
    split at hres
    · rename_i f args hm
      rw [hm] at hc
      obtain ⟨x, as, ts, ho, hf, has⟩ := cOp_call hc
      rw [exec_call ho]
      have := hoc k _ _ (a.eval x) (as.toList.map a.eval) v h1 g (cO_R ht hf) (cOs_R ht has) hres
      have e2 : (⟨as.toList.map a.eval⟩ : Array Value) = as.map a.eval := by apply Array.ext'; simp
      rwa [e2] at this
    · split at hres <;> (try (cases hres; done))
      rename_i p hp
      exact .at_once (op_did g (Ops.of ht) hc hp hres)
  have skipped : ∀ tm1, (some (match r.d with | some d => tset tm d (.tup []) | none => tm, k.h) : Option (List V × List B)) = some (tm1, h') → tm1 = tm' → next (a.put o.dst undef) k.w := by
    rintro tm1 e rfl
    simp only [Option.some.injEq, Prod.mk.injEq] at e
    obtain ⟨e1, rfl⟩ := e
    refine hnext k _ g rfl (Ev.refl _ _ _) ?_ (put_defers _ _ _)
    have := put_R (d := o.dst) (x := undef) (v := .tup []) ht (by simp only [R, undef]; exact ⟨[], rfl, RL.nil⟩)
    rw [← e1, hd]; exact this
  cases hgd : o.guard with
  | none =>
    simp only [hgd] at hg
    simp only [evG, hg] at he
    simp only [Region.wanted, hgd, if_true]
    exact taken he
  | some p =>
    obtain ⟨i, want⟩ := p
    simp only [hgd] at hg
    obtain ⟨oi, s, ho, hs, hg⟩ := hg
    simp only [evG, hg] at he
    have hsl := RL.get s ht
    have hy : yielded ops a.tmps i = match a.tmps[s]? with | some (.bool b) => some b | _ => none := by
      simp only [yielded, ho, Option.bind_some, hs]; rfl
    have hle := RL.len ht
    split at he
    · rename_i b hb
      rw [hb] at hsl; simp only [R] at hsl
      have hget : a.tmps[s]? = some (.bool b) := by
        rw [← Array.getElem?_toList]
        rw [List.getD_eq_getElem?_getD] at hsl
        cases h0 : a.tmps.toList[s]? with
        | none => rw [h0] at hsl; simp [undef] at hsl
        | some y => rw [h0] at hsl; simp at hsl; rw [hsl]
      rw [hget] at hy; simp only at hy
      by_cases hbw : b = want
      · subst hbw
        simp only [if_true] at he
        have hw : Region.wanted o (yielded ops a.tmps) = true := by simp [Region.wanted, hgd, hy]
        rw [if_pos hw]
        exact taken he
      · simp only [hbw, if_false] at he
        have hw : ¬ Region.wanted o (yielded ops a.tmps) = true := by simp [Region.wanted, hgd, hy, hbw]
        rw [if_neg hw]
        exact ⟨fun _ _ => trivial, skipped _ he rfl⟩
    · rename_i hb
      rw [hb] at hsl; simp only [R, RL] at hsl
      obtain ⟨vs, hsl, rfl⟩ := hsl
      have hw : ¬ Region.wanted o (yielded ops a.tmps) = true := by
        have hn : yielded ops a.tmps i = none := by
          rw [hy]
          rw [← Array.getElem?_toList]
          rw [List.getD_eq_getElem?_getD] at hsl
          cases h0 : a.tmps.toList[s]? with
          | none => rfl
          | some y => rw [h0] at hsl; simp at hsl; rw [hsl]
        simp [Region.wanted, hgd, hn]
      rw [if_neg hw]
      exact ⟨fun _ _ => trivial, skipped _ he rfl⟩
    · cases he

end Go.Dr
