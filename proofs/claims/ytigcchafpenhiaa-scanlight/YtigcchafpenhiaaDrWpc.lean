/- The door: code runs as its condition says; calls. -/
import Derived.Test.YtigcchafpenhiaaDrWps
namespace Go.Dr

variable {F : Nat → Option Fc} {md : Nat → Nat} {ro base : Nat}

def resM (oc : Orc) (ro base : Nat) (tm : List V) (h : List B) (o : M) : Option (V × List B) :=
  match o with
  | .call f args => oc (f.ev tm) (evs tm args) h
  | o => match plan base tm o with
    | none => none
    | some p => p.go ro h
def fpG (md : Nat → Nat) (base : Nat) (tm : List V) (o : M) : Fp :=
  match o with
  | .call f args => match mode md (f.ev tm) (evs tm args) with
    | 0 => if blos 0 (f.ev tm :: evs tm args) then .no else .vws
    | 2 => .rds
    | _ => .all
  | o => match newOf base o with
    | some i => .new i
    | none => match plan base tm o with
      | none => .all
      | some p => match p.rs, p.w with
        | [], none => .no
        | rs, w => .some rs w

theorem wop_res {tm : List V} {h : List B} {o : M} {K : V → List B → Prop} (hw : wop F md ro base tm h o K) :
    ∃ n v h', (∀ m, n ≤ m → resM (doCall F md ro (run F md m)) ro base tm h o = some (v, h')) ∧ K v h' ∧ fpG md base tm o = fpS md base tm o := by
  by_cases hc : ∃ f as, o = .call f as
  · obtain ⟨f, as, rfl⟩ := hc
    simp only [wop] at hw
    obtain ⟨v, h', ⟨n, hn⟩, hk⟩ := fEvs_eq.1 (fW_eq.1 hw)
    exact ⟨n, v, h', hn, hk, rfl⟩
  · have hc' : ∀ f as, o ≠ .call f as := fun f as e => hc ⟨f, as, e⟩
    obtain ⟨p, v, h', h1, h2, h3, h4⟩ := wop_ok o hc' hw
    have e1 : ∀ oc, resM oc ro base tm h o = some (v, h') := by
      intro oc
      have : resM oc ro base tm h o = (match plan base tm o with | none => none | some p => p.go ro h) := by
        cases o <;> first | rfl | exact absurd rfl (hc' _ _)
      rw [this, h1]; exact h2
    have e2 : fpG md base tm o = (match newOf base o with
        | some i => .new i
        | none => fpM base tm o) := by
      have : fpG md base tm o = (match newOf base o with
        | some i => .new i
        | none => match plan base tm o with
          | none => .all
          | some p => match p.rs, p.w with
            | [], none => .no
            | rs, w => .some rs w) := by
        cases o <;> first | rfl | exact absurd rfl (hc' _ _)
      rw [this, h1]
      split
      · rfl
      · exact h4
    have e3 : fpS md base tm o = (match newOf base o with
        | some i => .new i
        | none => fpM base tm o) := by
      cases o <;> first | rfl | exact absurd rfl (hc' _ _)
    exact ⟨0, v, h', fun _ _ => e1 _, h3, by rw [e2, e3]⟩

def putD (d : Option Nat) (tm : List V) (v : V) : List V :=
  match d with
  | some d => tset tm d v
  | none => tm
theorem wPut_ok {d : Option Nat} {tm : List V} {v : V} {K : List V → Prop} (hw : wPut d tm v K) : K (putD d tm v) := by
  cases d with
  | none => exact hw
  | some d =>
    simp only [wPut] at hw
    exact fV_eq.1 (fW_eq.1 hw)

theorem wG_ok {tm : List V} {h : List B} {r : G} {K : List V → List B → Fp → Prop} (hw : wG F md ro base tm h r.d r.g r.o K) :
    ∃ n tm' h', (∀ m, n ≤ m → evG (doCall F md ro (run F md m)) ro base tm h r = some (tm', h')) ∧ K tm' h' (fpOf md base tm r) := by
  have taken : wop F md ro base tm h r.o (fun v h' => wPut r.d tm v fun tm' => K tm' h' (fpS md base tm r.o)) → ∃ n tm' h',
      (∀ m, n ≤ m → (match resM (doCall F md ro (run F md m)) ro base tm h r.o with
        | none => none
        | some (v, h') => some (putD r.d tm v, h')) = some (tm', h')) ∧ K tm' h' (fpG md base tm r.o) := by
    intro hw
    obtain ⟨n, v, h', h1, h2, h3⟩ := wop_res hw
    exact ⟨n, _, h', fun m hm => by rw [h1 m hm], by rw [h3]; exact wPut_ok h2⟩
  have skipped : (wPut r.d tm (.tup []) fun tm' => K tm' h .no) → ∃ n tm' h', (∀ m : Nat, n ≤ m → some (putD r.d tm (.tup []), h) = some (tm', h')) ∧ K tm' h' .no :=
    fun hw => ⟨0, _, h, fun _ _ => rfl, wPut_ok hw⟩
  unfold wG at hw
  cases hg : r.g with
  | none =>
    rw [hg] at hw
    obtain ⟨n, tm', h', h1, h2⟩ := taken hw
    refine ⟨n, tm', h', fun m hm => ?_, ?_⟩
    · have := h1 m hm
      simp only [evG, hg]; exact this
    · simp only [fpOf, hg]; exact h2
  | some q =>
    obtain ⟨s, want⟩ := q
    rw [hg] at hw
    simp only at hw
    split at hw
    · rename_i b hb
      have hyes : b = want → ∃ n tm' h', (∀ m, n ≤ m → evG (doCall F md ro (run F md m)) ro base tm h r = some (tm', h')) ∧ K tm' h' (fpOf md base tm r) := by
        intro e
        have hw' : wop F md ro base tm h r.o (fun v h' => wPut r.d tm v fun tm' => K tm' h' (fpS md base tm r.o)) := by
          subst e
          cases b with
          | true => exact hw.1 rfl
          | false => exact hw.2 rfl
        obtain ⟨n, tm', h', h1, h2⟩ := taken hw'
        refine ⟨n, tm', h', fun m hm => ?_, ?_⟩
        · have := h1 m hm
          simp only [evG, hg, hb, e, if_true]; exact this
        · simp only [fpOf, hg, hb, e, if_true]; exact h2
      have hno : b ≠ want → ∃ n tm' h', (∀ m, n ≤ m → evG (doCall F md ro (run F md m)) ro base tm h r = some (tm', h')) ∧ K tm' h' (fpOf md base tm r) := by
        intro e
        have hw' : (wPut r.d tm (.tup []) fun tm' => K tm' h .no) := by
          cases want with
          | true => exact hw.2 (by cases b <;> simp_all)
          | false => exact hw.1 (by cases b <;> simp_all)
        obtain ⟨n, tm', h', h1, h2⟩ := skipped hw'
        refine ⟨n, tm', h', fun m hm => ?_, ?_⟩
        · have := h1 m hm
          simp only [evG, hg, hb, e, if_false]; exact this
        · simp only [fpOf, hg, hb, e, if_false]; exact h2
      by_cases e : b = want
      · exact hyes e
      · exact hno e
    · rename_i hb
      obtain ⟨n, tm', h', h1, h2⟩ := skipped hw
      refine ⟨n, tm', h', fun m hm => ?_, ?_⟩
      · have := h1 m hm
        simp only [evG, hg, hb]; exact this
      · simp only [fpOf, hg, hb]; exact h2
    · exact hw.elim

theorem wOps_ok : ∀ {l : List G} {tm : List V} {h : List B} {K : List V → List B → Prop}, wOps F md ro base l tm h K →
    ∃ n tm' h', (∀ m, n ≤ m → evOps (doCall F md ro (run F md m)) ro base l tm h = some (tm', h')) ∧ K tm' h'
  | [], tm, h, K, hw => ⟨0, tm, h, fun _ _ => rfl, hw⟩
  | r :: l, tm, h, K, hw => by
    obtain ⟨n1, tm1, h1, e1, k1⟩ := wG_ok hw
    obtain ⟨n2, tm2, h2, e2, k2⟩ := wOps_ok k1
    exact ⟨max n1 n2, tm2, h2, fun m hm => by simp only [evOps, e1 m (by omega)]; exact e2 m (by omega), k2⟩

theorem wDraw_ok : ∀ {l : List G} {i : Nat} {seen : List (Nat × Fp)} {tm : List V} {h : List B} {K : List V → List B → Prop}, wDraw F md ro base i seen l tm h K →
    ∃ n tm' h', (∀ m, n ≤ m → evDraw md (doCall F md ro (run F md m)) ro base i seen l tm h = some (tm', h')) ∧ K tm' h'
  | [], i, seen, tm, h, K, hw => ⟨0, tm, h, fun _ _ => rfl, hw⟩
  | r :: l, i, seen, tm, h, K, hw => by
    obtain ⟨n1, tm1, h1, e1, k1⟩ := wG_ok hw
    split at k1
    · rename_i hfree
      obtain ⟨n2, tm2, h2, e2, k2⟩ := wDraw_ok k1
      exact ⟨max n1 n2, tm2, h2, fun m hm => by simp only [evDraw, hfree, if_true, e1 m (by omega)]; exact e2 m (by omega), k2⟩
    · exact k1.elim

/-- Code runs, and ends so. -/
def Ends' (F : Nat → Option Fc) (md : Nat → Nat) (ro : Nat) (c : MC) (st : St) (Q : X → St → Prop) : Prop :=
  ∃ n x st', (∀ m, n ≤ m → run F md m ro c st = some (x, st')) ∧ Q x st'

theorem lp_ok {c : MC} {mk : List Bool} {hl : Nat} {Q : X → St → Prop} {α : Type} {P : α → Prop} {I : α → St} {μ : α → Nat}
    (hs : ∀ a, P a → Ends' F md ro c (I a) (fun x s => match x with
      | .nrm => NextP P I μ a (norm mk hl s)
      | x => Q x s)) : ∀ (k : Nat) (a : α), P a → μ a < k → Ends' F md ro (.lp mk hl c) (I a) Q
  | 0, _, _, h => absurd h (by omega)
  | k + 1, a, pa, h => by
    obtain ⟨n, x, s, h1, h2⟩ := hs a pa
    cases x with
    | nrm =>
      obtain ⟨a', pa', h3, h4⟩ := h2
      obtain ⟨n2, x2, s2, h5, h6⟩ := lp_ok hs k a' pa' (by omega)
      refine ⟨max n n2 + 1, x2, s2, fun m hm => ?_, h6⟩
      cases m with
      | zero => omega
      | succ m => simp only [run, h1 m (by omega), h4]; exact h5 m (by omega)
    | exit i =>
      refine ⟨n + 1, _, s, fun m hm => ?_, h2⟩
      cases m with
      | zero => omega
      | succ m => simp only [run, h1 m (by omega)]
    | ret =>
      refine ⟨n + 1, _, s, fun m hm => ?_, h2⟩
      cases m with
      | zero => omega
      | succ m => simp only [run, h1 m (by omega)]

theorem wp_ok : ∀ {c : MC} {st : St} {Q : X → St → Prop}, wp F md ro c st Q → Ends' F md ro c st Q := by
  intro c
  induction c with
  | skip => intro st Q hw; exact ⟨1, .nrm, st, fun m hm => by cases m with | zero => omega | succ m => rfl, hw⟩
  | exit id => intro st Q hw; exact ⟨1, .exit id, st, fun m hm => by cases m with | zero => omega | succ m => rfl, hw⟩
  | ret => intro st Q hw; exact ⟨1, .ret, st, fun m hm => by cases m with | zero => omega | succ m => rfl, hw⟩
  | lp m hl c ih => intro st Q hw; exact hw.elim
  | seq a b iha ihb =>
    intro st Q hw
    obtain ⟨n, x, s, h1, h2⟩ := iha hw
    cases x with
    | nrm =>
      obtain ⟨n2, x2, s2, h3, h4⟩ := ihb h2
      refine ⟨max n n2 + 1, x2, s2, fun m hm => ?_, h4⟩
      cases m with
      | zero => omega
      | succ m => simp only [run, h1 m (by omega)]; exact h3 m (by omega)
    | exit i =>
      refine ⟨n + 1, _, s, fun m hm => ?_, h2⟩
      cases m with
      | zero => omega
      | succ m => simp only [run, h1 m (by omega)]
    | ret =>
      refine ⟨n + 1, _, s, fun m hm => ?_, h2⟩
      cases m with
      | zero => omega
      | succ m => simp only [run, h1 m (by omega)]
  | cond x a b iha ihb =>
    intro st Q hw
    simp only [wp] at hw
    split at hw
    · rename_i t ht
      obtain ⟨h1, h2⟩ := hw
      cases t with
      | true =>
        obtain ⟨n, x, s, h3, h4⟩ := iha (h1 rfl)
        refine ⟨n + 1, x, s, fun m hm => ?_, h4⟩
        cases m with
        | zero => omega
        | succ m => simp only [run, ht, if_true]; exact h3 m (by omega)
      | false =>
        obtain ⟨n, x, s, h3, h4⟩ := ihb (h2 rfl)
        refine ⟨n + 1, x, s, fun m hm => ?_, h4⟩
        cases m with
        | zero => omega
        | succ m => simp only [run, ht, Bool.false_eq_true, if_false]; exact h3 m (by omega)
    · exact hw.elim
  | block id c ih =>
    intro st Q hw
    obtain ⟨n, x, s, h1, h2⟩ := ih hw
    cases x with
    | nrm =>
      refine ⟨n + 1, _, s, fun m hm => ?_, h2⟩
      cases m with
      | zero => omega
      | succ m => simp only [run, h1 m (by omega)]
    | ret =>
      refine ⟨n + 1, _, s, fun m hm => ?_, h2⟩
      cases m with
      | zero => omega
      | succ m => simp only [run, h1 m (by omega)]
    | exit i =>
      by_cases hi : i = id
      · simp only [hi, if_true] at h2
        refine ⟨n + 1, _, s, fun m hm => ?_, h2⟩
        cases m with
        | zero => omega
        | succ m => simp only [run, h1 m (by omega), hi, if_true]
      · simp only [hi, if_false] at h2
        refine ⟨n + 1, _, s, fun m hm => ?_, h2⟩
        cases m with
        | zero => omega
        | succ m => simp only [run, h1 m (by omega), hi, if_false]
  | loop c ih =>
    intro st Q hw
    obtain ⟨α, P, I, μ, a0, p0, h0, hs⟩ := hw
    obtain ⟨n, x, s, h1, h2⟩ := lp_ok (F := F) (md := md) (ro := ro) (fun a pa => ih (hs a pa)) (μ a0 + 1) a0 p0 (by omega)
    refine ⟨n + 1, x, s, fun m hm => ?_, h2⟩
    cases m with
    | zero => omega
    | succ m => simp only [run]; have := h1 m (by omega); rw [← h0] at this; exact this
  | reg draw na ops =>
    intro st Q hw
    simp only [wp] at hw
    have hw := fB_eq.1 (fLen_eq.1 hw)
    simp only [Nat.zero_add] at hw
    cases draw with
    | true =>
      obtain ⟨n, tm', h', h1, h2⟩ := wDraw_ok hw
      refine ⟨n + 1, .nrm, ⟨tm', h'⟩, fun m hm => ?_, h2⟩
      cases m with
      | zero => omega
      | succ m => simp only [run, if_true, h1 m (by omega)]
    | false =>
      obtain ⟨n, tm', h', h1, h2⟩ := wOps_ok hw
      refine ⟨n + 1, .nrm, ⟨tm', h'⟩, fun m hm => ?_, h2⟩
      cases m with
      | zero => omega
      | succ m => simp only [run, Bool.false_eq_true, if_false, h1 m (by omega)]
  | rf x ps asg body ih1 ih2 =>
    intro st Q hw
    simp only [wp] at hw
    split at hw
    · rename_i f cs hf
      have hw := fLen_eq.1 hw
      simp only [Nat.zero_add] at hw
      obtain ⟨v, h', ⟨n, hn⟩, hk⟩ := hw
      split at hk
      · rename_i r x' tm1 ps1 a1 b1 hb
        split at hk
        · rename_i x2 hx
          refine ⟨n + 1, x2, ⟨st.tm, _⟩, fun m hm => ?_, fB_eq.1 hk⟩
          cases m with
          | zero => omega
          | succ m => simp only [run, hf, isFn, hn m (by omega), hb, hx]
        · exact hk.elim
      · exact hk.elim
    · exact hw.elim

/-! ### calls -/
/-- A function, over no blocks. -/
def Fun (F : Nat → Option Fc) (md : Nat → Nat) (f : Nat) (as : List V) (v : V) : Prop :=
  ∃ fc, F f = some fc ∧ as.length = fc.np ∧ ∃ n x st v0, (∀ m, n ≤ m → run F md m 0 fc.body ⟨as ++ deads (fc.ntm - fc.np), []⟩ = some (x, st)) ∧ (x = .nrm ∨ x = .ret) ∧ result st fc.res = some v0 ∧ V.view st.h depth v0 = some v

inductive Leaves (res : List RV) (v : V) (x : X) (s : St) : Prop where
  | mk (v0 : V) : (x = .nrm ∨ x = .ret) → result s res = some v0 → V.view s.h depth v0 = some v → Leaves res v x s
inductive Ends (res : List RV) (x : X) (s : St) (P : V → Prop) : Prop where
  | mk (v : V) : (x = .nrm ∨ x = .ret) → result s res = some v → P v → Ends res x s P

theorem fun_of {f : Nat} {fc : Fc} {as : List V} {v : V} (hF : F f = some fc) (hn : as.length = fc.np) (hw : fV (as ++ deads (fc.ntm - fc.np)) fun tm => wp F md 0 fc.body ⟨tm, []⟩ (Leaves fc.res v)) : Fun F md f as v := by
  obtain ⟨n, x, st, h1, ⟨v0, h2, h3, h4⟩⟩ := wp_ok (fV_eq.1 hw)
  exact ⟨fc, hF, hn, n, x, st, v0, h1, h2, h3, h4⟩

theorem call_fun {f : Nat} {caps args as : List V} {h : List B} {v : V} {K : V → List B → Prop} (hm : mode md (.fn f caps) args = 0) (hv : views h depth (args ++ caps) = some as) (hf : Fun F md f as v) (hs : blos 0 (args ++ caps) = true ∨ v.scalar = true) (hk : K v h) :
    CallP F md ro (.fn f caps) args h K := by
  obtain ⟨fc, hF, hn, n, x, st, v0, h1, h2, h3, h4⟩ := hf
  refine ⟨v, h, ⟨n, fun m hm' => ?_⟩, hk⟩
  have hl : (args ++ caps).length = fc.np := by
    rw [← hn]
    have key : ∀ {g : V → Option V} {l l' : List V}, mapO g l = some l' → l'.length = l.length := by
      intro g l
      induction l with
      | nil => intro l' e; simp only [mapO, Option.some.injEq] at e; rw [← e]
      | cons v l ih =>
        intro l' e
        simp only [mapO] at e
        split at e <;> (try (cases e; done))
        split at e <;> (try (cases e; done))
        rename_i r hr
        cases e
        simp [ih hr]
    exact (key hv).symm
  have hc : (blos 0 (args ++ caps) || v.scalar) = true := by rcases hs with h | h <;> simp [h]
  simp only [doCall, hF, hl, if_true, hm, hv]
  rcases h2 with rfl | rfl <;> simp only [h1 m hm', h3, h4, hc, if_true]

theorem call_one {f : Nat} {fc : Fc} {caps args : List V} {h : List B} {K : V → List B → Prop} (hm : mode md (.fn f caps) args = 1) (hF : F f = some fc) (hn : (args ++ caps).length = fc.np)
    (hw : fV (args ++ caps ++ deads (fc.ntm - fc.np)) fun tm => wp F md ro fc.body ⟨tm, h⟩ fun x s => Ends fc.res x s fun v => fB (trunc h.length [v] s.h) fun h' => K v h') : CallP F md ro (.fn f caps) args h K := by
  obtain ⟨n, x, st, h1, ⟨v, h2, h3, h4⟩⟩ := wp_ok (fV_eq.1 hw)
  refine ⟨v, _, ⟨n, fun m hm' => ?_⟩, fB_eq.1 h4⟩
  simp only [doCall, hF, hn, if_true, hm]
  rcases h2 with rfl | rfl <;> simp only [h1 m hm', h3]

theorem call_two {f : Nat} {fc : Fc} {caps args : List V} {h : List B} {K : V → List B → Prop} (hm : mode md (.fn f caps) args = 2) (hF : F f = some fc) (hn : (args ++ caps).length = fc.np)
    (hw : fV (args ++ caps ++ deads (fc.ntm - fc.np)) fun tm => wp F md (max ro h.length) fc.body ⟨tm, h⟩ fun x s => Ends fc.res x s fun v => Req (v.blo h.length = true) (K v h)) : CallP F md ro (.fn f caps) args h K := by
  obtain ⟨n, x, st, h1, ⟨v, h2, h3, ⟨h5, h4⟩⟩⟩ := wp_ok (fV_eq.1 hw)
  refine ⟨v, _, ⟨n, fun m hm' => ?_⟩, h4⟩
  simp only [doCall, hF, hn, if_true, hm]
  rcases h2 with rfl | rfl <;> simp only [h1 m hm', h3, h5, if_true]

theorem call_yld {id : Nat} {args tm tm' : List V} {ps : List Nat} {p : X} {asg body : MC} {h : List B} {K : V → List B → Prop} (hb : bget h id = some (.lop true p tm ps asg body)) (hro : ro ≤ id) (hp : setPs tm ps args = some tm')
    (hw : wp F md ro asg ⟨tm', h⟩ fun x s => x = .nrm ∧ Get (bget s.h id) fun
      | .lop true _ _ _ _ _ => fB (bset s.h id (.lop false .nrm tm ps asg body)) fun h1 => wp F md ro body ⟨s.tm, h1⟩ fun x s =>
          fB (bset (trunc h.length [] s.h) id (.lop (match x with | .nrm => true | _ => false) x tm ps asg body)) fun h2 => K (.bool (match x with | .nrm => true | _ => false)) h2
      | _ => False) : CallP F md ro (.yld id) args h K := by
  obtain ⟨n, x, st, h1, ⟨rfl, ⟨b, h2, h3⟩⟩⟩ := wp_ok hw
  split at h3
  · obtain ⟨n2, x2, st2, h4, h5⟩ := wp_ok (fB_eq.1 h3)
    refine ⟨_, _, ⟨max n n2, fun m hm' => ?_⟩, fB_eq.1 h5⟩
    simp only [doCall, hb, hro, if_true, hp, h1 m (by omega), h2, h4 m (by omega)]
    rfl
  · exact h3.elim

/-- A law that the door computes. -/
theorem call0_of {f : Nat} {args as : List V} {v : V} (hm : mode md (.fn f []) args = 0) (hv : views [] depth args = some as) (hf : Fun F md f as v) (hs : blos 0 args = true ∨ v.scalar = true) : ∃ n, call0 F md n f args = some v := by
  obtain ⟨v', h', ⟨n, hn⟩, hk⟩ := call_fun (F := F) (ro := 0) (K := fun v' h' => v' = v) hm (by rw [List.append_nil]; exact hv) hf (by rw [List.append_nil]; exact hs) rfl
  subst hk
  exact ⟨n, by simp only [call0, hn n (Nat.le_refl _)]⟩

end Go.Dr
