/- The door: more fuel gives the same. -/
import Derived.Test.YtigcchafpenhiaaDrYield
import Derived.Test.YtigcchafpenhiaaDrStep
namespace Go.Dr

variable {F : Nat → Option Fc} {md : Nat → Nat}

def OrcLe (oc oc' : Orc) : Prop := ∀ f as h r, oc f as h = some r → oc' f as h = some r
def RnLe (rn rn' : Nat → MC → St → Option (X × St)) : Prop := ∀ ro c st r, rn ro c st = some r → rn' ro c st = some r

theorem doCall_le {rn rn' : Nat → MC → St → Option (X × St)} (hle : RnLe rn rn') (ro : Nat) : OrcLe (doCall F md ro rn) (doCall F md ro rn') := by
  intro fv as h r e
  cases fv with
  | fn f caps =>
    obtain ⟨fc, hF, hl, hc⟩ := doCall_fn e
    rcases hc with ⟨hm, as', x, st, v, v', h1, h2, hx, h3, h4, h5, rfl⟩ | ⟨hm, x, st, v, h2, hx, h3, rfl⟩ | ⟨hm0, hm1, x, st, v, h2, hx, h3, h4, rfl⟩
    · have hcd : (blos 0 (as ++ caps) || v'.scalar) = true := by rcases h5 with h | h <;> simp [h]
      simp only [doCall, hF, hl, if_true, hm, h1]
      rcases hx with rfl | rfl <;> simp only [hle _ _ _ _ h2, h3, h4, hcd, if_true]
    · simp only [doCall, hF, hl, if_true, hm]
      rcases hx with rfl | rfl <;> simp only [hle _ _ _ _ h2, h3]
    · cases hmm : mode md (.fn f caps) as with
      | zero => exact absurd hmm hm0
      | succ k =>
        cases k with
        | zero => exact absurd hmm hm1
        | succ k =>
          simp only [doCall, hF, hl, if_true, hmm]
          rcases hx with rfl | rfl <;> simp only [hle _ _ _ _ h2, h3, h4, if_true]
  | yld id =>
    obtain ⟨p, tm, ps, asg, body, tm', st, p', tm2, ps2, a2, b2, x, st', h1, h2, h3, h4, h5, h6, rfl⟩ := doCall_yld e
    simp only [doCall, h1, h2, if_true, h3, hle _ _ _ _ h4, h5, hle _ _ _ _ h6]
    cases x <;> rfl
  | _ => simp [doCall] at e

theorem evG_le {oc oc' : Orc} (hle : OrcLe oc oc') {ro base : Nat} {tm : List V} {h : List B} {r : G} {t : List V × List B} (e : evG oc ro base tm h r = some t) : evG oc' ro base tm h r = some t := by
  have go : ∀ {t}, (match (match r.o with
      | .call f args => oc (f.ev tm) (evs tm args) h
      | o => match plan base tm o with
        | none => none
        | some p => p.go ro h) with
    | none => none
    | some (v, h') => some (match r.d with | some d => tset tm d v | none => tm, h')) = some t → (match (match r.o with
      | .call f args => oc' (f.ev tm) (evs tm args) h
      | o => match plan base tm o with
        | none => none
        | some p => p.go ro h) with
    | none => none
    | some (v, h') => some (match r.d with | some d => tset tm d v | none => tm, h')) = some t := by
    intro t e
    cases ho : r.o <;> rw [ho] at e <;> simp only at e ⊢ <;> first | exact e | skip
    split at e
    · cases e
    · rename_i v h' hq
      rw [hle _ _ _ _ hq]; exact e
  unfold evG at e ⊢
  cases hg : r.g with
  | none => rw [hg] at e; exact go e
  | some q =>
    obtain ⟨s, w⟩ := q
    rw [hg] at e
    simp only at e ⊢
    cases htg : tg tm s with
    | bool b =>
      rw [htg] at e
      try simp only at e ⊢
      by_cases hb : b = w
      · simp only [hb, if_true] at e ⊢; exact go e
      · simp only [hb, if_false] at e ⊢; exact e
    | tup l =>
      rw [htg] at e
      cases l with
      | nil => exact e
      | cons a l => simp at e
    | _ => rw [htg] at e; simp at e

theorem evOps_le {oc oc' : Orc} (hle : OrcLe oc oc') {ro base : Nat} : ∀ {l : List G} {tm : List V} {h : List B} {t : List V × List B}, evOps oc ro base l tm h = some t → evOps oc' ro base l tm h = some t
  | [], _, _, _, e => e
  | r :: l, tm, h, t, e => by
    simp only [evOps] at e ⊢
    split at e
    · cases e
    · rename_i hq
      rw [evG_le hle hq]; exact evOps_le hle e
theorem evDraw_le {oc oc' : Orc} (hle : OrcLe oc oc') {ro base : Nat} : ∀ {l : List G} {i : Nat} {seen : List (Nat × Fp)} {tm : List V} {h : List B} {t : List V × List B}, evDraw md oc ro base i seen l tm h = some t → evDraw md oc' ro base i seen l tm h = some t
  | [], _, _, _, _, _, e => e
  | r :: l, i, seen, tm, h, t, e => by
    simp only [evDraw] at e ⊢
    split at e
    · rename_i hf
      simp only [hf, if_true]
      split at e
      · cases e
      · rename_i hq
        rw [evG_le hle hq]; exact evDraw_le hle e
    · cases e

theorem run_le : ∀ (n : Nat), RnLe (run F md n) (run F md (n + 1))
  | 0, ro, c, st, r, e => by simp [run] at e
  | n + 1, ro, c, st, r, e => by
    have ih := run_le n
    have ihc : ∀ ro, OrcLe (doCall F md ro (run F md n)) (doCall F md ro (run F md (n + 1))) := fun ro => doCall_le ih ro
    cases c with
    | skip => rw [run] at e ⊢; exact e
    | exit id => rw [run] at e ⊢; exact e
    | ret => rw [run] at e ⊢; exact e
    | reg draw na ops =>
      rw [run] at e ⊢
      try simp only at e ⊢
      split at e
      · cases e
      · rename_i tm h hq
        have : (if draw = true then evDraw md (doCall F md ro (run F md (n + 1))) ro st.h.length 0 [] ops st.tm (if na = 0 then st.h else st.h ++ unborns na) else evOps (doCall F md ro (run F md (n + 1))) ro st.h.length ops st.tm (if na = 0 then st.h else st.h ++ unborns na)) = some (tm, h) := by
          cases draw with
          | true => exact evDraw_le (ihc ro) hq
          | false => exact evOps_le (ihc ro) hq
        rw [this]; exact e
    | seq a b =>
      rw [run] at e ⊢
      try simp only at e ⊢
      split at e
      · rename_i st1 h1
        rw [ih _ _ _ _ h1]
        exact ih _ _ _ _ e
      · rename_i hne
        have := ih _ _ _ _ e
        rw [this]
        split
        · rename_i q hq
          simp only [Option.some.injEq] at hq
          exact absurd (e.trans (by rw [hq])) (hne _)
        · rfl
    | cond x a b =>
      rw [run] at e ⊢
      try simp only at e ⊢
      split at e
      · split at e
        · rename_i h1; simp only [h1, if_true]; exact ih _ _ _ _ e
        · rename_i h1; simp only [h1]; exact ih _ _ _ _ e
      · cases e
    | block id c =>
      rw [run] at e ⊢
      try simp only at e ⊢
      split at e
      · rename_i i st1 h1
        rw [ih _ _ _ _ h1]; exact e
      · rename_i hne
        have := ih _ _ _ _ e
        rw [this]
        split
        · rename_i i q hq
          simp only [Option.some.injEq] at hq
          exact absurd (e.trans (by rw [hq])) (hne _ _)
        · rfl
    | loop c => rw [run] at e ⊢; exact ih _ _ _ _ e
    | lp m hl c =>
      rw [run] at e ⊢
      try simp only at e ⊢
      split at e
      · rename_i st1 h1
        rw [ih _ _ _ _ h1]
        exact ih _ _ _ _ e
      · rename_i hne
        have := ih _ _ _ _ e
        rw [this]
        split
        · rename_i q hq
          simp only [Option.some.injEq] at hq
          exact absurd (e.trans (by rw [hq])) (hne _)
        · rfl
    | rf x ps asg body =>
      rw [run] at e ⊢
      try simp only at e ⊢
      split at e
      · cases e
      · rename_i v h hq
        have : isFn (x.ev st.tm) (doCall F md ro (run F md (n + 1)) (x.ev st.tm) [.yld st.h.length] (st.h ++ [.lop true .nrm st.tm ps asg body])) = some (v, h) := by
          unfold isFn at hq ⊢
          split at hq
          · rename_i f cs hx
            exact ihc ro _ _ _ _ hq
          · cases hq
        rw [this]; exact e

theorem run_more {n m : Nat} (hm : n ≤ m) : RnLe (run F md n) (run F md m) := by
  induction hm with
  | refl => exact fun _ _ _ _ h => h
  | step _ ih => exact fun _ _ _ _ h => run_le _ _ _ _ _ (ih _ _ _ _ h)

/-- What is worked out with some fuel. -/
theorem fun_run {f n : Nat} {as : List V} {v : V} (h : (match F f with
    | none => none
    | some fc => if as.length = fc.np then (match run F md n 0 fc.body ⟨as ++ deads (fc.ntm - fc.np), []⟩ with
      | some (.nrm, st) | some (.ret, st) => match result st fc.res with
        | none => none
        | some v => V.view st.h depth v
      | _ => none) else none) = some v) : Fun F md f as v := by
  split at h
  · cases h
  · rename_i fc hF
    split at h
    · rename_i hl
      split at h
      · rename_i st hr
        split at h
        · cases h
        · rename_i v0 hv
          exact ⟨fc, hF, hl, n, .nrm, st, v0, fun m hm => run_more hm _ _ _ _ hr, .inl rfl, hv, h⟩
      · rename_i st hr
        split at h
        · cases h
        · rename_i v0 hv
          exact ⟨fc, hF, hl, n, .ret, st, v0, fun m hm => run_more hm _ _ _ _ hr, .inr rfl, hv, h⟩
      · cases h
    · cases h

end Go.Dr
