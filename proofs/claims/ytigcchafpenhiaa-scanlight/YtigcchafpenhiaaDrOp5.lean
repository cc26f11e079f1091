/- The door: single operations, fifth part: conversions, slicing, fields, assertions, builtins that touch no memory of the own. -/
import Derived.Test.YtigcchafpenhiaaDrOp4
namespace Go.Dr
open Go.RowKit (Below)

variable {P : Program} {k : K} {tm : List V} {ρ : Operand → Value} {o : Oper} {j base ro : Nat} {m : M} {p : Pl} {v : V} {h' : List B}

theorem loadFrom_some {agg : Bool} {n off : Nat} {c : List V} {z : V} (h : loadFrom agg n off c = some z) :
    ∃ cs, part c off n = some cs ∧ ((agg = true ∧ z = .agg cs) ∨ (agg = false ∧ cs = [z])) := by
  unfold loadFrom at h
  split at h
  · cases h
  · rename_i cs hcs
    cases agg
    · simp only [Bool.false_eq_true, if_false] at h
      split at h
      · cases h; exact ⟨_, hcs, .inr ⟨rfl, rfl⟩⟩
      · cases h
    · simp only [if_true, Option.some.injEq] at h
      exact ⟨cs, hcs, .inl ⟨rfl, h.symm⟩⟩

theorem part_split {cs : List V} {off n : Nat} {r : List V} (h : part cs off n = some r) (hn : 0 < n) : ∃ a b, cs = a ++ r ++ b ∧ a.length = off ∧ r.length = n := by
  obtain ⟨rfl, hl⟩ := part_some h
  refine ⟨cs.take off, cs.drop (off + n), ?_, ?_, hl⟩
  · rw [List.append_assoc, ← List.drop_drop, List.take_append_drop, List.take_append_drop]
  · simp at hl ⊢; omega

theorem did_field (g : Good P k) (ht : Ops k tm ρ) {x : Operand} {t : TypeId} {f : Nat} (ho : o.op = .field t x f) (hc : cOp P j o.op = some m) (hp : plan base tm m = some p) (hg : p.go ro k.h = some (v, h')) :
    Did P ro k (execOp ρ o) v h' := by
  rw [ho] at hc; simp only [cOp] at hc
  split at hc <;> (try (cases hc; done))
  rename_i fs y hu hy
  split at hc <;> (try (cases hc; done))
  rename_i fd hf
  split at hc <;> (try (cases hc; done))
  rename_i ga n hga hn
  split at hc <;> (try (cases hc; done))
  rename_i hgn
  cases hc
  have h1 := ht.1 _ _ hy
  simp only [plan] at hp
  split at hp <;> (try (cases hp; done))
  rename_i cs e
  rw [e] at h1; simp only [R] at h1
  obtain ⟨xs, hx, hl⟩ := h1
  obtain ⟨z, hz, rfl⟩ := val?_some hp
  obtain ⟨rs, hr, hz'⟩ := loadFrom_some hz
  have hgn' : ga = true ∨ n = 1 := by simpa using hgn
  have key : ∃ y', (Go.part fd.type ⟨xs⟩ fd.offset).run P k.w = .ok y' k.w ∧ R k z y' := by
    by_cases hn0 : n = 0
    · subst hn0
      rcases hz' with ⟨rfl, rfl⟩ | ⟨rfl, rfl⟩
      · obtain ⟨rfl, hlr⟩ := part_some hr
        refine ⟨.agg #[], by simp [Go.part, aggOf_run hga, szOf_run hn], ?_⟩
        have : List.take 0 (List.drop fd.offset cs) = [] := by simp
        rw [this]; simp only [R]; exact ⟨[], rfl, RL.nil⟩
      · simp at hgn'
    · obtain ⟨a, b, rfl, hla, hlr⟩ := part_split hr (by omega)
      obtain ⟨xab, xb, rfl, hab, hb⟩ := RL.split hl
      obtain ⟨xa, xr, rfl, ha, hr'⟩ := RL.split hab
      have := part_run hn hga hgn' (pre := xa) (post := xb) (by rw [RL.len hr', hlr]) k.w
      rw [RL.len ha, hla] at this
      refine ⟨_, this, ?_⟩
      rcases hz' with ⟨rfl, rfl⟩ | ⟨rfl, rfl⟩
      · simp only [valOf, hga, if_true, R]; exact ⟨xr, rfl, hr'⟩
      · obtain ⟨x', r', rfl, hx', hr2⟩ := (by simpa [RL] using hr' : ∃ x' r, xr = x' :: r ∧ R k z x' ∧ r = [])
        simpa [valOf, hga] using hx'
  obtain ⟨y', hr1, hr2⟩ := key
  exact fin_val g rfl hg (y := y') (by simp only [execOp, ho, hx]; exact exec_v (by simp [Instr.field, run_underlying hu, hf, asAgg, hr1])) hr2

theorem did_extract (g : Good P k) (ht : Ops k tm ρ) {x : Operand} {i : Nat} (ho : o.op = .extract x i) (hc : cOp P j o.op = some m) (hp : plan base tm m = some p) (hg : p.go ro k.h = some (v, h')) :
    Did P ro k (execOp ρ o) v h' := by
  rw [ho] at hc; simp only [cOp] at hc; obtain ⟨y, hy, rfl⟩ := map_some hc
  have h1 := ht.1 _ _ hy
  simp only [plan] at hp
  split at hp <;> (try (cases hp; done))
  rename_i vs e
  rw [e] at h1; simp only [R] at h1
  obtain ⟨xs, hx, hl⟩ := h1
  split at hp <;> (try (cases hp; done))
  rename_i hi
  have h2 := RL.get i hl
  have h3 : (⟨xs⟩ : Array Value)[i]? = some (xs.getD i undef) := by
    have : i < xs.length := by rw [RL.len hl]; exact hi
    simp [List.getElem?_eq_getElem this, List.getD]
  exact fin_val g hp hg (y := xs.getD i undef) (by simp only [execOp, ho, hx]; exact exec_v (by simp [Instr.extract, h3])) h2

theorem did_assert (g : Good P k) (ht : Ops k tm ρ) {x : Operand} {t t' : TypeId} {b : Bool} (ho : o.op = .typeAssert x t' t b) (hc : cOp P j o.op = some m) (hp : plan base tm m = some p) (hg : p.go ro k.h = some (v, h')) :
    Did P ro k (execOp ρ o) v h' := by
  rw [ho] at hc; simp only [cOp] at hc
  split at hc <;> (try (cases hc; done))
  rename_i y z hy hz
  split at hc <;> (try (cases hc; done))
  rename_i d' h5 h6
  cases hc
  obtain ⟨d, hd⟩ : ∃ d, P.underlying t = some d := by
    cases hh : P.underlying t with
    | none => exact absurd hh h6
    | some d => exact ⟨d, rfl⟩
  have hni : ∀ ms, d ≠ .interface ms := fun ms e => h5 ms (by rw [hd, e])
  have h1 := ht.1 _ _ hy
  obtain ⟨zx, hz1, hz2⟩ := zeroV_run hz k.w k
  simp only [plan] at hp
  split at hp <;> (try (cases hp; done)) <;> (rename_i e; rw [e] at h1) <;> simp only [R] at h1
  · rename_i u w'
    obtain ⟨x', hx, hr⟩ := h1
    split at hp
    · rename_i hu; subst hu
      refine fin_val g hp hg (y := if b then .tuple #[x', .bool true] else x') ?_ ?_
      · simp only [execOp, ho, hx]; refine exec_v ?_
        cases d <;> (try (exact absurd rfl (hni _))) <;> simp [Instr.typeAssert, run_underlying hd] <;> (cases b <;> rfl)
      · cases b
        · simpa using hr
        · simp only [if_true, R]; exact ⟨[x', .bool true], rfl, RL.cons hr (RL.cons (by simp [R]) RL.nil)⟩
    · rename_i hu
      split at hp <;> (try (cases hp; done))
      rename_i hb; subst hb
      refine fin_val g hp hg (y := .tuple #[zx, .bool false]) ?_ ?_
      · simp only [execOp, ho, hx]; refine exec_v ?_
        cases d <;> (try (exact absurd rfl (hni _))) <;> simp [Instr.typeAssert, run_underlying hd, hz1, hu]
      · simp only [R]; exact ⟨[zx, .bool false], rfl, RL.cons hz2 (RL.cons (by simp [R]) RL.nil)⟩
  · split at hp <;> (try (cases hp; done))
    rename_i hb; subst hb
    refine fin_val g hp hg (y := .tuple #[zx, .bool false]) ?_ ?_
    · simp only [execOp, ho, h1]; refine exec_v ?_
      cases d <;> (try (exact absurd rfl (hni _))) <;> simp [Instr.typeAssert, run_underlying hd, hz1]
    · simp only [R]; exact ⟨[zx, .bool false], rfl, RL.cons hz2 (RL.cons (by simp [R]) RL.nil)⟩

end Go.Dr
