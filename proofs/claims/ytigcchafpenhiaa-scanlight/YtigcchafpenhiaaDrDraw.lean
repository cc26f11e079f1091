/- The door: regions that draw their order: any order comes to the same. -/
import Derived.Test.YtigcchafpenhiaaDrSwap
namespace Go.Dr

variable {md : Nat → Nat} {oc : Orc} {ro base : Nat}

theorem tg_tset_ne {l : List V} {d s : Nat} {v : V} (h : d ≠ s) : tg (tset l d v) s = tg l s := by
  induction l generalizing d s with
  | nil => rfl
  | cons x l ih =>
    cases d <;> cases s <;> simp only [tset, tg] <;> first | (exact absurd rfl h) | (exact ih (by omega))
theorem tset_comm {l : List V} {d e : Nat} {v u : V} (h : d ≠ e) : tset (tset l d v) e u = tset (tset l e u) d v := by
  induction l generalizing d e with
  | nil => rfl
  | cons x l ih =>
    cases d <;> cases e <;> simp only [tset] <;> first | (exact absurd rfl h) | (rw [ih (by omega)])

theorem apart_spec {a b : G} (h : apart a b = true) : (∀ d, a.d = some d → d ∉ b.names) ∧ (∀ d, b.d = some d → d ∉ a.names) := by
  unfold apart at h
  rw [Bool.and_eq_true] at h
  refine ⟨fun d hd => ?_, fun d hd => ?_⟩
  · have := h.1; rw [hd] at this; simpa using this
  · have := h.2; rw [hd] at this; simpa using this

theorem sees_dput {a b : G} (h : apart a b = true) (tm : List V) (v : V) : Sees tm (dput a.d tm v) b := by
  intro s hs
  cases hd : a.d with
  | none => rfl
  | some d =>
    have := (apart_spec h).1 d hd
    simp only [dput]
    rw [tg_tset_ne]
    rintro rfl
    exact this (by simp only [G.names, List.mem_append]; exact .inr hs)
theorem sees_dput' {a b : G} (h : apart a b = true) (tm : List V) (v : V) : Sees tm (dput b.d tm v) a := by
  intro s hs
  cases hd : b.d with
  | none => rfl
  | some d =>
    have := (apart_spec h).2 d hd
    simp only [dput]
    rw [tg_tset_ne]
    rintro rfl
    exact this (by simp only [G.names, List.mem_append]; exact .inr hs)
theorem dput_comm {a b : G} (h : apart a b = true) (tm : List V) (v u : V) : dput b.d (dput a.d tm v) u = dput a.d (dput b.d tm u) v := by
  cases ha : a.d with
  | none => rfl
  | some d =>
    cases hb : b.d with
    | none => rfl
    | some e =>
      simp only [dput]
      refine tset_comm ?_
      rintro rfl
      exact (apart_spec h).1 d ha (by simp [G.names, hb])

theorem rows_swap (ho : OrcFp md oc) {x y : G} (hap : apart x y = true) {tm : List V} {h : List B} {s t : List V × List B} (e1 : evG oc ro base tm h x = some s) (e2 : evG oc ro base s.1 s.2 y = some t)
    (hfree : (fpOf md base s.1 y).free (fpOf md base tm x) = true) :
    ∃ u, evG oc ro base tm h y = some u ∧ evG oc ro base u.1 u.2 x = some t ∧ fpOf md base tm y = fpOf md base s.1 y ∧ fpOf md base u.1 x = fpOf md base tm x := by
  rw [evG_eq] at e1 e2
  obtain ⟨⟨vx, h1⟩, f1, rfl⟩ := map_some e1
  obtain ⟨⟨vy, h2⟩, f2, rfl⟩ := map_some e2
  simp only at f2 hfree ⊢
  have sy := sees_dput hap tm vx
  rw [← evV_congr sy] at f2
  obtain ⟨h1', g1, g2⟩ := heaps_swap (fpOf_ok ho tm x) (fpOf_ok ho tm y) (by rw [fpOf_congr sy]; exact hfree) f1 f2
  have sx := sees_dput' hap tm vy
  refine ⟨(dput y.d tm vy, h1'), by rw [evG_eq, g1]; rfl, ?_, fpOf_congr sy, (fpOf_congr sx).symm⟩
  rw [evG_eq, ← evV_congr sx, g2]
  simp only [Option.map_some]
  rw [dput_comm hap]

/-- A row, its place, and what it touches. -/
abbrev Row := Nat × G × Fp
def Run (md : Nat → Nat) (oc : Orc) (ro base : Nat) : List Row → (List V × List B) → (List V × List B) → Prop
  | [], s, t => s = t
  | x :: L, s, t => fpOf md base s.1 x.2.1 = x.2.2 ∧ ∃ u, evG oc ro base s.1 s.2 x.2.1 = some u ∧ Run md oc ro base L u t

theorem bubble (ho : OrcFp md oc) {x : Row} {C : List Row} : ∀ {A : List Row} {s t : List V × List Dr.B}, (∀ a ∈ A, apart a.2.1 x.2.1 = true ∧ x.2.2.free a.2.2 = true) → Run md oc ro base (A ++ x :: C) s t → Run md oc ro base (x :: (A ++ C)) s t
  | [], _, _, _, h => h
  | a :: A, s, t, hA, h => by
    obtain ⟨f1, u, e1, h⟩ := h
    obtain ⟨f2, w, e2, h⟩ := bubble ho (fun b hb => hA b (by simp [hb])) h
    obtain ⟨ap, fr⟩ := hA a (by simp)
    obtain ⟨z, z1, z2, z3, z4⟩ := rows_swap ho ap e1 e2 (by rw [f2, f1]; exact fr)
    exact ⟨z3.trans f2, z, z1, z4.trans f1, w, z2, h⟩

def enum : Nat → List G → List (Nat × G)
  | _, [] => []
  | i, r :: l => (i, r) :: enum (i + 1) l

theorem freeOf_spec {fp : Fp} {b : Nat} : ∀ {seen : List (Nat × Fp)}, freeOf fp b seen = true → ∀ q ∈ seen, b.testBit q.1 = true ∨ fp.free q.2 = true
  | [], _, q, hq => by simp at hq
  | (i, f) :: l, h, q, hq => by
    simp only [freeOf, Bool.and_eq_true, Bool.or_eq_true] at h
    rcases List.mem_cons.1 hq with rfl | hq
    · exact h.1
    · exact freeOf_spec h.2 q hq

theorem evDraw_run : ∀ {l : List G} {i : Nat} {seen : List (Nat × Fp)} {tm : List V} {h : List B} {t : List V × List B}, evDraw md oc ro base i seen l tm h = some t →
    ∃ L : List Row, L.map (fun x => (x.1, x.2.1)) = enum i l ∧ Run md oc ro base L (tm, h) t ∧ (∀ x ∈ L, ∀ q ∈ seen, x.2.1.b.testBit q.1 = true ∨ x.2.2.free q.2 = true) ∧
      L.Pairwise (fun a b => b.2.1.b.testBit a.1 = true ∨ b.2.2.free a.2.2 = true)
  | [], i, seen, tm, h, t, e => by
    simp only [evDraw, Option.some.injEq] at e
    exact ⟨[], rfl, e, by simp, .nil⟩
  | r :: l, i, seen, tm, h, t, e => by
    simp only [evDraw] at e
    split at e <;> (try (cases e; done))
    rename_i hf
    split at e <;> (try (cases e; done))
    rename_i tm' h' hg
    obtain ⟨L, l1, l2, l3, l4⟩ := evDraw_run e
    refine ⟨(i, r, fpOf md base tm r) :: L, by simp [enum, l1], ⟨rfl, _, hg, l2⟩, ?_, ?_⟩
    · intro x hx q hq
      rcases List.mem_cons.1 hx with rfl | hx
      · exact freeOf_spec hf q hq
      · exact l3 x hx q (by simp [hq])
    · exact .cons (fun x hx => l3 x hx (i, _) (by simp)) l4

theorem statRow_spec {r : G} : ∀ {l : List G} {i : Nat}, statRow r i l = true → ∀ q ∈ enum i l, r.b.testBit q.1 = true ∨ apart q.2 r = true
  | [], _, _, q, hq => by simp [enum] at hq
  | a :: l, i, h, q, hq => by
    simp only [statRow, Bool.and_eq_true, Bool.or_eq_true] at h
    rcases List.mem_cons.1 hq with rfl | hq
    · exact h.1
    · exact statRow_spec h.2 q hq

theorem enum_append (a b : List G) : ∀ (i : Nat), enum i (a ++ b) = enum i a ++ enum (i + a.length) b := by
  induction a with
  | nil => intro i; simp [enum]
  | cons x l ih => intro i; simp [enum, ih]; congr 1; omega

theorem statOk_spec : ∀ {l seen : List G}, statOk seen l = true → (∀ x ∈ enum seen.length l, ∀ q ∈ enum 0 seen, x.2.b.testBit q.1 = true ∨ apart q.2 x.2 = true) ∧
    (enum seen.length l).Pairwise (fun a b => b.2.b.testBit a.1 = true ∨ apart a.2 b.2 = true)
  | [], seen, _ => ⟨by simp [enum], .nil⟩
  | r :: l, seen, h => by
    simp only [statOk, Bool.and_eq_true] at h
    obtain ⟨h1, h2⟩ := statOk_spec h.2
    simp only [List.length_append, List.length_cons, List.length_nil, Nat.zero_add] at h1 h2
    rw [enum_append] at h1
    constructor
    · intro x hx q hq
      rcases List.mem_cons.1 hx with rfl | hx
      · exact statRow_spec h.1 q hq
      · exact h1 x hx q (by simp [hq])
    · refine .cons (fun x hx => ?_) h2
      exact h1 x hx (seen.length, r) (by simp [enum])

end Go.Dr
