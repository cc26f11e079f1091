/- The door: rows that no order parts may change places. No program in sight. -/
import Derived.Test.YtigcchafpenhiaaDrReg
namespace Go.Dr

variable {md : Nat → Nat} {oc : Orc} {ro base : Nat}

def evGo (oc : Orc) (ro base : Nat) (tm : List V) (h : List B) (o : M) : Option (V × List B) :=
  match o with
  | .call f args => oc (f.ev tm) (evs tm args) h
  | o => match plan base tm o with
    | none => none
    | some p => p.go ro h

/-- A row's value, and the blocks behind it. -/
def evV (oc : Orc) (ro base : Nat) (tm : List V) (h : List B) (r : G) : Option (V × List B) :=
  match r.g with
  | none => evGo oc ro base tm h r.o
  | some (s, want) => match tg tm s with
    | .bool b => if b = want then evGo oc ro base tm h r.o else some (.tup [], h)
    | .tup [] => some (.tup [], h)
    | _ => none

theorem evG_eq (tm : List V) (h : List B) (r : G) : evG oc ro base tm h r = (evV oc ro base tm h r).map fun q => (dput r.d tm q.1, q.2) := by
  have key : ∀ (q : Option (V × List B)), (match q with | none => none | some (v, h') => some (match r.d with | some d => tset tm d v | none => tm, h') : Option (List V × List B)) = q.map fun q => (dput r.d tm q.1, q.2) := by
    intro q; cases q <;> rfl
  have hgo := key (evGo oc ro base tm h r.o)
  unfold evG evV
  unfold evGo at hgo ⊢
  obtain ⟨d, g, b, o⟩ := r
  simp only at hgo ⊢
  cases g with
  | none => exact hgo
  | some p =>
    obtain ⟨s, want⟩ := p
    simp only
    cases tg tm s with
    | bool c =>
      simp only
      by_cases hc : c = want
      · simp only [hc, if_true]; exact hgo
      · simp only [hc, if_false]; rfl
    | tup l => cases l <;> rfl
    | _ => rfl

/-! ### what a row looks at -/
theorem ev_congr {t1 t2 : List V} {x : O} (h : ∀ s ∈ oSlots [x], tg t1 s = tg t2 s) : x.ev t1 = x.ev t2 := by
  cases x with
  | t n => exact h n (by simp [oSlots])
  | c v => rfl
theorem oSlots_append (a b : List O) : oSlots (a ++ b) = oSlots a ++ oSlots b := by
  induction a with
  | nil => rfl
  | cons x l ih => cases x <;> simp [oSlots, ih]
theorem oSlots_mem {x : O} {l : List O} (hx : x ∈ l) : ∀ s ∈ oSlots [x], s ∈ oSlots l := by
  intro s hs
  obtain ⟨a, b, rfl⟩ := List.append_of_mem hx
  rw [oSlots_append]
  have : oSlots (x :: b) = oSlots [x] ++ oSlots b := oSlots_append [x] b
  rw [this]; simp [hs]
theorem evs_congr {t1 t2 : List V} : ∀ {xs : List O}, (∀ x ∈ xs, x.ev t1 = x.ev t2) → evs t1 xs = evs t2 xs
  | [], _ => rfl
  | x :: l, h => by simp only [evs]; rw [h x (by simp), evs_congr fun y hy => h y (by simp [hy])]
theorem fills_congr {t1 t2 : List V} : ∀ {ps : List (Nat × Nat × O)} {cs : List V}, (∀ p ∈ ps, p.2.2.ev t1 = p.2.2.ev t2) → fills t1 cs ps = fills t2 cs ps
  | [], _, _ => rfl
  | (a, b, x) :: l, cs, h => by
    have := h (a, b, x) (by simp)
    simp only at this
    simp only [fills, this]
    split
    · exact fills_congr fun p hp => h p (by simp [hp])
    · rfl
theorem evo_congr {t1 t2 : List V} {x : Option O} (h : ∀ y ∈ x.toList, y.ev t1 = y.ev t2) : evo t1 x = evo t2 x := by
  cases x with
  | none => rfl
  | some y => simp only [evo, h y (by simp)]

theorem plan_congr {t1 t2 : List V} {m : M} (h : ∀ x ∈ m.ops, x.ev t1 = x.ev t2) : plan base t1 m = plan base t2 m := by
  cases m <;> simp only [M.ops, List.mem_cons, List.not_mem_nil, or_false, forall_eq_or_imp, forall_eq, List.mem_append, List.mem_map] at h <;> simp only [plan]
  all_goals first
    | rfl
    | (simp only [h]; done)
    | (simp only [h.1, h.2]; done)
    | (simp only [h.1, h.2.1, h.2.2]; done)
    | skip
  · rw [fills_congr fun p hp => h _ ⟨p, hp, rfl⟩]
  · rw [fills_congr fun p hp => h _ ⟨p, hp, rfl⟩]
  · rw [evs_congr h]
  · rw [h.1, evo_congr fun y hy => h.2 y (.inl (.inl hy)), evo_congr fun y hy => h.2 y (.inl (.inr hy)), evo_congr fun y hy => h.2 y (.inr hy)]
  · rw [h.1, evo_congr fun y hy => h.2 y (.inl hy), evo_congr fun y hy => h.2 y (.inr hy)]
  · rw [h.1, evo_congr fun y hy => h.2 y (.inl (.inl hy)), evo_congr fun y hy => h.2 y (.inl (.inr hy)), evo_congr fun y hy => h.2 y (.inr hy)]
  · rw [evs_congr h]

/-- Two frames show a row the same. -/
def Sees (t1 t2 : List V) (r : G) : Prop := ∀ s ∈ r.reads, tg t1 s = tg t2 s

theorem Sees.ops {t1 t2 : List V} {r : G} (h : Sees t1 t2 r) : ∀ x ∈ r.o.ops, x.ev t1 = x.ev t2 := fun x hx =>
  ev_congr fun s hs => h s (by simp only [G.reads, List.mem_append]; exact .inr (oSlots_mem hx s hs))
theorem Sees.guard {t1 t2 : List V} {r : G} (h : Sees t1 t2 r) {s : Nat} {w : Bool} (hg : r.g = some (s, w)) : tg t1 s = tg t2 s :=
  h s (by simp only [G.reads, List.mem_append, hg]; exact .inl (by simp))

theorem go_congr {t1 t2 : List V} {h : List B} {m : M} (hm : ∀ x ∈ m.ops, x.ev t1 = x.ev t2) : evGo oc ro base t1 h m = evGo oc ro base t2 h m := by
  have hp := plan_congr (base := base) hm
  unfold evGo
  split
  · rename_i f args
    simp only [M.ops, List.mem_cons, forall_eq_or_imp] at hm
    rw [hm.1, evs_congr hm.2]
  · rw [hp]

theorem evV_congr {t1 t2 : List V} {h : List B} {r : G} (hs : Sees t1 t2 r) : evV oc ro base t1 h r = evV oc ro base t2 h r := by
  unfold evV
  cases hg : r.g with
  | none => exact go_congr hs.ops
  | some p =>
    obtain ⟨s, w⟩ := p
    simp only
    rw [hs.guard hg, go_congr hs.ops]

def fpGo (md : Nat → Nat) (base : Nat) (tm : List V) (o : M) : Fp :=
  match o with
  | .call f args => match mode md (f.ev tm) (evs tm args) with
    | 0 => if blos 0 (f.ev tm :: evs tm args) then .no else .vws
    | 2 => .rds
    | _ => .all
  | o => match newOf base o with
    | some i => .new i
    | none => match plan base tm o with
      | none => .all
      | some p => match p.rs, p.w with
        | [], none => .no
        | rs, w => .some rs w

theorem fpOf_eq (tm : List V) (r : G) : fpOf md base tm r = match r.g with
  | none => fpGo md base tm r.o
  | some (s, want) => match tg tm s with
    | .bool b => if b = want then fpGo md base tm r.o else .no
    | _ => .no := by
  unfold fpOf fpGo
  cases r.g with
  | none => rfl
  | some p => rfl

theorem fpGo_congr {t1 t2 : List V} {m : M} (hm : ∀ x ∈ m.ops, x.ev t1 = x.ev t2) : fpGo md base t1 m = fpGo md base t2 m := by
  have hp := plan_congr (base := base) hm
  unfold fpGo
  split
  · rename_i f args
    simp only [M.ops, List.mem_cons, forall_eq_or_imp] at hm
    rw [hm.1, evs_congr hm.2]
  · rw [hp]

theorem fpOf_congr {t1 t2 : List V} {r : G} (hs : Sees t1 t2 r) : fpOf md base t1 r = fpOf md base t2 r := by
  rw [fpOf_eq, fpOf_eq]
  cases hg : r.g with
  | none => exact fpGo_congr hs.ops
  | some p =>
    obtain ⟨s, w⟩ := p
    simp only
    rw [hs.guard hg, fpGo_congr hs.ops]

/-! ### what a row does to the blocks -/
def FpOk (ro : Nat) : Fp → (List B → Option (V × List B)) → Prop
  | .no, f => ∀ h v h', f h = some (v, h') → h' = h ∧ ∀ g, f g = some (v, g)
  | .rds, f => ∀ h v h', f h = some (v, h') → h' = h
  | .vws, f => ∀ h v h', f h = some (v, h') → h' = h ∧ ∀ id b, bget h id = some .unborn → f (bset h id b) = some (v, bset h id b)
  | .new id, f => ∀ h v h', f h = some (v, h') → bget h id = some .unborn ∧ ∃ b, h' = bset h id b ∧ ∀ g, bget g id = some .unborn → f g = some (v, bset g id b)
  | .some rs w, f => ∃ p : Pl, p.rs = rs ∧ p.w = w ∧ ∀ h, f h = p.go ro h
  | .all, _ => True

/-- The oracle keeps to what its calls are said to touch. -/
def OrcFp (md : Nat → Nat) (oc : Orc) : Prop :=
  ∀ f as h v h', oc f as h = some (v, h') →
    (mode md f as = 0 → h' = h ∧ (blos 0 (f :: as) = true → ∀ g, oc f as g = some (v, g)) ∧ ∀ id b, bget h id = some .unborn → oc f as (bset h id b) = some (v, bset h id b)) ∧ (mode md f as = 2 → h' = h)

theorem plan_new {i : Nat} {tm : List V} {m : M} {p : Pl} (hi : newOf base m = some i) (hp : plan base tm m = some p) : ∃ v b, p = .new i v b := by
  cases m <;> simp only [newOf, reduceCtorEq, Option.some.injEq] at hi <;> subst hi <;> simp only [plan] at hp
  · cases hp; exact ⟨_, _, rfl⟩
  · split at hp <;> (try (cases hp; done))
    cases hp; exact ⟨_, _, rfl⟩
  · split at hp <;> (try (cases hp; done))
    split at hp <;> (try (cases hp; done))
    split at hp <;> (try (cases hp; done))
    cases hp; exact ⟨_, _, rfl⟩
theorem new_go {i : Nat} {v0 : V} {b0 : B} {h : List B} {v : V} {h' : List B} (e : (Pl.new i v0 b0).go ro h = some (v, h')) : bget h i = some .unborn ∧ v = v0 ∧ h' = bset h i b0 ∧ ∀ g, bget g i = some .unborn → (Pl.new i v0 b0).go ro g = some (v, bset g i b0) := by
  simp only [Pl.go, Pl.new, bgets] at e ⊢
  cases hb : bget h i with
  | none => rw [hb] at e; simp at e
  | some b =>
    rw [hb] at e
    cases b with
    | unborn =>
      simp only at e
      split at e <;> (try (cases e; done))
      rename_i hro
      cases e
      exact ⟨rfl, rfl, rfl, fun g hg => by simp only [hg, hro, if_true]⟩
    | _ => simp at e

theorem fpGo_ok (ho : OrcFp md oc) (tm : List V) (m : M) : FpOk ro (fpGo md base tm m) (fun h => evGo oc ro base tm h m) := by
  unfold fpGo evGo
  split
  · rename_i f args
    split
    · rename_i hm
      split
      · rename_i hb
        intro h v h' e
        have := (ho _ _ _ _ _ e).1 hm
        exact ⟨this.1, this.2.1 hb⟩
      · intro h v h' e
        have := (ho _ _ _ _ _ e).1 hm
        exact ⟨this.1, this.2.2⟩
    · rename_i hm
      intro h v h' e
      exact (ho _ _ _ _ _ e).2 hm
    · trivial
  · split
    · rename_i i hi
      intro h v h' e
      simp only at e ⊢
      split at e <;> (try (cases e; done))
      rename_i p hp
      obtain ⟨v0, b0, rfl⟩ := plan_new hi hp
      obtain ⟨h1, rfl, rfl, h2⟩ := new_go e
      exact ⟨h1, b0, rfl, h2⟩
    · split
      · trivial
      · rename_i p hp
        split
        · rename_i hrs hw
          intro h v h' e
          simp only [Pl.go, hrs, hw, bgets] at e ⊢
          split at e <;> (try (cases e; done))
          rename_i hf
          cases e
          exact ⟨rfl, fun g => rfl⟩
        · exact ⟨p, rfl, rfl, fun _ => rfl⟩

theorem fpOf_ok (ho : OrcFp md oc) (tm : List V) (r : G) : FpOk ro (fpOf md base tm r) (fun h => evV oc ro base tm h r) := by
  rw [fpOf_eq]
  unfold evV
  cases hg : r.g with
  | none => exact fpGo_ok ho tm r.o
  | some p =>
    obtain ⟨s, w⟩ := p
    simp only
    cases htg : tg tm s with
    | bool b =>
      simp only
      by_cases hb : b = w
      · simp only [hb, if_true]; exact fpGo_ok ho tm r.o
      · simp only [hb, if_false]; intro h v h' e; cases e; exact ⟨rfl, fun _ => rfl⟩
    | tup l => cases l <;> (intro h v h' e; cases e) <;> exact ⟨rfl, fun _ => rfl⟩
    | _ => intro h v h' e; cases e

theorem bgets_bset {h : List B} {id : Nat} {b : B} : ∀ {rs : List Nat}, id ∉ rs → bgets (bset h id b) rs = bgets h rs
  | [], _ => rfl
  | i :: rs, hn => by
    simp only [List.mem_cons, not_or] at hn
    simp only [bgets, bget_bset, bgets_bset hn.2]
    rw [if_neg (by rintro ⟨e, _⟩; exact hn.1 e)]
theorem bset_comm {h : List B} {i j : Nat} {a b : B} (hn : i ≠ j) : bset (bset h i a) j b = bset (bset h j b) i a := by
  induction h generalizing i j with
  | nil => rfl
  | cons c l ih =>
    cases i <;> cases j <;> simp only [bset] <;> first | rfl | (exact absurd rfl hn) | (rw [ih (by omega)])

theorem Pl.go_set {p : Pl} {h : List B} {v : V} {h' : List B} (e : p.go ro h = some (v, h')) : (h' = h) ∨ ∃ id b, p.w = some id ∧ h' = bset h id b := by
  obtain ⟨bs, _, h1 | ⟨b, id, _, h2, _, h3⟩⟩ := Pl.go_cases e
  · exact .inl h1.2
  · exact .inr ⟨id, b, h2, h3⟩

theorem Pl.go_none {p : Pl} {h : List B} {bs : List B} {v : V} (hb : bgets h p.rs = some bs) (hf : p.f bs = some (v, none)) : p.go ro h = some (v, h) := by
  simp only [Pl.go, hb, hf]
theorem Pl.go_some {p : Pl} {h : List B} {bs : List B} {v : V} {b : B} {id : Nat} (hb : bgets h p.rs = some bs) (hf : p.f bs = some (v, some b)) (hw : p.w = some id) (hro : ro ≤ id) : p.go ro h = some (v, bset h id b) := by
  simp only [Pl.go, hb, hf, hw, if_pos hro]

/-- Two rows that touch nothing in common: the later one first. -/
theorem heaps_swap {fx fy : Fp} {f g : List B → Option (V × List B)} (hf : FpOk ro fx f) (hg : FpOk ro fy g) (hfree : fy.free fx = true) {h h1 h2 : List B} {vx vy : V}
    (e1 : f h = some (vx, h1)) (e2 : g h1 = some (vy, h2)) : ∃ h1', g h = some (vy, h1') ∧ f h1' = some (vx, h2) := by
  have no_x : fx = .no → ∃ h1', g h = some (vy, h1') ∧ f h1' = some (vx, h2) := by
    rintro rfl
    obtain ⟨rfl, hall⟩ := hf _ _ _ e1
    exact ⟨h2, e2, hall h2⟩
  have no_y : fy = .no → ∃ h1', g h = some (vy, h1') ∧ f h1' = some (vx, h2) := by
    rintro rfl
    obtain ⟨rfl, hall⟩ := hg _ _ _ e2
    exact ⟨h, hall h, e1⟩
  have same : h1 = h → h2 = h1 → ∃ h1', g h = some (vy, h1') ∧ f h1' = some (vx, h2) := by
    rintro rfl rfl; exact ⟨_, e2, e1⟩
  have nw : ∀ {p : Pl} {a b : List B} {v : V}, p.w = none → p.go ro a = some (v, b) → b = a := fun hw e => by
    rcases Pl.go_set e with h | ⟨id, b, hw', _⟩
    · exact h
    · rw [hw] at hw'; cases hw'
  have keep : ∀ {p : Pl} {a b : List B} {v : V} {i : Nat} (c : B), i ∉ p.rs → p.w ≠ some i → p.go ro a = some (v, b) → p.go ro (bset a i c) = some (v, bset b i c) ∧ bget b i = bget a i := fun {p a b v i} c h1 h2 e => by
    obtain ⟨bs, hbs, ⟨hf1, rfl⟩ | ⟨d, id, hf1, hw, hro, rfl⟩⟩ := Pl.go_cases e
    · exact ⟨Pl.go_none (by rw [bgets_bset h1]; exact hbs) hf1, rfl⟩
    · have hne : i ≠ id := by rintro rfl; exact h2 hw
      refine ⟨?_, ?_⟩
      · rw [bset_comm (Ne.symm hne)]
        exact Pl.go_some (by rw [bgets_bset h1]; exact hbs) hf1 hw hro
      · rw [bget_bset, if_neg (by rintro ⟨e, _⟩; exact hne e.symm)]
  have noHit : ∀ {i : Nat} {rs : List Nat} {w : Option Nat}, (!hits (some i) rs w) = true → i ∉ rs ∧ w ≠ some i := fun hh => by
    simp only [hits, Bool.not_eq_true', Bool.or_eq_false_iff, List.contains_eq_mem, decide_eq_false_iff_not, beq_eq_false_iff_ne] at hh
    exact hh
  cases fx with
  | no => exact no_x rfl
  | all => cases fy <;> simp [Fp.free] at hfree; exact no_y rfl
  | rds =>
    cases fy with
    | no => exact no_y rfl
    | all => simp [Fp.free] at hfree
    | rds => exact same (hf _ _ _ e1) (hg _ _ _ e2)
    | vws => exact same (hf _ _ _ e1) (hg _ _ _ e2).1
    | new i => simp [Fp.free] at hfree
    | some rs w =>
      simp only [Fp.free, Option.isNone_iff_eq_none] at hfree
      obtain ⟨p, p1, p2, p3⟩ := hg
      rw [p3] at e2
      exact same (hf _ _ _ e1) (nw (p2.trans hfree) e2)
  | vws =>
    obtain ⟨rfl, hall⟩ := hf _ _ _ e1
    cases fy with
    | no => exact no_y rfl
    | all => simp [Fp.free] at hfree
    | rds => exact same rfl (hg _ _ _ e2)
    | vws => exact same rfl (hg _ _ _ e2).1
    | new i =>
      obtain ⟨hu, b, rfl, _⟩ := hg _ _ _ e2
      exact ⟨_, e2, hall _ _ hu⟩
    | some rs w =>
      simp only [Fp.free, Option.isNone_iff_eq_none] at hfree
      obtain ⟨p, p1, p2, p3⟩ := hg
      rw [p3] at e2
      exact same rfl (nw (p2.trans hfree) e2)
  | new i =>
    obtain ⟨hu, b, rfl, hall⟩ := hf _ _ _ e1
    cases fy with
    | no => exact no_y rfl
    | all => simp [Fp.free] at hfree
    | rds => simp [Fp.free] at hfree
    | vws => simp [Fp.free] at hfree
    | new j =>
      simp only [Fp.free, bne_iff_ne, ne_eq] at hfree
      obtain ⟨hu2, c, rfl, hall2⟩ := hg _ _ _ e2
      rw [bget_bset, if_neg (by rintro ⟨e, _⟩; exact hfree e.symm)] at hu2
      refine ⟨bset h j c, hall2 _ hu2, ?_⟩
      rw [bset_comm (fun e => hfree e.symm)]
      exact hall _ (by rw [bget_bset, if_neg (by rintro ⟨e, _⟩; exact hfree e)]; exact hu)
    | some rs w =>
      obtain ⟨n1, n2⟩ := noHit hfree
      obtain ⟨p, rfl, rfl, p3⟩ := hg
      rw [p3] at e2
      obtain ⟨bs, hbs, ⟨hf1, rfl⟩ | ⟨d, id, hf1, hw, hro, rfl⟩⟩ := Pl.go_cases e2
      · rw [bgets_bset n1] at hbs
        exact ⟨h, by rw [p3]; exact Pl.go_none hbs hf1, e1⟩
      · rw [bgets_bset n1] at hbs
        have hne : i ≠ id := by rintro rfl; exact n2 hw
        refine ⟨bset h id d, by rw [p3]; exact Pl.go_some hbs hf1 hw hro, ?_⟩
        rw [bset_comm hne]
        exact hall _ (by rw [bget_bset, if_neg (by rintro ⟨e, _⟩; exact hne e.symm)]; exact hu)
  | some rs w =>
    cases fy with
    | no => exact no_y rfl
    | all => simp [Fp.free] at hfree
    | rds =>
      simp only [Fp.free, Option.isNone_iff_eq_none] at hfree
      obtain ⟨p, p1, p2, p3⟩ := hf
      rw [p3] at e1
      exact same (nw (p2.trans hfree) e1) (hg _ _ _ e2)
    | vws =>
      simp only [Fp.free, Option.isNone_iff_eq_none] at hfree
      obtain ⟨p, p1, p2, p3⟩ := hf
      rw [p3] at e1
      exact same (nw (p2.trans hfree) e1) (hg _ _ _ e2).1
    | new i =>
      obtain ⟨n1, n2⟩ := noHit hfree
      obtain ⟨p, rfl, rfl, p3⟩ := hf
      rw [p3] at e1
      obtain ⟨hu, b, rfl, hall⟩ := hg _ _ _ e2
      obtain ⟨k1, k2⟩ := keep b n1 n2 e1
      rw [k2] at hu
      exact ⟨_, hall _ hu, by rw [p3]; exact k1⟩
    | some rs' w' =>
      simp only [Fp.free, Bool.and_eq_true, Bool.not_eq_true'] at hfree
      obtain ⟨p, rfl, rfl, p3⟩ := hf
      obtain ⟨q, rfl, rfl, q3⟩ := hg
      rw [p3] at e1; rw [q3] at e2
      obtain ⟨fr1, fr2⟩ := hfree
      obtain ⟨bs, hbs, ⟨hf1, rfl⟩ | ⟨b, id, hf1, hw, hro, rfl⟩⟩ := Pl.go_cases e1
      · obtain ⟨cs, hcs, ⟨hg1, rfl⟩ | ⟨c, id2, hg1, hw2, hro2, rfl⟩⟩ := Pl.go_cases e2
        · exact ⟨_, by rw [q3]; exact e2, by rw [p3]; exact e1⟩
        · rw [hw2] at fr1; simp only [hits, Bool.or_eq_false_iff, List.contains_eq_mem, decide_eq_false_iff_not] at fr1
          exact ⟨_, by rw [q3]; exact e2, by rw [p3]; exact Pl.go_none (by rw [bgets_bset fr1.1]; exact hbs) hf1⟩
      · rw [hw] at fr2; simp only [hits, Bool.or_eq_false_iff, List.contains_eq_mem, decide_eq_false_iff_not] at fr2
        obtain ⟨cs, hcs, hg1⟩ := Pl.go_cases e2
        rw [bgets_bset fr2.1] at hcs
        rcases hg1 with ⟨hg1, rfl⟩ | ⟨c, id2, hg1, hw2, hro2, rfl⟩
        · exact ⟨h, by rw [q3]; exact Pl.go_none hcs hg1, by rw [p3]; exact e1⟩
        · rw [hw2] at fr1; simp only [hits, Bool.or_eq_false_iff, List.contains_eq_mem, decide_eq_false_iff_not] at fr1
          have hne : id ≠ id2 := by rintro rfl; rw [hw] at fr1; simp at fr1
          refine ⟨bset h id2 c, by rw [q3]; exact Pl.go_some hcs hg1 hw2 hro2, ?_⟩
          rw [p3, bset_comm hne]
          exact Pl.go_some (by rw [bgets_bset fr1.1]; exact hbs) hf1 hw hro

end Go.Dr
