/- The door: single operations, sixth part: slicing. -/
import Derived.Test.YtigcchafpenhiaaDrOp5
namespace Go.Dr
open Go.RowKit (Below)

variable {P : Program} {k : K} {tm : List V} {ρ : Operand → Value} {o : Oper} {j base ro : Nat} {m : M} {p : Pl} {v : V} {h' : List B}

theorem bound_run {x : V} {y : Value} (hx : R k x y) {n m m' : Nat} (h : nat? m x = some n) (hm : m ≤ m') (c : BoundsCode) (w : World) :
    (Instr.sliceBound y m' c).run P w = .ok n w ∧ n ≤ m := by
  obtain ⟨kk, i, rfl, h0, h1, rfl⟩ := nat?_some h
  simp only [R] at hx; subst hx
  refine ⟨?_, by omega⟩
  simp [Instr.sliceBound, asIntOf, h0]
  omega

theorem cOo_cases (ht : Ops k tm ρ) {x : Option Operand} {y : Option O} (h : cOo x = some y) :
    (x = none ∧ y = none) ∨ ∃ a b, x = some a ∧ y = some b ∧ R k (b.ev tm) (ρ a) := by
  cases x with
  | none => simp [cOo] at h; exact .inl ⟨rfl, h.symm⟩
  | some a =>
    simp only [cOo] at h
    obtain ⟨b, hb, rfl⟩ := map_some h
    exact .inr ⟨a, b, rfl, rfl, ht.1 _ _ hb⟩

/-- The bounds of a slice expression: len is what may be used of cap. -/
theorem bounds_run (ht : Ops k tm ρ) {lo hi mx : Option Operand} {lo' hi' mx' : Option O} (hlo : cOo lo = some lo') (hhi : cOo hi = some hi') (hmx : cOo mx = some mx')
    (hmh : ¬ ((mx.isSome && hi.isNone) = true)) {len cap m h l : Nat} (hlc : len ≤ cap)
    (h1 : nato len len (evo tm mx') = some m) (h2 : nato m len (evo tm hi') = some h) (h3 : nato h 0 (evo tm lo') = some l) (b : Bool) (w : World) :
    ∃ mc, (Instr.sliceBounds b len cap (lo.map ρ) (hi.map ρ) (mx.map ρ)).run P w = .ok (l, h, mc) w ∧ l ≤ h ∧ h ≤ m ∧ m ≤ len ∧ m ≤ mc ∧ mc ≤ cap ∧ (mx' = none → mc = cap ∧ m = len) ∧ (mx' ≠ none → mc = m) := by
  have a1 : ∃ mc, (match mx.map ρ with
      | some v => Instr.sliceBound v cap (if b then .slice3Acap else .slice3Alen)
      | none => pure cap : Sem Nat).run P w = .ok mc w ∧ m ≤ len ∧ m ≤ mc ∧ mc ≤ cap ∧ (mx' = none → mc = cap ∧ m = len) ∧ (mx' ≠ none → mc = m) := by
    rcases cOo_cases ht hmx with ⟨rfl, rfl⟩ | ⟨x, y, rfl, rfl, hr⟩
    · simp only [evo, nato, Option.some.injEq] at h1; subst h1
      exact ⟨cap, by simp, Nat.le_refl _, hlc, Nat.le_refl _, fun _ => ⟨rfl, rfl⟩, fun h => absurd rfl h⟩
    · simp only [evo, nato] at h1
      obtain ⟨e1, e2⟩ := bound_run (P := P) hr h1 hlc (if b then .slice3Acap else .slice3Alen) w
      exact ⟨m, by simpa using e1, e2, Nat.le_refl _, by omega, fun h => by simp at h, fun _ => rfl⟩
  obtain ⟨mc, e1, e2, e3, e4, e5, e6⟩ := a1
  have a2 : h ≤ m ∧ (match hi.map ρ, mx.map ρ with
      | some v, some _ => Instr.sliceBound v mc .slice3B
      | some v, none => Instr.sliceBound v mc (if b then .sliceAcap else .sliceAlen)
      | none, none => pure len
      | none, some _ => stuck "Slice: max without high" : Sem Nat).run P w = .ok h w := by
    rcases cOo_cases ht hhi with ⟨rfl, rfl⟩ | ⟨x, y, rfl, rfl, hr⟩
    · simp only [evo, nato, Option.some.injEq] at h2; subst h2
      rcases cOo_cases ht hmx with ⟨rfl, rfl⟩ | ⟨x, y, rfl, rfl, hr⟩
      · exact ⟨by have := (e5 rfl).2; omega, by simp⟩
      · simp at hmh
    · simp only [evo, nato] at h2
      refine ⟨(bound_run (P := P) hr h2 e3 .sliceB w).2, ?_⟩
      cases mx with
      | none => simpa using (bound_run (P := P) hr h2 e3 _ w).1
      | some z => simpa using (bound_run (P := P) hr h2 e3 _ w).1
  obtain ⟨e7, e8⟩ := a2
  have a3 : l ≤ h ∧ (match lo.map ρ with
      | some v => Instr.sliceBound v h (if (mx.map ρ).isSome then .slice3C else .sliceB)
      | none => pure 0 : Sem Nat).run P w = .ok l w := by
    rcases cOo_cases ht hlo with ⟨rfl, rfl⟩ | ⟨x, y, rfl, rfl, hr⟩
    · simp only [evo, nato, Option.some.injEq] at h3; subst h3; exact ⟨Nat.zero_le _, by simp⟩
    · simp only [evo, nato] at h3
      exact ⟨(bound_run (P := P) hr h3 (Nat.le_refl _) .sliceB w).2, by simpa using (bound_run (P := P) hr h3 (Nat.le_refl _) _ w).1⟩
  obtain ⟨e9, e10⟩ := a3
  refine ⟨mc, ?_, e9, e7, e2, e3, e4, e5, e6⟩
  clear e5 e6 h1 h2 h3 hlo hhi hmx
  cases mx <;> cases hi <;> cases lo <;> simp_all [Instr.sliceBounds]

theorem cellsAt_append {w : World} {b : Nat} : ∀ {off : Nat} {xs ys : List Value}, cellsAt w b off (xs ++ ys) ↔ cellsAt w b off xs ∧ cellsAt w b (off + xs.length) ys
  | off, [], ys => by simp [cellsAt]
  | off, x :: xs, ys => by
    simp only [List.cons_append, cellsAt, List.length_cons, cellsAt_append (off := off + 1) (xs := xs), and_assoc]
    rw [show off + 1 + xs.length = off + (xs.length + 1) by omega]

theorem cellsAt_sub {w : World} {b off : Nat} {vs : List Value} (h : cellsAt w b off vs) (a n : Nat) : cellsAt w b (off + a) ((vs.drop a).take n) := by
  by_cases ha : a ≤ vs.length
  · have e := List.take_append_drop a vs
    rw [← e, cellsAt_append] at h
    have h2 := h.2
    rw [List.length_take, Nat.min_eq_left ha] at h2
    have e2 := List.take_append_drop n (vs.drop a)
    rw [← e2, cellsAt_append] at h2
    exact h2.1
  · rw [List.drop_eq_nil_of_le (by omega)]; simp [cellsAt]

theorem did_slice (g : Good P k) (ht : Ops k tm ρ) {x : Operand} {t : TypeId} {lo hi mx : Option Operand} (ho : o.op = .slice t x lo hi mx) (hc : cOp P j o.op = some m) (hp : plan base tm m = some p) (hg : p.go ro k.h = some (v, h')) :
    Did P ro k (execOp ρ o) v h' := by
  rw [ho] at hc; simp only [cOp] at hc
  split at hc
  · cases hc
  rename_i hmh
  split at hc <;> (try (cases hc; done))
  rename_i x' lo' hi' mx' hx hlo hhi hmx
  have h1 := ht.1 _ _ hx
  have hexec : execOp ρ o = (do pure (Next.value (← Instr.sliceAt t (ρ x) (lo.map ρ) (hi.map ρ) (mx.map ρ)))) := by simp only [execOp, ho]
  split at hc <;> (try (cases hc; done)) <;> rename_i hu
  · -- a slice
    rename_i e
    obtain ⟨n, hn, rfl⟩ := map_some hc
    have hat : ∀ z, Instr.sliceAt t z (lo.map ρ) (hi.map ρ) (mx.map ρ) = (underlying t >>= fun d => match d with
        | .array nn elem => do
          let a ← Instr.sureAddr z
          let (l, h, m) ← Instr.sliceBounds false nn nn (lo.map ρ) (hi.map ρ) (mx.map ρ)
          let size ← sizeOf elem
          pure (.slice (some (if m = l then a else a.add (l * size))) (h - l) (m - l))
        | _ => Instr.slice t z (lo.map ρ) (hi.map ρ) (mx.map ρ)) := fun z => rfl
    have hslice : ∀ a len cap l h mc, (Instr.sliceBounds true len cap (lo.map ρ) (hi.map ρ) (mx.map ρ)).run P k.w = .ok (l, h, mc) k.w →
        (Instr.sliceAt t (.slice a len cap) (lo.map ρ) (hi.map ρ) (mx.map ρ)).run P k.w = .ok (.slice (if mc = l then a else a.map (·.add (l * n))) (h - l) (mc - l)) k.w := by
      intro a len cap l h mc hb
      rw [hat]
      simp only [Sem.run_bind, run_underlying hu, Result.andThen_ok, Instr.slice, hb, szOf_run hn, Sem.run_pure]
    simp only [plan] at hp
    split at hp <;> (try (cases hp; done)) <;> (rename_i ex; rw [ex] at h1) <;> simp only [R] at h1
    · -- nil
      split at hp <;> (try (cases hp; done))
      rename_i m1 h2 l3 e1 e2 e3
      have z1 : m1 = 0 := by
        rcases cOo_cases ht hmx with ⟨rfl, rfl⟩ | ⟨a, b, rfl, rfl, hr⟩
        · simpa [evo, nato] using e1.symm
        · obtain ⟨_, _, _, _, _, rfl⟩ := nat?_some (by simpa [evo, nato] using e1); omega
      have z2 : h2 = 0 := by
        rcases cOo_cases ht hhi with ⟨rfl, rfl⟩ | ⟨a, b, rfl, rfl, hr⟩
        · simpa [evo, nato] using e2.symm
        · obtain ⟨_, _, _, _, _, rfl⟩ := nat?_some (by simpa [evo, nato] using e2); omega
      subst z1 z2
      obtain ⟨mc, hb, b1, b2, b3, b4, b5, b6, b7⟩ := bounds_run (P := P) ht hlo hhi hmx hmh (Nat.le_refl 0) e1 e2 e3 true k.w
      have hmc : mc = 0 := by omega
      have hl3 : l3 = 0 := by omega
      subst hmc hl3
      exact fin_val g hp hg (y := .slice none 0 0) (by rw [hexec, h1]; exact exec_v (by simpa using hslice _ _ _ _ _ _ hb)) (by simp only [R])
    · -- a snapshot
      rename_i clip len cs
      split at hp <;> (try (cases hp; done))
      rename_i m1 e1
      split at hp <;> (try (cases hp; done))
      rename_i h2 e2
      split at hp <;> (try (cases hp; done))
      rename_i l3 e3
      split at hp <;> (try (cases hp; done))
      rename_i r hr
      rcases h1 with ⟨a, hxv, rfl, rfl⟩ | ⟨b, off, cap, vs, hxv, hok, hca, hl, hpu, hlc, hclip⟩
      · obtain ⟨mc, hb, b1, b2, b3, b4, b5, b6, b7⟩ := bounds_run (P := P) ht hlo hhi hmx hmh (Nat.le_refl 0) e1 e2 e3 true k.w
        have hmc : mc = 0 := by omega
        have hl3 : l3 = 0 := by omega
        have hh2 : h2 = 0 := by omega
        subst hmc hl3 hh2
        obtain ⟨rfl, hrl⟩ := part_some hr
        refine fin_val g hp hg (y := .slice a 0 0) (by rw [hexec, hxv]; exact exec_v (by simpa using hslice _ _ _ _ _ _ hb)) ?_
        simp only [R]
        exact .inl ⟨a, rfl, by simp, by simp⟩
      obtain ⟨mc, hb, b1, b2, b3, b4, b5, b6, b7⟩ := bounds_run (P := P) ht hlo hhi hmx hmh hlc e1 e2 e3 true k.w
      obtain ⟨rfl, hrl⟩ := part_some hr
      refine fin_val g hp hg (y := .slice (some (if mc = l3 then ⟨b, off, none⟩ else ⟨b, off + l3 * n, none⟩)) (h2 - l3) (mc - l3)) (by
        rw [hexec, hxv]; refine exec_v ?_
        rw [hslice _ _ _ _ _ _ hb]
        by_cases e : mc = l3 <;> simp [e, Addr.add_lit]) ?_
      simp only [R]
      refine .inr ⟨b, if mc = l3 then off else off + l3 * n, mc - l3, if mc = l3 then [] else (vs.drop (l3 * n)).take ((h2 - l3) * n), by split <;> rfl, hok.sub fun h => by rw [h]; simp, ?_, ?_, ?_, by omega, ?_⟩
      · split
        · exact trivial
        · exact cellsAt_sub hca _ _
      · split
        · rename_i e
          have : h2 - l3 = 0 := by omega
          simp [this, RL]
        · exact RL.take _ (RL.drop _ hl)
      · exact ⟨ones_take (ones_drop hpu.1 _) _, blos_take (blos_drop hpu.2 _) _⟩
      · intro hcl
        cases mx' with
        | none =>
          simp only [Option.isSome_none, Bool.false_eq_true, if_false, Bool.and_eq_true, decide_eq_true_eq] at hcl
          have := hclip hcl.1; have := b6 rfl; omega
        | some z =>
          simp only [Option.isSome_some, if_true, decide_eq_true_eq] at hcl
          have := b7 (by simp); omega
    · -- of an own block
      rename_i es id gg off len clip
      obtain ⟨b, o', cap, c, dat, hxv, hbk, hgc, hlc, hclip, hpos⟩ := h1
      split at hp <;> (try (cases hp; done))
      rename_i hes
      subst hes
      split at hp <;> (try (cases hp; done))
      rename_i m1 e1
      split at hp <;> (try (cases hp; done))
      rename_i h2 e2
      split at hp <;> (try (cases hp; done))
      rename_i l3 e3
      obtain ⟨mc, hb, b1, b2, b3, b4, b5, b6, b7⟩ := bounds_run (P := P) ht hlo hhi hmx hmh hlc e1 e2 e3 true k.w
      refine fin_val g hp hg (y := .slice (some (if mc = l3 then ⟨b, o', none⟩ else ⟨b, o' + l3 * es, none⟩)) (h2 - l3) (mc - l3)) (by
        rw [hexec, hxv]; refine exec_v ?_
        rw [hslice _ _ _ _ _ _ hb]
        by_cases e : mc = l3 <;> simp [e, Addr.add_lit]) ?_
      simp only [R]
      refine ⟨b, if mc = l3 then o' else o' + l3 * es, mc - l3, c, dat, by split <;> rfl, hbk, hgc, by omega, ?_, fun hgl => ?_⟩
      · intro hcl
        cases mx' with
        | none =>
          simp only [Option.isSome_none, Bool.false_eq_true, if_false, Bool.and_eq_true, decide_eq_true_eq] at hcl
          have := hclip hcl.1; have := b6 rfl; omega
        | some z =>
          simp only [Option.isSome_some, if_true, decide_eq_true_eq] at hcl
          have := b7 (by simp); omega
      · obtain ⟨p1, p0, p2⟩ := hpos hgl
        have hle : l3 * es + (h2 - l3) * es ≤ len * es := by
          rw [← Nat.add_mul]; exact Nat.mul_le_mul_right _ (by omega)
        refine ⟨by omega, p0, fun hc0 => ?_⟩
        have hne : ¬ mc = l3 := by omega
        obtain ⟨p3, p4, p5⟩ := p2 (by omega)
        simp only [hne, if_false]
        refine ⟨p3, by omega, fun hcf hes hend => ?_⟩
        have hh : h2 = len := by
          have e1 : l3 * es + (h2 - l3) * es = h2 * es := by rw [← Nat.add_mul]; congr 1; omega
          have e2 : h2 * es = len * es := by
            have := Nat.mul_le_mul_right es (show h2 ≤ len by omega)
            omega
          exact Nat.eq_of_mul_eq_mul_right hes e2
        subst hh
        have hmx0 : mx' = none := by
          cases mx' with
          | none => rfl
          | some z =>
            simp only [Option.isSome_some, if_true, decide_eq_false_iff_not] at hcf
            omega
        obtain ⟨q1, q2⟩ := b6 hmx0
        subst q1 hmx0
        have hcc : clip = false := by simpa using hcf
        have hsum : l3 * es + (mc - l3) * es = mc * es := by rw [← Nat.add_mul]; congr 1; omega
        have hsum2 : l3 * es + (h2 - l3) * es = h2 * es := by rw [← Nat.add_mul]; congr 1; omega
        rw [p5 hcc hes (by omega)]; congr 1; omega
  · -- a string
    split at hc <;> (try (cases hc; done))
    rename_i hmx0
    cases hc
    have hmx1 : mx = none := by
      rcases cOo_cases ht hmx with ⟨h, _⟩ | ⟨a, b, _, h, _⟩
      · exact h
      · subst h; simp at hmx0
    subst hmx1
    simp only [plan] at hp
    split at hp <;> (try (cases hp; done))
    rename_i s ex
    rw [ex] at h1; simp only [R] at h1
    split at hp <;> (try (cases hp; done))
    rename_i h2 e2
    split at hp <;> (try (cases hp; done))
    rename_i l3 e3
    obtain ⟨mc, hb, b1, b2, b3, b4, b5, b6, b7⟩ := bounds_run (P := P) (mx := none) (mx' := none) ht hlo hhi (by simp [cOo]) (by simp) (Nat.le_refl s.length) (m := s.length) (by simp [evo, nato]) e2 e3 false k.w
    refine fin_val g hp hg (y := .string ((⟨s.toArray⟩ : ByteArray).extract l3 h2)) (by
      rw [hexec, h1]; refine exec_v ?_
      have hsz : (⟨s.toArray⟩ : ByteArray).size = s.length := by simp [ByteArray.size]
      simp only [Option.map_none] at hb
      simp only [Instr.sliceAt, Sem.run_bind, run_underlying hu, Result.andThen_ok, Instr.slice, hsz, Option.map_none, Option.isSome_none, Bool.false_eq_true, if_false, hb, Sem.run_pure]) ?_
    simp only [R, Value.string.injEq]
    apply ByteArray.ext
    simp [ByteArray.data_extract]
  · -- an array's part
    rename_i n e
    obtain ⟨es, hn, rfl⟩ := map_some hc
    simp only [plan] at hp
    split at hp <;> (try (cases hp; done))
    rename_i m1 e1
    split at hp <;> (try (cases hp; done))
    rename_i h2 e2
    split at hp <;> (try (cases hp; done))
    rename_i l3 e3
    obtain ⟨mc, hb, b1, b2, b3, b4, b5, b6, b7⟩ := bounds_run (P := P) ht hlo hhi hmx hmh (Nat.le_refl n) e1 e2 e3 false k.w
    have hmc : mc = m1 := by
      by_cases e : mx' = none
      · have := b6 e; omega
      · exact b7 e
    subst hmc
    have hrun : ∀ b o', (Instr.sliceAt t (.pointer (some ⟨b, o', none⟩)) (lo.map ρ) (hi.map ρ) (mx.map ρ)).run P k.w = .ok (.slice (some (if mc = l3 then ⟨b, o', none⟩ else ⟨b, o' + l3 * es, none⟩)) (h2 - l3) (mc - l3)) k.w := by
      intro b o'
      simp only [Instr.sliceAt, Sem.run_bind, run_underlying hu, Result.andThen_ok, Instr.sureAddr, Sem.run_pure, hb, szOf_run hn, Addr.add_lit]
    split at hp <;> (try (cases hp; done)) <;> (rename_i ex; rw [ex] at h1) <;> simp only [R] at h1
    · rename_i id gg off
      obtain ⟨b, o', c, dat, hxv, hbk, hgc, hpos⟩ := h1
      cases hp
      simp only [Pl.go, bgets, hbk] at hg
      split at hg
      · cases hg
      · rename_i v0 hv0
        split at hv0
        · rename_i hcond
          simp only [Bool.and_eq_true, decide_eq_true_eq] at hcond
          simp only [Option.some.injEq, Prod.mk.injEq] at hv0 hg
          obtain ⟨rfl, _⟩ := hv0
          obtain ⟨rfl, rfl⟩ := hg
          refine ⟨_, k, .inl (by rw [hexec, hxv]; exact exec_v (hrun b o')), rfl, g, Ev.refl _ _ _, ?_⟩
          simp only [R]
          refine ⟨b, if mc = l3 then o' else o' + l3 * es, mc - l3, c, dat, by split <;> rfl, hbk, hgc, by omega, fun h => by simp only [decide_eq_true_eq] at h; omega, fun hgl => ?_⟩
          obtain ⟨p1, p2⟩ := hpos hgl
          have hle : l3 * es + (h2 - l3) * es = h2 * es := by rw [← Nat.add_mul]; congr 1; omega
          have hle2 := Nat.mul_le_mul_right es (show h2 ≤ n by omega)
          refine ⟨by omega, p1, fun hc0 => ?_⟩
          have hne : ¬ mc = l3 := by omega
          simp only [hne, if_false]
          refine ⟨p1, by omega, fun hcf hes hend => ?_⟩
          exfalso
          simp only [decide_eq_false_iff_not] at hcf
          have : h2 * es < n * es := Nat.mul_lt_mul_of_pos_right (by omega) hes
          omega
        · cases hv0
      · rename_i v0 b0 hv0
        split at hv0 <;> cases hv0
    · rename_i cs off
      split at hp <;> (try (cases hp; done))
      rename_i r hr
      obtain ⟨rfl, hrl⟩ := part_some hr
      obtain ⟨b, o', vs, hxv, hok, hca, hl, hpu⟩ := h1
      refine fin_val g hp hg (y := .slice (some (if mc = l3 then ⟨b, o' + off, none⟩ else ⟨b, o' + off + l3 * es, none⟩)) (h2 - l3) (mc - l3)) (by rw [hexec, hxv]; exact exec_v (hrun _ _)) ?_
      simp only [R]
      refine .inr ⟨b, if mc = l3 then o' + off else o' + off + l3 * es, mc - l3, if mc = l3 then [] else (vs.drop (off + l3 * es)).take ((h2 - l3) * es), by split <;> rfl, hok.sub fun h => by rw [h]; simp, ?_, ?_, ?_, by omega, ?_⟩
      · split
        · exact trivial
        · rw [Nat.add_assoc]; exact cellsAt_sub hca _ _
      · split
        · have : h2 - l3 = 0 := by omega
          simp [this, RL]
        · exact RL.take _ (RL.drop _ hl)
      · exact ⟨ones_take (ones_drop hpu.1 _) _, blos_take (blos_drop hpu.2 _) _⟩
      · intro h; simp only [decide_eq_true_eq] at h; omega

end Go.Dr
