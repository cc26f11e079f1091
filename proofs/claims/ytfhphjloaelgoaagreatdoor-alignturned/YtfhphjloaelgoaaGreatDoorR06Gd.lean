/- Chapter 06: gather: its rounds. -/
import Derived.Test.YtfhphjloaelgoaaGreatDoorR06Gc
namespace Go.Dr.T
theorem nextG {α : Type} {P : α → Prop} {I : α → St} {μ : α → Nat} {a : α} {mk : List Bool} {hl : Nat} {tm : List V} {x0 : B} {H G l0 : List B} {ks vs : List V} {E' : List Ent} (f : List B → α) (hk : ks = ofInts (entK E')) (hv : vs = entV E') (h : GH (H ++ G) E') (hh : hl = (hp x0 l0).length) (hn : l0.length ≤ H.length)
    (h1 : ∀ T, l0.length ≤ T.length → GH T E' → P (f T)) (h2 : ∀ T, μ (f T) < μ a) (h3 : ∀ T, (⟨masked mk tm, hp (.mp (ofInts (entK E')) (entV E')) T⟩ : St) = I (f T)) : NextP P I μ a (norm mk hl ⟨tm, hp (.mp ks vs) H ++ G⟩) := by
  subst hk hv
  obtain ⟨T, e1, e2, e3⟩ := h.norm (mk := mk) (tm := tm) (ks := ofInts (entK E')) hh hn
  exact NextP.mk (f T) (h1 T e2 e3) (h2 T) (e1.trans (h3 T))
theorem nextG0 {α : Type} {P : α → Prop} {I : α → St} {μ : α → Nat} {a : α} {mk : List Bool} {hl : Nat} {tm : List V} {x0 : B} {H l0 : List B} {ks vs : List V} {E' : List Ent} (f : List B → α) (hk : ks = ofInts (entK E')) (hv : vs = entV E') (h : GH H E') (hh : hl = (hp x0 l0).length) (hn : l0.length ≤ H.length)
    (h1 : ∀ T, l0.length ≤ T.length → GH T E' → P (f T)) (h2 : ∀ T, μ (f T) < μ a) (h3 : ∀ T, (⟨masked mk tm, hp (.mp (ofInts (entK E')) (entV E')) T⟩ : St) = I (f T)) : NextP P I μ a (norm mk hl ⟨tm, hp (.mp ks vs) H⟩) := by
  have := nextG (P := P) (I := I) (μ := μ) (a := a) (tm := tm) (G := []) f hk hv (by simpa using h) hh hn h1 h2 h3
  rwa [List.append_nil] at this
theorem map_set {E : List Ent} (nd : (entK E).Nodup) {j : Nat} {e e' : Ent} (hj : E[j]? = some e) : (E.set j e').map Ent.p = (E.map Ent.p).map fun q => if q.k = e.k then e'.p else q := by
  apply List.ext_getElem?
  intro i
  rw [List.getElem?_map, List.getElem?_map, List.getElem?_map, List.getElem?_set]
  by_cases hi : j = i
  · subst hi
    rw [if_pos rfl, if_pos (List.getElem?_eq_some_iff.1 hj).1, hj]
    simp [Ent.p]
  · rw [if_neg hi]
    cases hq : E[i]? with
    | none => rfl
    | some q =>
      have hne : q.k ≠ e.k := fun hk => hi ((List.getElem?_inj (l := entK E) (i := j) (j := i) (by simpa [entK] using (List.getElem?_eq_some_iff.1 hj).1) nd).1 (by simp [entK, hj, hq, hk]))
      simp only [Option.map_some, Option.some.injEq]
      rw [if_neg (by simpa [Ent.p] using hne)]
theorem p_up {E : List Ent} (nd : (entK E).Nodup) {j id : Nat} {e : Ent} {a m : Int} (hj : E[j]? = some e) (hk : e.k = a) (hm : m ∉ e.L) : (E.set j ⟨a, id, false, e.L ++ [m]⟩).map Ent.p = pUp (E.map Ent.p) a m := by
  rw [map_set nd hj, pUp]
  apply List.map_congr_left
  intro q hq
  obtain ⟨x, hx, rfl⟩ := List.mem_map.1 hq
  by_cases h : x.k = a
  · have hxe : x = e := by
      obtain ⟨i, hi⟩ := List.getElem?_of_mem hx
      have := (List.getElem?_inj (l := entK E) (i := j) (j := i) (by simpa [entK] using (List.getElem?_eq_some_iff.1 hj).1) nd).1 (by simp [entK, hj, hi, hk, h])
      subst this; rw [hj] at hi; cases hi; rfl
    subst hxe
    rw [if_pos (show x.p.k = x.k from rfl), if_pos ⟨h, hm⟩]
    simp [Ent.p, h]
  · rw [if_neg (by rw [hk]; exact h), if_neg (fun hh => h hh.1)]
theorem p_none {E : List Ent} (nd : (entK E).Nodup) {j : Nat} {e : Ent} {a m : Int} (hj : E[j]? = some e) (hk : e.k = a) (hm : m ∈ e.L) : pUp (E.map Ent.p) a m = E.map Ent.p := by
  unfold pUp
  conv => rhs; rw [← List.map_id (E.map Ent.p)]
  apply List.map_congr_left
  intro q hq
  obtain ⟨x, hx, rfl⟩ := List.mem_map.1 hq
  refine if_neg fun ⟨h, hh⟩ => ?_
  obtain ⟨i, hi⟩ := List.getElem?_of_mem hx
  have := (List.getElem?_inj (l := entK E) (i := j) (j := i) (by simpa [entK] using (List.getElem?_eq_some_iff.1 hj).1) nd).1 (by simp [entK, hj, hi, hk]; exact h.symm)
  subst this; rw [hj] at hi; cases hi
  exact hh hm
theorem p_cl {E : List Ent} (nd : (entK E).Nodup) {j : Nat} {e : Ent} {m : Int} (hj : E[j]? = some e) (hk : e.k = m) : (E.set j ⟨m, e.id, true, e.L⟩).map Ent.p = pCl (E.map Ent.p) m := by
  have hin : m ∈ (E.map Ent.p).map (·.k) := by
    rw [List.mem_map]; exact ⟨e.p, List.mem_map.2 ⟨e, List.mem_of_getElem? hj, rfl⟩, hk⟩
  rw [map_set nd hj, pCl, if_pos hin]
  apply List.map_congr_left
  intro q hq
  obtain ⟨x, hx, rfl⟩ := List.mem_map.1 hq
  by_cases h : x.k = m
  · have hxe : x = e := by
      obtain ⟨i, hi⟩ := List.getElem?_of_mem hx
      have := (List.getElem?_inj (l := entK E) (i := j) (j := i) (by simpa [entK] using (List.getElem?_eq_some_iff.1 hj).1) nd).1 (by simp [entK, hj, hi, hk, h])
      subst this; rw [hj] at hi; cases hi; rfl
    subst hxe
    rw [if_pos (show x.p.k = x.k from rfl), if_pos (show x.p.k = m from h)]
    simp [Ent.p, h]
  · rw [if_neg (by rw [hk]; exact h), if_neg (show ¬ x.p.k = m from h)]
theorem p_new {E : List Ent} {m : Int} (hm : m ∉ entK E) : (E ++ [(⟨m, 0, true, []⟩ : Ent)]).map Ent.p = pCl (E.map Ent.p) m := by
  rw [pCl, if_neg (by simpa [entK, Ent.p] using hm)]
  simp [Ent.p]
theorem fold_snoc {l : List (Int × Int)} {j : Nat} {p : Int × Int} {s : List PE × Int} (hp : l[j]? = some p) : (l.take (j + 1)).foldl pStep s = pStep ((l.take j).foldl pStep s) p := by
  have : l.take (j + 1) = l.take j ++ [p] := by rw [List.take_add_one, hp]; rfl
  rw [this, List.foldl_append]; rfl
theorem marks_snoc {l : List El} {i : Nat} {x : El} (hx : l[i]? = some x) : marksOf (l.take (i + 1)) = marksOf (l.take i) ++ known x.l := by
  have : l.take (i + 1) = l.take i ++ [x] := by rw [List.take_add_one, hx]; rfl
  rw [this]; simp [marksOf]
theorem dirs_snoc {l : List El} {i : Nat} {x : El} (hx : l[i]? = some x) : dirsOf (l.take (i + 1)) = dirsOf (l.take i) ++ nexts (known x.l) := by
  have : l.take (i + 1) = l.take i ++ [x] := by rw [List.take_add_one, hx]; rfl
  rw [this]; simp [dirsOf]
theorem pAll_snoc {l : List El} {i : Nat} {x : El} (hx : l[i]? = some x) : pAll (l.take (i + 1)) = pEl (pAll (l.take i)) x := by
  have : l.take (i + 1) = l.take i ++ [x] := by rw [List.take_add_one, hx]; rfl
  rw [this]; simp [pAll, List.foldl_append]
theorem known_pos {l : List (Int × Int)} (h : ∀ i p, l[i]? = some p → 0 ≤ p.1 ∧ p.1 ≤ 999 ∧ 1 ≤ p.2 ∧ p.2 ≤ 200000 ∧ (p.1 ≠ 0 → p.1 ∉ (l.take i).map (·.1))) {j : Nat} {m : Int} (hm : m ∈ known (l.take j)) : 0 < m := by
  have h0 := known_ne hm
  obtain ⟨p, hp, rfl⟩ := List.mem_map.1 (known_sub hm)
  obtain ⟨i, hi⟩ := List.getElem?_of_mem (List.mem_of_mem_take hp)
  have := (h i p hi).1
  omega
structure OS where
  i : Nat
  H : List B
  E : List Ent
structure OOk (l : List El) (a : OS) : Prop where
  le : a.i ≤ l.length
  gh : GH a.H a.E
  gd : GD a.E
  ge : GE a.E (marksOf (l.take a.i)) (dirsOf (l.take a.i))
  pe : a.E.map Ent.p = pAll (l.take a.i)
  du : dupF [] l = dupF (l.take a.i) (l.drop a.i)
  bd : ∀ e ∈ a.E, e.L.length ≤ 41 * a.i
structure IS where
  j : Nat
  H : List B
  E : List Ent
structure IOk (i : Nat) (F0 : List PE) (A : List Int) (D : List (Int × Int)) (n0 : Nat) (l : List (Int × Int)) (a : IS) : Prop where
  le : a.j ≤ l.length
  ln : n0 ≤ a.H.length
  gh : GH a.H a.E
  gd : GD a.E
  ge : GE a.E (A ++ known (l.take a.j)) (D ++ nexts (known (l.take a.j)))
  pe : (a.E.map Ent.p, lastM (known (l.take a.j))) = (l.take a.j).foldl pStep (F0, 0)
  cl : ∀ e ∈ a.E, known (l.take a.j) ≠ [] → e.k = lastM (known (l.take a.j)) → e.c = true
  bd : ∀ e ∈ a.E, e.L.length ≤ 41 * i + a.j
theorem IOk.zero {i : Nat} {F0 : List PE} {A : List Int} {D : List (Int × Int)} {n0 : Nat} {l : List (Int × Int)} {j : Nat} {H T : List B} {E : List Ent} {f : Int} (o : IOk i F0 A D n0 l ⟨j, H, E⟩) (hp : l[j]? = some (0, f)) (h1 : n0 ≤ T.length) (h2 : GH T E) : IOk i F0 A D n0 l ⟨j + 1, T, E⟩ := by
  obtain ⟨p1, p2, p3, p4, p5, p6, p7, p8⟩ := o
  dsimp only at p1 p2 p3 p4 p5 p6 p7 p8
  have hks := known_snoc hp
  rw [if_pos rfl] at hks
  refine ⟨(List.getElem?_eq_some_iff.1 hp).1, h1, h2, p4, ?_, ?_, ?_, fun e he => ?_⟩
  · dsimp only; rw [hks]; exact p5
  · dsimp only; rw [hks, fold_snoc hp, ← p6]; rfl
  · dsimp only; rw [hks]; exact p7
  · have := p8 e he; dsimp only at *; omega
theorem IOk.mark {i : Nat} {F0 : List PE} {A : List Int} {D : List (Int × Int)} {n0 : Nat} {l : List (Int × Int)} {j : Nat} {T : List B} {E E1 E2 : List Ent} {m f : Int} (hE : (E.map Ent.p, lastM (known (l.take j))) = (l.take j).foldl pStep (F0, 0)) (hp : l[j]? = some (m, f)) (hm : m ≠ 0) (hne : ∀ x ∈ known (l.take j), 0 < x)
    (g1 : GE E1 (A ++ known (l.take j)) (D ++ (nexts (known (l.take j)) ++ (if known (l.take j) = [] then [] else [(lastM (known (l.take j)), m)])))) (d1 : GD E1) (b1 : ∀ e ∈ E1, e.L.length ≤ 41 * i + (j + 1))
    (hup : E1.map Ent.p = if known (l.take j) = [] then E.map Ent.p else pUp (E.map Ent.p) (lastM (known (l.take j))) m)
    (h2 : (∃ jm em, E1[jm]? = some em ∧ em.k = m ∧ E2 = E1.set jm ⟨m, em.id, true, em.L⟩) ∨ (m ∉ entK E1 ∧ (∀ b, (m, b) ∉ D ++ (nexts (known (l.take j)) ++ (if known (l.take j) = [] then [] else [(lastM (known (l.take j)), m)]))) ∧ E2 = E1 ++ [⟨m, 0, true, []⟩]))
    (h1 : n0 ≤ T.length) (h3 : GH T E2) : IOk i F0 A D n0 l ⟨j + 1, T, E2⟩ := by
  have hks := known_snoc hp
  rw [if_neg hm] at hks
  simp only at hks
  have hstep : (l.take (j + 1)).foldl pStep (F0, 0) = (pCl (E1.map Ent.p) m, m) := by
    rw [fold_snoc hp, ← hE, pStep, if_neg hm]
    simp only
    congr 2
    rw [hup]
    by_cases hk : known (l.take j) = []
    · rw [if_pos hk, hk, if_neg (by simp [lastM])]
    · rw [if_neg hk, if_pos (hne _ (lastM_mem hk))]
  have hA : ∀ k, k ∈ (A ++ known (l.take j)) ++ [m] ↔ k ∈ A ++ known (l.take (j + 1)) := fun k => by rw [hks, List.append_assoc]
  have hD : ∀ p, p ∈ D ++ (nexts (known (l.take j)) ++ (if known (l.take j) = [] then [] else [(lastM (known (l.take j)), m)])) ↔ p ∈ D ++ nexts (known (l.take (j + 1))) := fun p => by rw [hks, nexts_snoc]
  have hlast : lastM (known (l.take (j + 1))) = m := by rw [hks, lastM_snoc]
  rcases h2 with ⟨jm, em, hj, hk, rfl⟩ | ⟨hmk, hmd, rfl⟩
  · have hge := GE.put g1 (e' := ⟨m, em.id, true, em.L⟩) hj hk.symm rfl
    have hmA : m ∈ A ++ known (l.take j) := (g1.ks m).1 (by rw [← hk]; exact List.mem_map.2 ⟨em, List.mem_of_getElem? hj, rfl⟩)
    refine ⟨(List.getElem?_eq_some_iff.1 hp).1, h1, h3, ?_, hge.same (fun k => ?_) hD, ?_, fun e he _ hek => ?_, fun e he => ?_⟩
    · unfold GD at d1 ⊢
      exact GD.set d1 fun i x hi hne h1 h2 => by
        have hjl := (List.getElem?_eq_some_iff.1 hj)
        have hil := (List.getElem?_eq_some_iff.1 hi)
        rw [List.pairwise_iff_getElem] at d1
        by_cases hlt : i < jm
        · have := d1 i jm hil.1 hjl.1 hlt
          rw [hil.2, hjl.2] at this
          exact this h1 h2
        · have := d1 jm i hjl.1 hil.1 (by omega)
          rw [hil.2, hjl.2] at this
          exact (this h2 h1).symm
    · rw [← hA, List.mem_append (s := A ++ known (l.take j))]
      constructor
      · exact .inl
      · rintro (h | h)
        · exact h
        · rw [List.mem_singleton] at h; subst h; exact hmA
    · dsimp only; rw [hstep, hlast, p_cl g1.nd hj hk]
    · dsimp only at hek he; rw [hlast] at hek
      rcases List.mem_or_eq_of_mem_set he with hx | rfl
      · obtain ⟨q, hq⟩ := List.getElem?_of_mem he
        rw [List.getElem?_set] at hq
        split at hq
        · split at hq
          · cases hq; rfl
          · cases hq
        · rename_i hne
          exfalso
          have hne2 := (List.getElem?_inj (l := entK E1) (i := jm) (j := q) (by simpa [entK] using (List.getElem?_eq_some_iff.1 hj).1) g1.nd).1 (by simp [entK, hj, hq, hk, hek])
          exact hne hne2
      · rfl
    · rcases List.mem_or_eq_of_mem_set he with hx | rfl
      · exact b1 e hx
      · exact b1 em (List.mem_of_getElem? hj)
  · have hnA : m ∉ A ++ known (l.take j) := fun h => hmk ((g1.ks m).2 h)
    have hge := GE.new g1 (e := ⟨m, 0, true, []⟩) hnA rfl hmd
    refine ⟨(List.getElem?_eq_some_iff.1 hp).1, h1, h3, d1.snoc rfl, hge.same hA hD, ?_, fun e he _ hek => ?_, fun e he => ?_⟩
    · dsimp only; rw [hstep, hlast, p_new hmk]
    · dsimp only at hek he; rw [hlast] at hek
      rcases List.mem_append.1 he with hx | hx
      · exfalso; exact hmk (hek ▸ List.mem_map.2 ⟨e, hx, rfl⟩)
      · rw [List.mem_singleton] at hx; subst hx; rfl
    · rcases List.mem_append.1 he with hx | hx
      · exact b1 e hx
      · rw [List.mem_singleton] at hx; subst hx; simp
end Go.Dr.T
