/- Chapter 06: gather: each list is sorted, whatever entry comes next. -/
import Derived.Test.YtfhphjloaelgoaaGreatDoorR06Gd
namespace Go.Dr.T
def srtE (seen : List Nat) (E : List Ent) : List Ent := E.mapIdx fun j e => if j ∈ seen then ⟨e.k, e.id, e.c, isort e.L⟩ else e
theorem srtE_get {seen : List Nat} {E : List Ent} {j : Nat} {e : Ent} (h : E[j]? = some e) : (srtE seen E)[j]? = some (if j ∈ seen then ⟨e.k, e.id, e.c, isort e.L⟩ else e) := by
  simp [srtE, h]
theorem srtE_nil (E : List Ent) : srtE [] E = E := by
  apply List.ext_getElem?
  intro j
  cases h : E[j]? with
  | none => simp [srtE, h]
  | some e => rw [srtE_get h]; simp
theorem srtE_len (seen : List Nat) (E : List Ent) : (srtE seen E).length = E.length := by simp [srtE]
theorem lv_len {id : Nat} {c : Bool} {L M : List Int} (h : L.length = M.length) : lv id c L = lv id c M := by
  cases L with
  | nil => cases M with
    | nil => rfl
    | cons y m => simp at h
  | cons x l => cases M with
    | nil => simp at h
    | cons y m => simp only [List.length_cons, Nat.add_right_cancel_iff] at h; simp only [lv, h]
theorem srtE_v (seen : List Nat) (E : List Ent) : entV (srtE seen E) = entV E := by
  apply List.ext_getElem?
  intro j
  cases h : E[j]? with
  | none => simp [entV, srtE, h]
  | some e =>
    simp only [entV, List.getElem?_map, srtE_get h, h, Option.map_some, Option.some.injEq]
    split
    · exact lv_len (isort_len _)
    · rfl
theorem srtE_k (seen : List Nat) (E : List Ent) : entK (srtE seen E) = entK E := by
  apply List.ext_getElem?
  intro j
  cases h : E[j]? with
  | none => simp [entK, srtE, h]
  | some e =>
    simp only [entK, List.getElem?_map, srtE_get h, h, Option.map_some, Option.some.injEq]
    split <;> rfl
theorem isort_nil_iff {L : List Int} : isort L = [] ↔ L = [] := by
  rw [← List.length_eq_zero_iff, isort_len, List.length_eq_zero_iff]
theorem srtE_snoc {seen : List Nat} {E : List Ent} {j : Nat} {e : Ent} (h : E[j]? = some e) : srtE (seen ++ [j]) E = (srtE seen E).set j ⟨e.k, e.id, e.c, isort e.L⟩ := by
  apply List.ext_getElem?
  intro i
  rw [List.getElem?_set]
  by_cases hi : j = i
  · subst hi
    rw [if_pos rfl, srtE_get h, if_pos (show j ∈ seen ++ [j] by simp), if_pos (by rw [srtE_len]; exact (List.getElem?_eq_some_iff.1 h).1)]
  · rw [if_neg hi]
    cases hq : E[i]? with
    | none => simp [srtE, hq]
    | some q =>
      rw [srtE_get hq, srtE_get hq]
      have : (i ∈ seen ++ [j]) ↔ i ∈ seen := by simp; intro h; exact absurd h.symm hi
      simp only [this]
theorem sort_at {x : B} {H G : List B} {id : Nat} {c : Bool} {L : List Int} {K : V → List B → Prop} (hb : L ≠ [] → bget H id = some (.blk (ofInts L) true)) (hl : L.length ≤ 140737488355328)
    (hk : K (.tup []) (hp x (if L = [] then H else bset H id (.blk (ofInts (isort L)) true)) ++ G)) : CallP FB md 0 (.fn 98 []) [lv id c L] (hp x H ++ G) K := by
  cases L with
  | nil =>
    refine call_kn1 (v := .tup []) (h' := hp x H ++ G) rfl rfl rfl rfl ?_
    rw [trunc_same rfl]
    simpa using hk
  | cons y r =>
    have hb := hb (by simp)
    have hbg : bget (hp x H ++ G) (id + 1) = some (.blk (ofInts (y :: r)) true) := HP.bget_o hb
    have hlt := bget_lt hb
    have hset : bset (hp x H ++ G) (id + 1) (.blk (ofInts (isort (y :: r))) true) = hp x (bset H id (.blk (ofInts (isort (y :: r))) true)) ++ G := by
      rw [bset_app (by rw [hp_length]; omega), hp_eq, hp_eq]; rfl
    have hol : (ofInts (y :: r)).length = r.length + 1 := by simp [ofInts]
    have hover : over (ofInts (y :: r)) 0 (ofInts (isort (y :: r))) = ofInts (isort (y :: r)) := by
      rw [over_eq _ _ _ (by simp [ofInts, isort_len])]
      have : (ofInts (isort (y :: r))).length = (ofInts (y :: r)).length := by simp [ofInts, isort_len]
      simp [this]
    have hints : intsOf (((ofInts (y :: r)).drop 0).take (r.length + 1)) = some (y :: r) := by
      rw [List.drop_zero, List.take_of_length_le (by omega)]
      have : ∀ l : List Int, intsOf (ofInts l) = some l := by
        intro l
        induction l with
        | nil => rfl
        | cons a l ih =>
          show (intsOf (ofInts l)).map (a :: ·) = _
          rw [ih]; rfl
      exact this _
    simp only [List.length_cons] at hl
    have hg : srtG 0 ([lv id c (y :: r)] ++ []) (hp x H ++ G) = some (.tup [], bset (hp x H ++ G) (id + 1) (.blk (ofInts (isort (y :: r))) true)) := by
      simp only [List.append_nil, lv, srtG]
      rw [if_neg (by omega), hbg]
      simp only
      rw [if_pos ⟨Nat.zero_le _, hol.symm, by omega, by omega⟩, hints]
      simp only
      rw [hover]
    refine call_kn1 (v := .tup []) rfl rfl rfl hg ?_
    rw [trunc_same (by rw [bset_len]), hset]
    simpa using hk
structure RS where
  seen : List Nat
  H : List B
structure ROk (E : List Ent) (n : Nat) (a : RS) : Prop where
  len : a.H.length = n
  gh : GH a.H (srtE a.seen E)
  nd : a.seen.Nodup
  bd : ∀ s ∈ a.seen, s < E.length
theorem lastO_snoc : ∀ {l : List Nat} {s : Nat}, lastO (l ++ [s]) = some s
  | [], _ => rfl
  | [a], s => rfl
  | a :: b :: l, s => by simpa only [List.cons_append, lastO] using lastO_snoc (l := b :: l) (s := s)
theorem range_get {n j s : Nat} (h : (List.range n)[j]? = some s) : s = j ∧ j < n := by
  obtain ⟨h1, h2⟩ := List.getElem?_eq_some_iff.1 h
  rw [List.getElem_range] at h2
  exact ⟨h2.symm, by simpa using h1⟩
theorem cur_of {E : List Ent} {seen : List Nat} {s : Nat} {e : Ent} (h : E[s]? = some e) : mcur (0 + 0) [.it (0 + 0) (entK E).length (entK E).length (seen ++ [s]), .mp (ofInts (entK E)) (entV E)] = some (.tup [.int .i64 e.k, e.v], none) := by
  have hs := (List.getElem?_eq_some_iff.1 h).1
  have hl : (ofInts (entK E)).length = E.length := by simp [ofInts, entK]
  have hl2 : (entK E).length = E.length := by simp [entK]
  have hid : (List.range E.length).idxOf s = s := by
    have := List.getElem_idxOf (x := s) (xs := List.range E.length) (by rw [List.idxOf_lt_length_iff]; exact List.mem_range.2 hs)
    rwa [List.getElem_range] at this
  simp only [mcur, if_true, lastO_snoc, B.ents, hl, hl2, hid, List.length_range, hs, decide_true, Bool.and_self]
  rw [tg_eq (l := ofInts (entK E)) (v := .int .i64 e.k) (by simp [ofInts, entK, h]), tg_eq (l := entV E) (v := e.v) (by simp [entV, h])]
theorem ROk.next {E : List Ent} {n : Nat} {a : RS} (o : ROk E n a) (gd : GD E) {s : Nat} {e : Ent} (hs : E[s]? = some e) (hn : s ∉ a.seen) : ROk E n ⟨a.seen ++ [s], if e.L = [] then a.H else bset a.H e.id (.blk (ofInts (isort e.L)) true)⟩ := by
  obtain ⟨o1, o2, o3, o4⟩ := o
  have hsl := (List.getElem?_eq_some_iff.1 hs).1
  refine ⟨?_, ?_, ?_, ?_⟩
  · dsimp only; split
    · exact o1
    · rw [bset_len]; exact o1
  · dsimp only
    rw [srtE_snoc hs]
    have hcur : (srtE a.seen E)[s]? = some e := by rw [srtE_get hs, if_neg hn]
    by_cases he : e.L = []
    · rw [if_pos he]
      exact o2.set fun hne => absurd (isort_nil_iff.2 he) hne
    · rw [if_neg he]
      have hb := o2 e (List.mem_of_getElem? hcur) he
      intro x hx hne
      obtain ⟨i, hi⟩ := List.getElem?_of_mem hx
      rw [List.getElem?_set] at hi
      by_cases his : s = i
      · rw [if_pos his] at hi
        split at hi
        · cases hi
          exact bget_same (bget_lt hb)
        · cases hi
      · rw [if_neg his] at hi
        have hxm := List.mem_of_getElem? hi
        rw [bset_other]
        · exact o2 x hxm hne
        · -- another entry lies in another block
          have hil := (List.getElem?_eq_some_iff.1 hi)
          have hie : i < E.length := by have := hil.1; rwa [srtE_len] at this
          have hq := srtE_get (seen := a.seen) (List.getElem?_eq_getElem hie)
          rw [hi] at hq
          have hid : x.id = E[i].id := by cases hq; split <;> rfl
          have hL : E[i].L ≠ [] := fun h0 => hne (by cases hq; split; exact isort_nil_iff.2 h0; exact h0)
          rw [hid]
          unfold GD at gd
          rw [List.pairwise_iff_getElem] at gd
          have hse : E[s] = e := (List.getElem?_eq_some_iff.1 hs).2
          by_cases hlt : s < i
          · have := gd s i hsl hie hlt (by rw [hse]; exact he) hL
            rw [hse] at this; exact this
          · have := gd i s hie hsl (by omega) hL (by rw [hse]; exact he)
            rw [hse] at this; exact this.symm
  · dsimp only
    rw [List.nodup_append]
    exact ⟨o3, by simp, fun x hx y hy => by rw [List.mem_singleton] at hy; subst hy; rintro rfl; exact hn hx⟩
  · dsimp only
    intro x hx
    rcases List.mem_append.1 hx with hx | hx
    · exact o4 x hx
    · rw [List.mem_singleton] at hx; subst hx; exact hsl
theorem nodup_le : ∀ {n : Nat} {l : List Nat}, l.Nodup → (∀ x ∈ l, x < n) → l.length ≤ n
  | 0, [], _, _ => Nat.le_refl _
  | 0, x :: l, _, h => absurd (h x (by simp)) (Nat.not_lt_zero _)
  | n + 1, l, hd, h => by
    by_cases hn : n ∈ l
    · have h1 := nodup_le (n := n) (l := l.erase n) (hd.erase n) (fun x hx => by
        have := h x (List.mem_of_mem_erase hx)
        have hne : x ≠ n := fun e => by subst e; exact ((List.Nodup.mem_erase_iff hd).1 hx).1 rfl
        omega)
      rw [List.length_erase_of_mem hn] at h1
      omega
    · exact Nat.le_succ_of_le (nodup_le hd fun x hx => by
        have := h x hx
        have hne : x ≠ n := fun e => hn (e ▸ hx)
        omega)
theorem ROk.more {E : List Ent} {n : Nat} {a : RS} (o : ROk E n a) {s : Nat} (hs : s < E.length) (hn : s ∉ a.seen) : a.seen.length < E.length := by
  have h1 : (a.seen ++ [s]).Nodup := by
    rw [List.nodup_append]
    exact ⟨o.nd, by simp, fun x hx y hy => by rw [List.mem_singleton] at hy; subst hy; rintro rfl; exact hn hx⟩
  have := nodup_le h1 (n := E.length) (by
    intro x hx
    rcases List.mem_append.1 hx with hx | hx
    · exact o.bd x hx
    · rw [List.mem_singleton] at hx; subst hx; exact hs)
  simp at this; omega
theorem srtE_all {E : List Ent} {seen : List Nat} (h : ∀ s ∈ List.range E.length, s ∈ seen) : srtE (List.range E.length) E = srtE seen E := by
  apply List.ext_getElem?
  intro j
  cases hq : E[j]? with
  | none => simp [srtE, hq]
  | some e =>
    have hj := List.mem_range.2 (List.getElem?_eq_some_iff.1 hq).1
    rw [srtE_get hq, srtE_get hq, if_pos hj, if_pos (h j hj)]
theorem view_map {E : List Ent} {H G : List B} (gh : GH H (srtE (List.range E.length) E)) {d : Nat} : V.view (hp (.mp (ofInts (entK E)) (entV E)) H ++ G) (d + 3) (.mr (0 + 0)) = some (gatV (E.map Ent.p)) := by
  have hk : ∀ l, mapO (V.view (hp (.mp (ofInts (entK E)) (entV E)) H ++ G) (d + 2)) (ofInts l) = some (ofInts l) := fun l => views_ints l
  have hv : ∀ l : List Ent, (∀ e ∈ l, ∃ j : Nat, E[j]? = some e) → mapO (V.view (hp (.mp (ofInts (entK E)) (entV E)) H ++ G) (d + 2)) (entV l) = some ((l.map Ent.p).map PE.v) := by
    intro l
    induction l with
    | nil => intro _; rfl
    | cons e l ih =>
      intro hl
      obtain ⟨j, hj⟩ := hl e (by simp)
      have hm : (srtE (List.range E.length) E)[j]? = some ⟨e.k, e.id, e.c, isort e.L⟩ := by
        rw [srtE_get hj, if_pos (List.mem_range.2 (List.getElem?_eq_some_iff.1 hj).1)]
      have h1 : V.view (hp (.mp (ofInts (entK E)) (entV E)) H ++ G) (d + 2) (lv e.id e.c (isort e.L)) = some (lw e.c (isort e.L)) :=
        view_lv fun hne => HP.bget_o (gh _ (List.mem_of_getElem? hm) hne)
      rw [lv_len (M := e.L) (isort_len _)] at h1
      have := (VwL.cons ⟨h1⟩ ⟨ih (fun x hx => hl x (by simp [hx]))⟩).1
      exact this
  have h3 := hv E fun e he => List.getElem?_of_mem he
  have hb : bget (hp (.mp (ofInts (entK E)) (entV E)) H ++ G) (0 + 0) = some (.mp (ofInts (entK E)) (entV E)) := HP.bget_0
  have e1 : (E.map Ent.p).map (·.k) = entK E := by simp [entK, Ent.p, Function.comp_def]
  show (match bget _ (0 + 0) with | some (.mp ks vs) => _ | _ => _) = _
  rw [hb]
  show (match mapO (V.view _ (d + 2)) (ofInts (entK E)) with | some a => _ | none => _) = _
  rw [hk]
  show (match mapO (V.view _ (d + 2)) (entV E) with | some b => some (V.rm (ofInts (entK E)) b) | none => none) = _
  rw [h3, gatV, e1]
end Go.Dr.T
