/- Chapter 06: gather: the marks of elements, and which are directly behind which: the state. -/
import Derived.Test.YtfhphjloaelgoaaGreatDoorR06Ga
namespace Go.Dr.T
def known (l : List (Int × Int)) : List Int := (l.map (·.1)).filter fun m => decide (m ≠ 0)
def nexts : List Int → List (Int × Int)
  | a :: b :: l => (a, b) :: nexts (b :: l)
  | _ => []
def lastM : List Int → Int
  | [] => 0
  | [a] => a
  | _ :: b :: l => lastM (b :: l)
def marksOf (l : List El) : List Int := l.flatMap fun e => known e.l
def dirsOf (l : List El) : List (Int × Int) := l.flatMap fun e => nexts (known e.l)
theorem nexts_snoc {m : Int} : ∀ {l : List Int}, nexts (l ++ [m]) = nexts l ++ (if l = [] then [] else [(lastM l, m)])
  | [] => rfl
  | [a] => rfl
  | a :: b :: l => by
    have := nexts_snoc (m := m) (l := b :: l)
    simp only [List.cons_append, nexts, lastM] at this ⊢
    rw [this]; simp
theorem lastM_snoc {m : Int} : ∀ {l : List Int}, lastM (l ++ [m]) = m
  | [] => rfl
  | [a] => rfl
  | a :: b :: l => by simpa only [List.cons_append, lastM] using lastM_snoc (m := m) (l := b :: l)
theorem lastM_mem : ∀ {l : List Int}, l ≠ [] → lastM l ∈ l
  | [a], _ => by simp [lastM]
  | a :: b :: l, _ => by
    have := lastM_mem (l := b :: l) (by simp)
    simp only [lastM]; exact List.mem_cons_of_mem _ this
theorem known_snoc {l : List (Int × Int)} {i : Nat} {p : Int × Int} (h : l[i]? = some p) : known (l.take (i + 1)) = if p.1 = 0 then known (l.take i) else known (l.take i) ++ [p.1] := by
  have : l.take (i + 1) = l.take i ++ [p] := by rw [List.take_add_one, h]; rfl
  rw [this]
  unfold known
  by_cases hp : p.1 = 0
  · simp [hp]
  · simp [hp]
theorem known_ne {l : List (Int × Int)} {m : Int} (h : m ∈ known l) : m ≠ 0 := by
  unfold known at h
  have := (List.mem_filter.1 h).2
  simpa using this
structure Ent where
  k : Int
  id : Nat
  c : Bool
  L : List Int
def lv (id : Nat) (c : Bool) : List Int → V
  | [] => .nilsl
  | _ :: r => .ms 1 (id + 1) (r.length + 1) 0 (r.length + 1) c
def Ent.v (e : Ent) : V := lv e.id e.c e.L
def entK (E : List Ent) : List Int := E.map (·.k)
def entV (E : List Ent) : List V := E.map (·.v)
def GH (H : List B) (E : List Ent) : Prop := ∀ e ∈ E, e.L ≠ [] → bget H e.id = some (.blk (ofInts e.L) true)
def GD (E : List Ent) : Prop := E.Pairwise fun a b => a.L ≠ [] → b.L ≠ [] → a.id ≠ b.id
structure GE (E : List Ent) (A : List Int) (D : List (Int × Int)) : Prop where
  nd : (entK E).Nodup
  ks : ∀ k, k ∈ entK E ↔ k ∈ A
  ln : ∀ e ∈ E, e.L.Nodup
  ls : ∀ e ∈ E, ∀ b, b ∈ e.L ↔ (e.k, b) ∈ D
theorem GH.app {H G : List B} {E : List Ent} (h : GH H E) : GH (H ++ G) E := fun e he hn => bget_app (h e he hn)
theorem GH.lt {H : List B} {E : List Ent} (h : GH H E) {e : Ent} (he : e ∈ E) (hn : e.L ≠ []) : e.id < H.length := bget_lt (h e he hn)
theorem entV_blo {E : List Ent} {n : Nat} (h : blos n (entV E) = true) {e : Ent} (he : e ∈ E) (hn : e.L ≠ []) : e.id + 1 < n := by
  have := blo_of_blos h (List.mem_map.2 ⟨e, he, rfl⟩)
  unfold Ent.v at this
  cases hL : e.L with
  | nil => exact absurd hL hn
  | cons x r => rw [hL] at this; simpa [lv, V.blo] using this
theorem GH.norm {mk : List Bool} {hl : Nat} {tm : List V} {ks : List V} {x0 : B} {H G l0 : List B} {E : List Ent} (h : GH (H ++ G) E) (hh : hl = (hp x0 l0).length) (hn : l0.length ≤ H.length) : ∃ T, norm mk hl ⟨tm, hp (.mp ks (entV E)) H ++ G⟩ = ⟨masked mk tm, hp (.mp ks (entV E)) T⟩ ∧ l0.length ≤ T.length ∧ GH T E := by
  obtain ⟨T, h1, h2, j, rfl, h3⟩ := norm_hp (mk := mk) (tm := tm) (x := .mp ks (entV E)) (g := G) hh hn
  refine ⟨_, h1, h2, fun e he hne => ?_⟩
  have hb := h e he hne
  have hlt := h.lt he hne
  rw [bget_take]
  · exact hb
  · rcases h3 with rfl | ⟨_, h3, _⟩
    · exact hlt
    · simp only [B.blo, Bool.and_eq_true] at h3
      have := entV_blo h3.2 he hne
      omega
theorem entK_snoc (E : List Ent) (e : Ent) : entK (E ++ [e]) = entK E ++ [e.k] := by simp [entK]
theorem entV_snoc (E : List Ent) (e : Ent) : entV (E ++ [e]) = entV E ++ [e.v] := by simp [entV]
theorem entK_set {E : List Ent} {j : Nat} {e e' : Ent} (hj : E[j]? = some e) (hk : e'.k = e.k) : entK (E.set j e') = entK E := by
  unfold entK
  apply List.ext_getElem?
  intro i
  rw [List.getElem?_map, List.getElem?_map, List.getElem?_set]
  split
  · rename_i h; subst h
    rw [hj]; split
    · simp [hk]
    · rename_i h; have := (List.getElem?_eq_some_iff.1 hj).1; omega
  · rfl
theorem tset_eq : ∀ (l : List V) (j : Nat) (v : V), tset l j v = l.set j v
  | [], _, _ => rfl
  | _ :: _, 0, _ => rfl
  | x :: l, j + 1, v => by simp only [tset, List.set_cons_succ, tset_eq l j v]
theorem entV_set (E : List Ent) (j : Nat) (e : Ent) : entV (E.set j e) = tset (entV E) j e.v := by
  rw [tset_eq]; simp [entV, List.map_set]
theorem tg_eq : ∀ {l : List V} {j : Nat} {v : V}, l[j]? = some v → tg l j = v
  | _ :: _, 0, _, h => by simpa [tg] using h
  | _ :: l, j + 1, _, h => tg_eq (l := l) (by simpa using h)
theorem entV_tg {E : List Ent} {j : Nat} {e : Ent} (h : E[j]? = some e) : tg (entV E) j = e.v := tg_eq (by simp [entV, h])
theorem ent_find {E : List Ent} {k : Int} (h : k ∈ entK E) : ∃ j e, E[j]? = some e ∧ e.k = k ∧ mfind 0 (.int .i64 k) (ofInts (entK E)) 0 = some (some j) := by
  obtain ⟨j, h1, h2, h3⟩ := mfind_mem (i := 0) h
  rw [Nat.zero_add] at h3
  have h1' : j < E.length := by simpa [entK] using h1
  refine ⟨j, E[j], List.getElem?_eq_getElem h1', ?_, h3⟩
  simp [entK, List.getElem?_eq_getElem h1'] at h2
  exact h2
theorem GE.more {E : List Ent} {A : List Int} {D : List (Int × Int)} (g : GE E A D) {j : Nat} {e e' : Ent} {m : Int} (hj : E[j]? = some e) (hk : e'.k = e.k) (hL : e'.L = e.L ++ [m]) (hm : m ∉ e.L) : GE (E.set j e') A (D ++ [(e.k, m)]) := by
  have hnk := entK_set hj hk
  have hin : ∀ x ∈ E.set j e', x = e' ∨ (x ∈ E ∧ x.k ≠ e.k) := fun x hx => by
    obtain ⟨i, hi, rfl⟩ := List.mem_iff_getElem.1 hx
    rw [List.getElem_set]
    split
    · exact .inl rfl
    · rename_i hne
      refine .inr ⟨List.getElem_mem _, fun hkk => hne ?_⟩
      have hi' : i < E.length := by simpa using hi
      obtain ⟨hjl, hje⟩ := List.getElem?_eq_some_iff.1 hj
      have := (List.getElem?_inj (l := entK E) (i := j) (j := i) (by simpa [entK] using hjl) g.nd).1 (by simp only [entK, List.getElem?_map, List.getElem?_eq_getElem hjl, List.getElem?_eq_getElem hi', Option.map_some, hje, hkk])
      exact this
  have hmem := List.mem_of_getElem? hj
  refine ⟨by rw [hnk]; exact g.nd, by rw [hnk]; exact g.ks, fun x hx => ?_, fun x hx b => ?_⟩
  · rcases hin x hx with rfl | ⟨hx, _⟩
    · rw [hL, List.nodup_append]
      exact ⟨g.ln _ hmem, by simp, fun a ha b hb => by rw [List.mem_singleton] at hb; subst hb; rintro rfl; exact hm ha⟩
    · exact g.ln x hx
  · rcases hin x hx with rfl | ⟨hx, hne⟩
    · rw [hL, hk, List.mem_append, List.mem_append, g.ls e hmem, List.mem_singleton, List.mem_singleton]
      simp
    · rw [g.ls x hx, List.mem_append, List.mem_singleton]
      constructor
      · exact .inl
      · rintro (h | h)
        · exact h
        · simp only [Prod.mk.injEq] at h; exact absurd h.1 hne
theorem GE.same {E : List Ent} {A A' : List Int} {D D' : List (Int × Int)} (g : GE E A D) (hA : ∀ k, k ∈ A ↔ k ∈ A') (hD : ∀ p, p ∈ D ↔ p ∈ D') : GE E A' D' := ⟨g.nd, fun k => (g.ks k).trans (hA k), g.ln, fun e he b => (g.ls e he b).trans (hD _)⟩
theorem GE.put {E : List Ent} {A : List Int} {D : List (Int × Int)} (g : GE E A D) {j : Nat} {e e' : Ent} (hj : E[j]? = some e) (hk : e'.k = e.k) (hL : e'.L = e.L) : GE (E.set j e') A D := by
  have hmem := List.mem_of_getElem? hj
  have hin : ∀ x ∈ E.set j e', x = e' ∨ x ∈ E := fun x hx => (List.mem_or_eq_of_mem_set hx).symm
  refine ⟨by rw [entK_set hj hk]; exact g.nd, by rw [entK_set hj hk]; exact g.ks, fun x hx => ?_, fun x hx b => ?_⟩
  · rcases hin x hx with rfl | hx
    · rw [hL]; exact g.ln _ hmem
    · exact g.ln x hx
  · rcases hin x hx with rfl | hx
    · rw [hL, hk]; exact g.ls _ hmem b
    · exact g.ls x hx b
theorem GE.new {E : List Ent} {A : List Int} {D : List (Int × Int)} (g : GE E A D) {e : Ent} (hk : e.k ∉ A) (hL : e.L = []) (hD : ∀ b, (e.k, b) ∉ D) : GE (E ++ [e]) (A ++ [e.k]) D := by
  refine ⟨?_, fun k => ?_, fun x hx => ?_, fun x hx b => ?_⟩
  · rw [entK_snoc, List.nodup_append]
    exact ⟨g.nd, by simp, fun a ha b hb => by rw [List.mem_singleton] at hb; subst hb; rintro rfl; exact hk ((g.ks _).1 ha)⟩
  · rw [entK_snoc, List.mem_append, List.mem_append, g.ks]
  · rcases List.mem_append.1 hx with hx | hx
    · exact g.ln x hx
    · rw [List.mem_singleton] at hx; subst hx; rw [hL]; exact .nil
  · rcases List.mem_append.1 hx with hx | hx
    · exact g.ls x hx b
    · rw [List.mem_singleton] at hx; subst hx; rw [hL]; simp [hD b]
theorem GH.set {H : List B} {E : List Ent} (h : GH H E) {j : Nat} {e' : Ent} (he : e'.L ≠ [] → bget H e'.id = some (.blk (ofInts e'.L) true)) : GH H (E.set j e') := fun x hx hn => by
  rcases List.mem_or_eq_of_mem_set hx with hx | rfl
  · exact h x hx hn
  · exact he hn
theorem GD.set {E : List Ent} (h : GD E) {j : Nat} {e' : Ent} (hd : ∀ i x, E[i]? = some x → i ≠ j → x.L ≠ [] → e'.L ≠ [] → x.id ≠ e'.id) : GD (E.set j e') := by
  unfold GD at h ⊢
  rw [List.pairwise_iff_getElem] at h ⊢
  intro a b ha hb hab h1 h2
  have ha' : a < E.length := by simpa using ha
  have hb' : b < E.length := by simpa using hb
  rw [List.getElem_set] at h1 ⊢
  rw [List.getElem_set] at h2 ⊢
  by_cases hja : j = a
  · have hjb : j ≠ b := by omega
    rw [if_pos hja] at h1 ⊢
    rw [if_neg hjb] at h2 ⊢
    exact (hd b _ (List.getElem?_eq_getElem hb') (by omega) h2 h1).symm
  · rw [if_neg hja] at h1 ⊢
    by_cases hjb : j = b
    · rw [if_pos hjb] at h2 ⊢
      exact hd a _ (List.getElem?_eq_getElem ha') (by omega) h1 h2
    · rw [if_neg hjb] at h2 ⊢
      exact h a b ha' hb' hab h1 h2
theorem GD.snoc {E : List Ent} (h : GD E) {e : Ent} (hL : e.L = []) : GD (E ++ [e]) := by
  unfold GD at h ⊢
  rw [List.pairwise_append]
  exact ⟨h, by simp, fun a _ b hb _ h2 => by rw [List.mem_singleton] at hb; subst hb; exact absurd hL h2⟩
end Go.Dr.T
