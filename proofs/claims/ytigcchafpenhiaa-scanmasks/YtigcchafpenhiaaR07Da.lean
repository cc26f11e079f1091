/- Chapter 07: what belongs together: by depth, and by a queue. No program in sight. -/
import Derived.Test.YtigcchafpenhiaaDrA
namespace Go.Dr.T

section
variable (nb : Nat → List Nat) (μ : Nat → Bool)

/-- By depth: those that were visited, in order. -/
def dfs : Nat → Nat → List Nat → List Nat
  | 0, _, vis => vis
  | n + 1, i, vis => if μ i && !vis.contains i then (nb i).foldl (fun v j => dfs n j v) (vis ++ [i]) else vis

/-- One belongs to the other. -/
inductive Cn : Nat → Nat → Prop where
  | refl (i : Nat) : Cn i i
  | step {i j k : Nat} : Cn i j → k ∈ nb j → μ k = true → Cn i k

/-- What a visit comes to: 'room' visits were left. -/
structure Vis (i : Nat) (vis t : List Nat) : Prop where
  nodup : t.Nodup
  new : ∀ p ∈ t, μ p = true ∧ p ∉ vis
  closed : ∀ p ∈ t, ∀ q ∈ nb p, μ q = true → q ∈ vis ++ t
  start : μ i = true → i ∈ vis ++ t
  reach : ∀ p ∈ t, Cn nb μ i p

/-- How many are not visited yet. -/
def leftN (N : Nat) (vis : List Nat) : Nat := ((List.range N).filter fun p => μ p && !vis.contains p).length
end

section
variable {nb : Nat → List Nat} {μ : Nat → Bool} {N : Nat}

theorem filter_lt {α : Type} {p q : α → Bool} : ∀ {l : List α}, (∀ x ∈ l, q x = true → p x = true) → (l.filter q).length ≤ (l.filter p).length
  | [], _ => Nat.le_refl _
  | x :: l, h => by
    have ih := filter_lt (p := p) (q := q) (l := l) fun y hy => h y (by simp [hy])
    have hx := h x (by simp)
    simp only [List.filter_cons]
    cases hq : q x with
    | false => cases p x <;> simp <;> omega
    | true => rw [hx hq]; simpa using ih
theorem filter_lt' {α : Type} {p q : α → Bool} {a : α} : ∀ {l : List α}, a ∈ l → (∀ x ∈ l, q x = true → p x = true) → p a = true → q a = false → (l.filter q).length < (l.filter p).length
  | [], ha, _, _, _ => by simp at ha
  | x :: l, ha, h, h1, h2 => by
    have hx := h x (by simp)
    have ht : ∀ y ∈ l, q y = true → p y = true := fun y hy => h y (by simp [hy])
    simp only [List.filter_cons]
    rcases List.mem_cons.1 ha with rfl | ha
    · rw [h1, h2]
      have := filter_lt (p := p) (q := q) ht
      simp; omega
    · have ih := filter_lt' ha ht h1 h2
      cases hq : q x with
      | false => cases p x <;> simp <;> omega
      | true => rw [hx hq]; simpa using ih
theorem leftN_mono {v w : List Nat} (h : ∀ p ∈ v, p ∈ w) : leftN μ N w ≤ leftN μ N v := by
  refine filter_lt fun x _ hx => ?_
  simp only [Bool.and_eq_true, Bool.not_eq_true', List.contains_eq_mem, decide_eq_false_iff_not] at hx ⊢
  exact ⟨hx.1, fun hv => hx.2 (h x hv)⟩
theorem leftN_add {v : List Nat} {i : Nat} (hN : i < N) (h1 : μ i = true) (h2 : i ∉ v) : leftN μ N (v ++ [i]) < leftN μ N v := by
  refine filter_lt' (a := i) (List.mem_range.2 hN) (fun x _ hx => ?_) ?_ ?_
  · simp only [Bool.and_eq_true, Bool.not_eq_true', List.contains_eq_mem, decide_eq_false_iff_not] at hx ⊢
    exact ⟨hx.1, fun hv => hx.2 (by simp [hv])⟩
  · simp [h1, h2]
  · simp

theorem Cn.trans {i j k : Nat} (h : Cn nb μ i j) (h' : Cn nb μ j k) : Cn nb μ i k := by
  induction h' with
  | refl => exact h
  | step _ hk hm ih => exact .step ih hk hm

/-- One visit after the other. -/
theorem vis_fold {n i : Nat} (hμ : ∀ p, μ p = true → p < N) (ih : ∀ j vis, leftN μ N vis < n → ∃ t, dfs nb μ n j vis = vis ++ t ∧ Vis nb μ j vis t) : ∀ {l : List Nat} {vis : List Nat}, leftN μ N vis < n → (∀ j ∈ l, j ∈ nb i) →
    ∃ t, l.foldl (fun v j => dfs nb μ n j v) vis = vis ++ t ∧ t.Nodup ∧ (∀ p ∈ t, μ p = true ∧ p ∉ vis) ∧ (∀ p ∈ t, ∀ q ∈ nb p, μ q = true → q ∈ vis ++ t) ∧ (∀ j ∈ l, μ j = true → j ∈ vis ++ t) ∧ (∀ p ∈ t, Cn nb μ i p)
  | [], vis, _, _ => ⟨[], by simp, by simp, by simp, by simp, by simp, by simp⟩
  | j :: l, vis, hn, hl => by
    obtain ⟨t, e, ht⟩ := ih j vis hn
    have hn2 : leftN μ N (vis ++ t) < n := Nat.lt_of_le_of_lt (leftN_mono fun p hp => by simp [hp]) hn
    obtain ⟨t2, e2, a1, a2, a3, a4, a5⟩ := vis_fold hμ ih (l := l) hn2 fun x hx => hl x (by simp [hx])
    refine ⟨t ++ t2, by simp only [List.foldl_cons, e, e2, List.append_assoc], ?_, ?_, ?_, ?_, ?_⟩
    · rw [List.nodup_append]
      exact ⟨ht.nodup, a1, fun x hx y hy hxy => (a2 y hy).2 (by simp [← hxy, hx])⟩
    · intro p hp
      rcases List.mem_append.1 hp with hp | hp
      · exact ht.new p hp
      · exact ⟨(a2 p hp).1, fun h => (a2 p hp).2 (by simp [h])⟩
    · intro p hp q hq hm
      rcases List.mem_append.1 hp with hp | hp
      · have := ht.closed p hp q hq hm
        rw [← List.append_assoc]; exact List.mem_append_left _ this
      · rw [← List.append_assoc]; exact a3 p hp q hq hm
    · intro x hx hm
      rcases List.mem_cons.1 hx with rfl | hx
      · rw [← List.append_assoc]; exact List.mem_append_left _ (ht.start hm)
      · rw [← List.append_assoc]; exact a4 x hx hm
    · intro p hp
      rcases List.mem_append.1 hp with hp | hp
      · have hr := ht.reach p hp
        by_cases hj : μ j = true
        · exact (Cn.step (.refl i) (hl j (by simp)) hj).trans hr
        · exfalso
          cases hr with
          | refl => exact hj (ht.new _ hp).1
          | step h1 h2 h3 =>
            -- nothing is visited from what is none
            have : t = [] := by
              have e' := e
              cases n with
              | zero => omega
              | succ n =>
                simp only [dfs] at e'
                rw [if_neg (by simp [hj])] at e'
                exact (List.append_cancel_left (e'.symm.trans (List.append_nil vis).symm))
            rw [this] at hp; simp at hp
      · exact a5 p hp
theorem dfs_vis (hμ : ∀ p, μ p = true → p < N) : ∀ {n i : Nat} {vis : List Nat}, leftN μ N vis < n → ∃ t, dfs nb μ n i vis = vis ++ t ∧ Vis nb μ i vis t
  | 0, _, _, h => by omega
  | n + 1, i, vis, h => by
    by_cases hc : μ i = true ∧ i ∉ vis
    · obtain ⟨h1, h2⟩ := hc
      have hlt := leftN_add (v := vis) (hμ i h1) h1 h2
      obtain ⟨t, e, a1, a2, a3, a4, a5⟩ := vis_fold (i := i) hμ (fun j v hv => dfs_vis hμ hv) (l := nb i) (vis := vis ++ [i]) (n := n) (by omega) (fun j hj => hj)
      refine ⟨[i] ++ t, ?_, ?_⟩
      · simp only [dfs]
        rw [if_pos (by simp [h1, h2]), e, List.append_assoc]
      · refine ⟨?_, ?_, ?_, ?_, ?_⟩
        · simp only [List.singleton_append, List.nodup_cons]
          exact ⟨fun hi => (a2 i hi).2 (by simp), a1⟩
        · intro p hp
          rcases List.mem_append.1 hp with hp | hp
          · rw [List.mem_singleton] at hp; subst hp; exact ⟨h1, h2⟩
          · exact ⟨(a2 p hp).1, fun hv => (a2 p hp).2 (by simp [hv])⟩
        · intro p hp q hq hm
          rw [← List.append_assoc]
          rcases List.mem_append.1 hp with hp | hp
          · rw [List.mem_singleton] at hp; subst hp; exact a4 q hq hm
          · exact a3 p hp q hq hm
        · intro _; simp
        · intro p hp
          rcases List.mem_append.1 hp with hp | hp
          · rw [List.mem_singleton] at hp; subst hp; exact .refl _
          · exact a5 p hp
    · refine ⟨[], ?_, ?_⟩
      · simp only [dfs]
        rw [if_neg (by simpa using fun h => by simpa using fun hv => hc ⟨h, hv⟩), List.append_nil]
      · refine ⟨by simp, by simp, by simp, fun hm => ?_, by simp⟩
        rw [List.append_nil]
        exact Classical.byContradiction fun hv => hc ⟨hm, hv⟩
/-- A visit from a new one, where what was visited is closed: all that belong to it. -/
theorem dfs_comp (hμ : ∀ p, μ p = true → p < N) (hs : ∀ p q, q ∈ nb p → p ∈ nb q) {n i : Nat} {vis : List Nat} (hn : leftN μ N vis < n) (hi : μ i = true) (hv : i ∉ vis) (hcl : ∀ p ∈ vis, ∀ q ∈ nb p, μ q = true → q ∈ vis) :
    ∃ t, dfs nb μ n i vis = vis ++ t ∧ t.Nodup ∧ (∀ p, p ∈ t ↔ Cn nb μ i p) ∧ (∀ p ∈ t, μ p = true ∧ p ∉ vis) ∧ ∀ p ∈ vis ++ t, ∀ q ∈ nb p, μ q = true → q ∈ vis ++ t := by
  obtain ⟨t, e, ht⟩ := dfs_vis hμ (nb := nb) (i := i) hn
  refine ⟨t, e, ht.nodup, fun p => ⟨ht.reach p, fun hp => ?_⟩, ht.new, ?_⟩
  · induction hp with
    | refl => exact (List.mem_append.1 (ht.start hi)).resolve_left hv
    | step h1 h2 h3 ih =>
      rcases List.mem_append.1 (ht.closed _ ih _ h2 h3) with h | h
      · exact absurd (hcl _ h _ (hs _ _ h2) (ht.new _ ih).1) (ht.new _ ih).2
      · exact h
  · intro p hp q hq hm
    rcases List.mem_append.1 hp with hp | hp
    · exact List.mem_append_left _ (hcl p hp q hq hm)
    · exact ht.closed p hp q hq hm

/-! by a queue -/
def bfsN (μ : Nat → Bool) (vis : List Nat) : List Nat → List Nat → List Nat
  | [], v => v
  | q :: l, v => bfsN μ vis l (if μ q && !(vis ++ v).contains q then v ++ [q] else v)
theorem bfsN_spec {vis : List Nat} : ∀ {l v : List Nat}, ∃ t, bfsN μ vis l v = v ++ t ∧ (v.Nodup → (v ++ t).Nodup) ∧ (∀ p ∈ t, p ∈ l ∧ μ p = true ∧ p ∉ vis) ∧ ∀ p ∈ l, μ p = true → p ∈ vis ++ (v ++ t)
  | [], v => ⟨[], by simp [bfsN], by simp, by simp, by simp⟩
  | q :: l, v => by
    by_cases hc : μ q = true ∧ q ∉ vis ++ v
    · obtain ⟨h1, h2⟩ := hc
      obtain ⟨t, e, a1, a2, a3⟩ := bfsN_spec (vis := vis) (l := l) (v := v ++ [q])
      refine ⟨[q] ++ t, ?_, ?_, ?_, ?_⟩
      · simp only [bfsN]
        rw [if_pos (by simp [h1]; simpa using h2), e, List.append_assoc]
      · intro hv
        rw [← List.append_assoc]
        refine a1 ?_
        rw [List.nodup_append]
        exact ⟨hv, by simp, fun x hx y hy hxy => h2 (by rw [List.mem_singleton] at hy; subst hy; subst hxy; simp [hx])⟩
      · intro p hp
        rcases List.mem_append.1 hp with hp | hp
        · rw [List.mem_singleton] at hp; subst hp; exact ⟨by simp, h1, fun h => h2 (by simp [h])⟩
        · obtain ⟨b1, b2, b3⟩ := a2 p hp; exact ⟨by simp [b1], b2, b3⟩
      · intro p hp hm
        rw [← List.append_assoc v [q] t]
        rcases List.mem_cons.1 hp with rfl | hp
        · simp
        · exact a3 p hp hm
    · obtain ⟨t, e, a1, a2, a3⟩ := bfsN_spec (vis := vis) (l := l) (v := v)
      refine ⟨t, ?_, a1, ?_, ?_⟩
      · simp only [bfsN]
        rw [if_neg ?_, e]
        intro h
        simp only [Bool.and_eq_true, Bool.not_eq_true', List.contains_eq_mem, decide_eq_false_iff_not] at h
        exact hc h
      · intro p hp; obtain ⟨b1, b2, b3⟩ := a2 p hp; exact ⟨by simp [b1], b2, b3⟩
      · intro p hp hm
        rcases List.mem_cons.1 hp with rfl | hp
        · have : p ∈ vis ++ v := Classical.byContradiction fun h => hc ⟨hm, h⟩
          rw [← List.append_assoc]; exact List.mem_append_left _ this
        · exact a3 p hp hm
/-- What holds while a queue is worked off: v are those that were marked, the first k were looked at. -/
structure Que (nb : Nat → List Nat) (μ : Nat → Bool) (i : Nat) (vis v : List Nat) (k : Nat) : Prop where
  le : k ≤ v.length
  nodup : v.Nodup
  new : ∀ p ∈ v, μ p = true ∧ p ∉ vis
  reach : ∀ p ∈ v, Cn nb μ i p
  start : i ∈ v
  done : ∀ p ∈ v.take k, ∀ q ∈ nb p, μ q = true → q ∈ vis ++ v
theorem Que.begin {i : Nat} {vis : List Nat} (hi : μ i = true) (hv : i ∉ vis) : Que nb μ i vis [i] 0 :=
  ⟨by simp, by simp, by simpa using ⟨hi, hv⟩, by simpa using Cn.refl i, by simp, by simp⟩
theorem Que.next {i k : Nat} {vis v : List Nat} (h : Que nb μ i vis v k) (hk : k < v.length) : Que nb μ i vis (bfsN μ vis (nb v[k]) v) (k + 1) := by
  obtain ⟨t, e, a1, a2, a3⟩ := bfsN_spec (μ := μ) (vis := vis) (l := nb v[k]) (v := v)
  have hvk : v[k] ∈ v := List.getElem_mem hk
  rw [e]
  refine ⟨by simp; omega, a1 h.nodup, ?_, ?_, by simp [h.start], ?_⟩
  · intro p hp
    rcases List.mem_append.1 hp with hp | hp
    · exact h.new p hp
    · exact (a2 p hp).2
  · intro p hp
    rcases List.mem_append.1 hp with hp | hp
    · exact h.reach p hp
    · obtain ⟨b1, b2, _⟩ := a2 p hp; exact .step (h.reach _ hvk) b1 b2
  · intro p hp q hq hm
    rw [List.take_append_of_le_length (by omega), List.take_succ_eq_append_getElem hk] at hp
    rcases List.mem_append.1 hp with hp | hp
    · have := h.done p hp q hq hm
      rw [← List.append_assoc]; exact List.mem_append_left _ this
    · rw [List.mem_singleton] at hp; subst hp; exact a3 q hq hm
theorem Que.over {i : Nat} {vis v : List Nat} (h : Que nb μ i vis v v.length) (hs : ∀ p q, q ∈ nb p → p ∈ nb q) (hcl : ∀ p ∈ vis, ∀ q ∈ nb p, μ q = true → q ∈ vis) : ∀ p, p ∈ v ↔ Cn nb μ i p := by
  intro p
  refine ⟨h.reach p, fun hp => ?_⟩
  induction hp with
  | refl => exact h.start
  | step h1 h2 h3 ih =>
    have := h.done _ (by rw [List.take_length]; exact ih) _ h2 h3
    rcases List.mem_append.1 this with hv | hv
    · exact absurd (hcl _ hv _ (hs _ _ h2) (h.new _ ih).1) (h.new _ ih).2
    · exact hv
/-- Both ways mark the same. -/
theorem perm_of {s t : List Nat} (hs : s.Nodup) (ht : t.Nodup) (h : ∀ p, p ∈ s ↔ p ∈ t) : s.Perm t := (List.perm_ext_iff_of_nodup hs ht).2 h
end

end Go.Dr.T
