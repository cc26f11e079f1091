/- The door: single operations, ninth part: loads, new variables, stores, slices that are made. -/
import Derived.Test.YtigcchafpenhiaaDrOp8
namespace Go.Dr
open Go.RowKit (Below)

variable {P : Program} {k : K} {tm : List V} {ρ : Operand → Value} {o : Oper} {j base ro : Nat} {m : M} {p : Pl} {v : V} {h' : List B}

theorem loadVar_run {t n : Nat} {ga : Bool} (hga : aggOf P t = some ga) (hn : szOf P t = some n) (hgn : ga = true ∨ n = 1) {b a : Nat} {vs : List Value} {r : List V} {z : V} (hc : cellsAt k.w b a vs) (hl : RL k r vs) (hr : r.length = n)
    (hz : (ga = true ∧ z = .agg r) ∨ (ga = false ∧ r = [z])) : ∃ y, (loadVar t ⟨b, a, none⟩).run P k.w = .ok y k.w ∧ R k z y := by
  rcases hz with ⟨rfl, rfl⟩ | ⟨rfl, rfl⟩
  · have := loadCells_at (P := P) hc
    rw [RL.len hl, hr] at this
    exact ⟨.agg ⟨vs⟩, by simp [loadVar, aggOf_run hga, szOf_run hn, this], by simp only [R]; exact ⟨vs, rfl, hl⟩⟩
  · obtain ⟨x, r', rfl, hx, hr'⟩ := (by simpa [RL] using hl : ∃ x r, vs = x :: r ∧ R k z x ∧ r = [])
    have := hc.1
    exact ⟨x, by simp [loadVar, aggOf_run hga, this], hx⟩

theorem did_load (g : Good P k) (ht : Ops k tm ρ) {x : Operand} {t : TypeId} (ho : o.op = .load t x) (hc : cOp P j o.op = some m) (hp : plan base tm m = some p) (hg : p.go ro k.h = some (v, h')) :
    Did P ro k (execOp ρ o) v h' := by
  rw [ho] at hc; simp only [cOp] at hc
  split at hc <;> (try (cases hc; done))
  rename_i ga n y hga hn hy
  split at hc <;> (try (cases hc; done))
  rename_i hgn
  have hgn' : ga = true ∨ n = 1 := by simpa using hgn
  cases hc
  have h1 := ht.1 _ _ hy
  have hexec : ∀ z, (loadVar t (match ρ x with | .pointer (some a) => a | _ => ⟨0, 0, none⟩)).run P k.w = .ok z k.w → (∃ a, ρ x = .pointer (some a)) → (execOp ρ o).run P k.w = .ok (.value z) k.w := by
    rintro z hz ⟨a, ha⟩
    rw [ha] at hz
    simp only [execOp, ho, ha]; exact exec_v (by simp only [Instr.loadAt, Instr.sureAddr, Sem.run_bind, Sem.run_pure, Result.andThen_ok]; exact hz)
  simp only [plan] at hp
  split at hp <;> (try (cases hp; done)) <;> (rename_i ex; rw [ex] at h1) <;> simp only [R] at h1
  · rename_i cs off
    obtain ⟨b, o', vs, hx, hok, hca, hl, hpu⟩ := h1
    obtain ⟨z, hz, rfl⟩ := val?_some hp
    obtain ⟨r, hr, hz'⟩ := loadFrom_some hz
    obtain ⟨e1, e2⟩ := part_some hr
    have hc2 := cellsAt_sub hca off n
    have hl2 : RL k r ((vs.drop off).take n) := by rw [e1]; exact RL.take _ (RL.drop _ hl)
    obtain ⟨y', r1, r2⟩ := loadVar_run hga hn hgn' hc2 hl2 e2 hz'
    exact fin_val g rfl hg (hexec y' (by rw [hx]; exact r1) ⟨_, hx⟩) r2
  · rename_i id gg off
    obtain ⟨b, o', c, dat, hx, hbk, hgc, hpos⟩ := h1
    cases hp
    obtain ⟨bs, b1, b2, rfl⟩ := Pl.go_rd rfl hg
    simp only [Pl.rd, bgets, hbk, Option.some.injEq] at b1
    subst b1
    simp only [Pl.rd] at b2
    split at b2 <;> (try (cases b2; done))
    rename_i hcg
    obtain ⟨z, hz, e⟩ := map_some b2
    cases e
    obtain ⟨r, hr, hz'⟩ := loadFrom_some hz
    obtain ⟨p1, p2⟩ := hpos hcg.symm
    obtain ⟨vs, c1, c2, c3⟩ := own_cells g hbk hr p2
    rw [p1] at c1
    obtain ⟨y', r1, r2⟩ := loadVar_run hga hn hgn' c1 c2 (part_some hr).2 hz'
    exact .val g (hexec y' (by rw [hx]; exact r1) ⟨_, hx⟩) r2

/-- The plan makes a new block. -/
theorem Pl.go_new {ro id : Nat} {h : List B} {v0 : V} {b0 : B} (e : (Pl.new id v0 b0).go ro h = some (v, h')) : bget h id = some .unborn ∧ ro ≤ id ∧ v = v0 ∧ h' = bset h id b0 := by
  simp only [Pl.go, Pl.new, bgets] at e
  split at e <;> (try (cases e; done))
  rename_i bs hbs
  split at hbs <;> (try (cases hbs; done))
  rename_i b hb
  cases hbs
  split at e <;> (try (cases e; done))
  · rename_i hm; split at hm <;> cases hm
  · rename_i v1 b1 hm
    split at hm
    · rename_i heq
      cases heq; cases hm
      split at e <;> (try (cases e; done))
      rename_i hro
      cases e
      exact ⟨hb, hro, rfl, rfl⟩
    · cases hm

/-- A new variable's, or a new row's, block. -/
theorem born (g : Good P k) {id : Nat} {c : List V} {dat : Bool} {xs rest : List Value} {T : TypeId} (hb : bget k.h id = some .unborn) (hro : ro ≤ id) (hl : RL k c xs) (h1 : ones c = true) (hd : dat = true → scalars c = true)
    {w' : World} (hw : w'.heap = k.w.heap.push (.cells ⟨xs ++ rest⟩ T (0, 0))) (hos : w'.os = k.w.os) (hta : w'.tape = k.w.tape) (hou : w'.output = k.w.output) :
    Good P (k.set id (.blk c dat) (k.w.heap.size, 0) w') ∧ Ev ro k.h.length k (k.set id (.blk c dat) (k.w.heap.size, 0) w') := by
  have hnew : w'.heap[k.w.heap.size]? = some (.cells ⟨xs ++ rest⟩ T (0, 0)) := by rw [hw]; simp
  have hold : ∀ b, b < k.w.heap.size → w'.heap[b]? = k.w.heap[b]? := by
    intro b hb'; rw [hw, Array.getElem?_push, if_neg (by omega)]
  exact g.upd (bget_lt hb) hro (.inl hb) ⟨hos, hta, hou, by rw [hw]; simp, fun b hb' => hold b (by have := g.size; omega)⟩
    (fun b hb' _ => hold b hb') g.size (.inl (Nat.le_refl _)) hnew (Nat.zero_le _) (by simpa using hl) h1 hd

theorem did_alloc (g : Good P k) (ht : Ops k tm ρ) {t : TypeId} (ho : o.op = .alloc t) (hc : cOp P j o.op = some m) (hp : plan base tm m = some p) (hg : p.go ro k.h = some (v, h')) :
    Did P ro k (execOp ρ o) v h' := by
  rw [ho] at hc; simp only [cOp] at hc; obtain ⟨z, hz, rfl⟩ := map_some hc
  simp only [plan] at hp; cases hp
  obtain ⟨b1, b2, rfl, rfl⟩ := Pl.go_new hg
  obtain ⟨zx, z1, z2, z3, z4⟩ := zeroOf_run hz k.w k
  obtain ⟨g1, e1⟩ := born (ro := ro) (dat := false) (rest := []) (T := t) g b1 b2 z2 z4 (by simp) (w' := k.w.alloc (.cells zx.cells t)) (by simp only [List.append_nil]; rfl) rfl rfl rfl
  refine ⟨.pointer (some ⟨k.w.heap.size, 0, none⟩), _, .inl ?_, rfl, g1, e1, ?_⟩
  · simp only [execOp, ho]; exact exec_v (by simp [Instr.alloc, z1, newVar, newRow, K.set])
  · simp only [R]
    exact ⟨k.w.heap.size, 0, z, false, rfl, by simp only [K.set, bget_bset, bget_lt b1, and_self, if_true], Nat.le_refl _, fun _ => by simp [K.set]⟩

theorem did_box (g : Good P k) (ht : Ops k tm ρ) {x : Operand} {t : TypeId} (ho : o.op = .box t x) (hc : cOp P j o.op = some m) (hp : plan base tm m = some p) (hg : p.go ro k.h = some (v, h')) :
    Did P ro k (execOp ρ o) v h' := by
  rw [ho] at hc; simp only [cOp] at hc; obtain ⟨y, hy, rfl⟩ := map_some hc
  have h1 := ht.1 _ _ hy
  simp only [plan] at hp
  split at hp <;> (try (cases hp; done))
  rename_i hones
  cases hp
  obtain ⟨b1, b2, rfl, rfl⟩ := Pl.go_new hg
  have hcR := cells_R h1 hones
  obtain ⟨g1, e1⟩ := born (ro := ro) (dat := false) (rest := []) (T := t) g b1 b2 hcR hones (by simp) (w' := k.w.alloc (.cells (ρ x).cells t)) (by simp only [List.append_nil]; rfl) rfl rfl rfl
  refine ⟨.pointer (some ⟨k.w.heap.size, 0, none⟩), _, .inl ?_, rfl, g1, e1, ?_⟩
  · simp only [execOp, ho]; exact exec_v (by simp [Instr.box, newVar, newRow, K.set])
  · simp only [R]
    exact ⟨k.w.heap.size, 0, (y.ev tm).cells, false, rfl, by simp only [K.set, bget_bset, bget_lt b1, and_self, if_true], Nat.le_refl _, fun _ => by simp [K.set]⟩

/-- The plan writes an own block. -/
theorem Pl.go_wr {ro id gg : Nat} {h : List B} {cells : List V} {f : List V → Option (V × List V)} (e : (Pl.wr id gg cells f).go ro h = some (v, h')) :
    ∃ c dat c', bget h id = some (.blk c dat) ∧ ro ≤ id ∧ c.length = gg ∧ (dat = true → scalars cells = true) ∧ f c = some (v, c') ∧ h' = bset h id (.blk c' dat) := by
  simp only [Pl.go, Pl.wr, bgets] at e
  split at e <;> (try (cases e; done))
  rename_i bs hbs
  split at hbs <;> (try (cases hbs; done))
  rename_i b hb
  cases hbs
  split at e <;> (try (cases e; done))
  · rename_i hm
    split at hm <;> (try (cases hm; done))
    split at hm <;> (try (cases hm; done))
    obtain ⟨z, _, e2⟩ := map_some hm
    cases e2
  · rename_i v1 b1 hm
    split at hm <;> (try (cases hm; done))
    rename_i c dat heq
    cases heq
    split at hm <;> (try (cases hm; done))
    rename_i hcond
    simp only [Bool.and_eq_true, decide_eq_true_eq, Bool.or_eq_true, Bool.not_eq_true'] at hcond
    obtain ⟨z, hz, e2⟩ := map_some hm
    cases e2
    split at e <;> (try (cases e; done))
    rename_i hro
    cases e
    refine ⟨c, dat, z.2, hb, hro, hcond.1, ?_, by rw [hz], rfl⟩
    intro hd
    rcases hcond.2 with h | h
    · rw [hd] at h; cases h
    · exact h

theorem scalars_append (a b : List V) : scalars (a ++ b) = (scalars a && scalars b) := by
  induction a with
  | nil => simp [scalars]
  | cons c l ih => simp [scalars, ih, Bool.and_assoc]
theorem scalars_get {cells : List V} (h : scalars cells = true) {v : V} (hv : v ∈ cells) : v.scalar = true := by
  induction cells with
  | nil => simp at hv
  | cons c l ih =>
    simp only [scalars, Bool.and_eq_true] at h
    rcases List.mem_cons.1 hv with rfl | hv
    · exact h.1
    · exact ih h.2 hv
theorem scalars_sub {a : List V} (h : scalars a = true) : ∀ {b : List V}, (∀ v ∈ b, v ∈ a) → scalars b = true
  | [], _ => rfl
  | v :: b, hb => by
    simp only [scalars, Bool.and_eq_true]
    exact ⟨scalars_get h (hb v (by simp)), scalars_sub h fun x hx => hb x (by simp [hx])⟩

/-- Cells of an own block are overwritten. -/
theorem wrote (g : Good P k) {id : Nat} {c : List V} {dat : Bool} (hb : bget k.h id = some (.blk c dat)) (hro : ro ≤ id) {off : Nat} {l : List V} {ys : List Value} (hl : RL k l ys) (h1 : ones l = true) (hd : dat = true → scalars l = true) (hle : off + l.length ≤ c.length)
    {o' : Nat} (ho : off = o' + (k.β id).2) :
    ∃ xs rest T, k.w.heap[(k.β id).1]? = some (.cells ⟨xs ++ rest⟩ T (0, 0)) ∧ o' + ys.length ≤ xs.length ∧
      (let w' := k.w.setRow (k.β id).1 ⟨xs.take o' ++ ys ++ xs.drop (o' + ys.length) ++ rest⟩
       Good P (k.set id (.blk (over c off l) dat) (k.β id) w') ∧ Ev ro k.h.length k (k.set id (.blk (over c off l) dat) (k.β id) w')) := by
  obtain ⟨q1, q2, q3, q4, xs, rest, T, q5, q6⟩ := g.blk id c dat hb
  have hlx := RL.len q6
  have hly := RL.len hl
  simp only [List.length_drop] at hlx
  have hxs : o' + ys.length ≤ xs.length := by omega
  refine ⟨xs, rest, T, q5, hxs, ?_⟩
  have hover := over_eq c off l hle
  have hnew := setRow_heap k.w (k.β id).1 ⟨xs ++ rest⟩ ⟨xs.take o' ++ ys ++ xs.drop (o' + ys.length) ++ rest⟩ T (0, 0) q5
  have hlt : (k.β id).1 < k.w.heap.size := (Array.getElem?_eq_some_iff.1 q5).1
  have hother : ∀ b, b ≠ (k.β id).1 → (k.w.setRow (k.β id).1 ⟨xs.take o' ++ ys ++ xs.drop (o' + ys.length) ++ rest⟩).heap[b]? = k.w.heap[b]? := fun b hne => setRow_other k.w _ b _ hne
  have hlow : Below k.n0 k.w (k.w.setRow (k.β id).1 ⟨xs.take o' ++ ys ++ xs.drop (o' + ys.length) ++ rest⟩) := ⟨rfl, rfl, rfl, by simp, fun b (hb' : b < k.n0) => hother b (by omega)⟩
  refine g.upd (p := k.β id) (xs := xs.take o' ++ ys ++ xs.drop (o' + ys.length)) (rest := rest) (T := T) (bget_lt hb) hro (.inr ⟨c, hb, by rw [over_len _ _ _ hle]; exact Nat.le_refl _, fun _ => ⟨rfl, ?_⟩⟩)
    hlow (fun b _ hne => hother b (hne (live_blk hb))) q1 (.inr ⟨live_blk hb, rfl⟩) hnew ?_ ?_ ?_ ?_
  · simp only [rowSize, hnew, q5]
    congr 1
    simp; omega
  · rw [over_len _ _ _ hle]; exact q2
  · rw [hover]
    have e1 : (c.take off ++ l ++ c.drop (off + l.length)).drop (k.β id).2 = (c.drop (k.β id).2).take o' ++ l ++ (c.drop (k.β id).2).drop (o' + l.length) := by
      have hle2 : (k.β id).2 ≤ off := by omega
      have z1 : off - (k.β id).2 = o' := by omega
      have z2 : (k.β id).2 + (o' + l.length) = off + l.length := by omega
      rw [List.append_assoc, List.drop_append_of_le_length (by rw [List.length_take]; omega), List.drop_take, List.drop_drop, List.append_assoc, z1, z2]
    rw [e1]
    refine RL.append (RL.append (RL.take _ q6) hl) ?_
    rw [hly]; exact RL.drop _ q6
  · rw [hover, ones_append, ones_append]; simp [ones_take q3, ones_drop q3, h1]
  · intro hdd
    rw [hover, scalars_append, scalars_append, hd hdd]
    have hs := q4 hdd
    rw [scalars_sub hs (fun v hv => List.mem_of_mem_take hv), scalars_sub hs (fun v hv => List.mem_of_mem_drop hv)]; rfl

theorem R.ones' {k : K} : ∀ {l : List V} {xs : List Value}, RL k l xs → ones l = true → ∀ x ∈ xs, x.oneCell' = true
  | [], xs, h, _, x, hx => by simp [RL] at h; subst h; simp at hx
  | v :: l, xs, h, ho, x, hx => by
    obtain ⟨y, r, rfl, h1, h2⟩ := (by simpa [RL] using h : ∃ x r, xs = x :: r ∧ R k v x ∧ RL k l r)
    simp only [ones, Bool.and_eq_true] at ho
    rcases List.mem_cons.1 hx with rfl | hx
    · exact R.one h1 ho.1
    · exact R.ones' h2 ho.2 x hx

theorem did_store (g : Good P k) (ht : Ops k tm ρ) {x y : Operand} {t : TypeId} (ho : o.op = .store t x y) (hc : cOp P j o.op = some m) (hp : plan base tm m = some p) (hg : p.go ro k.h = some (v, h')) :
    Did P ro k (execOp ρ o) v h' := by
  rw [ho] at hc; simp only [cOp] at hc
  split at hc <;> (try (cases hc; done))
  rename_i n x' y' hn hx hy
  cases hc
  have h1 := ht.1 _ _ hx
  have h2 := ht.1 _ _ hy
  simp only [plan] at hp
  split at hp <;> (try (cases hp; done))
  rename_i id gg off ex
  rw [ex] at h1; simp only [R] at h1
  obtain ⟨b, o', c0, dat0, hxp, hbk0, hgc, hpos⟩ := h1
  split at hp <;> (try (cases hp; done))
  rename_i hcond
  simp only [Bool.and_eq_true, decide_eq_true_eq] at hcond
  cases hp
  obtain ⟨c, dat, c', b1, b2, b3, b4, b5, rfl⟩ := Pl.go_wr hg
  rw [hbk0] at b1; cases b1
  split at b5 <;> (try (cases b5; done))
  rename_i hle
  cases b5
  obtain ⟨p1, p2⟩ := hpos b3.symm
  have hcR := cells_R h2 hcond.2
  have hlen := RL.len hcR
  obtain ⟨xs, rest, T, w1, w2, g1, e1⟩ := wrote (ro := ro) g hbk0 b2 hcR hcond.2 b4 (by rw [hcond.1]; exact hle) p2
  refine ⟨undef, _, .inr ⟨?_, rfl⟩, rfl, g1, e1, by simp [R]⟩
  have hst := run_storeCells_at P (k.β id).1 o' T (ρ y).cells.toList 0 ⟨xs ++ rest⟩ k.w w1 (by simp; simp at w2; omega) (R.ones' hcR hcond.2)
  have hsz : (ρ y).cells.size = n := by have := hlen; simp at this; omega
  simp only [execOp, ho, hxp, Instr.storeAt, Instr.sureAddr, Sem.run_bind, Sem.run_pure, Result.andThen_ok, storeVar, szOf_run hn, hsz, ne_eq, not_true, if_false, ← p1, hst]
  simp only [K.set]
  congr 3
  simp only [Nat.add_zero, Array.length_toList, hsz] at w2 ⊢
  have e2 : (xs ++ rest).take o' = xs.take o' := List.take_append_of_le_length (by omega)
  have e3 : (xs ++ rest).drop (o' + n) = xs.drop (o' + n) ++ rest := List.drop_append_of_le_length (by omega)
  rw [e2, e3]; simp

end Go.Dr
