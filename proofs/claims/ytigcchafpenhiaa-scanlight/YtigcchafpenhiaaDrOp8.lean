/- The door: single operations, eighth part: what slices hold; conversions; lengths. -/
import Derived.Test.YtigcchafpenhiaaDrOp7
import Derived.Laws.BytesString
namespace Go.Dr
open Go.RowKit (Below)

variable {P : Program} {k : K} {tm : List V} {ρ : Operand → Value} {o : Oper} {j base ro : Nat} {m : M} {p : Pl} {v : V} {h' : List B}

/-- An own block's cells, in memory. -/
theorem own_cells (g : Good P k) {id : Nat} {c : List V} {dat : Bool} (hb : bget k.h id = some (.blk c dat)) {off n : Nat} {r : List V} (hp : part c off n = some r) {o' : Nat} (ho : off = o' + (k.β id).2) :
    ∃ vs, cellsAt k.w (k.β id).1 o' vs ∧ RL k r vs ∧ vs.length = n := by
  obtain ⟨h1, h2, h3, h4, xs, rest, T, h5, h6⟩ := g.blk id c dat hb
  obtain ⟨rfl, hl⟩ := part_some hp
  refine ⟨(xs.drop o').take n, ?_, ?_, ?_⟩
  · have hall : cellsAt k.w (k.β id).1 0 xs := cellsAt_block h5 xs 0 fun i hi => by simp [List.getElem?_append_left hi]
    have := cellsAt_sub hall o' n
    simpa using this
  · have := RL.take n (RL.drop o' h6)
    rw [List.drop_drop, Nat.add_comm] at this
    rw [ho]; exact this
  · have := RL.len h6
    simp only [List.length_take, List.length_drop] at hl this ⊢
    omega

theorem loadCells_at {w : World} {b off : Nat} {vs : List Value} (h : cellsAt w b off vs) : (loadCells ⟨b, off, none⟩ vs.length).run P w = .ok ⟨vs⟩ w := by
  refine run_loadCells_list w ⟨b, off, none⟩ vs fun j v hj => ?_
  rw [Addr.add_lit]
  have : ∀ (vs : List Value) (off j : Nat) (v : Value), cellsAt w b off vs → vs[j]? = some v → w.cell? ⟨b, off + j, none⟩ = some v := by
    intro vs
    induction vs with
    | nil => intro _ _ _ _ h; simp at h
    | cons x l ih =>
      intro off j v hc hj
      cases j with
      | zero => simp at hj; subst hj; exact hc.1
      | succ j =>
        have := ih (off + 1) j v hc.2 (by simpa using hj)
        rw [show off + (j + 1) = off + 1 + j by omega]; exact this
  exact this vs off j v h hj

theorem cellsAt_heap {w w' : World} (h : w'.heap = w.heap) {b off : Nat} {vs : List Value} (hc : cellsAt w b off vs) : cellsAt w' b off vs :=
  cellsAt_of_block (by rw [h]) hc

/-- What is read of a slice or a string. -/
theorem src_run (g : Good P k) {es : Nat} {x : V} {x' : Value} (hx : R k x x') {rs : List Nat} {n : Nat} {f : List B → Option (List V)} (hs : src es x = some (rs, n, f)) {bs : List B} (hb : bgets k.h rs = some bs) {ys : List V} (hf : f bs = some ys) :
    ys.length = n * es ∧ (∀ w : World, (Builtin.lenOf x').run P w = .ok n w) ∧ ∃ vs, RL k ys vs ∧ (∀ m, m ≤ n → ∀ w : World, w.heap = k.w.heap → (Builtin.firstCells es m x').run P w = .ok ⟨vs.take (m * es)⟩ w) ∧
      ((∃ a, x' = .slice a 0 0) ∨ (∃ b off cap, x' = .slice (some ⟨b, off, none⟩) n cap ∧ cellsAt k.w b off vs) ∨ ∃ s, x = .str s) := by
  have fc : ∀ (b off len cap m : Nat) (vs : List Value), cellsAt k.w b off vs → m * es ≤ vs.length → ∀ w : World, w.heap = k.w.heap →
      (Builtin.firstCells es m (.slice (some ⟨b, off, none⟩) len cap)).run P w = .ok ⟨vs.take (m * es)⟩ w := by
    intro b off len cap m vs hc hle w hw
    have := loadCells_at (P := P) (cellsAt_heap hw (cellsAt_sub hc 0 (m * es)))
    simp only [Nat.add_zero, List.drop_zero, List.length_take, Nat.min_eq_left hle] at this
    simpa [Builtin.firstCells] using this
  unfold src at hs
  split at hs
  · simp only [R] at hx; subst hx
    cases hs; cases hf
    exact ⟨by simp, by simp [Builtin.lenOf], [], RL.nil, by simp [Builtin.firstCells], .inl ⟨_, rfl⟩⟩
  · split at hs <;> (try (cases hs; done))
    rename_i hl
    cases hs; cases hf
    simp only [R] at hx
    rcases hx with ⟨a, rfl, rfl, rfl⟩ | ⟨b, off, cap, vs, rfl, h1, h3, h4, h5, h6, h7⟩
    · refine ⟨by simp, by simp [Builtin.lenOf], [], RL.nil, ?_, .inl ⟨a, rfl⟩⟩
      intro m hm w hw
      have : m = 0 := by omega
      subst this; cases a <;> simp [Builtin.firstCells, loadCells, loadCellsFrom]
    have hlen := RL.len h4
    refine ⟨hl, by simp [Builtin.lenOf], vs, h4, ?_, .inr (.inl ⟨b, off, cap, rfl, h3⟩)⟩
    intro m hm w hw
    exact fc _ _ _ _ _ _ h3 (by rw [hlen, hl]; exact Nat.mul_le_mul_right es hm) w hw
  · split at hs <;> (try (cases hs; done))
    rename_i s he; subst he
    cases hs; cases hf
    simp only [R] at hx; subst hx
    have hfc : ∀ m, m ≤ s.length → ∀ w : World, (Builtin.firstCells 1 m (.string ⟨s.toArray⟩)).run P w = .ok ⟨(s.map fun b => Value.int .u8 b.toNat).take m⟩ w := by
      intro m hm w
      simp only [Builtin.firstCells, Sem.run_pure]
      congr 1
      apply Array.ext'
      simp [ByteArray.data_extract, List.map_take]
    exact ⟨by simp [ofBytes_len], by simp [Builtin.lenOf, ByteArray.size], s.map fun b => Value.int .u8 b.toNat, ofBytes_R k s, fun m hm w _ => by rw [Nat.mul_one]; exact hfc m hm w, .inr (.inr ⟨s, rfl⟩)⟩
  · rename_i es' id gg off len clip
    split at hs <;> (try (cases hs; done))
    rename_i he; subst he
    cases hs
    simp only [R] at hx
    obtain ⟨b, o', cap, c, dat, rfl, hbk, hgc, hlc, hclip, hpos⟩ := hx
    simp only [bgets, hbk] at hb
    cases hb
    simp only at hf
    split at hf <;> (try (cases hf; done))
    rename_i hcg
    obtain ⟨p1, p0, p2⟩ := hpos hcg.symm
    by_cases hc0 : cap = 0
    · have hn0 : n = 0 := by omega
      subst hn0
      obtain ⟨rfl, hl⟩ := part_some hf
      have hnil : List.take (0 * es') (List.drop off c) = [] := by simp
      rw [hnil]
      refine ⟨by simp, by simp [Builtin.lenOf], [], RL.nil, ?_, .inr (.inl ⟨b, o', cap, rfl, trivial⟩)⟩
      intro m hm w hw
      have : m = 0 := by omega
      subst this; simp [Builtin.firstCells, loadCells, loadCellsFrom]
    · obtain ⟨p3, p4, p5⟩ := p2 hc0
      obtain ⟨vs, c1, c2, c3⟩ := own_cells g hbk hf p4
      rw [p3] at c1
      refine ⟨(part_some hf).2, by simp [Builtin.lenOf], vs, c2, ?_, .inr (.inl ⟨b, o', cap, rfl, c1⟩)⟩
      intro m hm w hw
      exact fc _ _ _ _ _ _ c1 (by rw [c3]; exact Nat.mul_le_mul_right es' hm) w hw
  · cases hs

theorem Pl.go_rd {ro : Nat} {h : List B} {p : Pl} (hw : p.w = none) (e : p.go ro h = some (v, h')) : ∃ bs, bgets h p.rs = some bs ∧ p.f bs = some (v, none) ∧ h' = h := by
  unfold Pl.go at e
  split at e <;> (try (cases e; done))
  rename_i bs hbs
  split at e <;> (try (cases e; done))
  · cases e; exact ⟨bs, hbs, by assumption, rfl⟩
  · rw [hw] at e; cases e

/-- A new block that is read only. -/
theorem Good.fresh (g : Good P k) {w' : World} (hlow : Below k.n0 k.w w') (hs : ∀ b, b < k.w.heap.size → w'.heap[b]? = k.w.heap[b]?) {cs : Array Value} {T : TypeId} {fr : Nat × Nat}
    (hb : w'.heap[k.w.heap.size]? = some (.cells cs T fr)) {cells : List V} {vs : List Value} (hv : ∀ i, i < vs.length → cs[i]? = vs[i]?) (hl : RL k cells vs) (hp : V.pure cells) {clip : Bool} {len cap : Nat} (hlc : len ≤ cap) (hcl : clip = true → cap = len) (ro : Nat) :
    Good P { k with w := w' } ∧ Ev ro k.h.length k { k with w := w' } ∧ R { k with w := w' } (.sl clip len cells) (.slice (some ⟨k.w.heap.size, 0, none⟩) len cap) := by
  obtain ⟨g1, e1⟩ := g.world hlow hs ro k.h.length
  refine ⟨g1, e1, ?_⟩
  simp only [R]
  refine .inr ⟨k.w.heap.size, 0, cap, vs, rfl, okv.mk (.inr ⟨g.size, ?_⟩) (Array.getElem?_eq_some_iff.1 hb).1, cellsAt_block hb vs 0 (by simpa using hv), RL.ev e1 (RL.blos hl) hl, hp, hlc, hcl⟩
  rintro ⟨i, l, e⟩
  have h1 := (g.at (id := i) l).2
  have h2 : (k.β i).1 = k.w.heap.size := e
  omega

theorem did_convert (g : Good P k) (ht : Ops k tm ρ) {x : Operand} {s d : TypeId} (ho : o.op = .convert s d x) (hc : cOp P j o.op = some m) (hp : plan base tm m = some p) (hg : p.go ro k.h = some (v, h')) :
    Did P ro k (execOp ρ o) v h' := by
  rw [ho] at hc; simp only [cOp] at hc
  split at hc <;> (try (cases hc; done))
  rename_i y hy
  have h1 := ht.1 _ _ hy
  split at hc <;> (try (cases hc; done)) <;> rename_i hs hd
  · cases hc
    simp only [plan] at hp
    split at hp <;> (try (cases hp; done))
    rename_i kk n ex
    rw [ex] at h1; simp only [R] at h1
    rename_i kd _ _ 
    exact fin_val g hp hg (by simp only [execOp, ho, h1]; exact exec_v (by simp only [Go.convert, Sem.run_bind, run_underlying hs, run_underlying hd, Result.andThen_ok, Conv.intToInt, Sem.run_pure]; rfl)) (by simp only [R])
  · cases hc
    simp only [plan] at hp
    split at hp <;> (try (cases hp; done))
    rename_i st ex
    rw [ex] at h1; simp only [R] at h1
    exact fin_val g hp hg (y := .string ⟨st.toArray⟩) (by simp only [execOp, ho, h1]; exact exec_v (by simp only [Go.convert, Sem.run_bind, run_underlying hs, run_underlying hd, Result.andThen_ok, Sem.run_pure])) (by simp only [R])
  · split at hc <;> (try (cases hc; done))
    rename_i he
    cases hc
    simp only [plan] at hp
    split at hp <;> (try (cases hp; done))
    rename_i rs n f hsr
    split at hp
    · cases hp
    rename_i hns
    cases hp
    obtain ⟨bs, b1, b2, rfl⟩ := Pl.go_rd rfl hg
    simp only at b1 b2
    split at b2 <;> (try (cases b2; done))
    rename_i cs hcs
    split at b2 <;> (try (cases b2; done))
    rename_i st hst
    cases b2
    obtain ⟨r1, r2, vs, r3, r4, r6⟩ := src_run (P := P) g h1 hsr b1 hcs
    obtain ⟨ns, rfl, rfl⟩ := bytesOf_R hst r3
    have fin : ∀ z, (Go.convert s d (ρ x)).run P k.w = .ok z k.w → R k (.str (ns.map fun n => UInt8.ofNat n.toNat)) z → Did P ro k (execOp ρ o) (.str (ns.map fun n => UInt8.ofNat n.toNat)) k.h :=
      fun z hz hr => .val g (by simp only [execOp, ho]; exact exec_v hz) hr
    rcases r6 with ⟨a6, hx⟩ | ⟨b, off, cap, hx, hca⟩ | ⟨s', hx⟩
    · have : ns = [] := by
        have r2' := r2 k.w; rw [hx] at r2'; simp [Builtin.lenOf] at r2'; subst r2'
        have := RL.len r3
        simp at r1 this
        simpa [r1] using this
      subst this
      rw [hx] at fin
      refine fin (.string .empty) ?_ (by simp only [R]; rfl)
      cases a6 <;>
      simp [Go.convert, Sem.run_bind, run_underlying hs, run_underlying hd, run_underlying he, Conv.bytesToString, loadCells, loadCellsFrom]
    · have hl := loadCells_at (P := P) hca
      have hlen : (ns.map (Value.int .u8)).length = n := by rw [RL.len r3, r1]; simp
      rw [hlen] at hl
      rw [hx] at fin
      refine fin _ (by rw [run_convert_bytes_string k.w s d _ _ _ _ hs he hd]; exact run_bytesToString k.w _ _ _ ns (by simpa using hl)) ?_
      simp only [R, Value.string.injEq]
      have : ∀ (l : List Int) (s : ByteArray), l.foldl (fun r n => r.push (UInt8.ofNat n.toNat)) s = ⟨s.data ++ (l.map fun n => UInt8.ofNat n.toNat).toArray⟩ := by
        intro l
        induction l with
        | nil => intro s; cases s; simp
        | cons a l ih => intro s; simp only [List.foldl_cons, ih]; apply ByteArray.ext; simp [ByteArray.push]
      rw [this]; apply ByteArray.ext; simp
    · exact absurd hx (hns s')
  · rename_i e
    split at hc <;> (try (cases hc; done))
    rename_i he
    cases hc
    simp only [plan] at hp
    split at hp <;> (try (cases hp; done))
    rename_i st ex
    rw [ex] at h1; simp only [R] at h1
    split at hp <;> (try (cases hp; done))
    rename_i hbig
    cases hp
    obtain ⟨rfl, rfl⟩ := Pl.go_val hg
    let q := Question.appendCap st.length 0 e
    let cap := q.cut (k.w.tape k.w.drawn q)
    have hcap : st.length ≤ cap := by show _ ≤ st.length + _; omega
    let row : Array Value := ((⟨st.toArray⟩ : ByteArray).data.map fun b => Value.int .u8 b.toNat) ++ Array.replicate (cap - st.length) (.int .u8 0)
    have hrs : row.size = cap := by simp [row]; omega
    let w1 : World := { k.w with drawn := k.w.drawn + 1, heap := k.w.heap.push (.cells row e) }
    let w' : World := w1.freeze ⟨k.w.heap.size, cap, none⟩ 1
    have hw1 : w1.heap[k.w.heap.size]? = some (.cells row e (0, 0)) := by simp [w1]
    have hw' : w'.heap[k.w.heap.size]? = some (.cells row e (cap, cap + 1)) := by
      have hlt : k.w.heap.size < w1.heap.size := by simp [w1]
      simp only [w', World.freeze, Nat.one_ne_zero, if_false, Array.getElem?_modify, if_pos, hw1, Option.map_some]
      simp
    have hold : ∀ b, b < k.w.heap.size → w'.heap[b]? = k.w.heap[b]? := by
      intro b hb
      simp only [w', World.freeze, Nat.one_ne_zero, if_false, Array.getElem?_modify]
      rw [if_neg (by omega)]
      simp only [w1, Array.getElem?_push]; rw [if_neg (by omega)]
    have hlow : Below k.n0 k.w w' := by
      refine ⟨rfl, rfl, rfl, by simp [w', w1, World.freeze], fun b hb => hold b (by have := g.size; omega)⟩
    obtain ⟨g1, e1, r1⟩ := g.fresh (clip := false) (len := st.length) (cap := cap) hlow hold hw' (vs := st.map fun b => Value.int .u8 b.toNat) (cells := ofBytes st) (by
      intro i hi
      simp only [List.length_map] at hi
      simp [row, Array.getElem?_append, hi]) (ofBytes_R k st) (ofBytes_pure st) hcap (by simp) ro
    refine ⟨_, { k with w := w' }, .inl ?_, rfl, g1, e1, r1⟩
    simp only [execOp, ho, h1]; refine exec_v ?_
    have hf : q.forced = false := rfl
    have hsz : (⟨st.toArray⟩ : ByteArray).size = st.length := by simp [ByteArray.size]
    simp only [Go.convert, Sem.run_bind, run_underlying hs, run_underlying hd, run_underlying he, Result.andThen_ok, Conv.stringToBytes, run_choose, hsz]
    rw [show (Question.appendCap st.length 0 e).forced = false from rfl]
    simp only [Bool.false_eq_true, if_false, Result.andThen_ok, newRow, Sem.run_bind, run_newObj, Sem.run_pure, markStringish, run_shape]
    have hsh : w1.shape? k.w.heap.size = some (e, cap) := by simp [World.shape?, hw1, hrs]
    have e2 : ({ heap := k.w.heap.push (.cells (((⟨st.toArray⟩ : ByteArray).data.map fun b => Value.int .u8 b.toNat) ++ Array.replicate (Question.cut (Question.appendCap st.length 0 e) (k.w.tape k.w.drawn (Question.appendCap st.length 0 e)) - st.length) (.int .u8 0)) e), tape := k.w.tape, drawn := k.w.drawn + 1, os := k.w.os, output := k.w.output } : World) = w1 := rfl
    simp only [e2]
    rw [hsh]
    simp only [run_freeze, Result.andThen_ok]
    rfl

end Go.Dr
