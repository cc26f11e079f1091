/- The door: single operations, tenth part: slices that are built and made; append; copy; the other builtins. -/
import Derived.Test.YtigcchafpenhiaaDrOp9
namespace Go.Dr
open Go.RowKit (Below)

variable {P : Program} {k : K} {tm : List V} {ρ : Operand → Value} {o : Oper} {j base ro : Nat} {m : M} {p : Pl} {v : V} {h' : List B}

theorem reps_R {k : K} {z : List V} {xs : List Value} (h : RL k z xs) : ∀ (n : Nat), RL k (reps n z) (List.replicate n xs).flatten
  | 0 => by simp [reps, RL]
  | n + 1 => by simp only [reps, List.replicate_succ, List.flatten_cons]; exact RL.append h (reps_R h n)
theorem reps_ones {z : List V} (h : ones z = true) : ∀ (n : Nat), ones (reps n z) = true
  | 0 => rfl
  | n + 1 => by simp [reps, ones_append, h, reps_ones h n]
theorem reps_len (z : List V) : ∀ (n : Nat), (reps n z).length = n * z.length
  | 0 => by simp [reps]
  | n + 1 => by simp [reps, reps_len z n, Nat.succ_mul, Nat.add_comm]
theorem reps_scalars {z : List V} (h : scalars z = true) : ∀ (n : Nat), scalars (reps n z) = true
  | 0 => rfl
  | n + 1 => by simp [reps, scalars_append, h, reps_scalars h n]

/-- The model's way to repeat a row of zero cells. -/
theorem range_mod (xs : List Value) (hx : xs ≠ []) : ∀ (n : Nat), (Array.range (n * xs.length)).map (fun i => (⟨xs⟩ : Array Value)[i % (⟨xs⟩ : Array Value).size]!) = ⟨(List.replicate n xs).flatten⟩ := by
  intro n
  apply Array.ext'
  simp only [Array.toList_map, Array.toList_range, List.size_toArray]
  have hpos : 0 < xs.length := List.length_pos_iff.2 hx
  apply List.ext_getElem
  · simp
  · intro i h1 h2
    simp only [List.length_map, List.length_range] at h1
    simp only [List.getElem_map, List.getElem_range]
    have hm : i % xs.length < xs.length := Nat.mod_lt _ hpos
    have e1 : (⟨xs⟩ : Array Value)[i % xs.length]! = xs[i % xs.length] := by
      rw [getElem!_pos (⟨xs⟩ : Array Value) (i % xs.length) (by simpa using hm)]; simp
    rw [e1]
    have key : ∀ (n i : Nat) (h : i < (List.replicate n xs).flatten.length), (List.replicate n xs).flatten[i] = xs[i % xs.length]'(Nat.mod_lt _ hpos) := by
      intro n
      induction n with
      | zero => intro i h; simp at h
      | succ n ih =>
        intro i h
        simp only [List.replicate_succ, List.flatten_cons] at h ⊢
        by_cases hi : i < xs.length
        · rw [List.getElem_append_left hi]
          simp [Nat.mod_eq_of_lt hi]
        · rw [List.getElem_append_right (by omega)]
          rw [ih]
          congr 1
          exact (Nat.mod_eq_sub_mod (by omega)).symm
    exact (key n i h2).symm

theorem flat_nil {xs : List Value} {n l : Nat} (hl : xs.length = l) (h : n * l = 0) : (List.replicate n xs).flatten = [] := by
  apply List.eq_nil_of_length_eq_zero; simp [hl, h]

theorem did_build_slice (g : Good P k) (ht : Ops k tm ρ) {t len : Nat} {ps : Array (Nat × Operand)} (ho : o.op = .buildSlice t len ps) (hc : cOp P j o.op = some m) (hp : plan base tm m = some p) (hg : p.go ro k.h = some (v, h')) :
    Did P ro k (execOp ρ o) v h' := by
  rw [ho] at hc; simp only [cOp] at hc
  split at hc <;> (try (cases hc; done))
  rename_i e hu
  split at hc <;> (try (cases hc; done))
  rename_i n z hn hz
  split at hc <;> (try (cases hc; done))
  rename_i hbig
  obtain ⟨qs, hq, rfl⟩ := map_some hc
  simp only [plan] at hp
  split at hp <;> (try (cases hp; done))
  rename_i cs hcs
  split at hp <;> (try (cases hp; done))
  rename_i hblo
  cases hp
  obtain ⟨rfl, rfl⟩ := Pl.go_val hg
  obtain ⟨zx, z1, z2, z3, z4⟩ := zeroOf_run hz k.w k
  rw [hn] at z3; cases z3
  have hzl := RL.len z2
  have hrow := reps_R z2 len
  obtain ⟨xs', f1, f2, f3, f4⟩ := fills_run ht hq hcs hrow (reps_ones z4 len)
  have hexec : (execOp ρ o).run P k.w = .ok (.value (.slice (some ⟨k.w.heap.size, 0, none⟩) len len)) (k.w.alloc (.cells ⟨xs'⟩ e)) := by
    simp only [execOp, ho]; refine exec_v ?_
    simp only [Instr.buildSlice, Sem.run_bind, run_underlying hu, Result.andThen_ok, szOf_run hn]
    have hb2 : ¬ (len * z.length > 2 ^ 24) := by omega
    rw [if_neg hb2]
    have hmap : (ps.map fun (i, x) => (i, ρ x)).toList = ps.toList.map fun (i, x) => (i, ρ x) := by simp
    by_cases h0 : len * z.length = 0
    · have hfl := flat_nil hzl h0
      rw [hfl] at f1
      simp only [h0, if_true, Sem.run_pure, Sem.run_bind, Result.andThen_ok, hmap]
      have hr0 : (Array.map (fun x => (#[] : Array Value)[x % (#[] : Array Value).size]!) (Array.range 0)) = ⟨[]⟩ := by simp
      rw [hr0, f1]
      simp only [newRow, Sem.run_bind, run_newObj, Result.andThen_ok, Sem.run_pure]
      rfl
    · have hne : zx.cells.toList ≠ [] := by
        intro e0; rw [e0] at hzl; simp at hzl; rw [← hzl] at h0; simp at h0
      have hrm := range_mod zx.cells.toList hne len
      rw [hzl] at hrm
      simp only [h0, if_false, Sem.run_pure, Sem.run_bind, Result.andThen_ok, hmap, z1]
      have hr0 : (Array.map (fun x => zx.cells[x % zx.cells.size]!) (Array.range (len * z.length))) = ⟨(List.replicate len zx.cells.toList).flatten⟩ := by simpa using hrm
      rw [hr0, f1]
      simp only [newRow, Sem.run_bind, run_newObj, Result.andThen_ok, Sem.run_pure]
      rfl
  have hpure : V.pure cs := ⟨f3, hblo⟩
  have hnew : (k.w.alloc (.cells ⟨xs'⟩ e)).heap[k.w.heap.size]? = some (.cells ⟨xs'⟩ e (0, 0)) := by simp [World.alloc, -World.alloc_eq]
  have hold : ∀ b, b < k.w.heap.size → (k.w.alloc (.cells ⟨xs'⟩ e)).heap[b]? = k.w.heap[b]? := fun b hb => Below.heap_alloc _ _ _ hb
  have hlow : Below k.n0 k.w (k.w.alloc (.cells ⟨xs'⟩ e)) := (Below.refl _ _).alloc g.size _
  obtain ⟨g1, e1, r1⟩ := g.fresh (clip := true) (len := len) (cap := len) hlow hold hnew (vs := xs') (cells := cs) (by intro i _; simp) f2 hpure (Nat.le_refl _) (fun _ => rfl) ro
  exact ⟨_, { k with w := k.w.alloc (.cells ⟨xs'⟩ e) }, .inl hexec, rfl, g1, e1, r1⟩

theorem did_make (g : Good P k) (ht : Ops k tm ρ) {t : TypeId} {x y : Operand} (ho : o.op = .makeSlice t x y) (hc : cOp P j o.op = some m) (hp : plan base tm m = some p) (hg : p.go ro k.h = some (v, h')) :
    Did P ro k (execOp ρ o) v h' := by
  rw [ho] at hc; simp only [cOp] at hc
  split at hc <;> (try (cases hc; done))
  rename_i e hu
  split at hc <;> (try (cases hc; done))
  rename_i n by_ z l c hn hby hz hl hcc
  cases hc
  have h1 := ht.1 _ _ hl
  have h2 := ht.1 _ _ hcc
  simp only [plan] at hp
  split at hp <;> (try (cases hp; done))
  rename_i cn hcn
  split at hp <;> (try (cases hp; done))
  rename_i ln hln
  split at hp <;> (try (cases hp; done))
  rename_i hcond
  simp only [Bool.and_eq_true, decide_eq_true_eq, Bool.or_eq_true, Bool.not_eq_true'] at hcond
  obtain ⟨⟨hb1, hb2⟩, hb3⟩ := hcond
  cases hp
  obtain ⟨q1, q2, rfl, rfl⟩ := Pl.go_new hg
  obtain ⟨zx, z1, z2, z3, z4⟩ := zeroOf_run hz k.w k
  have hzl := RL.len z2
  obtain ⟨kk, ci, hce, c0, c1, rfl⟩ := nat?_some hcn
  obtain ⟨kk', li, hle, l0, l1, rfl⟩ := nat?_some hln
  rw [hce] at h2; rw [hle] at h1; simp only [R] at h1 h2
  obtain ⟨ti, ty1, ty2, ty3⟩ := byOf_run hby k.w
  have hbig : (big : Int) = 68719476736 := rfl
  rw [hbig] at c1
  have hwc : IntKind.i64.wrap ci = ci := by
    rw [IntKind.wrap_i64]; omega
  have hwl : IntKind.i64.wrap li = li := by
    rw [IntKind.wrap_i64]; omega
  have hmul : (ti.bytes : Int) * ci ≤ 68719476736 := by
    have hh : ci.toNat * (by_ + 1) ≤ 68719476736 := hb1
    have h3 : by_ * ci.toNat ≤ 68719476736 := by rw [Nat.mul_add, Nat.mul_comm] at hh; omega
    rw [ty2]
    have h4 : ((by_ * ci.toNat : Nat) : Int) = (by_ : Int) * ci := by rw [Int.natCast_mul, Int.toNat_of_nonneg c0]
    rw [← h4]; omega
  have hlen : ((List.replicate (ci.toNat) zx.cells.toList).flatten).length = ci.toNat * n := by simp [hzl, hb2]
  have hsplit : (List.replicate ci.toNat zx.cells.toList).flatten = (List.replicate li.toNat zx.cells.toList).flatten ++ (List.replicate (ci.toNat - li.toNat) zx.cells.toList).flatten := by
    rw [← List.flatten_append, List.replicate_append_replicate]; congr 2; omega
  have hrow := reps_R z2 li.toNat
  have hdat : datOf P e = true → scalars (reps li.toNat z) = true := fun hd => by
    rcases hb3 with h | h
    · rw [hd] at h; cases h
    · exact reps_scalars h _
  obtain ⟨g1, e1⟩ := born (ro := ro) (dat := datOf P e) (rest := (List.replicate (ci.toNat - li.toNat) zx.cells.toList).flatten) (T := e) g q1 q2 hrow (reps_ones z4 _) hdat
    (w' := k.w.alloc (.cells ⟨(List.replicate ci.toNat zx.cells.toList).flatten⟩ e)) (by rw [hsplit]; rfl) rfl rfl rfl
  refine ⟨.slice (some ⟨k.w.heap.size, 0, none⟩) li.toNat ci.toNat, _, .inl ?_, rfl, g1, e1, ?_⟩
  · simp only [execOp, ho, h1, h2]; refine exec_v ?_
    have htl : (decide (ci < 0) || decide ((ti.bytes : Int) * ci > 2 ^ 48)) = false := by
      simp only [Bool.or_eq_false_iff, decide_eq_false_iff_not]; constructor <;> omega
    simp only [Instr.makeSlice, Sem.run_bind, run_underlying hu, Result.andThen_ok, asInt, asIntOf, Sem.run_pure, ty1, hwc, hwl, htl, Bool.false_or]
    have hcond2 : (decide (li < 0) || decide (li > ci)) = false := by
      simp only [Bool.or_eq_false_iff, decide_eq_false_iff_not]; constructor <;> omega
    rw [hcond2]
    by_cases h0 : ci.toNat * n = 0
    · have hfl := flat_nil (hzl.trans hb2) h0
      simp only [Bool.false_eq_true, if_false, Sem.run_pure, Result.andThen_ok, run_askRoom, szOf_run hn, h0, if_true, newRow, Sem.run_bind, run_newObj]
      have hr0 : (Array.map (fun x => (#[] : Array Value)[x % (#[] : Array Value).size]!) (Array.range 0)) = ⟨[]⟩ := by simp
      rw [hr0, hfl]; rfl
    · have hne : zx.cells.toList ≠ [] := by
        intro e0; rw [e0] at hzl; simp at hzl; rw [← hb2, ← hzl] at h0; simp at h0
      have hrm := range_mod zx.cells.toList hne ci.toNat
      rw [hzl, hb2] at hrm
      simp only [Bool.false_eq_true, if_false, Sem.run_pure, Result.andThen_ok, run_askRoom, szOf_run hn, h0, z1, newRow, Sem.run_bind, run_newObj]
      have hr0 : (Array.map (fun x => zx.cells[x % zx.cells.size]!) (Array.range (ci.toNat * n))) = ⟨(List.replicate ci.toNat zx.cells.toList).flatten⟩ := by simpa using hrm
      rw [hr0]; rfl
  · simp only [R]
    refine ⟨k.w.heap.size, 0, ci.toNat, reps li.toNat z, datOf P e, rfl, by simp only [K.set, bget_bset, bget_lt q1, and_self, if_true], by rw [reps_len, hb2]; exact Nat.le_refl _, by omega, fun h => by simp only [decide_eq_true_eq] at h; omega, fun _ => ⟨by omega, by simp [K.set], fun _ => ⟨by simp [K.set], by simp [K.set], fun _ _ _ => ?_⟩⟩⟩
    simp only [rowSize, K.set]
    have : (k.w.alloc (.cells ⟨(List.replicate ci.toNat zx.cells.toList).flatten⟩ e)).heap[k.w.heap.size]? = some (.cells ⟨(List.replicate ci.toNat zx.cells.toList).flatten⟩ e (0, 0)) := by simp [World.alloc, -World.alloc_eq]
    rw [this]
    simp only [List.size_toArray, hlen, Nat.zero_add]

end Go.Dr
