/- The door: single operations, seventh part: strings' and arrays' elements, conversions of numbers, lengths, least and greatest, structs and arrays as values. -/
import Derived.Test.YtigcchafpenhiaaDrOp6
namespace Go.Dr
open Go.RowKit (Below)

variable {P : Program} {k : K} {tm : List V} {ρ : Operand → Value} {o : Oper} {j base ro : Nat} {m : M} {p : Pl} {v : V} {h' : List B}

/-! ### a struct's parts -/
theorem set_fold : ∀ (vs : List Value) (s off : Nat) (cs : List Value), off + s + vs.length ≤ cs.length →
    ((vs.zipIdx s).foldl (fun (cs : Array Value) (c, j) => cs.setIfInBounds (off + j) c) (⟨cs⟩ : Array Value)) = ⟨cs.take (off + s) ++ vs ++ cs.drop (off + s + vs.length)⟩
  | [], s, off, cs, h => by simp
  | v :: vs, s, off, cs, h => by
    simp only [List.zipIdx_cons, List.foldl_cons]
    have e : (⟨cs⟩ : Array Value).setIfInBounds (off + s) v = ⟨cs.set (off + s) v⟩ := by simp
    rw [e, set_fold vs (s + 1) off _ (by simp at h ⊢; omega)]
    congr 1
    have h1 : off + s < cs.length := by simp at h; omega
    rw [List.take_set, List.drop_set, if_pos (by omega)]
    rw [show off + (s + 1) = (off + s) + 1 by omega, List.take_succ_eq_append_getElem h1]
    have h2 : (List.take (off + s) cs ++ [cs[off + s]]).set (off + s) v = List.take (off + s) cs ++ [v] := by
      have hl : (cs.take (off + s)).length = off + s := by rw [List.length_take]; omega
      rw [List.set_append_right _ _ (by omega), hl]; simp
    rw [h2]
    simp only [List.length_cons, List.append_assoc, List.singleton_append]
    congr 3; omega

theorem fill_step (vs : Array Value) (off : Nat) (cs : List Value) (h : off + vs.size ≤ cs.length) :
    (vs.zipIdx.foldl (fun cs (c, j) => cs.setIfInBounds (off + j) c) (⟨cs⟩ : Array Value)) = ⟨cs.take off ++ vs.toList ++ cs.drop (off + vs.size)⟩ := by
  have := set_fold vs.toList 0 off cs (by simpa using h)
  rw [← Array.foldl_toList, Array.toList_zipIdx]
  simpa using this

theorem fills_run (ht : Ops k tm ρ) {place : Nat → Option (Nat × Nat)} : ∀ {ps : List (Nat × Operand)} {qs : List (Nat × Nat × O)}, cParts P place ps = some qs →
    ∀ {cs cs' : List V} {xs : List Value}, fills tm cs qs = some cs' → RL k cs xs → ones cs = true →
    ∃ xs', Instr.fill place ⟨xs⟩ (ps.map fun (i, x) => (i, ρ x)) = some ⟨xs'⟩ ∧ RL k cs' xs' ∧ ones cs' = true ∧ cs'.length = cs.length
  | [], qs, hq, cs, cs', xs, hf, hl, ho => by
    simp only [cParts, Option.some.injEq] at hq; subst hq
    simp only [fills, Option.some.injEq] at hf; subst hf
    exact ⟨xs, by simp [Instr.fill], hl, ho, rfl⟩
  | (i, x) :: ps, qs, hq, cs, cs', xs, hf, hl, ho => by
    simp only [cParts] at hq
    split at hq <;> (try (cases hq; done))
    rename_i off n y hpl hy
    split at hq <;> (try (cases hq; done))
    rename_i r hr
    cases hq
    simp only [fills] at hf
    split at hf <;> (try (cases hf; done))
    rename_i hcond
    simp only [Bool.and_eq_true, decide_eq_true_eq] at hcond
    obtain ⟨⟨h1, h2⟩, h3⟩ := hcond
    have hx := ht.1 _ _ hy
    have hxc := cells_R hx h3
    have hlen := RL.len hxc
    have hlen2 := RL.len hl
    have hsz : (ρ x).cells.size = n := by simpa [h1] using hlen
    have hover := over_eq cs off _ (by rw [h1]; exact h2)
    have hRL : RL k (over cs off (y.ev tm).cells) (xs.take off ++ (ρ x).cells.toList ++ xs.drop (off + (ρ x).cells.size)) := by
      rw [hover, h1, hsz]
      exact RL.append (RL.append (RL.take _ hl) hxc) (RL.drop _ hl)
    have hones : ones (over cs off (y.ev tm).cells) = true := by
      rw [hover, ones_append, ones_append]; simp [ones_take ho, ones_drop ho, h3]
    obtain ⟨xs', e1, e2, e3, e4⟩ := fills_run ht hr hf hRL hones
    refine ⟨xs', ?_, e2, e3, by rw [e4, over_len _ _ _ (by rw [h1]; exact h2)]⟩
    simp only [List.map_cons, Instr.fill, hpl]
    rw [if_neg (by simp [hsz]; omega), fill_step _ _ _ (by rw [hsz, hlen2]; exact h2)]
    exact e1

theorem mapM_sizes {fs : Array Field} (h : fieldsOk P fs = true) (w : World) :
    ∃ ps : Array (Nat × Nat), (fs.mapM fun f => do pure (f.offset, ← sizeOf f.type) : Sem (Array (Nat × Nat))).run P w = .ok ps w ∧ ∀ i : Nat, ps[i]? = fieldsAt P fs i := by
  have key : ∀ (l : List Field), (l.all fun f => (szOf P f.type).isSome) = true → ∃ ps : List (Nat × Nat), (l.mapM (fun f => do pure (f.offset, ← sizeOf f.type)) : Sem (List (Nat × Nat))).run P w = .ok ps w ∧
      ∀ i : Nat, ps[i]? = match l[i]? with | none => none | some f => (szOf P f.type).map (f.offset, ·) := by
    intro l
    induction l with
    | nil => intro _; exact ⟨[], by simp, by simp⟩
    | cons f l ih =>
      intro hl
      simp only [List.all_cons, Bool.and_eq_true] at hl
      obtain ⟨ps, h1, h2⟩ := ih hl.2
      obtain ⟨n, hn⟩ := Option.isSome_iff_exists.1 hl.1
      refine ⟨(f.offset, n) :: ps, by simp only [List.mapM_cons, Sem.run_bind, szOf_run hn, Result.andThen_ok, Sem.run_pure, h1], ?_⟩
      intro i
      cases i with
      | zero => simp [hn]
      | succ i => simpa using h2 i
  obtain ⟨ps, h1, h2⟩ := key fs.toList (by simpa [fieldsOk] using h)
  refine ⟨⟨ps⟩, ?_, ?_⟩
  · rw [Array.mapM_eq_mapM_toList]
    simp only [Sem.run_map, h1, Result.andThen_ok]
  · intro i
    have e : fs[i]? = fs.toList[i]? := by simp
    have e2 : (⟨ps⟩ : Array (Nat × Nat))[i]? = ps[i]? := by simp
    unfold fieldsAt
    rw [e, e2, h2 i]; rfl

theorem did_build (g : Good P k) (ht : Ops k tm ρ) {t : TypeId} {ps : Array (Nat × Operand)} (ho : o.op = .build t ps) (hc : cOp P j o.op = some m) (hp : plan base tm m = some p) (hg : p.go ro k.h = some (v, h')) :
    Did P ro k (execOp ρ o) v h' := by
  rw [ho] at hc; simp only [cOp] at hc
  split at hc <;> (try (cases hc; done))
  · rename_i z fs hz hu
    split at hc <;> (try (cases hc; done))
    rename_i hok
    obtain ⟨qs, hq, rfl⟩ := map_some hc
    simp only [plan] at hp
    obtain ⟨z', hz', rfl⟩ := val?_some hp
    obtain ⟨cs', hcs, rfl⟩ := map_some hz'
    obtain ⟨zx, z1, z2, z3, z4⟩ := zeroOf_run hz k.w k
    obtain ⟨pl, p1, p2⟩ := mapM_sizes hok k.w
    have hpl : (pl[·]? : Nat → Option (Nat × Nat)) = fieldsAt P fs := funext p2
    obtain ⟨xs', f1, f2, f3, f4⟩ := fills_run ht hq hcs z2 z4
    refine fin_val g rfl hg (y := .agg ⟨xs'⟩) ?_ (by simp only [R]; exact ⟨xs', rfl, f2⟩)
    simp only [execOp, ho]; refine exec_v ?_
    simp only [Instr.build, Sem.run_bind, z1, Result.andThen_ok, run_underlying hu, p1, hpl]
    have e : (ps.map fun (i, x) => (i, ρ x)).toList = ps.toList.map fun (i, x) => (i, ρ x) := by simp
    rw [e]
    have e2 : zx.cells = ⟨zx.cells.toList⟩ := rfl
    rw [e2, f1]; rfl
  · rename_i z len el hz hu
    split at hc <;> (try (cases hc; done))
    rename_i n hn
    obtain ⟨qs, hq, rfl⟩ := map_some hc
    simp only [plan] at hp
    obtain ⟨z', hz', rfl⟩ := val?_some hp
    obtain ⟨cs', hcs, rfl⟩ := map_some hz'
    obtain ⟨zx, z1, z2, z3, z4⟩ := zeroOf_run hz k.w k
    obtain ⟨xs', f1, f2, f3, f4⟩ := fills_run ht hq hcs z2 z4
    refine fin_val g rfl hg (y := .agg ⟨xs'⟩) ?_ (by simp only [R]; exact ⟨xs', rfl, f2⟩)
    simp only [execOp, ho]; refine exec_v ?_
    simp only [Instr.build, Sem.run_bind, z1, Result.andThen_ok, run_underlying hu, szOf_run hn]
    have e : (ps.map fun (i, x) => (i, ρ x)).toList = ps.toList.map fun (i, x) => (i, ρ x) := by simp
    rw [e]
    have e2 : zx.cells = ⟨zx.cells.toList⟩ := rfl
    rw [e2, f1]; rfl

theorem did_index (g : Good P k) (ht : Ops k tm ρ) {x i : Operand} {t : TypeId} (ho : o.op = .index t x i) (hc : cOp P j o.op = some m) (hp : plan base tm m = some p) (hg : p.go ro k.h = some (v, h')) :
    Did P ro k (execOp ρ o) v h' := by
  rw [ho] at hc; simp only [cOp] at hc
  split at hc <;> (try (cases hc; done))
  rename_i y iy hy hiy
  have h1 := ht.1 _ _ hy
  have h2 := ht.1 _ _ hiy
  split at hc <;> (try (cases hc; done)) <;> rename_i hu
  · cases hc
    simp only [plan] at hp
    split at hp <;> (try (cases hp; done))
    rename_i s ex
    rw [ex] at h1; simp only [R] at h1
    split at hp <;> (try (cases hp; done))
    rename_i jj hj
    obtain ⟨kk, q, hq, h0, hm, rfl⟩ := nat?_some hj
    rw [hq] at h2; simp only [R] at h2
    split at hp <;> (try (cases hp; done))
    rename_i b hb
    have hlt : q.toNat < s.length := (List.getElem?_eq_some_iff.1 hb).1
    have hbb : (⟨s.toArray⟩ : ByteArray)[q.toNat]? = some b := by
      have hsz : q.toNat < (⟨s.toArray⟩ : ByteArray).size := by simpa [ByteArray.size] using hlt
      rw [getElem?_pos (⟨s.toArray⟩ : ByteArray) q.toNat hsz]
      congr 1
      have := (List.getElem?_eq_some_iff.1 hb).2
      simpa [ByteArray.getElem_eq_getElem_data] using this
    exact fin_val g hp hg (y := .int .u8 b.toNat) (by
      simp only [execOp, ho, h1, h2]; refine exec_v ?_
      simp only [Instr.index, asIntOf, Sem.run_bind, Sem.run_pure, Result.andThen_ok, run_underlying hu, if_pos h0, hbb]) (by simp only [R])
  · rename_i len el
    split at hc <;> (try (cases hc; done))
    rename_i ga n hga hn
    split at hc <;> (try (cases hc; done))
    rename_i hgn
    cases hc
    simp only [plan] at hp
    split at hp <;> (try (cases hp; done))
    rename_i mm
    split at hp <;> (try (cases hp; done))
    rename_i jj hj
    obtain ⟨kk, q, hq, h0, hm, rfl⟩ := nat?_some hj
    rw [hq] at h2; simp only [R] at h2
    split at hp <;> (try (cases hp; done))
    rename_i cs e
    rw [e] at h1; simp only [R] at h1
    obtain ⟨xs, hx, hl⟩ := h1
    obtain ⟨z, hz, rfl⟩ := val?_some hp
    obtain ⟨rs, hr, hz'⟩ := loadFrom_some hz
    have hgn' : ga = true ∨ n = 1 := by simpa using hgn
    have key : ∃ y', (Go.part el ⟨xs⟩ (q.toNat * n)).run P k.w = .ok y' k.w ∧ R k z y' := by
      by_cases hn0 : n = 0
      · subst hn0
        rcases hz' with ⟨rfl, rfl⟩ | ⟨rfl, rfl⟩
        · obtain ⟨rfl, hlr⟩ := part_some hr
          refine ⟨.agg #[], by simp [Go.part, aggOf_run hga, szOf_run hn], ?_⟩
          have : List.take 0 (List.drop (q.toNat * 0) cs) = [] := by simp
          rw [this]; simp only [R]; exact ⟨[], rfl, RL.nil⟩
        · simp at hgn'
      · obtain ⟨a, b, rfl, hla, hlr⟩ := part_split hr (by omega)
        obtain ⟨xab, xb, rfl, hab, hb⟩ := RL.split hl
        obtain ⟨xa, xr, rfl, ha, hr'⟩ := RL.split hab
        have := part_run hn hga hgn' (pre := xa) (post := xb) (by rw [RL.len hr', hlr]) k.w
        rw [RL.len ha, hla] at this
        refine ⟨_, this, ?_⟩
        rcases hz' with ⟨rfl, rfl⟩ | ⟨rfl, rfl⟩
        · simp only [valOf, hga, if_true, R]; exact ⟨xr, rfl, hr'⟩
        · obtain ⟨x', r', rfl, hx', hr2⟩ := (by simpa [RL] using hr' : ∃ x' r, xr = x' :: r ∧ R k z x' ∧ r = [])
          simpa [valOf, hga] using hx'
    obtain ⟨y', hr1, hr2⟩ := key
    exact fin_val g rfl hg (y := y') (by
      simp only [execOp, ho, hx, h2]; refine exec_v ?_
      have hlt : q < ((mm + 1 : Nat) : Int) := by omega
      simp only [Instr.index, asIntOf, Sem.run_bind, Sem.run_pure, Result.andThen_ok, run_underlying hu, if_pos (And.intro h0 hlt), szOf_run hn, hr1]) hr2

/-- []byte(s): the new block is not of the own: it is read only. -/
theorem cellsAt_block {w : World} {b : Nat} {cs : Array Value} {T : TypeId} {fr : Nat × Nat} (h : w.heap[b]? = some (.cells cs T fr)) : ∀ (vs : List Value) (off : Nat), (∀ i, i < vs.length → cs[off + i]? = vs[i]?) → cellsAt w b off vs
  | [], _, _ => trivial
  | v :: vs, off, hv => by
    refine ⟨?_, cellsAt_block h vs (off + 1) fun i hi => ?_⟩
    · have := hv 0 (by simp)
      simpa [World.cell?, h] using this
    · have := hv (i + 1) (by simpa using hi)
      simpa [Nat.add_assoc, Nat.add_comm 1 i] using this

theorem ofBytes_R (k : K) : ∀ (s : List UInt8), RL k (ofBytes s) (s.map fun b => .int .u8 b.toNat)
  | [] => by simp [ofBytes, RL]
  | b :: s => RL.cons (by simp only [R]) (ofBytes_R k s)
theorem ofBytes_pure : ∀ (s : List UInt8), V.pure (ofBytes s)
  | [] => ⟨rfl, rfl⟩
  | b :: s => ⟨by simp [ofBytes, ones, V.one, (ofBytes_pure s).1], by simp [ofBytes, blos, V.blo, (ofBytes_pure s).2]⟩
theorem ofBytes_len (s : List UInt8) : (ofBytes s).length = s.length := by induction s <;> simp_all [ofBytes]

theorem bytesOf_R {k : K} : ∀ {cs : List V} {s : List UInt8} {xs : List Value}, bytesOf cs = some s → RL k cs xs → ∃ ns : List Int, xs = ns.map (Value.int .u8) ∧ s = ns.map fun n => UInt8.ofNat n.toNat
  | [], s, xs, h, hl => by simp [bytesOf] at h; simp [RL] at hl; subst h hl; exact ⟨[], rfl, rfl⟩
  | c :: cs, s, xs, h, hl => by
    obtain ⟨x, r, rfl, hx, hr⟩ := (by simpa [RL] using hl : ∃ x r, xs = x :: r ∧ R k c x ∧ RL k cs r)
    simp only [bytesOf] at h
    split at h <;> (try (cases h; done))
    rename_i b hb
    split at h <;> (try (cases h; done))
    rename_i s' hs'
    cases h
    obtain ⟨ns, rfl, rfl⟩ := bytesOf_R hs' hr
    unfold byteOf at hb
    split at hb <;> cases hb
    simp only [R] at hx; subst hx
    rename_i n
    exact ⟨n :: ns, rfl, rfl⟩

end Go.Dr
