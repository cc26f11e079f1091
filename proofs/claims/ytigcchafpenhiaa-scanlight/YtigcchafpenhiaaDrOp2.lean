/- The door: single operations, second part: operations that touch no memory. -/
import Derived.Test.YtigcchafpenhiaaDrOp1
import Derived.Laws.StructEq
namespace Go.Dr
open Go.RowKit (Below)

variable {P : Program} {k : K} {tm : List V} {ρ : Operand → Value} {o : Oper} {j base ro : Nat} {m : M} {p : Pl} {v : V} {h' : List B}

/-- The operands stand for what the small code reads. -/
def Ops (k : K) (tm : List V) (ρ : Operand → Value) : Prop :=
  (∀ x y, cO x = some y → R k (y.ev tm) (ρ x)) ∧ (∀ xs ys, cOs xs = some ys → RL k (evs tm ys) (xs.map ρ))

theorem Ops.of {a : Act} (ht : RL k tm a.tmps.toList) : Ops k tm a.eval := ⟨fun _ _ h => cO_R ht h, fun _ _ h => cOs_R ht h⟩

theorem map_some {α β : Type} {f : α → β} {x : Option α} {y : β} (h : x.map f = some y) : ∃ z, x = some z ∧ y = f z := by
  obtain ⟨z, hz, rfl⟩ := Option.map_eq_some_iff.1 h; exact ⟨z, hz, rfl⟩

/-- A plan that gives a value. -/
theorem fin_val {x : V} (g : Good P k) (hp : some (Pl.val x) = some p) (hg : p.go ro k.h = some (v, h')) {s : Sem Next} {y : Value}
    (hr : s.run P k.w = .ok (.value y) k.w) (hx : R k x y) : Did P ro k s v h' := by
  cases hp; obtain ⟨rfl, rfl⟩ := Pl.go_val hg; exact .val g hr hx

theorem did_move (g : Good P k) (ht : Ops k tm ρ) {x : Operand} (ho : o.op = .move x) (hc : cOp P j o.op = some m) (hp : plan base tm m = some p) (hg : p.go ro k.h = some (v, h')) :
    Did P ro k (execOp ρ o) v h' := by
  rw [ho] at hc; simp only [cOp] at hc; obtain ⟨y, hy, rfl⟩ := map_some hc
  exact fin_val g hp hg (y := ρ x) (by simp [execOp, ho]) (ht.1 _ _ hy)

theorem did_assign (g : Good P k) (ht : Ops k tm ρ) {x : Operand} (ho : o.op = .assign x) (hc : cOp P j o.op = some m) (hp : plan base tm m = some p) (hg : p.go ro k.h = some (v, h')) :
    Did P ro k (execOp ρ o) v h' := by
  rw [ho] at hc; simp only [cOp] at hc; obtain ⟨y, hy, rfl⟩ := map_some hc
  exact fin_val g hp hg (y := ρ x) (by simp [execOp, ho]) (ht.1 _ _ hy)

theorem did_pick (g : Good P k) (ht : Ops k tm ρ) {x y z : Operand} (ho : o.op = .pick x y z) (hc : cOp P j o.op = some m) (hp : plan base tm m = some p) (hg : p.go ro k.h = some (v, h')) :
    Did P ro k (execOp ρ o) v h' := by
  rw [ho] at hc; simp only [cOp] at hc
  split at hc
  · rename_i c a b hc1 ha hb
    cases hc
    simp only [plan] at hp
    split at hp
    · rename_i t et
      have h1 := ht.1 _ _ hc1
      rw [et] at h1; simp only [R] at h1
      refine fin_val g hp hg (y := if t then ρ y else ρ z) (by simp [execOp, ho, h1, asBool]) ?_
      cases t
      · simpa using ht.1 _ _ hb
      · simpa using ht.1 _ _ ha
    · cases hp
  · cases hc

theorem did_nil (g : Good P k) (ht : Ops k tm ρ) {x : Operand} (ho : o.op = .nilCheck x) (hc : cOp P j o.op = some m) (hp : plan base tm m = some p) (hg : p.go ro k.h = some (v, h')) :
    Did P ro k (execOp ρ o) v h' := by
  rw [ho] at hc; simp only [cOp] at hc; obtain ⟨y, hy, rfl⟩ := map_some hc
  have h1 := ht.1 _ _ hy
  simp only [plan] at hp
  split at hp <;> (try (cases hp; done)) <;> (rename_i e; rw [e] at h1) <;> have h2 := h1 <;> simp only [R] at h2
  · obtain ⟨b, o', vs, hx, _⟩ := h2
    exact fin_val g hp hg (y := ρ x) (by simp [execOp, ho, hx]) h1
  · obtain ⟨b, o', c, dat, hx, _⟩ := h2
    exact fin_val g hp hg (y := ρ x) (by simp [execOp, ho, hx]) h1
  · obtain ⟨vs, hx, _⟩ := h2
    exact fin_val g hp hg (y := ρ x) (by simp [execOp, ho, hx]) h1
  · obtain ⟨y', hx, _⟩ := h2
    exact fin_val g hp hg (y := ρ x) (by simp [execOp, ho, hx]) h1

theorem toList_mk (l : List UInt8) : (⟨l.toArray⟩ : ByteArray).toList = l := ByteArray.toList_eq _

theorem eqGuard_int (op : BinOp) (t : TypeId) (x y : Operand) (kk kk' : IntKind) (a b : Int) (w : World) : (eqGuard op t x y (.int kk a) (.int kk' b)).run P w = .ok () w := by
  cases op <;> simp [eqGuard]
theorem eqGuard_str (op : BinOp) (t : TypeId) (x y : Operand) (a b : ByteArray) (w : World) : (eqGuard op t x y (.string a) (.string b)).run P w = .ok () w := by
  cases op <;> simp [eqGuard]

theorem binop_run {op : BinOp} {x y z : V} {t : TypeId} {x' y' : Value} (h : binop op x y = some z) (hx : R k x x') (hy : R k y y') (w : World) :
    (∀ xo yo, (eqGuard op t xo yo x' y').run P w = .ok () w) ∧ ∃ z', (Go.binOp op t x' y').run P w = .ok z' w ∧ R k z z' := by
  unfold binop at h
  split at h
  · rename_i kk a kk' b
    simp only [R] at hx hy; subst hx hy
    refine ⟨fun xo yo => eqGuard_int _ _ _ _ _ _ _ _ _, ?_⟩
    split at h
    · simp only [shf] at h
      split at h
      · cases h
      · rename_i hn
        simp only [Option.some.injEq] at h; subst h
        exact ⟨.int kk (kk.wrap (a * 2 ^ min b.toNat kk.bits)), by simp [Go.binOp, Op.shift, hn], by simp only [R]⟩
    · simp only [shf] at h
      split at h
      · cases h
      · rename_i hn
        simp only [Option.some.injEq] at h; subst h
        exact ⟨.int kk (a.fdiv (2 ^ min b.toNat kk.bits)), by simp [Go.binOp, Op.shift, hn], by simp only [R]⟩
    · rename_i h1 h2
      split at h
      · rename_i e; subst e
        obtain ⟨z', hz, hr⟩ := ari_run (P := P) (k := k) h (fun e => h1 e) (fun e => h2 e) w
        exact ⟨z', by rw [binOp_ty op t 0]; exact hz, hr⟩
      · cases h
  · rename_i a b
    simp only [R] at hx hy; subst hx hy
    refine ⟨fun xo yo => eqGuard_str _ _ _ _ _ _ _, ?_⟩
    cases op <;> simp only [sop, Option.some.injEq] at h <;> (try (cases h; done)) <;> (try (split at h <;> cases h)) <;> (try subst h)
    · rename_i hl
      have hn : ¬ (((⟨a.toArray⟩ : ByteArray).size + (⟨b.toArray⟩ : ByteArray).size : Nat) : Int) > IntKind.i64.max := by
        have e : IntKind.i64.max = 9223372036854775807 := by decide
        rw [e]; simp [ByteArray.size]; omega
      refine ⟨.string (⟨a.toArray⟩ ++ ⟨b.toArray⟩), ?_, ?_⟩
      · simp only [Go.binOp, Op.stringOp]; rw [if_neg hn]; rfl
      · simp only [R, Value.string.injEq]
        apply ByteArray.ext; simp
    all_goals exact ⟨.bool _, by simp only [Go.binOp, Op.stringOp, toList_mk, Sem.run_pure]; rfl, by simp only [R]⟩
  · cases h

/-! ### equality -/
theorem eq1_run {n : Nat} {x y : V} {b : Bool} (h : eq1 n x y = some b) {x' y' : Value} (hx : R k x x') (hy : R k y y') :
    (n = 1 ∧ ∃ u v, x' = .bool u ∧ y' = .bool v ∧ b = (u == v)) ∨ (n = 0 ∧ ∃ kk u v, x' = .int kk u ∧ y' = .int kk v ∧ b = (u == v)) ∨ (n = 2 ∧ ∃ u v : ByteArray, x' = .string u ∧ y' = .string v ∧ b = (u == v)) := by
  unfold eq1 at h
  split at h
  · simp only [R] at hx hy; subst hx hy; cases h; exact .inl ⟨rfl, _, _, rfl, rfl, rfl⟩
  · simp only [R] at hx hy; subst hx hy
    split at h
    · rename_i e; subst e; cases h; exact .inr (.inl ⟨rfl, _, _, _, rfl, rfl, by rw [Bool.eq_iff_iff]; simp⟩)
    · cases h
  · simp only [R] at hx hy; subst hx hy; cases h
    refine .inr (.inr ⟨rfl, _, _, rfl, rfl, ?_⟩)
    rename_i a b
    have e : ((⟨a.toArray⟩ : ByteArray) == ⟨b.toArray⟩) = (a.toArray == b.toArray) := rfl
    rw [e, Bool.eq_iff_iff]; simp
  · cases h

def valOf (P : Program) (t : Nat) (cs : List Value) : Value := if aggOf P t = some true then .agg ⟨cs⟩ else cs.getD 0 undef

theorem eqc_len : ∀ {ks : List Nat} {xs ys : List V} {b : Bool}, eqc ks xs ys = some b → xs.length = ks.length ∧ ys.length = ks.length
  | [], [], [], _, _ => ⟨rfl, rfl⟩
  | k :: ks, x :: l, y :: r, b, h => by
    simp only [eqc] at h
    split at h
    · cases h
    · split at h
      · cases h
      · rename_i f hf; simp [eqc_len hf]
  | [], [], _ :: _, _, h | [], _ :: _, _, _, h | _ :: _, [], _, _, h | _ :: _, _ :: _, [], _, h => by simp [eqc] at h

theorem eqc_append : ∀ {ks ks2 : List Nat} {xs ys xs2 ys2 : List V} {b : Bool}, xs.length = ks.length → ys.length = ks.length → eqc (ks ++ ks2) (xs ++ xs2) (ys ++ ys2) = some b →
    ∃ c d, eqc ks xs ys = some c ∧ eqc ks2 xs2 ys2 = some d ∧ b = (c && d)
  | [], ks2, [], [], xs2, ys2, b, _, _, h => ⟨true, b, rfl, by simpa using h, by simp⟩
  | k :: ks, ks2, x :: l, y :: r, xs2, ys2, b, hl, hl2, h => by
    simp only [List.cons_append, eqc] at h
    split at h
    · cases h
    · rename_i e he
      split at h
      · cases h
      · rename_i f hf
        cases h
        obtain ⟨c, d, h1, h2, h3⟩ := eqc_append (by simpa using hl) (by simpa using hl2) hf
        exact ⟨e && c, d, by simp [eqc, he, h1], h2, by simp [h3, Bool.and_assoc]⟩

theorem part_run {t n : Nat} (h : szOf P t = some n) {g : Bool} (hg : aggOf P t = some g) (hn : g = true ∨ n = 1) {pre cs post : List Value} (hc : cs.length = n) (w : World) :
    (Go.part t ⟨pre ++ cs ++ post⟩ pre.length).run P w = .ok (valOf P t cs) w := by
  cases g with
  | true =>
    simp only [Go.part, Sem.run_bind, aggOf_run hg, Result.andThen_ok, if_true, szOf_run h, Sem.run_pure, valOf, hg]
    congr 2
    apply Array.ext'
    simp [← hc]
  | false =>
    have hn' : n = 1 := by simpa using hn
    subst hn'
    match cs, hc with
    | [x], _ =>
      have e : (⟨pre ++ [x] ++ post⟩ : Array Value)[pre.length]? = some x := by simp
      simp only [Go.part, Sem.run_bind, aggOf_run hg, Result.andThen_ok, Bool.false_eq_true, if_false, e, Sem.run_pure, valOf, hg]
      rfl

theorem flatSz_agg {n t : Nat} {s : List Nat} (h : flatSz P n t = some s) : ∃ g, aggOf P t = some g ∧ (g = true ∨ s.length = 1) := by
  cases n with
  | zero => simp [flatSz] at h
  | succ n =>
    simp only [flatSz] at h
    split at h <;> (try (cases h; done)) <;> (rename_i hu; simp only [aggOf, hu, Option.map_some])
    · cases h; exact ⟨_, rfl, .inr rfl⟩
    · cases h; exact ⟨_, rfl, .inr rfl⟩
    · cases h; exact ⟨_, rfl, .inr rfl⟩
    · exact ⟨_, rfl, .inl rfl⟩

theorem equal_fields {sz : Nat → Option (List Nat)} {d : Nat} (hsz : ∀ t s, sz t = some s → ∃ g, aggOf P t = some g ∧ (g = true ∨ s.length = 1))
    (ih : ∀ t s, sz t = some s → ∀ (xs ys : List V) (xs' ys' : List Value) (b : Bool) (w : World), RL k xs xs' → RL k ys ys' → eqc s xs ys = some b → (Op.equalIn d t (valOf P t xs') (valOf P t ys')).run P w = .ok b w) :
    ∀ (fs : List Field) (acc : Nat) (ks : List Nat), flatFs P sz acc fs = some ks → ∀ (p q xs' ys' : List Value) (xs ys : List V) (b : Bool) (w : World), p.length = acc → q.length = acc → RL k xs xs' → RL k ys ys' → eqc ks xs ys = some b →
      (Op.eqFields d ⟨p ++ xs'⟩ ⟨q ++ ys'⟩ fs).run P w = .ok b w
  | [], acc, ks, hf, p, q, xs', ys', xs, ys, b, w, hp, hq, hx, hy, he => by
    simp only [flatFs, Option.some.injEq] at hf; subst hf
    match xs, ys, he with
    | [], [], he => simp only [eqc, Option.some.injEq] at he; subst he; simp [Op.eqFields]
    | [], _ :: _, he | _ :: _, _, he => simp [eqc] at he
  | f :: fs, acc, ks, hf, p, q, xs', ys', xs, ys, b, w, hp, hq, hx, hy, he => by
    simp only [flatFs] at hf
    split at hf
    · rename_i hname
      split at hf
      · rename_i s hs
        split at hf
        · rename_i hs2
          split at hf
          · rename_i r hr
            cases hf
            obtain ⟨g, hg, hg1⟩ := hsz _ _ hs
            obtain ⟨hl1, hl2⟩ := eqc_len he
            simp only [List.length_append] at hl1 hl2
            have e1 : xs = xs.take s.length ++ xs.drop s.length := (List.take_append_drop _ xs).symm
            have e2 : ys = ys.take s.length ++ ys.drop s.length := (List.take_append_drop _ ys).symm
            rw [e1] at hx he; rw [e2] at hy he
            obtain ⟨c, d', he1, he2, rfl⟩ := eqc_append (by simp; omega) (by simp; omega) he
            obtain ⟨x1, x2, rfl, hx1, hx2⟩ := RL.split hx
            obtain ⟨y1, y2, rfl, hy1, hy2⟩ := RL.split hy
            have l1 : x1.length = s.length := by rw [RL.len hx1]; simp; omega
            have l2 : y1.length = s.length := by rw [RL.len hy1]; simp; omega
            have r1 := fun w => part_run hs2 hg hg1 (pre := p) (post := x2) l1 w
            have r2 := fun w => part_run hs2 hg hg1 (pre := q) (post := y2) l2 w
            rw [hp] at r1; rw [hq] at r2
            have r3 := fun w => ih _ _ hs _ _ _ _ _ w hx1 hy1 he1
            have r4 := equal_fields hsz ih fs (acc + s.length) r hr (p ++ x1) (q ++ y1) x2 y2 _ _ d' w (by simp; omega) (by simp; omega) hx2 hy2 he2
            simp only [Op.eqFields, if_pos hname.1, hname.2, ← List.append_assoc, Sem.run_bind, r1, r2, r3, Result.andThen_ok]
            cases c
            · simp
            · simpa using r4
          · cases hf
        · cases hf
      · cases hf
    · cases hf

theorem equal_flat : ∀ (n t : Nat) (s : List Nat), flatSz P n t = some s → ∀ d, n ≤ d → ∀ (xs ys : List V) (xs' ys' : List Value) (b : Bool) (w : World), RL k xs xs' → RL k ys ys' → eqc s xs ys = some b →
    (Op.equalIn d t (valOf P t xs') (valOf P t ys')).run P w = .ok b w
  | 0, t, s, h, _, _, _, _, _, _, _, _, _, _, _ => by simp [flatSz] at h
  | n + 1, t, s, h, d, hd, xs, ys, xs', ys', b, w, hx, hy, he => by
    obtain ⟨d, rfl⟩ : ∃ e, d = e + 1 := ⟨d - 1, by omega⟩
    simp only [flatSz] at h
    have one : ∀ i, s = [i] → (∃ x y x' y', xs' = [x'] ∧ ys' = [y'] ∧ R k x x' ∧ R k y y' ∧ eq1 i x y = some b) := by
      rintro i rfl
      obtain ⟨l1, l2⟩ := eqc_len he
      match xs, ys, l1, l2 with
      | [x], [y], _, _ =>
        obtain ⟨x', r, rfl, h1, h2⟩ := (by simpa [RL] using hx : ∃ x' r, xs' = x' :: r ∧ R k x x' ∧ r = [])
        obtain ⟨y', r', rfl, h3, h4⟩ := (by simpa [RL] using hy : ∃ x' r, ys' = x' :: r ∧ R k y x' ∧ r = [])
        subst h2 h4
        simp only [eqc] at he
        split at he
        · cases he
        · rename_i e hee
          simp only [Bool.and_true] at he; cases he
          exact ⟨x, y, x', y', rfl, rfl, h1, h3, hee⟩
    split at h <;> (try (cases h; done)) <;> rename_i hu
    · cases h
      obtain ⟨x, y, x', y', rfl, rfl, h1, h3, hee⟩ := one _ rfl
      rcases eq1_run hee h1 h3 with ⟨hi, _⟩ | ⟨_, kk, u, v', rfl, rfl, rfl⟩ | ⟨hi, _⟩ <;> (try omega)
      simp [valOf, aggOf, hu, Op.equalIn, run_underlying hu]
    · cases h
      obtain ⟨x, y, x', y', rfl, rfl, h1, h3, hee⟩ := one _ rfl
      rcases eq1_run hee h1 h3 with ⟨_, u, v', rfl, rfl, rfl⟩ | ⟨hi, _⟩ | ⟨hi, _⟩ <;> (try omega)
      simp [valOf, aggOf, hu, Op.equalIn, run_underlying hu]
    · cases h
      obtain ⟨x, y, x', y', rfl, rfl, h1, h3, hee⟩ := one _ rfl
      rcases eq1_run hee h1 h3 with ⟨hi, _⟩ | ⟨hi, _⟩ | ⟨_, u, v', rfl, rfl, rfl⟩ <;> (try omega)
      simp [valOf, aggOf, hu, Op.equalIn, run_underlying hu]
    · rename_i fs
      split at h
      · cases h
      · rename_i hst
        have hf : P.fieldsOf t = fs := by simp [Program.fieldsOf, hu]
        have ha : aggOf P t = some true := by simp [aggOf, hu]
        simp only [valOf, ha, if_true]
        rw [run_equalIn_struct w d t ⟨xs'⟩ ⟨ys'⟩ (by rw [hf]; exact hu) (by simpa using hst), hf]
        exact equal_fields (fun t s h => flatSz_agg h) (fun t s h xs ys xs' ys' b w h1 h2 h3 => equal_flat n t s h d (by omega) xs ys xs' ys' b w h1 h2 h3) fs.toList 0 s h [] [] xs' ys' xs ys b w rfl rfl hx hy he

end Go.Dr
