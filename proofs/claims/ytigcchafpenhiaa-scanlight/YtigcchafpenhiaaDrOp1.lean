/- The door: single operations, first part: operands, and operations that touch no memory. -/
import Derived.Test.YtigcchafpenhiaaDrGood
import Derived.Laws.CopyRow
import Derived.ChangeKeysEq
namespace Go.Dr
open Go.RowKit (Below)

variable {P : Program} {k : K}

/-! ### constants and operands -/
mutual
theorem ofVal_R : ∀ {n : Nat} {x : Value} {v : V}, ofVal n x = some v → R k v x
  | 0, x, v, h => by simp [ofVal] at h
  | n + 1, x, v, h => by
    unfold ofVal at h
    split at h <;> (try (cases h; simp only [R]; done)) <;> (try (cases h; done))
    · rename_i cs
      obtain ⟨l, hl, rfl⟩ := Option.map_eq_some_iff.1 h
      simp only [R]; exact ⟨_, rfl, ofVals_R hl⟩
    · rename_i t y
      obtain ⟨l, hl, rfl⟩ := Option.map_eq_some_iff.1 h
      simp only [R]; exact ⟨_, rfl, ofVal_R hl⟩
    · cases h; simp only [R]; exact ⟨[], rfl, by simp [RL]⟩
theorem ofVals_R : ∀ {n : Nat} {xs : List Value} {l : List V}, ofVals n xs = some l → RL k l xs
  | 0, _, _, h => by simp [ofVals] at h
  | n + 1, [], l, h => by simp [ofVals] at h; subst h; simp [RL]
  | n + 1, x :: xs, l, h => by
    unfold ofVals at h
    split at h
    · cases h
    · rename_i v hv
      split at h
      · cases h
      · rename_i r hr
        cases h
        exact RL.cons (ofVal_R hv) (ofVals_R hr)
end

theorem cO_R {tm : List V} {a : Act} (ht : RL k tm a.tmps.toList) {x : Operand} {y : O} (h : cO x = some y) : R k (y.ev tm) (a.eval x) := by
  cases x with
  | tmp n =>
    simp only [cO, Option.some.injEq] at h; subst h
    have := RL.get n ht
    simpa [O.ev, Act.eval, Array.getD_eq_getD_getElem?, List.getD_eq_getElem?_getD] using this
  | const v =>
    simp only [cO] at h
    obtain ⟨w, hw, rfl⟩ := Option.map_eq_some_iff.1 h
    simpa [O.ev, Act.eval] using ofVal_R hw
  | global g => simp [cO] at h
  | func f =>
    simp only [cO, Option.some.injEq] at h; subst h
    simp only [O.ev, R, Act.eval]; exact ⟨[], rfl, by simp [RL]⟩

theorem cOs_R {tm : List V} {a : Act} (ht : RL k tm a.tmps.toList) : ∀ {xs : List Operand} {ys : List O}, cOs xs = some ys → RL k (evs tm ys) (xs.map a.eval)
  | [], ys, h => by simp [cOs] at h; subst h; simp [evs, RL]
  | x :: xs, ys, h => by
    unfold cOs at h
    split at h
    · cases h
    · rename_i y hy
      split at h
      · cases h
      · rename_i r hr
        cases h
        exact RL.cons (cO_R ht hy) (cOs_R ht hr)

theorem cells_R {v : V} {x : Value} (h : R k v x) (ho : ones v.cells = true) : RL k v.cells x.cells.toList := by
  cases v <;> simp only [V.cells, ones, V.one, Bool.and_true, Bool.false_eq_true] at ho ⊢ <;> (try (simp only [R] at h)) <;>
    (try (subst h; exact RL.cons (by simp only [R]) RL.nil))
  · rcases h with ⟨a, rfl, h'⟩ | ⟨b, off, cap, vs, rfl, h'⟩
    · exact RL.cons (by simp only [R]; exact .inl ⟨a, rfl, h'⟩) RL.nil
    · exact RL.cons (by simp only [R]; exact .inr ⟨b, off, cap, vs, rfl, h'⟩) RL.nil
  · obtain ⟨b, off, vs, rfl, h'⟩ := h; exact RL.cons (by simp only [R]; exact ⟨b, off, vs, rfl, h'⟩) RL.nil
  · obtain ⟨vs, rfl, h'⟩ := h; exact h'
  · obtain ⟨y, rfl, h'⟩ := h; exact RL.cons (by simp only [R]; exact ⟨y, rfl, h'⟩) RL.nil
  · obtain ⟨y, rfl, h'⟩ := h; exact RL.cons (by simp only [R]; exact ⟨y, rfl, h'⟩) RL.nil
  · obtain ⟨b, o, c, dat, rfl, h'⟩ := h; exact RL.cons (by simp only [R]; exact ⟨b, o, c, dat, rfl, h'⟩) RL.nil
  · obtain ⟨b, o, cap, c, dat, rfl, h'⟩ := h; exact RL.cons (by simp only [R]; exact ⟨b, o, cap, c, dat, rfl, h'⟩) RL.nil
  · obtain ⟨rfl, h'⟩ := h; exact RL.cons (by simp only [R]; exact ⟨trivial, h'⟩) RL.nil

/-! ### what the types say -/
theorem szOf_run {t n : Nat} (h : szOf P t = some n) (w : World) : (sizeOf t).run P w = .ok n w := by
  unfold szOf at h; obtain ⟨i, hi, rfl⟩ := Option.map_eq_some_iff.1 h
  simp [sizeOf, typeInfo, hi]
theorem byOf_run {t n : Nat} (h : byOf P t = some n) (w : World) : ∃ i, (typeInfo t).run P w = .ok i w ∧ i.bytes = n ∧ P.info? t = some i := by
  unfold byOf at h; obtain ⟨i, hi, rfl⟩ := Option.map_eq_some_iff.1 h
  exact ⟨i, by simp [typeInfo, hi], rfl, hi⟩
theorem aggOf_run {t : Nat} {b : Bool} (h : aggOf P t = some b) (w : World) : (isAgg t).run P w = .ok b w := by
  unfold aggOf at h; obtain ⟨d, hd, rfl⟩ := Option.map_eq_some_iff.1 h
  simp only [isAgg, Sem.run_bind, run_underlying hd, Result.andThen_ok]
  cases d <;> simp
theorem zeroOf_run {t : Nat} {z : List V} (h : zeroOf P t = some z) (w : World) (k : K) :
    ∃ x, (zeroValue t).run P w = .ok x w ∧ RL k z x.cells.toList ∧ szOf P t = some z.length ∧ ones z = true := by
  unfold zeroOf at h
  split at h
  · rename_i i hi
    split at h
    · rename_i x hx
      split at h
      · rename_i v hv
        split at h
        · rename_i hc
          cases h
          simp only [Bool.and_eq_true, decide_eq_true_eq] at hc
          exact ⟨x, by simp [zeroValue, typeInfo, hi, hx], cells_R (ofVal_R hv) hc.2, by simp [szOf, hi, hc.1], hc.2⟩
        · cases h
      · cases h
    · cases h
  · cases h
theorem zeroV_run {t : Nat} {z : V} (h : zeroV P t = some z) (w : World) (k : K) : ∃ x, (zeroValue t).run P w = .ok x w ∧ R k z x := by
  unfold zeroV at h
  split at h
  · rename_i i hi
    split at h
    · rename_i x hx
      exact ⟨x, by simp [zeroValue, typeInfo, hi, hx], ofVal_R h⟩
    · cases h
  · cases h

/-! ### what an operation comes to -/
/-- The operation runs, gives what v stands for, and the blocks are then h'. -/
def Did (P : Program) (ro : Nat) (k : K) (s : Sem Next) (v : V) (h' : List B) : Prop :=
  ∃ x k', (s.run P k.w = .ok (.value x) k'.w ∨ (s.run P k.w = .ok .skip k'.w ∧ x = undef)) ∧ k'.h = h' ∧ Good P k' ∧ Ev ro k.h.length k k' ∧ R k' v x

theorem Did.val {ro : Nat} {s : Sem Next} {v : V} {x : Value} (g : Good P k) (hr : s.run P k.w = .ok (.value x) k.w) (hx : R k v x) : Did P ro k s v k.h :=
  ⟨x, k, .inl hr, rfl, g, Ev.refl _ _ _, hx⟩

theorem Pl.go_val {ro : Nat} {h : List B} {v v' : V} {h' : List B} (e : (Pl.val v).go ro h = some (v', h')) : v' = v ∧ h' = h := by
  simp only [Pl.val, Pl.go, bgets, Option.some.injEq, Prod.mk.injEq] at e
  exact ⟨e.1.symm, e.2.symm⟩

theorem val?_some {v : Option V} {p : Pl} (h : val? v = some p) : ∃ x, v = some x ∧ p = .val x := by
  unfold val? at h; obtain ⟨x, hx, rfl⟩ := Option.map_eq_some_iff.1 h; exact ⟨x, hx, rfl⟩

/-- Numbers. -/
theorem ari_run {op : BinOp} {kk : IntKind} {x y : Int} {v : V} (h : ari op kk x y = some v) (hop : op ≠ .shl) (hop' : op ≠ .shr) (w : World) :
    ∃ z, (binOp op 0 (.int kk x) (.int kk y)).run P w = .ok z w ∧ R k v z := by
  cases op <;> simp only [ari, Option.some.injEq] at h <;> (try (exact absurd rfl hop)) <;> (try (exact absurd rfl hop')) <;> (try (cases h; done)) <;>
    (try (split at h <;> cases h)) <;> (try subst h) <;>
    (simp [binOp, Op.intArith, Op.intDiv, Op.intBits, Op.intCmp, R, bitsOf, *])
  all_goals (first | done | (rw [Bool.eq_iff_iff]; simp) | skip)

theorem binOp_ty (op : BinOp) (t u : TypeId) (kk kk' : IntKind) (x y : Int) : binOp op t (.int kk x) (.int kk' y) = binOp op u (.int kk x) (.int kk' y) := by
  cases op <;> simp [binOp]

end Go.Dr
