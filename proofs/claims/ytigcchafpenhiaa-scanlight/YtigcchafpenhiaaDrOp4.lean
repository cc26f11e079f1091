/- The door: single operations, fourth part: binary operations, conversions, slicing, fields, assertions, builtins that touch no memory. -/
import Derived.Test.YtigcchafpenhiaaDrOp3
namespace Go.Dr
open Go.RowKit (Below)

variable {P : Program} {k : K} {tm : List V} {ρ : Operand → Value} {o : Oper} {j base ro : Nat} {m : M} {p : Pl} {v : V} {h' : List B}

theorem eqGuard_plain {op : BinOp} {t : TypeId} {x y : Operand} {a b : Value} (h1 : a ≠ .nilIface ∨ b ≠ .nilIface) (h2 : ∀ c, a ≠ .agg c) (w : World) : (eqGuard op t x y a b).run P w = .ok () w := by
  unfold eqGuard
  cases op <;> simp only [Bool.not_true, Bool.not_false, if_true, Bool.false_eq_true, if_false, Sem.run_pure] <;> (cases a <;> cases b <;> simp_all)

theorem eqGuard_nil {op : BinOp} {t : TypeId} {x y : Operand} (h : Dr.isConst x || Dr.isConst y) (w : World) : (eqGuard op t x y .nilIface .nilIface).run P w = .ok () w := by
  cases x <;> cases y <;> (first | (simp [Dr.isConst] at h; done) | (unfold eqGuard; cases op <;> simp))

/-- '==' and '!=' through 'equalIn'. -/
theorem eq_run {op : BinOp} {neg : Bool} (hop : eqOp op = some neg) {t : TypeId} {x y : Value} {b : Bool} (hk : (∀ kk i, x ≠ .int kk i) ∧ (∀ s, x ≠ .string s) ∧ (∀ kk i, x ≠ .float kk i) ∧ (∀ kk i i', x ≠ .complex kk i i')) {w : World}
    (h : (Op.equalIn 10000 t x y).run P w = .ok b w) : (Go.binOp op t x y).run P w = .ok (.bool (if neg then !b else b)) w := by
  cases op <;> simp only [eqOp, Option.some.injEq] at hop <;> (try (cases hop; done)) <;> subst hop <;>
    (cases x <;> simp_all [Go.binOp, Op.equal, Op.maxDepth])

theorem eqv2_run {kd : Nat} {x y : V} {b : Bool} (h : eqv2 kd x y = some b) {x' y' : Value} (hx : R k x x') (hy : R k y y') {t : TypeId} {d : TypeDesc} (hu : P.underlying t = some d)
    (hd : (kd = 1 → d = .bool) ∧ (kd = 3 → ∃ e, d = .slice e) ∧ (kd = 4 → ∃ e, d = .pointer e) ∧ (kd = 6 → ∃ a b c, d = .func a b c) ∧ (kd = 7 → ∃ m, d = .interface m)) {xo yo : Operand} (hc : kd = 7 → isConst xo || isConst yo) (w : World) (op : BinOp) :
    (eqGuard op t xo yo x' y').run P w = .ok () w ∧ (∀ d', (Op.equalIn (d' + 1) t x' y').run P w = .ok b w) ∧ ((∀ kk i, x' ≠ .int kk i) ∧ (∀ s, x' ≠ .string s) ∧ (∀ kk i, x' ≠ .float kk i) ∧ (∀ kk i i', x' ≠ .complex kk i i')) := by
  obtain ⟨d1, d3, d4, d6, d7⟩ := hd
  unfold eqv2 at h
  split at h <;> (try (cases h; done)) <;> (try simp only [Option.some.injEq] at h) <;> (try subst h) <;> simp only [R] at hx hy
  · obtain rfl := d1 rfl; subst hx hy
    exact ⟨eqGuard_plain (by simp) (by simp) w, fun d' => by simp [Op.equalIn, run_underlying hu], by simp⟩
  · obtain ⟨e', rfl⟩ := d3 rfl; subst hx hy
    exact ⟨eqGuard_plain (by simp) (by simp) w, fun d' => by simp [Op.equalIn, run_underlying hu], by simp⟩
  · split at h <;> (try (cases h; done))
    rename_i hn0
    simp only [Option.some.injEq] at h; subst h
    obtain ⟨e', rfl⟩ := d3 rfl; subst hx; rcases hy with ⟨a, rfl, h0, _⟩ | ⟨b, off, cap, vs, rfl, _⟩
    · exact absurd h0 hn0
    exact ⟨eqGuard_plain (by simp) (by simp) w, fun d' => by simp [Op.equalIn, run_underlying hu], by simp⟩
  · split at h <;> (try (cases h; done))
    rename_i hn0
    simp only [Option.some.injEq] at h; subst h
    obtain ⟨e', rfl⟩ := d3 rfl; subst hy; rcases hx with ⟨a, rfl, h0, _⟩ | ⟨b, off, cap, vs, rfl, _⟩
    · exact absurd h0 hn0
    exact ⟨eqGuard_plain (by simp) (by simp) w, fun d' => by simp [Op.equalIn, run_underlying hu], by simp⟩
  · obtain ⟨e', rfl⟩ := d3 rfl; subst hx; obtain ⟨b, off, cap, c, dat, rfl, _⟩ := hy
    exact ⟨eqGuard_plain (by simp) (by simp) w, fun d' => by simp [Op.equalIn, run_underlying hu], by simp⟩
  · obtain ⟨e', rfl⟩ := d3 rfl; subst hy; obtain ⟨b, off, cap, c, dat, rfl, _⟩ := hx
    exact ⟨eqGuard_plain (by simp) (by simp) w, fun d' => by simp [Op.equalIn, run_underlying hu], by simp⟩
  · obtain ⟨e', rfl⟩ := d4 rfl; subst hx hy
    exact ⟨eqGuard_plain (by simp) (by simp) w, fun d' => by simp [Op.equalIn, run_underlying hu], by simp⟩
  · obtain ⟨e', rfl⟩ := d4 rfl; subst hx; obtain ⟨b, off, c, dat, rfl, _⟩ := hy
    exact ⟨eqGuard_plain (by simp) (by simp) w, fun d' => by simp [Op.equalIn, run_underlying hu], by simp⟩
  · obtain ⟨e', rfl⟩ := d4 rfl; subst hy; obtain ⟨b, off, c, dat, rfl, _⟩ := hx
    exact ⟨eqGuard_plain (by simp) (by simp) w, fun d' => by simp [Op.equalIn, run_underlying hu], by simp⟩
  · obtain ⟨e', rfl⟩ := d4 rfl; subst hx; obtain ⟨b, off, vs, rfl, _⟩ := hy
    exact ⟨eqGuard_plain (by simp) (by simp) w, fun d' => by simp [Op.equalIn, run_underlying hu], by simp⟩
  · obtain ⟨e', rfl⟩ := d4 rfl; subst hy; obtain ⟨b, off, vs, rfl, _⟩ := hx
    exact ⟨eqGuard_plain (by simp) (by simp) w, fun d' => by simp [Op.equalIn, run_underlying hu], by simp⟩
  · obtain ⟨_, _, _, rfl⟩ := d6 rfl; subst hx hy
    exact ⟨eqGuard_plain (by simp) (by simp) w, fun d' => by simp [Op.equalIn, run_underlying hu], by simp⟩
  · obtain ⟨_, _, _, rfl⟩ := d6 rfl; subst hx; obtain ⟨vs, rfl, _⟩ := hy
    exact ⟨eqGuard_plain (by simp) (by simp) w, fun d' => by simp [Op.equalIn, run_underlying hu], by simp⟩
  · obtain ⟨_, _, _, rfl⟩ := d6 rfl; subst hy; obtain ⟨vs, rfl, _⟩ := hx
    exact ⟨eqGuard_plain (by simp) (by simp) w, fun d' => by simp [Op.equalIn, run_underlying hu], by simp⟩
  · obtain ⟨_, rfl⟩ := d7 rfl; subst hx hy
    exact ⟨eqGuard_nil (hc rfl) w, fun d' => by simp [Op.equalIn, run_underlying hu], by simp⟩
  · obtain ⟨_, rfl⟩ := d7 rfl; subst hx; obtain ⟨vs, rfl, _⟩ := hy
    exact ⟨eqGuard_plain (by simp) (by simp) w, fun d' => by simp [Op.equalIn, run_underlying hu], by simp⟩
  · obtain ⟨_, rfl⟩ := d7 rfl; subst hy; obtain ⟨vs, rfl, _⟩ := hx
    exact ⟨eqGuard_plain (by simp) (by simp) w, fun d' => by simp [Op.equalIn, run_underlying hu], by simp⟩

theorem did_binop (g : Good P k) (ht : Ops k tm ρ) {x y : Operand} {bop : BinOp} {t u : TypeId} (ho : o.op = .binOp bop t x y u) (hc : cOp P j o.op = some m) (hp : plan base tm m = some p) (hg : p.go ro k.h = some (v, h')) :
    Did P ro k (execOp ρ o) v h' := by
  rw [ho] at hc; simp only [cOp] at hc
  split at hc <;> (try (cases hc; done))
  rename_i x1 y1 hx1 hy1
  have h1 := ht.1 _ _ hx1
  have h2 := ht.1 _ _ hy1
  have hbo : m = .bo bop x1 y1 → Did P ro k (execOp ρ o) v h' := by
    rintro rfl
    simp only [plan] at hp
    obtain ⟨z, hz, rfl⟩ := val?_some hp
    obtain ⟨e1, z', e2, e3⟩ := binop_run (P := P) (t := t) hz h1 h2 k.w
    exact fin_val g rfl hg (y := z') (by simp only [execOp, ho]; exact exec_v (by simp only [Sem.run_bind, e1, Result.andThen_ok, e2])) e3
  have heq : ∀ neg kd d, eqOp bop = some neg → P.underlying t = some d → ((kd = 1 → d = .bool) ∧ (kd = 3 → ∃ e, d = .slice e) ∧ (kd = 4 → ∃ e, d = .pointer e) ∧ (kd = 6 → ∃ a b c, d = .func a b c) ∧ (kd = 7 → ∃ m, d = .interface m)) →
      (kd = 7 → isConst x || isConst y) → m = .eqv neg kd x1 y1 → Did P ro k (execOp ρ o) v h' := by
    rintro neg kd d hn hu hd hcc rfl
    simp only [plan] at hp
    split at hp <;> (try (cases hp; done))
    rename_i e he
    obtain ⟨e1, e2, e3⟩ := eqv2_run (P := P) he h1 h2 hu hd hcc k.w bop
    have e4 := eq_run (P := P) hn e3 (e2 9999)
    exact fin_val g hp hg (y := .bool (if neg then !e else e)) (by simp only [execOp, ho]; exact exec_v (by simp only [Sem.run_bind, e1, Result.andThen_ok, e4])) (by simp only [R])
  split at hc
  · rename_i neg hn
    split at hc <;> (try (cases hc; done)) <;> rename_i hu
    · cases hc; exact hbo rfl
    · cases hc; exact hbo rfl
    · cases hc; exact heq neg 1 _ hn hu (by simp) (by simp) rfl
    · cases hc; exact heq neg 3 _ hn hu (by simp) (by simp) rfl
    · cases hc; exact heq neg 4 _ hn hu (by simp) (by simp) rfl
    · cases hc; exact heq neg 6 _ hn hu (by simp) (by simp) rfl
    · split at hc <;> (try (cases hc; done))
      rename_i hcc
      cases hc; exact heq neg 7 _ hn hu (by simp) (fun _ => hcc) rfl
    · split at hc <;> (try (cases hc; done))
      rename_i fs _ ks hks
      split at hc <;> (try (cases hc; done))
      rename_i hgt
      cases hc
      simp only [plan] at hp
      split at hp <;> (try (cases hp; done))
      rename_i xs ys ex ey
      split at hp <;> (try (cases hp; done))
      rename_i e he
      rw [ex] at h1; rw [ey] at h2; simp only [R] at h1 h2
      obtain ⟨xs', hx', hxl⟩ := h1
      obtain ⟨ys', hy', hyl⟩ := h2
      have := equal_flat (P := P) 16 t ks hks 10000 (by omega) xs ys xs' ys' e k.w hxl hyl he
      have ha : aggOf P t = some true := by simp [aggOf, hu]
      simp only [valOf, ha, if_true] at this
      have e4 := eq_run (P := P) (x := .agg ⟨xs'⟩) (y := .agg ⟨ys'⟩) hn (by simp) this
      have e1 := run_eqGuard_agg (P := P) k.w bop t x y ⟨xs'⟩ ⟨ys'⟩ (by simpa using hgt)
      exact fin_val g hp hg (y := .bool (if neg then !e else e)) (by simp only [execOp, ho, hx', hy']; exact exec_v (by simp only [Sem.run_bind, e1, Result.andThen_ok, e4])) (by simp only [R])
  · cases hc; exact hbo rfl

end Go.Dr
