/- The door: single operations, eleventh part: append, copy, len, least and greatest. -/
import Derived.Test.YtigcchafpenhiaaDrOpA
namespace Go.Dr
open Go.RowKit (Below)

variable {P : Program} {k : K} {tm : List V} {ρ : Operand → Value} {o : Oper} {j base ro : Nat} {m : M} {p : Pl} {v : V} {h' : List B}

theorem growBy_le (N c : Nat) (h : c ≤ N) : Builtin.growBy N 4 c ≤ 3 * N + 2000 := by
  simp only [Builtin.growBy]
  repeat' split
  all_goals omega
theorem nextcap_le (N c : Nat) (h : c < N) : Builtin.nextslicecap N c ≤ 3 * N + 2000 := by
  unfold Builtin.nextslicecap
  have := growBy_le N c (by omega)
  repeat' split
  all_goals omega

theorem app_run {sT uT : TypeId} {ts : List TypeId} {e : TypeId} {d2 : TypeDesc} (hs : P.underlying sT = some (.slice e)) (hu : P.underlying uT = some d2) (hd2 : ∀ kk, d2 ≠ .int kk) {n : Nat} (hn : szOf P e = some n) (ty : TypeId) (base : Option Addr) (len cap : Nat) (x : Value) {nx : Nat} {w : World}
    (hl : (Builtin.lenOf x).run P w = .ok nx w) :
    (len + nx ≤ cap → ∀ vs, (Builtin.firstCells n nx x).run P w = .ok ⟨vs⟩ w → ∀ w', (match base with | some a => storeCells (a.add (len * n)) vs | none => pure () : Sem Unit).run P w = .ok () w' →
      (Builtin.append_ (sT :: uT :: ts).toArray ty #[.slice base len cap, x]).run P w = .ok (.slice base (len + nx) cap) w') ∧
    (cap < len + nx → ∀ by_, byOf P e = some by_ → (len + nx) * (by_ + 1) < big → ∀ old new, (∀ w' : World, w'.heap = w.heap → (Builtin.firstCells n len (.slice base len cap)).run P w' = .ok ⟨old⟩ w') → (∀ w' : World, w'.heap = w.heap → (Builtin.firstCells n nx x).run P w' = .ok ⟨new⟩ w') → ∀ z, zeroOf P e = some z →
      ∃ (nc : Nat) (rest : List Value) (w' : World), len + nx ≤ nc ∧ rest.length = (nc - (len + nx)) * n ∧ w'.heap = w.heap.push (.cells ⟨old ++ new ++ rest⟩ e (0, 0)) ∧ w'.os = w.os ∧ w'.tape = w.tape ∧ w'.output = w.output ∧
        (Builtin.append_ (sT :: uT :: ts).toArray ty #[.slice base len cap, x]).run P w = .ok (.slice (some ⟨w.heap.size, 0, none⟩) (len + nx) nc) w') := by
  have hz : (match d2 with | .int _ => true | _ => false) = false := by
    cases d2 <;> first | rfl | exact absurd rfl (hd2 _)
  have a0 : (sT :: uT :: ts).toArray[0]? = some sT := by simp
  have a1 : (sT :: uT :: ts).toArray[1]? = some uT := by simp
  have b0 : (#[Value.slice base len cap, x] : Array Value)[0]? = some (.slice base len cap) := rfl
  have b1 : (#[Value.slice base len cap, x] : Array Value)[1]? = some x := rfl
  constructor
  · intro hle vs hv w' hw'
    unfold Builtin.append_
    simp only [a0, a1, b0, b1, Sem.run_bind, run_underlying hs, Result.andThen_ok, szOf_run hn, run_underlying hu, Sem.run_pure, hz, Bool.false_eq_true, if_false, hl, if_pos hle, Bool.not_false, if_true, hv]
    cases base with
    | none => simp only [Sem.run_pure, Result.ok.injEq] at hw'; simp [hw'.2]
    | some a => simp only at hw'; simp [hw']
  · intro hlt by_ hby hbig old new ho hne z hz0
    obtain ⟨ti, ty1, ty2, ty3⟩ := byOf_run hby w
    have hbg : big = 68719476736 := rfl
    rw [hbg] at hbig
    have hneed : len + nx < 68719476736 := Nat.lt_of_le_of_lt (Nat.le_mul_of_pos_right _ (by omega)) hbig
    have hmax : IntKind.i64.max = 9223372036854775807 := by decide
    have hc1 : ¬ (((len + nx : Nat) : Int) > IntKind.i64.max ∧ (false = true ∨ ti.bytes = 0)) := by rw [hmax]; omega
    have hc2 : ¬ Builtin.nextslicecap (len + nx) cap * ti.bytes > 2 ^ 48 := by
      have h1 := nextcap_le (len + nx) cap hlt
      have h2 := Nat.mul_le_mul_right ti.bytes h1
      rw [ty2] at h2 ⊢
      have h3 : (len + nx) * by_ ≤ 68719476736 := by rw [Nat.mul_add] at hbig; omega
      have h4 : by_ < 68719476736 := by
        have : 1 * (by_ + 1) ≤ (len + nx) * (by_ + 1) := Nat.mul_le_mul_right _ (by omega)
        omega
      have h5 : (3 * (len + nx) + 2000) * by_ = 3 * ((len + nx) * by_) + 2000 * by_ := by rw [Nat.add_mul, Nat.mul_assoc]
      omega
    have hfl : ¬ len + nx ≤ cap := by omega
    obtain ⟨zx, z1, z2, z3, z4⟩ := zeroOf_run hz0 { w with drawn := w.drawn + 1 } ⟨0, fun _ => False, [], fun _ => (0, 0), w⟩
    rw [hn] at z3; cases z3
    have ty1' : ∀ w : World, (typeInfo e).run P w = .ok ti w := fun w => by simp [typeInfo, ty3]
    have hzl := RL.len z2
    let q := Question.appendCap (len + nx) cap e
    let nc := q.cut (w.tape w.drawn q)
    have hnc : len + nx ≤ nc := by show _ ≤ (len + nx) + _; omega
    refine ⟨nc, (Builtin.zeroCells zx.cells (nc - (len + nx))).toList, { w with drawn := w.drawn + 1, heap := w.heap.push (.cells (⟨old⟩ ++ ⟨new⟩ ++ Builtin.zeroCells zx.cells (nc - (len + nx))) e) }, hnc, ?_, ?_, rfl, rfl, rfl, ?_⟩
    · simp only [Builtin.zeroCells]
      simp [← hzl]
    · simp only
      congr 2
      apply Array.ext'; simp
    · unfold Builtin.append_
      simp only [a0, a1, b0, b1, Sem.run_bind, run_underlying hs, Result.andThen_ok, szOf_run hn, run_underlying hu, Sem.run_pure, hz, Bool.false_eq_true, if_false, hl, if_neg hfl, Bool.not_false, if_true, ty1', false_or]
      rw [if_neg (by simpa using hc1)]
      simp only [Sem.run_bind, ty1', Result.andThen_ok]
      rw [if_neg hc2]
      simp only [Sem.run_bind, ty1', Result.andThen_ok, run_choose]
      rw [show (Question.appendCap (len + nx) cap e).forced = false from rfl]
      simp only [Bool.false_eq_true, if_false, Result.andThen_ok, run_askRoom]
      rw [ho { w with drawn := w.drawn + 1 } rfl]
      simp only [Result.andThen_ok]
      rw [hne { w with drawn := w.drawn + 1 } rfl]
      simp only [Result.andThen_ok, z1, newRow, Sem.run_bind, run_newObj, Sem.run_pure]
      rfl

end Go.Dr
