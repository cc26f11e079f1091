/- The door: single operations, together. -/
import Derived.Test.YtigcchafpenhiaaDrOpC
namespace Go.Dr
open Go.RowKit (Below)

variable {P : Program} {k : K} {tm : List V} {ρ : Operand → Value} {o : Oper} {j base ro : Nat} {m : M} {p : Pl} {v : V} {h' : List B}

/-- What an operation that is no call does. -/
theorem op_did (g : Good P k) (ht : Ops k tm ρ) (hc : cOp P j o.op = some m) (hp : plan base tm m = some p) (hg : p.go ro k.h = some (v, h')) :
    Did P ro k (execOp ρ o) v h' := by
  have hc' := hc
  cases ho : o.op with
  | move x => exact did_move g ht ho hc hp hg
  | assign x => exact did_assign g ht ho hc hp hg
  | pick => exact did_pick g ht ho hc hp hg
  | alloc => exact did_alloc g ht ho hc hp hg
  | box => exact did_box g ht ho hc hp hg
  | build => exact did_build g ht ho hc hp hg
  | buildSlice => exact did_build_slice g ht ho hc hp hg
  | load => exact did_load g ht ho hc hp hg
  | store => exact did_store g ht ho hc hp hg
  | nilCheck => exact did_nil g ht ho hc hp hg
  | binOp => exact did_binop g ht ho hc hp hg
  | unOp => exact did_unop g ht ho hc hp hg
  | convert => exact did_convert g ht ho hc hp hg
  | makeInterface => exact did_iface g ht ho hc hp hg
  | makeSlice => exact did_make g ht ho hc hp hg
  | slice => exact did_slice g ht ho hc hp hg
  | fieldAddr => exact did_field_addr g ht ho hc hp hg
  | field => exact did_field g ht ho hc hp hg
  | indexAddr => exact did_index_addr g ht ho hc hp hg
  | index => exact did_index g ht ho hc hp hg
  | typeAssert => exact did_assert g ht ho hc hp hg
  | extract => exact did_extract g ht ho hc hp hg
  | makeFunc => exact did_func g ht ho hc hp hg
  | panic =>
    rw [ho] at hc'; simp only [cOp] at hc'; cases hc'; simp [plan] at hp
  | call c =>
    obtain ⟨callee, args, ts⟩ := c
    cases callee with
    | builtin b =>
      rw [ho] at hc'; simp only [cOp] at hc'
      split at hc' <;> (try (cases hc'; done))
      rename_i as has
      exact did_builtin g ht ho has hc' hp hg
    | value f =>
      rw [ho] at hc'; simp only [cOp] at hc'
      split at hc' <;> (try (cases hc'; done))
      cases hc'; simp [plan] at hp
    | _ => rw [ho] at hc'; simp only [cOp] at hc'; cases hc'
  | _ => rw [ho] at hc'; simp only [cOp] at hc'; cases hc'

end Go.Dr
