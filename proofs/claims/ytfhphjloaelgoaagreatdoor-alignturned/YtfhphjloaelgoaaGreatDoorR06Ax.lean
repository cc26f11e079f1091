/- Chapter 06: Awake. -/
import Derived.Test.YtfhphjloaelgoaaGreatDoorR06Aw
namespace Go.Dr.T
def kwn (l : List V) (v : V) (as : List V) : Option V := match veqs as l with
  | true => some v
  | false => none
theorem kwn_eq {l : List V} {v w : V} {as : List V} (h : kwn l v as = some w) : as = l ∧ w = v := by
  unfold kwn at h
  split at h <;> cases h
  rename_i e
  exact ⟨veqs_eq e, rfl⟩
noncomputable def S1 (n : Nat) : Option (List V → Option V) :=
  match n with
  | 33 => some (kwn [elsV false el3] (wholeV el3))
  | 65 => some (kwn [elsV false el3] (gatherV el3))
  | _ => none
theorem known1 : Known FB2 md S1 := by
  intro fn g hg as v h
  unfold S1 at hg
  split at hg
  · cases hg
    obtain ⟨rfl, rfl⟩ := kwn_eq h
    exact whole3_doc
  · cases hg
    obtain ⟨rfl, rfl⟩ := kwn_eq h
    exact gather3_doc
  · cases hg
theorem best_doc : Fun FB2 md 21 [elA elN, elA elP, .int .i64 10] (.tup [.int .i64 205, .int .i64 1, .int .i64 0]) := fun_is known1 (n := 300) (by decide +kernel)
theorem judge_doc : Fun FB2 md 26 [elA elN, elA elP, .int .i64 10, .sl true 1 (ofInts [1, 1])] (.tup [.int .i64 0, .int .i64 160]) := fun_is known1 (n := 300) (by decide +kernel)
def allR : V := .tup [.sl false 1 [.sl false 1 (ofInts [2, 0])], .int .i64 0]
theorem all_doc : Fun FB2 md 23 [elA elN, elA elU, .int .i64 20, .int .i64 1] allR := fun_is known1 (n := 400) (by decide +kernel)
def verR : V := .tup [.sl false 5 (ofInts [1, 0, 0, 2, 0, 1, 3, 0, 2, 5, 2, 1, 4, 0, 3]), .int .i64 334, .int .i64 0]
theorem ver_doc : Fun FB2 md 42 [elsV false el3, .sl true 5 (ofInts [1, 2, 3, 5, 4])] verR := fun_is known1 (n := 300) (by decide +kernel)
noncomputable def S2 (n : Nat) : Option (List V → Option V) :=
  match n with
  | 21 => some (kwn [elA elN, elA elP, .int .i64 10] (.tup [.int .i64 205, .int .i64 1, .int .i64 0]))
  | 26 => some (kwn [elA elN, elA elP, .int .i64 10, .sl true 1 (ofInts [1, 1])] (.tup [.int .i64 0, .int .i64 160]))
  | 23 => some (kwn [elA elN, elA elU, .int .i64 20, .int .i64 1] allR)
  | 42 => some (kwn [elsV false el3, .sl true 5 (ofInts [1, 2, 3, 5, 4])] verR)
  | n => S1 n
theorem known2 : Known FB2 md S2 := by
  intro fn g hg as v h
  unfold S2 at hg
  split at hg
  · cases hg
    obtain ⟨rfl, rfl⟩ := kwn_eq h
    exact best_doc
  · cases hg
    obtain ⟨rfl, rfl⟩ := kwn_eq h
    exact judge_doc
  · cases hg
    obtain ⟨rfl, rfl⟩ := kwn_eq h
    exact all_doc
  · cases hg
    obtain ⟨rfl, rfl⟩ := kwn_eq h
    exact ver_doc
  · exact known1 _ _ hg as v h
theorem awake : Fun FB2 md 20 [] (.bool true) := fun_is known2 (n := 300) (by decide +kernel)
end Go.Dr.T
