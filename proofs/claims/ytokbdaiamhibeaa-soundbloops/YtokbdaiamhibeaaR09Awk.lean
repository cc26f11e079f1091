/- Chapter 09: Awake. -/
import Derived.Test.YtokbdaiamhibeaaR09Aw1
import Derived.Test.YtokbdaiamhibeaaR09Aw2
namespace Go.Dr.T
def fitR : V := .tup [.agg [.int .i64 1000000, .int .i64 10000, .int .i64 320], .sl false 2 [.int .i64 1000000, .int .i64 37, .int .i64 37, .int .i64 320, .int .i64 1005000, .int .i64 0, .int .i64 38, .int .i64 330], .int .i64 0]
def known (l : List V) (v : V) (as : List V) : Option V := match veqs as l with
  | true => some v
  | false => none
theorem known_eq {l : List V} {v w : V} {as : List V} (h : known l v as = some w) : as = l ∧ w = v := by
  unfold known at h
  split at h <;> cases h
  rename_i e
  exact ⟨veqs_eq e, rfl⟩
noncomputable def S2 (n : Nat) : Option (List V → Option V) :=
  match n with
  | 33 => some (known [taskV] fitR)
  | 54 => some (known [] taskV)
  | 17 => some (known [stripF, stripM, .int .i64 2] (.tup [.sl true 3 [.int .i64 255, .int .i64 510, .int .i64 510, .int .i64 510, .int .i64 60, .int .i64 315], .int .i64 0]))
  | n => S1 n
theorem known2 : Known F md S2 := by
  intro fn g hg as v h
  unfold S2 at hg
  split at hg
  · cases hg
    obtain ⟨rfl, rfl⟩ := known_eq h
    exact fit_doc
  · cases hg
    obtain ⟨rfl, rfl⟩ := known_eq h
    exact task_doc
  · cases hg
    obtain ⟨rfl, rfl⟩ := known_eq h
    exact track_doc
  · exact known1 _ _ hg as v h
theorem awake : Fun F md 20 [] (.bool true) := fun_is known2 (n := 300) (by decide +kernel)
end Go.Dr.T
