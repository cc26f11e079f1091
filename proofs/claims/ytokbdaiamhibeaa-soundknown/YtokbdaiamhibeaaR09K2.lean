/- Chapter 09: the examples of the document. -/
import Derived.Test.YtokbdaiamhibeaaR09K1
namespace Go.Dr.T
def trk1 : V := .tup [.sl true 3 [.int .i64 1, .int .i64 2, .int .i64 2, .int .i64 2, .int .i64 0, .int .i64 1], .int .i64 0]
theorem track1_doc : Fun F md 17 [stripF, stripM, .int .i64 1] trk1 := fun_is known1 (n := 200) (by decide +kernel)
noncomputable def S3 (n : Nat) : Option (List V → Option V) :=
  match n with
  | 17 => some (known [stripF, stripM, .int .i64 1] trk1)
  | 20 => some (known [] (.bool true))
  | 35 => some fun as => match known [taskV, .int .i64 1000000, .int .i64 10000] (offR 320 37) as with
    | some v => some v
    | none => known [taskV, .int .i64 1000000, .int .i64 10100] (offR 420 37) as
  | n => S2 n
theorem known3 : Known F md S3 := by
  intro fn g hg as v h
  unfold S3 at hg
  split at hg
  · cases hg
    obtain ⟨rfl, rfl⟩ := known_eq h
    exact track1_doc
  · cases hg
    obtain ⟨rfl, rfl⟩ := known_eq h
    exact awake
  · cases hg
    simp only at h
    split at h
    · rename_i w hw
      cases h
      obtain ⟨rfl, rfl⟩ := known_eq hw
      exact off1_doc
    · obtain ⟨rfl, rfl⟩ := known_eq h
      exact off2_doc
  · exact known2 _ _ hg as v h
theorem law_known : Fun F md 16 [] (.bool true) := fun_is known3 (n := 500) (by decide +kernel)
end Go.Dr.T
