/- Chapter 07: arguments as pairs of numbers. -/
import Derived.Test.YtigcchafpenhiaaR07We
namespace Go.Dr.T
theorem two_val {v : V} (h : (Ty.agg [.int .i64, .int .i64]).val v) : ∃ a b : Int, v = .agg [.int .i64 a, .int .i64 b] := by
  simp only [Ty.val, Ty.hasAll, Ty.has] at h
  obtain ⟨_, rfl, _, _, rfl, ⟨a, rfl, _⟩, _, _, rfl, ⟨b, rfl, _⟩, rfl⟩ := h
  exact ⟨a, b, rfl⟩
end Go.Dr.T
