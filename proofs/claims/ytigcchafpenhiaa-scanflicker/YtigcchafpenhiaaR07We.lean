/- Chapter 07: arguments as numbers and lists of numbers. -/
import Derived.Test.YtigcchafpenhiaaR07Wr
namespace Go.Dr.T

theorem int_one {v : V} (h : (Ty.int .i64).val v) : ∃ n, v = .int .i64 n := by
  simp only [Ty.val, Ty.has] at h
  obtain ⟨n, e, _⟩ := h
  simp only [List.cons.injEq, and_true] at e
  exact ⟨n, e⟩
theorem ints_flat : ∀ {xs : List (List V)}, (∀ x ∈ xs, x.length = 1 ∧ (Ty.int .i64).has x) → ∃ l : List Int, xs.flatten = l.map (V.int .i64) ∧ xs.length = l.length
  | [], _ => ⟨[], rfl, rfl⟩
  | x :: xs, h => by
    obtain ⟨l, h1, h2⟩ := ints_flat (xs := xs) fun y hy => h y (by simp [hy])
    obtain ⟨_, hx⟩ := h x (by simp)
    simp only [Ty.has] at hx
    obtain ⟨n, rfl, _⟩ := hx
    exact ⟨n :: l, by simp only [List.flatten_cons, h1]; rfl, by simp [h2]⟩
theorem ints_list {v : V} (h : (Ty.slice 1 (.int .i64)).val v) : ∃ l : List Int, v = .sl false l.length (l.map (V.int .i64)) := by
  simp only [Ty.val, Ty.has] at h
  obtain ⟨xs, e, hx⟩ := h
  obtain ⟨l, h1, h2⟩ := ints_flat (xs := xs) (fun x hx' => by
    obtain ⟨q1, q2⟩ := hx x hx'
    exact ⟨q1, by simp only [Ty.has]; exact q2⟩)
  simp only [List.cons.injEq, and_true] at e
  exact ⟨l, by rw [e, h1, h2]⟩

end Go.Dr.T
