/- Chapter 09: arguments of which it is known whether they are nil. -/
import Derived.Test.YtokbdaiamhibeaaR09Wi
namespace Go.Dr.T

theorem int_valX {v : V} (h : (Ty.int .i64).val v true) : ∃ n, v = .int .i64 n := by
  simp only [Ty.val, Ty.has] at h
  obtain ⟨n, e, _⟩ := h
  simp only [List.cons.injEq, and_true] at e
  exact ⟨n, e⟩
theorem ints_hasX {x : List V} (h : TyI.has x true) : x = [.nilsl] ∨ x = [.esl] ∨ ∃ l : List Int, l ≠ [] ∧ x = [.sl false l.length (ofI l)] := by
  rw [TyI, Ty.has] at h
  rcases h with h | h | ⟨xs, hne, rfl, hx⟩
  · exact .inl h
  · exact .inr (.inl h)
  · obtain ⟨l, h1, h2, _⟩ := ints_cells (xs := xs) hx
    refine .inr (.inr ⟨l, ?_, by rw [h1, h2]⟩)
    rintro rfl
    exact hne (List.eq_nil_of_length_eq_zero (by simpa using h2))
theorem ints_valX {v : V} (h : TyI.val v true) : v = .nilsl ∨ v = .esl ∨ ∃ l : List Int, l ≠ [] ∧ v = .sl false l.length (ofI l) := by
  have h' : TyI.has [v] true := h
  rcases ints_hasX h' with h | h | ⟨l, hl, h⟩ <;> simp only [List.cons.injEq, and_true] at h
  · exact .inl h
  · exact .inr (.inl h)
  · exact .inr (.inr ⟨l, hl, h⟩)

end Go.Dr.T
