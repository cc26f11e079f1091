/- Chapter 09: arguments as tasks. -/
import Derived.Test.YtokbdaiamhibeaaR09Wi
import Derived.Test.YtokbdaiamhibeaaR09Bj
namespace Go.Dr.T

theorem marks_cells : ∀ {xs : List (List V)}, (∀ x ∈ xs, x.length = 3 ∧ (Ty.agg [.int .i64, .int .i64, .int .i64]).has x) → ∃ l : List Mk, xs.flatten = ofM l ∧ xs.length = l.length
  | [], _ => ⟨[], rfl, rfl⟩
  | x :: xs, h => by
    obtain ⟨l, h1, h2⟩ := marks_cells (xs := xs) fun y hy => h y (by simp [hy])
    obtain ⟨_, hx⟩ := h x (by simp)
    obtain ⟨a, b, d, rfl, _⟩ := three_has hx
    exact ⟨(a, b, d) :: l, by simp only [List.flatten_cons, h1]; rfl, by simp [h2]⟩
abbrev TyMs : Ty := .slice 3 (.agg [.int .i64, .int .i64, .int .i64])
theorem marks_has {v : List V} (h : TyMs.has v) : ∃ l : List Mk, v = [.sl false l.length (ofM l)] := by
  rw [TyMs, Ty.has] at h
  obtain ⟨xs, rfl, hx⟩ := h
  obtain ⟨l, h1, h2⟩ := marks_cells (xs := xs) hx
  exact ⟨l, by rw [h1, h2]⟩
abbrev TyT : Ty := .agg [.int .i64, .agg [.int .i64, .int .i64], TyMs, TyI]
theorem task_val {v : V} (h : TyT.val v) : ∃ t : Tsk, v = tskV false false t := by
  obtain ⟨l, rfl, hh⟩ := agg_val h
  rw [Ty.has] at hh
  simp only [Ty.hasAll] at hh
  obtain ⟨_, _, rfl, h1, _, _, rfl, h2, _, _, rfl, h3, _, _, rfl, h4, rfl⟩ := hh
  obtain ⟨fr, rfl, _⟩ := Ty.hasInt h1
  obtain ⟨a, b, rfl, _⟩ := two_has h2
  obtain ⟨ms, rfl⟩ := marks_has h3
  obtain ⟨sp, rfl, _⟩ := ints_has h4
  exact ⟨⟨fr, a, b, ms, sp⟩, rfl⟩
theorem more_val {v : V} (h : (Ty.agg [.agg [.int .i64, .int .i64, .int .i64], .int .i64]).val v) : ∃ a b d f : Int, v = .agg [.int .i64 a, .int .i64 b, .int .i64 d, .int .i64 f] := by
  obtain ⟨l, rfl, hh⟩ := agg_val h
  rw [Ty.has] at hh
  simp only [Ty.hasAll] at hh
  obtain ⟨_, _, rfl, h1, _, _, rfl, h2, rfl⟩ := hh
  obtain ⟨a, b, d, rfl, _⟩ := three_has h1
  obtain ⟨f, rfl, _⟩ := Ty.hasInt h2
  exact ⟨a, b, d, f, rfl⟩

end Go.Dr.T
