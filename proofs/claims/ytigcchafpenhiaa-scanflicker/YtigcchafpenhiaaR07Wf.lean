/- Chapter 07: arguments as lists of frames, and as areas. -/
import Derived.Test.YtigcchafpenhiaaR07Wt
import Derived.Test.YtigcchafpenhiaaR07Fe
namespace Go.Dr.T

theorem frame_has {x : List V} (h : TyFr.has x) : ∃ f : Fr, x = [.int .i64 f.1, .int .i64 f.2.1, .sl false f.2.2.length (ofBytes f.2.2)] := by
  rw [TyFr, Ty.has] at h
  simp only [Ty.hasAll] at h
  obtain ⟨_, _, rfl, h1, _, _, rfl, h2, _, _, rfl, h3, rfl⟩ := h
  obtain ⟨w, rfl, _⟩ := Ty.hasInt h1
  obtain ⟨h', rfl, _⟩ := Ty.hasInt h2
  simp only [Ty.has] at h3
  obtain ⟨xs, rfl, hx⟩ := h3
  obtain ⟨l, q1, q2⟩ := bytes_cells (xs := xs) (fun x hx' => by
    obtain ⟨q1, q2⟩ := hx x hx'
    exact ⟨q1, by simp only [Ty.has]; exact q2⟩)
  exact ⟨(w, h', l), by rw [q1, q2]; rfl⟩
theorem frames_cells : ∀ {xs : List (List V)}, (∀ x ∈ xs, x.length = 3 ∧ TyFr.has x) → ∃ l : List Fr, xs.flatten = ofFr l ∧ xs.length = l.length
  | [], _ => ⟨[], rfl, rfl⟩
  | x :: xs, h => by
    obtain ⟨l, h1, h2⟩ := frames_cells (xs := xs) fun y hy => h y (by simp [hy])
    obtain ⟨_, hx⟩ := h x (by simp)
    obtain ⟨f, rfl⟩ := frame_has hx
    exact ⟨f :: l, by simp only [List.flatten_cons, h1]; rfl, by simp [h2]⟩
abbrev TyFs : Ty := .slice 3 TyFr
theorem frames_val {v : V} (h : TyFs.val v) : ∃ l : List Fr, v = .sl false l.length (ofFr l) := by
  rw [TyFs, Ty.val] at h
  · rw [Ty.has] at h
    obtain ⟨xs, e, hx⟩ := h
    obtain ⟨l, h1, h2⟩ := frames_cells (xs := xs) hx
    simp only [List.cons.injEq, and_true] at e
    exact ⟨l, by rw [e, h1, h2]⟩
  · intro ts e; cases e
theorem area_val {v : V} (h : TyAr.val v) : ∃ a b d e : Int, v = .agg [.int .i64 a, .int .i64 b, .int .i64 d, .int .i64 e] := by
  obtain ⟨l, rfl, hh⟩ := agg_val h
  obtain ⟨a, b, d, e, rfl, _⟩ := area_has hh
  exact ⟨a, b, d, e, rfl⟩

end Go.Dr.T
