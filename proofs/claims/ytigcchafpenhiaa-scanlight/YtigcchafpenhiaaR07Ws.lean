/- Chapter 07: arguments as shots, numbers. -/
import Derived.Test.YtigcchafpenhiaaR07Lj
import Derived.Test.YtigcchafpenhiaaR07Wr
namespace Go.Dr.T

/-! arguments as shots -/
theorem shots_cells : ∀ {xs : List (List V)}, (∀ x ∈ xs, x.length = 2 ∧ (Ty.agg [.int .i64, .int .i64]).has x) → ∃ l : List (Int × Int), xs.flatten = ofSh l ∧ xs.length = l.length
  | [], _ => ⟨[], rfl, rfl⟩
  | x :: xs, h => by
    obtain ⟨l, h1, h2⟩ := shots_cells (xs := xs) fun y hy => h y (by simp [hy])
    obtain ⟨_, hx⟩ := h x (by simp)
    simp only [Ty.has, Ty.hasAll] at hx
    obtain ⟨_, _, rfl, ⟨a, rfl, _⟩, _, _, rfl, ⟨b, rfl, _⟩, rfl⟩ := hx
    exact ⟨(a, b) :: l, by simp only [List.flatten_cons, h1]; rfl, by simp [h2]⟩
abbrev TySs : Ty := .slice 2 (.agg [.int .i64, .int .i64])
theorem shots_val {v : V} (h : TySs.val v) : ∃ l, v = shs false l := by
  simp only [Ty.val, Ty.has] at h
  obtain ⟨xs, e, hx⟩ := h
  obtain ⟨l, h1, h2⟩ := shots_cells (xs := xs) (fun x hx' => by
    obtain ⟨q1, q2⟩ := hx x hx'
    exact ⟨q1, by simp only [Ty.has]; exact q2⟩)
  simp only [List.cons.injEq, and_true] at e
  exact ⟨l, by rw [e, h1, h2]⟩
theorem int_val {v : V} (h : (Ty.int .i64).val v) : ∃ n, v = .int .i64 n := by
  simp only [Ty.val, Ty.has] at h
  obtain ⟨n, e, _⟩ := h
  simp only [List.cons.injEq, and_true] at e
  exact ⟨n, e⟩

theorem shot_val {v : V} (h : (Ty.agg [.int .i64, .int .i64]).val v) : ∃ a b : Int, v = .agg [.int .i64 a, .int .i64 b] := by
  simp only [Ty.val, Ty.hasAll, Ty.has] at h
  obtain ⟨_, rfl, _, _, rfl, ⟨x, rfl, _⟩, _, _, rfl, ⟨y, rfl, _⟩, rfl⟩ := h
  exact ⟨x, y, rfl⟩
theorem bulks_ofSh (l : List (Int × Int)) : bulks (ofSh l) = 2 * l.length := by
  induction l with
  | nil => rfl
  | cons x l ih => simp only [ofSh, bulks, V.bulk, ih, List.length_cons]; omega
theorem shots_bulk {c : Bool} {l : List (Int × Int)} {r : List V} {n : Nat} (h : bulks (.sl c l.length (ofSh l) :: r) ≤ n) : l.length ≤ n := by
  simp only [bulks, V.bulk, bulks_ofSh] at h; omega
theorem ints_cells : ∀ {xs : List (List V)}, (∀ x ∈ xs, x.length = 1 ∧ (Ty.int .i64).has x) → ∃ l : List Int, xs.flatten = l.map (V.int .i64) ∧ xs.length = l.length
  | [], _ => ⟨[], rfl, rfl⟩
  | x :: xs, h => by
    obtain ⟨l, h1, h2⟩ := ints_cells (xs := xs) fun y hy => h y (by simp [hy])
    obtain ⟨_, hx⟩ := h x (by simp)
    simp only [Ty.has] at hx
    obtain ⟨n, rfl, _⟩ := hx
    exact ⟨n :: l, by simp only [List.flatten_cons, h1]; rfl, by simp [h2]⟩
theorem ints_val {v : V} (h : (Ty.slice 1 (.int .i64)).val v) : ∃ l : List Int, v = .sl false l.length (l.map (V.int .i64)) := by
  simp only [Ty.val, Ty.has] at h
  obtain ⟨xs, e, hx⟩ := h
  obtain ⟨l, h1, h2⟩ := ints_cells (xs := xs) (fun x hx' => by
    obtain ⟨q1, q2⟩ := hx x hx'
    exact ⟨q1, by simp only [Ty.has]; exact q2⟩)
  simp only [List.cons.injEq, and_true] at e
  exact ⟨l, by rw [e, h1, h2]⟩

end Go.Dr.T
