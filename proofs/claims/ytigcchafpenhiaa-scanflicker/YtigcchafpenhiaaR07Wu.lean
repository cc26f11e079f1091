/- Chapter 07: arguments as lights and exposures. -/
import Derived.Test.YtigcchafpenhiaaR07Wf
import Derived.Test.YtigcchafpenhiaaR07We
namespace Go.Dr.T

abbrev TyShown : Ty := .agg [.slice 1 (.int .i64), .slice 1 (.int .u16)]
theorem u16s_flat : ∀ {xs : List (List V)}, (∀ x ∈ xs, x.length = 1 ∧ (Ty.int .u16).has x) → ∃ l : List Int, xs.flatten = l.map (V.int .u16) ∧ xs.length = l.length ∧ ∀ x ∈ l, 0 ≤ x ∧ x ≤ 65535
  | [], _ => ⟨[], rfl, rfl, by simp⟩
  | x :: xs, h => by
    obtain ⟨l, h1, h2, h3⟩ := u16s_flat (xs := xs) fun y hy => h y (by simp [hy])
    obtain ⟨_, hx⟩ := h x (by simp)
    simp only [Ty.has] at hx
    obtain ⟨n, rfl, q1, q2⟩ := hx
    have q1' : 0 ≤ n := by simpa [IntKind.min, IntKind.signed, IntKind.bits] using q1
    have q2' : n ≤ 65535 := by simpa [IntKind.max, IntKind.signed, IntKind.bits] using q2
    refine ⟨n :: l, by simp only [List.flatten_cons, h1]; rfl, by simp [h2], fun y hy => ?_⟩
    rcases List.mem_cons.1 hy with rfl | hy
    · exact ⟨q1', q2'⟩
    · exact h3 y hy
theorem shown_val {v : V} (h : TyShown.val v) : ∃ L E : List Int, v = .agg [.sl false L.length (L.map (V.int .i64)), .sl false E.length (E.map (V.int .u16))] ∧ ∀ x ∈ E, 0 ≤ x ∧ x ≤ 65535 := by
  obtain ⟨l, rfl, hh⟩ := agg_val h
  rw [Ty.has] at hh
  simp only [Ty.hasAll] at hh
  obtain ⟨_, _, rfl, h1, _, _, rfl, h2, rfl⟩ := hh
  simp only [Ty.has] at h1 h2
  obtain ⟨xs, rfl, hx⟩ := h1
  obtain ⟨ys, rfl, hy⟩ := h2
  obtain ⟨L, a1, a2⟩ := ints_flat (xs := xs) (fun x hx' => by
    obtain ⟨q1, q2⟩ := hx x hx'
    exact ⟨q1, by simp only [Ty.has]; exact q2⟩)
  obtain ⟨E, b1, b2, b3⟩ := u16s_flat (xs := ys) (fun x hx' => by
    obtain ⟨q1, q2⟩ := hy x hx'
    exact ⟨q1, by simp only [Ty.has]; exact q2⟩)
  exact ⟨L, E, by rw [a1, a2, b1, b2]; rfl, b3⟩

end Go.Dr.T
