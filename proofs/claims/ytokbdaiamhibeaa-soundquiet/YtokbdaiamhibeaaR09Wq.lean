/- Chapter 09: arguments as pulls. -/
import Derived.Test.YtokbdaiamhibeaaR09Wi
namespace Go.Dr.T

theorem pulled_val {v : V} (h : (Ty.agg [.int .i64, .int .i64, .int .i64, TyPops]).val v) : ∃ (b s m : Int) (sp : List Int) (r : Int) (kp : List Int), v = .agg [.int .i64 b, .int .i64 s, .int .i64 m, .sl false sp.length (ofI sp), .int .i64 r, .sl false kp.length (ofI kp)] := by
  obtain ⟨l, rfl, hh⟩ := agg_val h
  rw [Ty.has] at hh
  simp only [Ty.hasAll] at hh
  obtain ⟨_, _, rfl, h1, _, _, rfl, h2, _, _, rfl, h3, _, _, rfl, h4, rfl⟩ := hh
  obtain ⟨b, rfl, _⟩ := Ty.hasInt h1
  obtain ⟨s, rfl, _⟩ := Ty.hasInt h2
  obtain ⟨m, rfl, _⟩ := Ty.hasInt h3
  rw [TyPops, Ty.has] at h4
  simp only [Ty.hasAll] at h4
  obtain ⟨_, _, rfl, g1, _, _, rfl, g2, _, _, rfl, g3, rfl⟩ := h4
  obtain ⟨sp, rfl, _⟩ := ints_has g1
  obtain ⟨r, rfl, _⟩ := Ty.hasInt g2
  obtain ⟨kp, rfl, _⟩ := ints_has g3
  exact ⟨b, s, m, sp, r, kp, rfl⟩

end Go.Dr.T
