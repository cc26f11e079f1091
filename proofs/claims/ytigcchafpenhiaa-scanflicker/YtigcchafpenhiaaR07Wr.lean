/- Chapter 07: arguments as frames. -/
import Derived.Test.YtigcchafpenhiaaR07Mv
import Derived.Test.YtigcchafpenhiaaDrE
namespace Go.Dr.T

theorem bytes_cells : ∀ {xs : List (List V)}, (∀ x ∈ xs, x.length = 1 ∧ (Ty.int .u8).has x) → ∃ l : List UInt8, xs.flatten = ofBytes l ∧ xs.length = l.length
  | [], _ => ⟨[], rfl, rfl⟩
  | x :: xs, h => by
    obtain ⟨l, h1, h2⟩ := bytes_cells (xs := xs) fun y hy => h y (by simp [hy])
    obtain ⟨_, hx⟩ := h x (by simp)
    simp only [Ty.has] at hx
    obtain ⟨n, rfl, h3, h4⟩ := hx
    simp only [IntKind.min, IntKind.max, IntKind.signed, IntKind.bits, Bool.false_eq_true, if_false] at h3 h4
    have h4' : n ≤ 255 := by simpa using h4
    refine ⟨UInt8.ofNat n.toNat :: l, ?_, by simp [h2]⟩
    have e : ((UInt8.ofNat n.toNat).toNat : Int) = n := by
      rw [UInt8.toNat_ofNat_of_lt' (by show n.toNat < 256; omega)]; omega
    simp only [List.flatten_cons, h1, ofBytes, e]; rfl

abbrev TyFr : Ty := .agg [.int .i64, .int .i64, .slice 1 (.int .u8)]
theorem frame_val {v : V} (h : TyFr.val v) : ∃ w h' l, v = frV w h' false l := by
  simp only [Ty.val, Ty.hasAll, Ty.has] at h
  obtain ⟨_, rfl, _, _, rfl, ⟨w, rfl, _⟩, _, _, rfl, ⟨h', rfl, _⟩, _, _, rfl, ⟨xs, rfl, hx⟩, rfl⟩ := h
  obtain ⟨l, h1, h2⟩ := bytes_cells (xs := xs) (fun x hx' => by
    obtain ⟨q1, q2⟩ := hx x hx'
    exact ⟨q1, by simp only [Ty.has]; exact q2⟩)
  exact ⟨w, h', l, by rw [h1, h2]; rfl⟩
abbrev TySh : Ty := .agg [.int .i64, .int .i64, .int .u8]
theorem shift_val {v : V} (h : TySh.val v) : ∃ (x y : Int) (b : UInt8), v = .agg [.int .i64 x, .int .i64 y, .int .u8 b.toNat] := by
  simp only [Ty.val, Ty.hasAll, Ty.has] at h
  obtain ⟨_, rfl, _, _, rfl, ⟨x, rfl, _⟩, _, _, rfl, ⟨y, rfl, _⟩, _, _, rfl, ⟨n, rfl, h3, h4⟩, rfl⟩ := h
  simp only [IntKind.min, IntKind.max, IntKind.signed, IntKind.bits, Bool.false_eq_true, if_false] at h3 h4
  have h4' : n ≤ 255 := by simpa using h4
  refine ⟨x, y, UInt8.ofNat n.toNat, ?_⟩
  have e : ((UInt8.ofNat n.toNat).toNat : Int) = n := by
    rw [UInt8.toNat_ofNat_of_lt' (by show n.toNat < 256; omega)]; omega
  rw [e]; rfl

end Go.Dr.T
