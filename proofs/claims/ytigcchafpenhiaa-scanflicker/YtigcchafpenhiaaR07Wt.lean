/- Chapter 07: arguments as windows. -/
import Derived.Test.YtigcchafpenhiaaR07Wr
namespace Go.Dr.T

abbrev is64 (n : Int) : Prop := -9223372036854775808 ≤ n ∧ n ≤ 9223372036854775807
theorem Ty.hasInt {l : List V} (h : (Ty.int .i64).has l) : ∃ n : Int, l = [.int .i64 n] ∧ is64 n := by
  simp only [Ty.has] at h
  obtain ⟨n, rfl, h1, h2⟩ := h
  exact ⟨n, rfl, by simpa [IntKind.min, IntKind.signed, IntKind.bits] using h1, by simpa [IntKind.max, IntKind.signed, IntKind.bits] using h2⟩
theorem Ty.hasU8 {l : List V} (h : (Ty.int .u8).has l) : ∃ n : UInt8, l = [.int .u8 n.toNat] := by
  simp only [Ty.has] at h
  obtain ⟨n, rfl, h3, h4⟩ := h
  simp only [IntKind.min, IntKind.max, IntKind.signed, IntKind.bits, Bool.false_eq_true, if_false] at h3 h4
  have h4' : n ≤ 255 := by simpa using h4
  refine ⟨UInt8.ofNat n.toNat, ?_⟩
  have e : ((UInt8.ofNat n.toNat).toNat : Int) = n := by
    rw [UInt8.toNat_ofNat_of_lt' (by show n.toNat < 256; omega)]; omega
  rw [e]
abbrev TySp : Ty := .agg [.int .i64, .int .i64]
abbrev TyAr : Ty := .agg [TySp, TySp]
abbrev TyWd : Ty := .agg [TyAr, .int .i64]
theorem span_has {l : List V} (h : TySp.has l) : ∃ a b : Int, l = [.int .i64 a, .int .i64 b] ∧ is64 a ∧ is64 b := by
  rw [TySp, Ty.has] at h
  simp only [Ty.hasAll] at h
  obtain ⟨_, _, rfl, h1, _, _, rfl, h2, rfl⟩ := h
  obtain ⟨a, rfl, ha⟩ := Ty.hasInt h1
  obtain ⟨b, rfl, hb⟩ := Ty.hasInt h2
  exact ⟨a, b, rfl, ha, hb⟩
theorem area_has {l : List V} (h : TyAr.has l) : ∃ a b d e : Int, l = [.int .i64 a, .int .i64 b, .int .i64 d, .int .i64 e] ∧ is64 a ∧ is64 b ∧ is64 d ∧ is64 e := by
  rw [TyAr, Ty.has] at h
  simp only [Ty.hasAll] at h
  obtain ⟨_, _, rfl, h1, _, _, rfl, h2, rfl⟩ := h
  obtain ⟨a, b, rfl, ha, hb⟩ := span_has h1
  obtain ⟨d, e, rfl, hd, he⟩ := span_has h2
  exact ⟨a, b, d, e, rfl, ha, hb, hd, he⟩
theorem window_has {l : List V} (h : TyWd.has l) : ∃ a b d e r : Int, l = [.int .i64 a, .int .i64 b, .int .i64 d, .int .i64 e, .int .i64 r] ∧ is64 a ∧ is64 b ∧ is64 d ∧ is64 e ∧ is64 r := by
  rw [TyWd, Ty.has] at h
  simp only [Ty.hasAll] at h
  obtain ⟨_, _, rfl, h1, _, _, rfl, h2, rfl⟩ := h
  obtain ⟨a, b, d, e, rfl, ha, hb, hd, he⟩ := area_has h1
  obtain ⟨r, rfl, hr⟩ := Ty.hasInt h2
  exact ⟨a, b, d, e, r, rfl, ha, hb, hd, he, hr⟩
theorem shift_has {l : List V} (h : TySh.has l) : ∃ (x y : Int) (b : UInt8), l = [.int .i64 x, .int .i64 y, .int .u8 b.toNat] ∧ is64 x ∧ is64 y := by
  rw [TySh, Ty.has] at h
  simp only [Ty.hasAll] at h
  obtain ⟨_, _, rfl, h1, _, _, rfl, h2, _, _, rfl, h3, rfl⟩ := h
  obtain ⟨a, rfl, ha⟩ := Ty.hasInt h1
  obtain ⟨b, rfl, hb⟩ := Ty.hasInt h2
  obtain ⟨c, rfl⟩ := Ty.hasU8 h3
  exact ⟨a, b, c, rfl, ha, hb⟩
theorem agg_val {ts : List Ty} {v : V} (h : (Ty.agg ts).val v) : ∃ l, v = .agg l ∧ (Ty.agg ts).has l := by
  simp only [Ty.val] at h
  obtain ⟨l, rfl, h⟩ := h
  exact ⟨l, rfl, by rw [Ty.has]; exact h⟩
theorem window_val {v : V} (h : TyWd.val v) : ∃ a b d e r : Int, v = .agg [.int .i64 a, .int .i64 b, .int .i64 d, .int .i64 e, .int .i64 r] := by
  obtain ⟨l, rfl, hh⟩ := agg_val h
  obtain ⟨a, b, d, e, r, rfl, _⟩ := window_has hh
  exact ⟨a, b, d, e, r, rfl⟩
theorem sought_val {v : V} (h : (Ty.agg [TyWd, TySh]).val v) : ∃ (a b d e r x y : Int) (f : UInt8), v = .agg [.int .i64 a, .int .i64 b, .int .i64 d, .int .i64 e, .int .i64 r, .int .i64 x, .int .i64 y, .int .u8 f.toNat] ∧ is64 x ∧ is64 y := by
  obtain ⟨l, rfl, hh⟩ := agg_val h
  rw [Ty.has] at hh
  simp only [Ty.hasAll] at hh
  obtain ⟨_, _, rfl, h1, _, _, rfl, h2, rfl⟩ := hh
  obtain ⟨a, b, d, e, r, rfl, _⟩ := window_has h1
  obtain ⟨x, y, f, rfl, hx, hy⟩ := shift_has h2
  exact ⟨a, b, d, e, r, x, y, f, rfl, hx, hy⟩

end Go.Dr.T
