/- Chapter 09: arguments as numbers, lists of numbers and of pairs. -/
import Derived.Test.YtokbdaiamhibeaaR09Gn
import Derived.Test.YtokbdaiamhibeaaR09Wr
namespace Go.Dr.T

abbrev is64 (n : Int) : Prop := -9223372036854775808 ≤ n ∧ n ≤ 9223372036854775807
theorem Ty.hasInt {l : List V} (h : (Ty.int .i64).has l) : ∃ n : Int, l = [.int .i64 n] ∧ is64 n := by
  simp only [Ty.has] at h
  obtain ⟨n, rfl, h1, h2⟩ := h
  exact ⟨n, rfl, by simpa [IntKind.min, IntKind.signed, IntKind.bits] using h1, by simpa [IntKind.max, IntKind.signed, IntKind.bits] using h2⟩
theorem agg_val {ts : List Ty} {v : V} (h : (Ty.agg ts).val v) : ∃ l, v = .agg l ∧ (Ty.agg ts).has l := by
  simp only [Ty.val] at h
  obtain ⟨l, rfl, h⟩ := h
  exact ⟨l, rfl, by rw [Ty.has]; exact h⟩
theorem int_val {v : V} (h : (Ty.int .i64).val v) : ∃ n, v = .int .i64 n ∧ is64 n := by
  obtain ⟨n, e, hn⟩ := Ty.hasInt (l := [v]) h
  simp only [List.cons.injEq, and_true] at e
  exact ⟨n, e, hn⟩
theorem ints_cells : ∀ {xs : List (List V)}, (∀ x ∈ xs, x.length = 1 ∧ (Ty.int .i64).has x) → ∃ l : List Int, xs.flatten = ofI l ∧ xs.length = l.length ∧ ∀ x ∈ l, is64 x
  | [], _ => ⟨[], rfl, rfl, by simp⟩
  | x :: xs, h => by
    obtain ⟨l, h1, h2, h3⟩ := ints_cells (xs := xs) fun y hy => h y (by simp [hy])
    obtain ⟨_, hx⟩ := h x (by simp)
    obtain ⟨n, rfl, hn⟩ := Ty.hasInt hx
    exact ⟨n :: l, by simp only [List.flatten_cons, h1]; rfl, by simp [h2], by
      intro y hy
      rcases List.mem_cons.1 hy with rfl | hy
      · exact hn
      · exact h3 y hy⟩
abbrev TyI : Ty := .slice 1 (.int .i64)
theorem ints_has {v : List V} (h : TyI.has v) : ∃ l : List Int, v = [.sl false l.length (ofI l)] ∧ ∀ x ∈ l, is64 x := by
  rw [TyI, Ty.has] at h
  obtain ⟨xs, rfl, hx⟩ := h
  obtain ⟨l, h1, h2, h3⟩ := ints_cells (xs := xs) hx
  exact ⟨l, by rw [h1, h2], h3⟩
theorem ints_val {v : V} (h : TyI.val v) : ∃ l : List Int, v = .sl false l.length (ofI l) ∧ ∀ x ∈ l, is64 x := by
  obtain ⟨l, e, hl⟩ := ints_has (v := [v]) h
  simp only [List.cons.injEq, and_true] at e
  exact ⟨l, e, hl⟩
theorem three_has {l : List V} (h : (Ty.agg [.int .i64, .int .i64, .int .i64]).has l) : ∃ a b d : Int, l = [.int .i64 a, .int .i64 b, .int .i64 d] ∧ is64 a ∧ is64 b ∧ is64 d := by
  rw [Ty.has] at h
  simp only [Ty.hasAll] at h
  obtain ⟨_, _, rfl, h1, _, _, rfl, h2, _, _, rfl, h3, rfl⟩ := h
  obtain ⟨a, rfl, ha⟩ := Ty.hasInt h1
  obtain ⟨b, rfl, hb⟩ := Ty.hasInt h2
  obtain ⟨d, rfl, hd⟩ := Ty.hasInt h3
  exact ⟨a, b, d, rfl, ha, hb, hd⟩
theorem three_val {v : V} (h : (Ty.agg [.int .i64, .int .i64, .int .i64]).val v) : ∃ a b d : Int, v = .agg [.int .i64 a, .int .i64 b, .int .i64 d] ∧ is64 a ∧ is64 b ∧ is64 d := by
  obtain ⟨l, rfl, hh⟩ := agg_val h
  obtain ⟨a, b, d, rfl, hq⟩ := three_has hh
  exact ⟨a, b, d, rfl, hq⟩
theorem two_has {l : List V} (h : (Ty.agg [.int .i64, .int .i64]).has l) : ∃ a b : Int, l = [.int .i64 a, .int .i64 b] ∧ is64 a ∧ is64 b := by
  rw [Ty.has] at h
  simp only [Ty.hasAll] at h
  obtain ⟨_, _, rfl, h1, _, _, rfl, h2, rfl⟩ := h
  obtain ⟨a, rfl, ha⟩ := Ty.hasInt h1
  obtain ⟨b, rfl, hb⟩ := Ty.hasInt h2
  exact ⟨a, b, rfl, ha, hb⟩
theorem two_val {v : V} (h : (Ty.agg [.int .i64, .int .i64]).val v) : ∃ a b : Int, v = .agg [.int .i64 a, .int .i64 b] ∧ is64 a ∧ is64 b := by
  obtain ⟨l, rfl, hh⟩ := agg_val h
  obtain ⟨a, b, rfl, hq⟩ := two_has hh
  exact ⟨a, b, rfl, hq⟩
theorem pairs_cells : ∀ {xs : List (List V)}, (∀ x ∈ xs, x.length = 2 ∧ (Ty.agg [.int .i64, .int .i64]).has x) → ∃ l : List (Int × Int), xs.flatten = ofSp l ∧ xs.length = l.length ∧ ∀ x ∈ l, is64 x.1 ∧ is64 x.2
  | [], _ => ⟨[], rfl, rfl, by simp⟩
  | x :: xs, h => by
    obtain ⟨l, h1, h2, h3⟩ := pairs_cells (xs := xs) fun y hy => h y (by simp [hy])
    obtain ⟨_, hx⟩ := h x (by simp)
    obtain ⟨a, b, rfl, ha, hb⟩ := two_has hx
    exact ⟨(a, b) :: l, by simp only [List.flatten_cons, h1]; rfl, by simp [h2], by
      intro y hy
      rcases List.mem_cons.1 hy with rfl | hy
      · exact ⟨ha, hb⟩
      · exact h3 y hy⟩
abbrev TyP : Ty := .slice 2 (.agg [.int .i64, .int .i64])
theorem pairs_val {v : V} (h : TyP.val v) : ∃ l : List (Int × Int), v = .sl false l.length (ofSp l) ∧ ∀ x ∈ l, is64 x.1 ∧ is64 x.2 := by
  have h' : TyP.has [v] := h
  rw [TyP, Ty.has] at h'
  obtain ⟨xs, e, hx⟩ := h'
  obtain ⟨l, h1, h2, h3⟩ := pairs_cells (xs := xs) hx
  simp only [List.cons.injEq, and_true] at e
  exact ⟨l, by rw [e, h1, h2], h3⟩
/-- splices, reach, samples that were replaced. -/
abbrev TyPops : Ty := .agg [TyI, .int .i64, TyI]
theorem pops_val {v : V} (h : TyPops.val v) : ∃ (s : List Int) (r : Int) (k : List Int), v = .agg [.sl false s.length (ofI s), .int .i64 r, .sl false k.length (ofI k)] ∧ is64 r ∧ (∀ x ∈ s, is64 x) ∧ ∀ x ∈ k, is64 x := by
  obtain ⟨l, rfl, hh⟩ := agg_val h
  rw [Ty.has] at hh
  simp only [Ty.hasAll] at hh
  obtain ⟨_, _, rfl, h1, _, _, rfl, h2, _, _, rfl, h3, rfl⟩ := hh
  obtain ⟨s, rfl, hs⟩ := ints_has h1
  obtain ⟨r, rfl, hr⟩ := Ty.hasInt h2
  obtain ⟨k, rfl, hk⟩ := ints_has h3
  exact ⟨s, r, k, rfl, hr, hs, hk⟩
theorem u8_val {v : V} (h : (Ty.int .u8).val v) : ∃ n : UInt8, v = .int .u8 n.toNat := by
  simp only [Ty.val, Ty.has] at h
  obtain ⟨n, e, h3, h4⟩ := h
  simp only [List.cons.injEq, and_true] at e
  simp only [IntKind.min, IntKind.max, IntKind.signed, IntKind.bits, Bool.false_eq_true, if_false] at h3 h4
  have h4' : n ≤ 255 := by simpa using h4
  refine ⟨UInt8.ofNat n.toNat, ?_⟩
  have q : ((UInt8.ofNat n.toNat).toNat : Int) = n := by
    rw [UInt8.toNat_ofNat_of_lt' (by show n.toNat < 256; omega)]; omega
  rw [q, e]
theorem u16_val {v : V} (h : (Ty.int .u16).val v) : ∃ n : Nat, v = .int .u16 (n : Int) ∧ n ≤ 65535 := by
  simp only [Ty.val, Ty.has] at h
  obtain ⟨n, e, h3, h4⟩ := h
  simp only [List.cons.injEq, and_true] at e
  simp only [IntKind.min, IntKind.max, IntKind.signed, IntKind.bits, Bool.false_eq_true, if_false] at h3 h4
  have h4' : n ≤ 65535 := by simpa using h4
  exact ⟨n.toNat, by rw [e]; congr 1; omega, by omega⟩
theorem bytes_has {l : List V} (h : (Ty.slice 1 (.int .u8)).has l) : ∃ m : List UInt8, l = [.sl false m.length (ofBytes m)] := by
  simp only [Ty.has] at h
  obtain ⟨xs, rfl, hx⟩ := h
  obtain ⟨m, h1, h2⟩ := bytes_cells (xs := xs) (fun x hx' => by
    obtain ⟨q1, q2⟩ := hx x hx'
    exact ⟨q1, by simp only [Ty.has]; exact q2⟩)
  exact ⟨m, by rw [h1, h2]⟩
abbrev TyH : Ty := .agg [.int .i64, .slice 1 (.int .u8), .slice 1 (.int .u8)]
theorem heard_val {v : V} (h : TyH.val v) : ∃ (n : Int) (a b : List UInt8), v = .agg [.int .i64 n, .sl false a.length (ofBytes a), .sl false b.length (ofBytes b)] ∧ is64 n := by
  obtain ⟨l, rfl, hh⟩ := agg_val h
  rw [Ty.has] at hh
  simp only [Ty.hasAll] at hh
  obtain ⟨_, _, rfl, h1, _, _, rfl, h2, _, _, rfl, h3, rfl⟩ := hh
  obtain ⟨n, rfl, hn⟩ := Ty.hasInt h1
  obtain ⟨a, rfl⟩ := bytes_has h2
  obtain ⟨b, rfl⟩ := bytes_has h3
  exact ⟨n, a, b, rfl, hn⟩

end Go.Dr.T
