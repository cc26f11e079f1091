/- Chapter 06: arguments as elements and lists of them. -/
import Derived.Test.YtfhphjloaelgoaaGreatDoorR06El
import Derived.Test.YtfhphjloaelgoaaGreatDoorDrE
namespace Go.Dr.T
theorem hasInt {l : List V} (h : (Ty.int .i64).has l) : ∃ n : Int, l = [.int .i64 n] := by
  simp only [Ty.has] at h
  obtain ⟨n, rfl, h1, h2⟩ := h
  exact ⟨n, rfl⟩
theorem hasStr {l : List V} (h : Ty.str.has l) : ∃ s, l = [.str s] := by
  simpa only [Ty.has] using h
theorem int_val {v : V} (h : (Ty.int .i64).val v) : ∃ n, v = .int .i64 n := by
  obtain ⟨n, e⟩ := hasInt (l := [v]) h
  simp only [List.cons.injEq, and_true] at e
  exact ⟨n, e⟩
theorem two_has {x : List V} (h : (Ty.agg [.int .i64, .int .i64]).has x) : ∃ a b : Int, x = [.int .i64 a, .int .i64 b] := by
  simp only [Ty.has, Ty.hasAll] at h
  obtain ⟨a, b, rfl, ⟨n, rfl, _⟩, c, d, rfl, ⟨m, rfl, _⟩, rfl⟩ := h
  exact ⟨n, m, rfl⟩
theorem pairs_cells : ∀ {xs : List (List V)}, (∀ x ∈ xs, x.length = 2 ∧ (Ty.agg [.int .i64, .int .i64]).has x) → ∃ l : List (Int × Int), xs.flatten = shC l ∧ xs.length = l.length
  | [], _ => ⟨[], rfl, rfl⟩
  | x :: xs, h => by
    obtain ⟨l, h1, h2⟩ := pairs_cells (xs := xs) fun y hy => h y (by simp [hy])
    obtain ⟨_, hx⟩ := h x (by simp)
    obtain ⟨a, b, rfl⟩ := two_has hx
    exact ⟨(a, b) :: l, by simp only [List.flatten_cons, h1]; rfl, by simp [h2]⟩
abbrev TyP : Ty := .slice 2 (.agg [.int .i64, .int .i64])
theorem pairs_has {v : List V} (h : TyP.has v) : ∃ l : List (Int × Int), v = [.sl false l.length (shC l)] := by
  rw [TyP, Ty.has] at h
  obtain ⟨xs, rfl, hx⟩ := h
  obtain ⟨l, h1, h2⟩ := pairs_cells (xs := xs) hx
  exact ⟨l, by rw [h1, h2]⟩
theorem pairs_val {v : V} (h : TyP.val v) : ∃ l : List (Int × Int), v = .sl false l.length (shC l) := by
  obtain ⟨l, e⟩ := pairs_has (v := [v]) h
  simp only [List.cons.injEq, and_true] at e
  exact ⟨l, e⟩
abbrev TyEl : Ty := .agg [.str, TyP, .int .i64]
def elA (x : El) : V := .agg x.v
theorem el_all {l : List V} (h : Ty.hasAll [.str, TyP, .int .i64] l) : ∃ x : El, l = x.v := by
  simp only [Ty.hasAll] at h
  obtain ⟨a, b, rfl, ha, c, d, rfl, hc, e, f, rfl, he, rfl⟩ := h
  obtain ⟨s, rfl⟩ := hasStr ha
  obtain ⟨l, rfl⟩ := pairs_has hc
  obtain ⟨n, rfl⟩ := hasInt he
  exact ⟨⟨s, false, l, n⟩, rfl⟩
theorem el_val {v : V} (h : TyEl.val v) : ∃ x : El, v = elA x := by
  simp only [Ty.val] at h
  obtain ⟨l, rfl, h⟩ := h
  obtain ⟨x, rfl⟩ := el_all h
  exact ⟨x, rfl⟩
theorem els_cells : ∀ {xs : List (List V)}, (∀ x ∈ xs, x.length = 3 ∧ TyEl.has x) → ∃ l : List El, xs.flatten = elC l ∧ xs.length = l.length
  | [], _ => ⟨[], rfl, rfl⟩
  | x :: xs, h => by
    obtain ⟨l, h1, h2⟩ := els_cells (xs := xs) fun y hy => h y (by simp [hy])
    obtain ⟨_, hx⟩ := h x (by simp)
    obtain ⟨y, rfl⟩ := el_all (by simpa only [Ty.has] using hx)
    exact ⟨y :: l, by simp only [List.flatten_cons, h1]; rfl, by simp [h2]⟩
abbrev TyEls : Ty := .slice 3 TyEl
theorem els_val {v : V} (h : TyEls.val v) : ∃ l : List El, v = elsV false l := by
  rw [TyEls] at h
  simp only [Ty.val] at h
  rw [Ty.has] at h
  obtain ⟨xs, e, hx⟩ := h
  simp only [List.cons.injEq, and_true] at e
  subst e
  obtain ⟨l, h1, h2⟩ := els_cells (xs := xs) hx
  exact ⟨l, by rw [h1, h2]⟩
theorem two_val {v : V} (h : (Ty.agg [TyEl, TyEl]).val v) : ∃ x y : El, v = .agg (x.v ++ y.v) := by
  simp only [Ty.val, Ty.hasAll] at h
  obtain ⟨l, rfl, a, b, rfl, ha, c, d, rfl, hc, rfl⟩ := h
  obtain ⟨x, rfl⟩ := el_all (by simpa only [Ty.has] using ha)
  obtain ⟨y, rfl⟩ := el_all (by simpa only [Ty.has] using hc)
  exact ⟨x, y, by rw [List.append_nil]⟩
end Go.Dr.T
