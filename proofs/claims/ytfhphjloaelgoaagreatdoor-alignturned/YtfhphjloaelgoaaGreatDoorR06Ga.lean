/- Chapter 06: lists of numbers, names among elements: slices.Contains, slices.ContainsFunc, slices.Clip. -/
import Derived.Test.YtfhphjloaelgoaaGreatDoorR06El
import Derived.Test.YtfhphjloaelgoaaGreatDoorDrG
namespace Go.Dr.T
theorem ofInts_length (l : List Int) : (ofInts l).length = l.length := by simp [ofInts]
theorem ofInts_cell : ∀ {l : List Int} {i : Nat}, i < l.length → ∃ x, l[i]? = some x ∧ cellAt (ofInts l) (i * 1) = some (.int .i64 x)
  | x :: l, 0, _ => ⟨x, rfl, rfl⟩
  | x :: l, i + 1, h => by
    obtain ⟨y, h1, h2⟩ := ofInts_cell (l := l) (i := i) (by simpa using h)
    exact ⟨y, by simpa using h1, by rw [show (i + 1) * 1 = i * 1 + 1 by omega]; simpa [ofInts, cellAt] using h2⟩
def ixOf (m : Int) : List Int → Int
  | [] => -1
  | x :: l => if m = x then 0 else if ixOf m l < 0 then -1 else ixOf m l + 1
theorem ixOf_cases (m : Int) : ∀ l, (m ∈ l ∧ 0 ≤ ixOf m l ∧ ixOf m l < l.length) ∨ (m ∉ l ∧ ixOf m l = -1)
  | [] => .inr ⟨by simp, rfl⟩
  | x :: l => by
    unfold ixOf
    by_cases h : m = x
    · rw [if_pos h]; exact .inl ⟨by simp [h], by omega, by simp only [List.length_cons]; omega⟩
    · rw [if_neg h]
      rcases ixOf_cases m l with ⟨h1, h2, h3⟩ | ⟨h1, h2⟩
      · rw [if_neg (by omega)]; exact .inl ⟨by simp [h1], by omega, by simp only [List.length_cons]; omega⟩
      · rw [if_pos (by omega)]; exact .inr ⟨by simp [h, h1], rfl⟩
theorem ixOf_drop {m x : Int} {l : List Int} {i : Nat} (h : l[i]? = some x) : ixOf m (l.drop i) = if m = x then 0 else if ixOf m (l.drop (i + 1)) < 0 then -1 else ixOf m (l.drop (i + 1)) + 1 := by
  obtain ⟨hi, rfl⟩ := List.getElem?_eq_some_iff.1 h
  rw [List.drop_eq_getElem_cons hi]; rfl
set_option maxRecDepth 100000 in
set_option maxHeartbeats 20000000 in
theorem intsIndex_ok {c : Bool} {l : List Int} {m : Int} (hl : l.length ≤ 140737488355328) : Fun FB md 99 [.sl c l.length (ofInts l), .int .i64 m] (.int .i64 (ixOf m l)) := by
  refine fun_of rfl rfl ?_
  skip
  refine LoopP.by (fun i : Nat => i ≤ l.length ∧ ixOf m l = if ixOf m (l.drop i) < 0 then -1 else ixOf m (l.drop i) + i) (fun i => [(8, .int .i64 (i : Nat))]) (fun _ => []) (fun i => l.length - i) 0 ⟨Nat.zero_le _, by rcases ixOf_cases m l with ⟨_, h, _⟩ | ⟨_, h⟩ <;> simp only [List.drop_zero, h] <;> first | rfl | (rw [if_neg (by omega)]; simp)⟩ rfl ?_
  rintro i ⟨q1, q2⟩
  dsimp only
  by_cases hi : i < l.length
  rotate_left
  · have hres : ixOf m l = -1 := by rw [q2, show i = l.length by omega, List.drop_length]; rfl
    repeat' (first
 | (conv => whnf)
   first
   | (refine Br.decF ?_ ?_; (focus first | assumption | omega))
   | refine Get.mk _ rfl ?_
   | refine Leaves.of ?_
   | refine Vw.int ?_)
    exact hres.symm
  obtain ⟨x, hx, hc⟩ := ofInts_cell hi
  have hq := ixOf_drop (m := m) hx
  by_cases he : m = x
  · rw [if_pos he] at hq
    repeat' (first
 | (conv => whnf)
   first
   | (refine Br.decT ?_ ?_; (focus first | assumption | omega))
   | refine Get.mk _ hc ?_
   | (refine Idx.nat ?_ ?_; (focus omega))
   | refine Get.mk _ rfl ?_
   | refine Leaves.of ?_
   | refine Vw.int ?_
   | (refine Req.mk ?_ ?_; (focus first | rfl | decide | exact ⟨rfl, rfl⟩ | exact ⟨rfl, by decide⟩ | exact (fun _ => rfl) | exact (fun h => nomatch h) | (simp; done) | omega | (simp [big]; done) | exact le_big (by omega) | exact lt_big (by omega))))
    rw [q2, hq]; simp
  · rw [if_neg he] at hq
    repeat' (first
 | (conv => whnf)
   first
   | (refine Br.decT ?_ ?_; (focus first | assumption | omega))
   | (refine Br.decF ?_ ?_; (focus first | assumption | omega))
   | (refine Bnd.i64 ?_ ?_ ?_; (focus omega); (focus omega))
   | refine Get.mk _ hc ?_
   | (refine Idx.nat ?_ ?_; (focus omega))
   | (refine Req.mk ?_ ?_; (focus first | rfl | decide | exact ⟨rfl, rfl⟩ | exact ⟨rfl, by decide⟩ | exact (fun _ => rfl) | exact (fun h => nomatch h) | (simp; done) | omega | (simp [big]; done) | exact le_big (by omega) | exact lt_big (by omega))))
    refine NextP.mk (i + 1) ⟨hi, ?_⟩ (by omega) rfl
    rw [q2, hq]
    rcases ixOf_cases m (l.drop (i + 1)) with ⟨_, h, _⟩ | ⟨_, h⟩
    · rw [if_neg (show ¬ ixOf m (l.drop (i + 1)) < 0 by omega), if_neg (by omega)]; omega
    · rw [h]; rfl
abbrev hasB (m : Int) (l : List Int) : Bool := decide (m ∈ l)
set_option maxRecDepth 100000 in
theorem contains_ok {c : Bool} {l : List Int} {m : Int} (hl : l.length ≤ 140737488355328) : Fun FB md 68 [.sl c l.length (ofInts l), .int .i64 m] (.bool (hasB m l)) := by
  have h1 := intsIndex_ok (c := c) (m := m) hl
  refine fun_of rfl rfl ?_
  repeat' (first
 | (conv => whnf)
   first
   | refine call_fun rfl rfl h1 (.inl rfl) ?_
   | refine Get.mk _ rfl ?_
   | refine Leaves.of ?_
   | refine Vw.bool ?_)
  rcases ixOf_cases m l with ⟨h, h2, h3⟩ | ⟨h, h2⟩
  · simp [hasB, h, h2]
  · simp [hasB, h, h2]
def nmE (nm : List UInt8) (l : List El) : Bool := l.any fun e => e.nm == nm
abbrev xRp (x : El) : V := .rp [.str x.nm, .sl x.c x.l.length (shC x.l), .int .i64 x.g] 0
set_option maxRecDepth 100000 in
theorem sameName_ok {x y : El} : Fun FB md 96 [.agg y.v, xRp x] (.bool (y.nm == x.nm)) := by
  refine fun_of rfl rfl ?_
  repeat' (first
 | (conv => whnf)
   first
   | refine Get.mk _ rfl ?_
   | refine Leaves.of ?_
   | refine Vw.bool ?_
   | (refine Req.mk ?_ ?_; (focus first | rfl | decide | exact ⟨rfl, rfl⟩ | exact ⟨rfl, by decide⟩ | exact (fun _ => rfl) | exact (fun h => nomatch h) | (simp; done) | omega | (simp [big]; done) | exact le_big (by omega) | exact lt_big (by omega))))
  rfl
def nixOf (nm : List UInt8) : List El → Int
  | [] => -1
  | x :: l => if x.nm = nm then 0 else if nixOf nm l < 0 then -1 else nixOf nm l + 1
theorem nixOf_cases (nm : List UInt8) : ∀ l : List El, (nmE nm l = true ∧ 0 ≤ nixOf nm l ∧ nixOf nm l < l.length) ∨ (nmE nm l = false ∧ nixOf nm l = -1)
  | [] => .inr ⟨rfl, rfl⟩
  | x :: l => by
    unfold nixOf
    by_cases h : x.nm = nm
    · rw [if_pos h]; exact .inl ⟨by simp [nmE, h], by omega, by simp only [List.length_cons]; omega⟩
    · rw [if_neg h]
      rcases nixOf_cases nm l with ⟨h1, h2, h3⟩ | ⟨h1, h2⟩
      · rw [if_neg (by omega)]; exact .inl ⟨by simp only [nmE, List.any_cons] at h1 ⊢; rw [h1, Bool.or_true], by omega, by simp only [List.length_cons]; omega⟩
      · rw [if_pos (by omega)]; exact .inr ⟨by simp only [nmE, List.any_cons] at h1 ⊢; rw [h1]; simp [h], rfl⟩
theorem nixOf_drop {nm : List UInt8} {x : El} {l : List El} {i : Nat} (h : l[i]? = some x) : nixOf nm (l.drop i) = if x.nm = nm then 0 else if nixOf nm (l.drop (i + 1)) < 0 then -1 else nixOf nm (l.drop (i + 1)) + 1 := by
  obtain ⟨hi, rfl⟩ := List.getElem?_eq_some_iff.1 h
  rw [List.drop_eq_getElem_cons hi]; rfl
set_option maxRecDepth 100000 in
set_option maxHeartbeats 20000000 in
theorem nix_ok {c : Bool} {l : List El} {x : El} (hl : l.length ≤ 140737488355328) : Fun FB md 114 [elsV c l, .fn 96 [xRp x]] (.int .i64 (nixOf x.nm l)) := by
  refine fun_of rfl rfl ?_
  skip
  refine LoopP.by (fun i : Nat => i ≤ l.length ∧ nixOf x.nm l = if nixOf x.nm (l.drop i) < 0 then -1 else nixOf x.nm (l.drop i) + i) (fun i => [(8, .int .i64 (i : Nat))]) (fun _ => []) (fun i => l.length - i) 0 ⟨Nat.zero_le _, by rcases nixOf_cases x.nm l with ⟨_, h, _⟩ | ⟨_, h⟩ <;> simp only [List.drop_zero, h] <;> first | rfl | (rw [if_neg (by omega)]; simp)⟩ rfl ?_
  rintro i ⟨q1, q2⟩
  dsimp only
  by_cases hi : i < l.length
  rotate_left
  · have hres : nixOf x.nm l = -1 := by rw [q2, show i = l.length by omega, List.drop_length]; rfl
    repeat' (first
 | (conv => whnf)
   first
   | (refine Br.decF ?_ ?_; (focus first | assumption | omega))
   | refine Get.mk _ rfl ?_
   | refine Leaves.of ?_
   | refine Vw.int ?_)
    exact hres.symm
  obtain ⟨y, hy⟩ : ∃ p, l[i]? = some p := ⟨_, List.getElem?_eq_getElem hi⟩
  have hpart := elC_part hy
  have hf := sameName_ok (x := x) (y := y)
  have hq := nixOf_drop (nm := x.nm) hy
  by_cases he : y.nm = x.nm
  · rw [if_pos he] at hq
    rw [show (y.nm == x.nm) = true by simp [he]] at hf
    repeat' (first
 | (conv => whnf)
   first
   | refine Br.t ?_
   | (refine Br.decT ?_ ?_; (focus first | assumption | omega))
   | refine Get.mk _ hpart ?_
   | refine call_fun rfl rfl hf (.inl rfl) ?_
   | (refine Idx.nat ?_ ?_; (focus omega))
   | refine Get.mk _ rfl ?_
   | refine Leaves.of ?_
   | refine Vw.int ?_
   | (refine Req.mk ?_ ?_; (focus first | rfl | decide | exact ⟨rfl, rfl⟩ | exact ⟨rfl, by decide⟩ | exact (fun _ => rfl) | exact (fun h => nomatch h) | (simp; done) | omega | (simp [big]; done) | exact le_big (by omega) | exact lt_big (by omega))))
    rw [q2, hq]; simp
  · rw [if_neg he] at hq
    rw [show (y.nm == x.nm) = false by simp [he]] at hf
    repeat' (first
 | (conv => whnf)
   first
   | refine Br.f ?_
   | (refine Br.decT ?_ ?_; (focus first | assumption | omega))
   | (refine Bnd.i64 ?_ ?_ ?_; (focus omega); (focus omega))
   | refine Get.mk _ hpart ?_
   | refine call_fun rfl rfl hf (.inl rfl) ?_
   | (refine Idx.nat ?_ ?_; (focus omega))
   | (refine Req.mk ?_ ?_; (focus first | rfl | decide | exact ⟨rfl, rfl⟩ | exact ⟨rfl, by decide⟩ | exact (fun _ => rfl) | exact (fun h => nomatch h) | (simp; done) | omega | (simp [big]; done) | exact le_big (by omega) | exact lt_big (by omega))))
    refine NextP.mk (i + 1) ⟨hi, ?_⟩ (by omega) rfl
    rw [q2, hq]
    rcases nixOf_cases x.nm (l.drop (i + 1)) with ⟨_, h, _⟩ | ⟨_, h⟩
    · rw [if_neg (show ¬ nixOf x.nm (l.drop (i + 1)) < 0 by omega), if_neg (by omega)]; omega
    · rw [h]; rfl
set_option maxRecDepth 100000 in
theorem hasName_ok {c : Bool} {l : List El} {x : El} (hl : l.length ≤ 140737488355328) : Fun FB md 95 [elsV c l, .fn 96 [xRp x]] (.bool (nmE x.nm l)) := by
  have h1 := nix_ok (c := c) (x := x) hl
  refine fun_of rfl rfl ?_
  repeat' (first
 | (conv => whnf)
   first
   | refine call_fun rfl rfl h1 (.inl rfl) ?_
   | refine Get.mk _ rfl ?_
   | refine Leaves.of ?_
   | refine Vw.bool ?_)
  rcases nixOf_cases x.nm l with ⟨h, h2, h3⟩ | ⟨h, h2⟩
  · simp [h, h2]
  · simp [h, h2]
end Go.Dr.T
