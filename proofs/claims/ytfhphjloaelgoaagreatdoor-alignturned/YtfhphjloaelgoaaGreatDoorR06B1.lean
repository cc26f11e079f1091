/- Chapter 06: the pairs with which a best alignment begins; their iterator. -/
import Derived.Test.YtfhphjloaelgoaaGreatDoorR06P3
namespace Go.Dr.T
def bgR (S W : Nat → Nat → Int) (m : Nat) (v : Int) (l k : Nat) : List (Nat × Nat) := ((List.range' l (m - l)).filter fun l => decide (0 < S k l ∧ S k l + W (k + 1) (l + 1) = v)).map fun l => (k, l)
def bgF (S W : Nat → Nat → Int) (n m : Nat) (v : Int) (j k : Nat) : List (Nat × Nat) := ((List.range' k (n - k)).takeWhile fun k => decide (W k j = v)).flatMap (bgR S W m v j)
def bgs (S W : Nat → Nat → Int) (n m i j : Nat) : List (Nat × Nat) := bgF S W n m (W i j) j i
def bgA (S W : Nat → Nat → Int) (n m i j : Nat) : List (Nat × Nat) := (List.range' i (n - i)).flatMap (bgR S W m (W i j) j)
theorem bgR_end {S W : Nat → Nat → Int} {m : Nat} {v : Int} {l k : Nat} (h : m ≤ l) : bgR S W m v l k = [] := by
  unfold bgR; rw [show m - l = 0 by omega]; rfl
theorem bgR_step {S W : Nat → Nat → Int} {m : Nat} {v : Int} {l k : Nat} (h : l < m) : bgR S W m v l k = if 0 < S k l ∧ S k l + W (k + 1) (l + 1) = v then (k, l) :: bgR S W m v (l + 1) k else bgR S W m v (l + 1) k := by
  unfold bgR
  rw [show m - l = (m - (l + 1)) + 1 by omega, List.range'_succ, List.filter_cons]
  by_cases hc : 0 < S k l ∧ S k l + W (k + 1) (l + 1) = v
  · simp only [hc, and_self, decide_true, if_true, List.map_cons]
  · simp only [hc, decide_false, if_false, Bool.false_eq_true]
theorem bgF_end {S W : Nat → Nat → Int} {n m : Nat} {v : Int} {j k : Nat} (h : ¬ (k < n ∧ W k j = v)) : bgF S W n m v j k = [] := by
  unfold bgF
  by_cases hk : k < n
  · rw [show n - k = (n - (k + 1)) + 1 by omega, List.range'_succ, List.takeWhile_cons_of_neg (by simpa using fun h2 => h ⟨hk, h2⟩)]; rfl
  · rw [show n - k = 0 by omega]; rfl
theorem bgF_step {S W : Nat → Nat → Int} {n m : Nat} {v : Int} {j k : Nat} (h : k < n ∧ W k j = v) : bgF S W n m v j k = bgR S W m v j k ++ bgF S W n m v j (k + 1) := by
  unfold bgF
  rw [show n - k = (n - (k + 1)) + 1 by omega, List.range'_succ, List.takeWhile_cons_of_pos (by simpa using h.2), List.flatMap_cons]
theorem takeWhile_flatMap {α β : Type} {p : α → Bool} {g : α → List β} : ∀ {l : List α}, (l.Pairwise fun a b => p a = false → p b = false) → (∀ a ∈ l, p a = false → g a = []) → (l.takeWhile p).flatMap g = l.flatMap g
  | [], _, _ => rfl
  | a :: l, hp, hg => by
    obtain ⟨h1, h2⟩ := List.pairwise_cons.1 hp
    cases h : p a with
    | true => rw [List.takeWhile_cons_of_pos h, List.flatMap_cons, List.flatMap_cons, takeWhile_flatMap h2 fun b hb => hg b (by simp [hb])]
    | false =>
      rw [List.takeWhile_cons_of_neg (by simp [h]), List.flatMap_nil, List.flatMap_cons, hg a (by simp) h, List.nil_append]
      symm
      rw [List.flatMap_eq_nil_iff]
      intro b hb
      exact hg b (by simp [hb]) (h1 b hb h)
theorem bgs_eq {S W : Nat → Nat → Int} {n m i j : Nat} (hmono : ∀ k k', k ≤ k' → W k' j ≤ W k j) (hle : ∀ k l, k < n → j ≤ l → l < m → 0 < S k l → S k l + W (k + 1) (l + 1) ≤ W k j) : bgs S W n m i j = bgA S W n m i j := by
  unfold bgs bgA bgF
  refine takeWhile_flatMap ?_ ?_
  · refine List.Pairwise.imp_of_mem ?_ (List.pairwise_lt_range' (s := i) (n := n - i))
    intro a b ha hb hlt h
    have hia : i ≤ a := (List.mem_range'_1.1 ha).1
    simp only [decide_eq_false_iff_not] at h ⊢
    have := hmono i a hia
    have := hmono a b (by omega)
    omega
  · intro k hk h
    obtain ⟨hik, hkn⟩ := List.mem_range'_1.1 hk
    simp only [decide_eq_false_iff_not] at h
    unfold bgR
    rw [List.map_eq_nil_iff, List.filter_eq_nil_iff]
    intro l hl
    obtain ⟨h1, hlm⟩ := List.mem_range'_1.1 hl
    simp only [decide_eq_true_eq]
    rintro ⟨h2, h3⟩
    have := hle k l (by omega) h1 (by omega) h2
    have := hmono i k hik
    omega
set_option maxRecDepth 100000 in
theorem begins_ok {a b : Sh} {s i j : Int} {f : Nat → Nat → Int} : Fun FB md 54 [.rp (pC a b s f) 0, .int .i64 i, .int .i64 j] (.fn 90 [.rp [.int .i64 i] 0, .rp [.rp (pC a b s f) 0] 0, .rp [.int .i64 j] 0]) := by
  have hvw : ∀ h, bget h 0 = some (.blk [.rp (pC a b s f) 0] false) → bget h 1 = some (.blk [.int .i64 i] false) → bget h 2 = some (.blk [.int .i64 j] false) → Vw h depth (.fn 90 [.ref 1 1 0, .ref 0 1 0, .ref 2 1 0]) (.fn 90 [.rp [.int .i64 i] 0, .rp [.rp (pC a b s f) 0] 0, .rp [.int .i64 j] 0]) := fun h h0 h1 h2 =>
    Vw.fn (d := 63) (VwL.cons (Vw.ref (d := 62) h1 rfl rfl (VwL.cons (d := 62) (Vw.int rfl) VwL.nil)) (VwL.cons (Vw.ref (d := 62) h0 rfl rfl (VwL.cons (d := 62) ⟨rfl⟩ VwL.nil)) (VwL.cons (Vw.ref (d := 62) h2 rfl rfl (VwL.cons (d := 62) (Vw.int rfl) VwL.nil)) VwL.nil)))
  refine fun_of rfl rfl ?_
  repeat' (first
 | (conv => whnf)
   first
   | refine hvw _ rfl rfl rfl
   | refine Get.mk _ rfl ?_
   | refine Leaves.of ?_
   | (refine Req.mk ?_ ?_; (focus first | rfl | decide | exact ⟨rfl, rfl⟩ | exact ⟨rfl, by decide⟩ | exact (fun _ => rfl) | exact (fun h => nomatch h) | (simp; done) | omega | (simp [big]; done) | exact le_big (by omega) | exact lt_big (by omega))))
end Go.Dr.T
