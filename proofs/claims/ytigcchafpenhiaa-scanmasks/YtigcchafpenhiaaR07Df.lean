/- Chapter 07: Parts of the reference: classes by a queue. -/
import Derived.Test.YtigcchafpenhiaaR07Dn
namespace Go.Dr.T

def ofN (l : List Nat) : List V := l.map fun n => V.int .i64 ((n : Nat) : Int)
theorem ofN_length (l : List Nat) : (ofN l).length = l.length := by simp [ofN]
theorem ofN_snoc (l : List Nat) (q : Nat) : ofN l ++ [.int .i64 ((q : Nat) : Int)] = ofN (l ++ [q]) := by simp [ofN]
theorem ofN_cell : ∀ {l : List Nat} {k : Nat} (h : k < l.length), cellAt (ofN l) k = some (.int .i64 ((l[k] : Nat) : Int))
  | x :: l, 0, _ => rfl
  | x :: l, k + 1, h => by
    have ih := ofN_cell (l := l) (k := k) (by simpa using h)
    simpa [ofN, cellAt] using ih

/-- One neighbour, at coordinates. -/
def bC (W H : Nat) (l : List UInt8) (vis : List Nat) (q : Int × Int) (v : List Nat) : List Nat :=
  match placeOf W H q with
  | some j => if dark l j && !(vis ++ v).contains j then v ++ [j] else v
  | none => v
def rowB (W H : Nat) (l : List UInt8) (vis : List Nat) (x b : Int) : Nat → List Nat → List Nat
  | 0, v => v
  | k + 1, v => bC W H l vis (x - 1 + (k : Nat), b) (rowB W H l vis x b k v)
def rowsB (W H : Nat) (l : List UInt8) (vis : List Nat) (x y : Int) : Nat → List Nat → List Nat
  | 0, v => v
  | k + 1, v => rowB W H l vis x (y - 1 + (k : Nat)) 3 (rowsB W H l vis x y k v)
section
variable {W H : Nat} {l : List UInt8} {vis : List Nat}
theorem bC_ext (q : Int × Int) (v : List Nat) : ∃ t, bC W H l vis q v = v ++ t := by
  unfold bC
  split
  · split
    · exact ⟨_, rfl⟩
    · exact ⟨[], by simp⟩
  · exact ⟨[], by simp⟩
theorem rowB_ext (x b : Int) (v : List Nat) : ∀ k, ∃ t, rowB W H l vis x b k v = v ++ t
  | 0 => ⟨[], by simp [rowB]⟩
  | k + 1 => by
    obtain ⟨t, e⟩ := rowB_ext x b v k
    obtain ⟨t2, e2⟩ := bC_ext (W := W) (H := H) (l := l) (vis := vis) (x - 1 + (k : Nat), b) (v ++ t)
    exact ⟨t ++ t2, by simp only [rowB, e, e2, List.append_assoc]⟩
theorem rowsB_ext (x y : Int) (v : List Nat) : ∀ k, ∃ t, rowsB W H l vis x y k v = v ++ t
  | 0 => ⟨[], by simp [rowsB]⟩
  | k + 1 => by
    obtain ⟨t, e⟩ := rowsB_ext x y v k
    obtain ⟨t2, e2⟩ := rowB_ext (W := W) (H := H) (l := l) (vis := vis) x (y - 1 + (k : Nat)) (v ++ t) 3
    exact ⟨t ++ t2, by simp only [rowsB, e, e2, List.append_assoc]⟩
theorem bfsN_map : ∀ {qs : List (Int × Int)} {v : List Nat}, bfsN (dark l) vis (qs.filterMap (placeOf W H)) v = qs.foldl (fun v q => bC W H l vis q v) v
  | [], v => rfl
  | q :: qs, v => by
    simp only [List.filterMap_cons, List.foldl_cons, bC]
    cases placeOf W H q with
    | none => exact bfsN_map
    | some j => simp only [bfsN]; exact bfsN_map
theorem bfs_rows {X Y : Nat} {v : List Nat} (hX : X < W) (hY : Y < H) : bfsN (dark l) vis (nb W H (Y * W + X)) v = rowsB W H l vis X Y 3 v := by
  have hlt := place_lt hX hY
  obtain ⟨e1, e2⟩ := place_div (y := Y) hX
  have hnb : nb W H (Y * W + X) = (nine X Y).filterMap (placeOf W H) := by
    unfold nb; rw [if_pos hlt, e1, e2]
  rw [hnb, bfsN_map]
  simp only [nine, List.foldl_cons, List.foldl_nil, rowsB, rowB]
  have a0 : (X : Int) - 1 + ((0 : Nat) : Int) = (X : Int) - 1 := by omega
  have b0 : (Y : Int) - 1 + ((0 : Nat) : Int) = (Y : Int) - 1 := by omega
  rw [a0, b0]; rfl

/-- The array of numbers while a class is looked for. -/
def lbA (Cs : List (Nat × List Nat)) (N : Nat) : List Int := acc (labG Cs 0) N
theorem lbA_length (Cs : List (Nat × List Nat)) (N : Nat) : (lbA Cs N).length = N := acc_length _ _
theorem lbA_at {Cs : List (Nat × List Nat)} {N j : Nat} (h : j < N) : gI (lbA Cs N) j = labG Cs 0 j := by
  rw [gI_get (by rw [lbA_length]; exact h)]; simp [lbA, acc]
theorem lbA_mark {Cs : List (Nat × List Nat)} {N i q : Nat} {v : List Nat} (hq : labG (Cs ++ [(i, v)]) 0 q < 0) : (lbA (Cs ++ [(i, v)]) N).set q (Cs.length : Int) = lbA (Cs ++ [(i, v ++ [q])]) N := by
  refine List.ext_getElem (by simp [lbA, acc]) fun j h1 h2 => ?_
  rw [List.getElem_set]
  simp only [lbA, acc, List.getElem_map, List.getElem_range]
  have e1 := labG_snoc (c := (i, v)) (j := j) (Cs := Cs) (k := 0)
  have e2 := labG_snoc (c := (i, v ++ [q])) (j := j) (Cs := Cs) (k := 0)
  simp only [List.mem_append, List.mem_singleton, Nat.zero_add] at e1 e2
  by_cases e : q = j
  · subst e
    rw [if_pos rfl, e2]
    rw [e1] at hq
    by_cases h : labG Cs 0 q < 0
    · rw [if_pos h, if_pos (.inr rfl)]
    · rw [if_neg h] at hq; exact absurd hq h
  · rw [if_neg e, e1, e2]
    have : (j = q) = False := by simp; omega
    simp only [this, or_false]
theorem lbA_new {Cs : List (Nat × List Nat)} {N i : Nat} (hq : labG Cs 0 i < 0) : (lbA Cs N).set i (Cs.length : Int) = lbA (Cs ++ [(i, [i])]) N := by
  have e : lbA Cs N = lbA (Cs ++ [(i, [])]) N := by
    unfold lbA acc
    refine List.map_congr_left fun j _ => ?_
    rw [labG_snoc]
    split
    · rename_i h
      have := (labG_le (Cs := Cs) (k := 0) (j := j)).1
      simp only [List.not_mem_nil, if_false]; omega
    · rfl
  rw [e]
  exact lbA_mark (v := []) (by rw [labG_snoc, if_pos hq]; simp)
theorem lab_vis {i : Nat} {Cs : List (Nat × List Nat)} (h : CP W H l i Cs) {v : List Nat} {j : Nat} : labG (Cs ++ [(i, v)]) 0 j < 0 ↔ j ∉ (spS W H l i).1 ++ v := by
  rw [labG_neg, List.mem_append, h.vis]
  constructor
  · rintro h1 (⟨c, hc, hj⟩ | hj)
    · exact h1 c (by simp [hc]) hj
    · exact h1 (i, v) (by simp) hj
  · intro h1 c hc hj
    rcases List.mem_append.1 hc with hc | hc
    · exact h1 (.inl ⟨c, hc, hj⟩)
    · rw [List.mem_singleton] at hc; subst hc; exact h1 (.inr hj)
theorem lab_vis0 {i : Nat} {Cs : List (Nat × List Nat)} (h : CP W H l i Cs) {j : Nat} : labG Cs 0 j < 0 ↔ j ∉ (spS W H l i).1 := by
  rw [labG_neg, h.vis]
  exact ⟨fun h1 ⟨c, hc, hj⟩ => h1 c hc hj, fun h1 c hc hj => h1 ⟨c, hc, hj⟩⟩
end

/-- The queue's slice, and the blocks. -/
def quV (K : Nat) (v : List Nat) : V :=
  match v with
  | _ :: q :: r => .ms 1 2 (r.length + 1) K (r.length + 1 - K) false
  | _ => .sl true 0 []
def quH (bx : B) (Cs : List (Nat × List Nat)) (N i : Nat) (v : List Nat) : List B :=
  match v with
  | _ :: q :: r => [bx, .blk (ofI (lbA (Cs ++ [(i, v)]) N)) true, .blk (ofN (q :: r)) true]
  | _ => [bx, .blk (ofI (lbA (Cs ++ [(i, v)]) N)) true]
theorem quV_two (K i a : Nat) (r : List Nat) (q : Nat) : quV K (i :: a :: (r ++ [q])) = .ms 1 2 (r.length + 1 + 1) K (r.length + 1 + 1 - K) false := by simp [quV]
theorem quH_two (bx : B) (Cs : List (Nat × List Nat)) (N i j a : Nat) (r : List Nat) (q : Nat) : quH bx Cs N i (j :: a :: (r ++ [q])) = [bx, .blk (ofI (lbA (Cs ++ [(i, j :: a :: (r ++ [q]))]) N)) true, .blk (ofN (a :: r) ++ [.int .i64 ((q : Nat) : Int)]) true] := by
  rw [ofN_snoc]; rfl

end Go.Dr.T
