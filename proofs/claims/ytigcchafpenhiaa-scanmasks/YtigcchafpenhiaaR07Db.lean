/- Chapter 07: pixels as places; a visit by depth of the program (a closure over the caller's blocks). -/
import Derived.Test.YtigcchafpenhiaaR07Px
import Derived.Test.YtigcchafpenhiaaR07Da
namespace Go.Dr.T

theorem eq_nil {c : Bool} {n : Nat} {l : List V} (h : n ≠ 0) : eqv2 3 (.sl c n l) .nilsl = some false := by
  unfold eqv2; simp [h]
theorem scal_bytes : ∀ (l : List UInt8), scalars (ofBytes l) = true
  | [] => rfl
  | b :: l => by simp only [ofBytes, scalars, V.scalar, scal_bytes l, Bool.and_self]
theorem over_bytes : ∀ {l : List UInt8} {i : Nat} {b : UInt8}, i < l.length → over (ofBytes l) (0 + i * 1) [.int .u8 b.toNat] = ofBytes (l.set i b)
  | [], _, _, h => by simp at h
  | x :: l, 0, b, _ => by simp [ofBytes, over]
  | x :: l, i + 1, b, h => by
    have ih := over_bytes (l := l) (i := i) (b := b) (by simpa using h)
    rw [Nat.zero_add, Nat.mul_one] at ih ⊢
    simp only [ofBytes, over, List.set_cons_succ, ih]
theorem over_app : ∀ (C P : List V) (j : Nat) (vs : List V), over (C ++ P) (C.length + j) vs = C ++ over P j vs
  | [], P, j, vs => by simp
  | c :: C, P, j, vs => by
    rw [List.length_cons, show C.length + 1 + j = (C.length + j) + 1 by omega]
    simp only [List.cons_append, over, over_app C P j vs]
theorem drop'_app : ∀ (C P : List V) (j : Nat), drop' (C.length + j) (C ++ P) = drop' j P
  | [], P, j => by simp
  | c :: C, P, j => by
    rw [List.length_cons, show C.length + 1 + j = (C.length + j) + 1 by omega]
    simp only [List.cons_append, drop', drop'_app C P j]
theorem part_app (C P : List V) (j n : Nat) : part (C ++ P) (C.length + j) n = part P j n := by
  unfold part; rw [drop'_app]
theorem cellAt_app2 : ∀ (C P : List V) (j : Nat), cellAt (C ++ P) (C.length + j) = cellAt P j
  | [], P, j => by simp
  | c :: C, P, j => by
    rw [List.length_cons, show C.length + 1 + j = (C.length + j) + 1 by omega]
    simp only [List.cons_append, cellAt, cellAt_app2 C P j]
theorem Idx.cast {m j : Nat} {k : IntKind} {n : Int} {P : Nat → Prop} (e : n = (j : Int)) (h1 : j ≤ m) (h : P j) : Idx m (.int k n) P := by
  subst e; exact Idx.nat h1 h

/-! places and their neighbours -/
def placeOf (W H : Nat) (q : Int × Int) : Option Nat := if 0 ≤ q.1 ∧ q.1 < W ∧ 0 ≤ q.2 ∧ q.2 < H then some (q.2 * W + q.1).toNat else none
def nine (x y : Int) : List (Int × Int) := [(x - 1, y - 1), (x - 1 + 1, y - 1), (x - 1 + 2, y - 1), (x - 1, y - 1 + 1), (x - 1 + 1, y - 1 + 1), (x - 1 + 2, y - 1 + 1), (x - 1, y - 1 + 2), (x - 1 + 1, y - 1 + 2), (x - 1 + 2, y - 1 + 2)]
def nb (W H : Nat) (i : Nat) : List Nat := if i < W * H then (nine ((i % W : Nat) : Int) ((i / W : Nat) : Int)).filterMap (placeOf W H) else []
def dark (l : List UInt8) (i : Nat) : Bool := decide (l.getD i 0 ≠ 0)
theorem dark_lt {l : List UInt8} {p : Nat} (h : dark l p = true) : p < l.length := by
  unfold dark at h
  refine Classical.byContradiction fun hp => ?_
  rw [List.getD_eq_getElem?_getD, List.getElem?_eq_none (by omega)] at h
  simp at h
/-- pixels of which some are taken out. -/
def zr (l : List UInt8) (vis : List Nat) : List UInt8 := (List.range l.length).map fun j => if vis.contains j then 0 else l.getD j 0
theorem zr_length (l : List UInt8) (vis : List Nat) : (zr l vis).length = l.length := by simp [zr]
theorem zr_nil (l : List UInt8) : zr l [] = l := by
  refine List.ext_getElem (by simp [zr]) fun i h1 h2 => ?_
  simp [zr, List.getD_eq_getElem?_getD, List.getElem?_eq_getElem h2]
theorem zr_at {l : List UInt8} {vis : List Nat} {i : Nat} (hi : i < l.length) : (zr l vis).getD i 0 = if i ∈ vis then 0 else l.getD i 0 := by
  rw [List.getD_eq_getElem?_getD, List.getElem?_eq_getElem (by rw [zr_length]; exact hi)]
  simp [zr]
theorem zr_set {l : List UInt8} {vis : List Nat} {i : Nat} : (zr l vis).set i 0 = zr l (vis ++ [i]) := by
  refine List.ext_getElem (by simp [zr]) fun j h1 h2 => ?_
  rw [List.getElem_set]
  simp only [zr, List.getElem_map, List.getElem_range, List.contains_eq_mem, List.mem_append, List.mem_singleton]
  by_cases e : i = j
  · subst e; simp
  · rw [if_neg e]
    have : (j = i) = False := by simp; omega
    simp [this]
theorem place_div {W x y : Nat} (hx : x < W) : (y * W + x) % W = x ∧ (y * W + x) / W = y := by
  have hW : 0 < W := by omega
  constructor
  · rw [Nat.mul_comm, Nat.mul_add_mod, Nat.mod_eq_of_lt hx]
  · rw [Nat.mul_comm, Nat.mul_add_div hW, Nat.div_eq_of_lt hx, Nat.add_zero]

/-! spots -/
structure Spt where
  x1 : Int
  x2 : Int
  y1 : Int
  y2 : Int
  n : Int
def Spt.add (W : Nat) (s : Spt) (i : Nat) : Spt := ⟨min s.x1 (i % W : Nat), max s.x2 (i % W : Nat), min s.y1 (i / W : Nat), max s.y2 (i / W : Nat), s.n + 1⟩
def P5 (s : Spt) : List V := [.int .i64 s.x1, .int .i64 s.x2, .int .i64 s.y1, .int .i64 s.y2, .int .i64 s.n]
/-- the spot behind d visits, and more. -/
def sF (W d : Nat) (s0 : Spt) (vis : List Nat) : Spt := (vis.drop d).foldl (Spt.add W) s0
theorem sF_add {W d : Nat} {s0 : Spt} {vis : List Nat} {i : Nat} (hd : d ≤ vis.length) : sF W d s0 (vis ++ [i]) = (sF W d s0 vis).add W i := by
  unfold sF
  rw [List.drop_append_of_le_length hd, List.foldl_append]; rfl
/-- A visit of the program: at coordinates. -/
def dfsC (W H : Nat) (l : List UInt8) (n : Nat) (q : Int × Int) (vis : List Nat) : List Nat :=
  match placeOf W H q with
  | some j => dfs (nb W H) (dark l) n j vis
  | none => vis
theorem fold_some {W H n : Nat} {l : List UInt8} : ∀ {qs : List (Int × Int)} {v : List Nat}, (qs.filterMap (placeOf W H)).foldl (fun v j => dfs (nb W H) (dark l) n j v) v = qs.foldl (fun v q => dfsC W H l n q v) v
  | [], v => rfl
  | q :: qs, v => by
    simp only [List.foldl_cons, List.filterMap_cons, dfsC]
    cases placeOf W H q with
    | none => exact fold_some
    | some j => simp only [List.foldl_cons]; exact fold_some
def rowC (W H : Nat) (l : List UInt8) (n : Nat) (x b : Int) : Nat → List Nat → List Nat
  | 0, v => v
  | k + 1, v => dfsC W H l n (x - 1 + (k : Nat), b) (rowC W H l n x b k v)
def rowsC (W H : Nat) (l : List UInt8) (n : Nat) (x y : Int) : Nat → List Nat → List Nat
  | 0, v => v
  | k + 1, v => rowC W H l n x (y - 1 + (k : Nat)) 3 (rowsC W H l n x y k v)
theorem rows_dfs {W H n X Y : Nat} {l : List UInt8} {vis : List Nat} (hX : X < W) (hY : Y < H) (h : dark l (Y * W + X) = true ∧ Y * W + X ∉ vis) : dfs (nb W H) (dark l) (n + 1) (Y * W + X) vis = rowsC W H l n X Y 3 (vis ++ [Y * W + X]) := by
  have hlt := place_lt hX hY
  obtain ⟨e1, e2⟩ := place_div (y := Y) hX
  simp only [dfs]
  rw [if_pos (by simp [h.1, h.2])]
  have hnb : nb W H (Y * W + X) = (nine X Y).filterMap (placeOf W H) := by
    unfold nb; rw [if_pos hlt, e1, e2]
  rw [hnb, fold_some]
  simp only [nine, List.foldl_cons, List.foldl_nil, rowsC, rowC]
  have a0 : (X : Int) - 1 + ((0 : Nat) : Int) = (X : Int) - 1 := by omega
  have b0 : (Y : Int) - 1 + ((0 : Nat) : Int) = (Y : Int) - 1 := by omega
  rw [a0, b0]; rfl
theorem dfsC_ext {W H n : Nat} {l : List UInt8} (hl : l.length = W * H) {q : Int × Int} {vis : List Nat} (hn : leftN (dark l) (W * H) vis < n) : ∃ t, dfsC W H l n q vis = vis ++ t := by
  unfold dfsC
  cases placeOf W H q with
  | none => exact ⟨[], by simp⟩
  | some j =>
    obtain ⟨t, e, _⟩ := dfs_vis (nb := nb W H) (μ := dark l) (N := W * H) (fun p hp => hl ▸ dark_lt hp) (i := j) hn
    exact ⟨t, e⟩
theorem rowC_ext {W H n : Nat} {l : List UInt8} (hl : l.length = W * H) {x b : Int} {vis : List Nat} (hn : leftN (dark l) (W * H) vis < n) : ∀ k, ∃ t, rowC W H l n x b k vis = vis ++ t
  | 0 => ⟨[], by simp [rowC]⟩
  | k + 1 => by
    obtain ⟨t, e⟩ := rowC_ext hl (x := x) (b := b) hn k
    obtain ⟨t2, e2⟩ := dfsC_ext hl (q := (x - 1 + (k : Nat), b)) (vis := vis ++ t) (n := n) (Nat.lt_of_le_of_lt (leftN_mono fun p hp => by simp [hp]) hn)
    exact ⟨t ++ t2, by simp only [rowC, e, e2, List.append_assoc]⟩
theorem rowsC_ext {W H n : Nat} {l : List UInt8} (hl : l.length = W * H) {x y : Int} {vis : List Nat} (hn : leftN (dark l) (W * H) vis < n) : ∀ k, ∃ t, rowsC W H l n x y k vis = vis ++ t
  | 0 => ⟨[], by simp [rowsC]⟩
  | k + 1 => by
    obtain ⟨t, e⟩ := rowsC_ext hl (x := x) (y := y) hn k
    obtain ⟨t2, e2⟩ := rowC_ext hl (x := x) (b := y - 1 + (k : Nat)) (vis := vis ++ t) (n := n) (Nat.lt_of_le_of_lt (leftN_mono fun p hp => by simp [hp]) hn) 3
    exact ⟨t ++ t2, by simp only [rowsC, e, e2, List.append_assoc]⟩

/-! no more are visited than there are -/
theorem dfs_room {nb : Nat → List Nat} {μ : Nat → Bool} {N : Nat} (hμ : ∀ p, μ p = true → p < N) : ∀ (n i : Nat) (vis : List Nat), (dfs nb μ n i vis).length + leftN μ N (dfs nb μ n i vis) ≤ vis.length + leftN μ N vis
  | 0, _, _ => Nat.le_refl _
  | n + 1, i, vis => by
    simp only [dfs]
    split
    · rename_i h
      simp only [Bool.and_eq_true, Bool.not_eq_true', List.contains_eq_mem, decide_eq_false_iff_not] at h
      have h1 := leftN_add (v := vis) (hμ i h.1) h.1 h.2
      have key : ∀ (l v : List Nat), (l.foldl (fun v j => dfs nb μ n j v) v).length + leftN μ N (l.foldl (fun v j => dfs nb μ n j v) v) ≤ v.length + leftN μ N v := by
        intro l
        induction l with
        | nil => intro v; exact Nat.le_refl _
        | cons j l ih => intro v; exact Nat.le_trans (ih _) (dfs_room hμ n j v)
      have h2 := key (nb i) (vis ++ [i])
      rw [List.length_append, List.length_singleton] at h2
      omega
    · exact Nat.le_refl _
section
variable {W H n : Nat} {l : List UInt8}
theorem dfsC_room (hl : l.length = W * H) (q : Int × Int) (vis : List Nat) : (dfsC W H l n q vis).length + leftN (dark l) (W * H) (dfsC W H l n q vis) ≤ vis.length + leftN (dark l) (W * H) vis := by
  unfold dfsC
  split
  · exact dfs_room (fun p hp => hl ▸ dark_lt hp) _ _ _
  · exact Nat.le_refl _
theorem rowC_room (hl : l.length = W * H) (x b : Int) (vis : List Nat) : ∀ k, (rowC W H l n x b k vis).length + leftN (dark l) (W * H) (rowC W H l n x b k vis) ≤ vis.length + leftN (dark l) (W * H) vis
  | 0 => Nat.le_refl _
  | k + 1 => Nat.le_trans (dfsC_room hl _ _) (rowC_room hl x b vis k)
theorem rowsC_room (hl : l.length = W * H) (x y : Int) (vis : List Nat) : ∀ k, (rowsC W H l n x y k vis).length + leftN (dark l) (W * H) (rowsC W H l n x y k vis) ≤ vis.length + leftN (dark l) (W * H) vis
  | 0 => Nat.le_refl _
  | k + 1 => Nat.le_trans (rowC_room hl _ _ _ 3) (rowsC_room hl x y vis k)
end
theorem sF_n {W d : Nat} {s0 : Spt} {vis : List Nat} : (sF W d s0 vis).n = s0.n + ((vis.length - d : Nat) : Int) := by
  unfold sF
  have key : ∀ (l : List Nat) (s : Spt), (l.foldl (Spt.add W) s).n = s.n + (l.length : Int) := by
    intro l
    induction l with
    | nil => intro s; simp
    | cons i l ih => intro s; simp only [List.foldl_cons, ih, Spt.add, List.length_cons]; omega
  rw [key, List.length_drop]

end Go.Dr.T
