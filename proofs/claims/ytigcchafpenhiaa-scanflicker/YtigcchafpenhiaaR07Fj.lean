/- Chapter 07: exposures of painted frames: the plain laws of ScanFlicker. -/
import Derived.Test.YtigcchafpenhiaaR07Fi
import Derived.Test.YtigcchafpenhiaaR07L9
namespace Go.Dr.T

theorem cntP_le_of {P : Nat → Bool} {m : Nat} (h : ∀ k, m ≤ k → P k = true) : ∀ n, cntP P n ≤ m
  | 0 => Nat.zero_le _
  | n + 1 => by
    by_cases e : m ≤ n
    · simp only [cntP, h n e, if_true]; exact cntP_le_of h n
    · have := cntP_le P (n + 1); omega
theorem cntP_ge_of {P : Nat → Bool} {m : Nat} (h : ∀ k < m, P k = false) : ∀ n, m ≤ n → m ≤ cntP P n
  | 0, hn => hn
  | n + 1, hn => by
    by_cases e : m = n + 1
    · subst e; rw [cntP_false h]; exact Nat.le_refl _
    · have := cntP_ge_of h n (by omega)
      simp only [cntP]; split <;> omega
theorem lvL_mono_x {x x' e : Int} (hx : 0 ≤ x) (he : 0 ≤ e) (h : x ≤ x') : lvL x e ≤ lvL x' e := by
  have h1 : 0 ≤ x * e := Int.mul_nonneg hx he
  have h2 : x * e ≤ x' * e := Int.mul_le_mul_of_nonneg_right h he
  unfold lvL
  rw [Int.tdiv_eq_ediv_of_nonneg h1, Int.tdiv_eq_ediv_of_nonneg (by omega)]
  have := Int.ediv_le_ediv (show (0 : Int) < 1000000 by omega) h2
  omega
theorem light_mid {x : Int} (hx : 0 ≤ x ∧ x ≤ 10000000) : loP (lvL x 1000) ≤ x ∧ x ≤ hiP (lvL x 1000) ∧ 0 ≤ lvL x 1000 ∧ lvL x 1000 ≤ 255 := by
  have e2 : lvL x 1000 = min 255 (x / 1000) := by
    unfold lvL
    rw [Int.tdiv_eq_ediv_of_nonneg (by omega)]; omega
  rw [e2]
  unfold loP hiP loL hiL
  simp only
  rw [Int.tdiv_eq_ediv_of_nonneg (by omega)]
  split
  · rw [Int.tdiv_eq_ediv_of_nonneg (by omega)]; omega
  · omega
theorem exp_in {x e : Int} (hx : 0 ≤ x ∧ x ≤ 10000000) (he : 1 ≤ e ∧ e ≤ 100000) : fA (lvL x 1000) (lvL x e) ≤ e ∧ e ≤ fC (lvL x 1000) (lvL x e) := by
  obtain ⟨h1, h2, h3, h4⟩ := light_mid hx
  have hl := loP_range ⟨h3, h4⟩
  have hh := hiP_range ⟨h3, h4⟩
  generalize lvL x 1000 = p at *
  have ha : cntP (tstA p (lvL x e)) 100000 ≤ (e - 1).toNat := by
    refine cntP_le_of (fun k hk => decide_eq_true ?_) _
    exact Int.le_trans (lvL_mono_x hx.1 (by omega) h2) (lvL_mono hh.1 (by omega) (by omega))
  have hb : e.toNat ≤ cntP (tstB p (lvL x e)) 100000 := by
    refine cntP_ge_of (fun k hk => decide_eq_false ?_) _ (by omega)
    have := Int.le_trans (lvL_mono_x (e := (k : Int) + 1) hl.1 (by omega) h1) (lvL_mono hx.1 (by omega) (show (k : Int) + 1 ≤ e by omega))
    omega
  unfold fA fC
  omega

theorem row_in {f : Nat → Int × Int} {e : Int} {s : Int × Int} (hs : s.1 ≤ e ∧ e ≤ s.2) : ∀ n, (∀ i < n, fA (f i).1 (f i).2 ≤ e ∧ e ≤ fC (f i).1 (f i).2) → (foldRow (fun a i => rStep a (f i).1 (f i).2) s n).1 ≤ e ∧ e ≤ (foldRow (fun a i => rStep a (f i).1 (f i).2) s n).2
  | 0, _ => hs
  | n + 1, h => by
    have h1 := row_in hs n fun i hi => h i (by omega)
    have h2 := h n (by omega)
    show max (foldRow (fun a i => rStep a (f i).1 (f i).2) s n).1 (fA (f n).1 (f n).2) ≤ e ∧ e ≤ min (foldRow (fun a i => rStep a (f i).1 (f i).2) s n).2 (fC (f n).1 (f n).2)
    omega
theorem all_in {f : Nat → Nat → Int × Int} {e : Int} {s : Int × Int} {w : Nat} (hs : s.1 ≤ e ∧ e ≤ s.2) : ∀ n, (∀ i < w, ∀ j < n, fA (f i j).1 (f i j).2 ≤ e ∧ e ≤ fC (f i j).1 (f i j).2) → (foldAll (fun a i j => rStep a (f i j).1 (f i j).2) s w n).1 ≤ e ∧ e ≤ (foldAll (fun a i j => rStep a (f i j).1 (f i j).2) s w n).2
  | 0, _ => hs
  | n + 1, h => row_in (f := fun i => f i n) (all_in hs n fun i hi j hj => h i hi j (by omega)) w fun i hi => h i hi n (by omega)
section
variable {W H : Nat} {b0 : List UInt8} {rb : Nat → List UInt8} {a d nx ny k : Nat}
theorem res_in {e : Int} (he : 1 ≤ e ∧ e ≤ 100000) (h : ∀ i < nx, ∀ j < ny, fA (pxs W H b0 rb a d k i j).1 (pxs W H b0 rb a d k i j).2 ≤ e ∧ e ≤ fC (pxs W H b0 rb a d k i j).1 (pxs W H b0 rb a d k i j).2) :
    (resF W H b0 rb a d nx ny k).1 ≤ e ∧ e ≤ (resF W H b0 rb a d nx ny k).2 ∧ wrF W H b0 rb a d nx ny k = false := by
  have key : (rF W H b0 rb a d nx ny k).1 ≤ e ∧ e ≤ (rF W H b0 rb a d nx ny k).2 := all_in (f := pxs W H b0 rb a d k) (s := (1, 100000)) he ny h
  unfold resF wrF
  rw [if_pos (by omega)]
  exact ⟨key.1, key.2, by rw [decide_eq_true (by omega)]; rfl⟩
theorem wrs_none : ∀ {n : Nat}, (∀ k < n, wrF W H b0 rb a d nx ny k = false) → wrsF W H b0 rb a d nx ny n = []
  | 0, _ => rfl
  | n + 1, h => by
    rw [wrsF_keep (h n (by omega))]; exact wrs_none fun k hk => h k (by omega)
end

/-! painted frames -/
def pnt (W a d : Nat) (g : Nat → UInt8) (l : List UInt8) (nx ny : Nat) : List UInt8 := foldAll (fun l i j => l.set ((d + j) * W + (a + i)) (g (j * nx + i))) l nx ny
abbrev pntRow (W a d nx : Nat) (g : Nat → UInt8) (l : List UInt8) (j i : Nat) : List UInt8 := foldRow (fun l i => l.set ((d + j) * W + (a + i)) (g (j * nx + i))) l i
theorem pntRow_length (W a d nx : Nat) (g : Nat → UInt8) (l : List UInt8) (j : Nat) : ∀ i, (pntRow W a d nx g l j i).length = l.length
  | 0 => rfl
  | i + 1 => by
    have := pntRow_length W a d nx g l j i
    simp only [pntRow, foldRow, List.length_set] at this ⊢
    exact this
theorem pnt_length (W a d : Nat) (g : Nat → UInt8) (l : List UInt8) (nx : Nat) : ∀ ny, (pnt W a d g l nx ny).length = l.length
  | 0 => rfl
  | ny + 1 => by
    have h := pntRow_length W a d nx g (pnt W a d g l nx ny) ny nx
    rw [pnt_length W a d g l nx ny] at h
    exact h
theorem pntRow_get {W a d nx : Nat} {g : Nat → UInt8} {l : List UInt8} {j k : Nat} : ∀ {i : Nat}, (d + j) * W + (a + i) ≤ l.length → (pntRow W a d nx g l j i)[k]?.getD 0 = if (d + j) * W + a ≤ k ∧ k < (d + j) * W + a + i then g (j * nx + (k - ((d + j) * W + a))) else l[k]?.getD 0
  | 0, _ => by rw [if_neg (by omega)]; rfl
  | i + 1, h => by
    have h1 := pntRow_get (W := W) (a := a) (d := d) (l := l) (g := g) (nx := nx) (j := j) (k := k) (i := i) (by omega)
    have hl := pntRow_length W a d nx g l j i
    show ((pntRow W a d nx g l j i).set ((d + j) * W + (a + i)) (g (j * nx + i)))[k]?.getD 0 = _
    rw [List.getElem?_set]
    by_cases e : (d + j) * W + (a + i) = k
    · rw [if_pos e, if_pos (by rw [hl]; omega), if_pos (by omega)]
      simp only [Option.getD_some]
      congr 2
      omega
    · rw [if_neg e, h1]
      by_cases e2 : (d + j) * W + a ≤ k ∧ k < (d + j) * W + a + i
      · rw [if_pos e2, if_pos (by omega)]
      · rw [if_neg e2, if_neg (by omega)]
theorem pnt_get {W H a d nx : Nat} {g : Nat → UInt8} {l : List UInt8} (hl : l.length = W * H) (hx : a + nx ≤ W) : ∀ {ny i j : Nat}, d + ny ≤ H → i < nx → j < ny → (pnt W a d g l nx ny)[(d + j) * W + (a + i)]?.getD 0 = g (j * nx + i)
  | 0, _, _, _, _, h => absurd h (by omega)
  | ny + 1, i, j, hd, hi, hj => by
    have hlen := pnt_length W a d g l nx ny
    have hm : (d + ny) * W + W ≤ H * W := by
      have := Nat.mul_le_mul_right W (show d + ny + 1 ≤ H by omega)
      rw [Nat.add_mul _ 1, Nat.one_mul] at this; omega
    rw [Nat.mul_comm H W] at hm
    show (pntRow W a d nx g (pnt W a d g l nx ny) ny nx)[(d + j) * W + (a + i)]?.getD 0 = _
    rw [pntRow_get (by rw [hlen, hl]; omega)]
    by_cases e : j = ny
    · subst e
      rw [if_pos (by omega)]
      congr 2
      omega
    · have hm2 : (d + j) * W + W ≤ (d + ny) * W := by
        have := Nat.mul_le_mul_right W (show d + j + 1 ≤ d + ny by omega)
        rw [Nat.add_mul _ 1, Nat.one_mul] at this; omega
      rw [if_neg (by omega)]
      exact pnt_get hl hx (by omega) hi (by omega)
theorem pnt_pix {W H a d nx ny : Nat} {g : Nat → UInt8} {l : List UInt8} (hl : l.length = W * H) (hx : a + nx ≤ W) (hd : d + ny ≤ H) {i j : Nat} (hi : i < nx) (hj : j < ny) : pixV W H (pnt W a d g l nx ny) ((a + i : Nat) : Int) ((d + j : Nat) : Int) = (g (j * nx + i)).toNat := by
  unfold pixV
  rw [if_pos (by unfold pixB; omega), show (((d + j : Nat) : Int) * (W : Int) + ((a + i : Nat) : Int)).toNat = (d + j) * W + (a + i) by
    rw [show ((d + j : Nat) : Int) * (W : Int) + ((a + i : Nat) : Int) = (((d + j) * W + (a + i) : Nat) : Int) by push_cast; rfl]; exact Int.toNat_natCast _]
  have := pnt_get (g := g) hl hx hd hi hj
  rw [List.getD_eq_getElem?_getD, this]

end Go.Dr.T
