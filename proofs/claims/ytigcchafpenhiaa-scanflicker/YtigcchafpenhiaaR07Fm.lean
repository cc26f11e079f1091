/- Chapter 07: the law ScanFlicker: plain parts. -/
import Derived.Test.YtigcchafpenhiaaR07Fl
import Derived.Test.YtigcchafpenhiaaR07L9
namespace Go.Dr.T

theorem putF : ∀ {l : List UInt8} {i : Nat} {b : UInt8} {v : Int}, i < l.length → v = (b.toNat : Int) → over (ofBytes l) (0 + i * 1) [.int .u8 v] = ofBytes (l.set i b) := by
  intro l i b v h hv
  subst hv
  induction l generalizing i with
  | nil => simp at h
  | cons x l ih =>
    cases i with
    | zero =>
      show V.int .u8 b.toNat :: over (ofBytes l) 0 [] = _
      rw [show over (ofBytes l) 0 [] = ofBytes l by cases l <;> rfl]; rfl
    | succ i =>
      have := ih (i := i) (by simpa using h)
      rw [Nat.zero_add, Nat.mul_one] at this ⊢
      simp only [ofBytes, over, List.set_cons_succ, this]
theorem fVf {l l' : List V} {K : List V → Prop} (e : l = l') (h : K l') : fV l K := fV.mk (e ▸ h)
theorem ofFr_cell2 : ∀ {l : List Fr} {i : Nat} (h : i < l.length), cellAt (ofFr l) (i * 3 + 2) = some (.sl false l[i].2.2.length (ofBytes l[i].2.2))
  | f :: l, 0, _ => rfl
  | f :: l, i + 1, h => by
    have := ofFr_cell2 (l := l) (i := i) (by simpa using h)
    rw [show (i + 1) * 3 + 2 = i * 3 + 2 + 1 + 1 + 1 by omega]
    exact this

/-- the exposure of a frame. -/
def eX (E : List Int) (i : Nat) : Int := if i = 0 then 1000 else 1 + at9 E (i % E.length)
theorem eX_range {E : List Int} (hE : ∀ x ∈ E, 0 ≤ x ∧ x ≤ 65535) (h : 0 < E.length) (i : Nat) : 1 ≤ eX E i ∧ eX E i ≤ 100000 := by
  unfold eX
  split
  · omega
  · have hm := Nat.mod_lt i h
    have := hE _ (List.getElem_mem hm)
    rw [at9_eq hm] at this
    omega
def gF (L : List Int) (e : Int) (k : Nat) : UInt8 := gE L e (k % L.length)
def frAt (l : List Fr) (i : Nat) : List UInt8 := (l[i]?.getD (0, 0, [])).2.2
theorem frAt_eq {l : List Fr} {i : Nat} (h : i < l.length) : l[i].2.2 = frAt l i := by simp [frAt, List.getElem?_eq_getElem h]
def qq (l : List Fr) (L E : List Int) (W A D nx ny i : Nat) : List UInt8 := pnt W A D (gF L (eX E i)) (frAt l i) nx ny

abbrev bP (a b d e : Int) : B := .blk [.int .i64 a, .int .i64 b, .int .i64 d, .int .i64 e] false
abbrev bX (cl ce : Bool) (L E : List Int) : B := .blk [.sl cl L.length (L.map (V.int .i64)), .sl ce E.length (E.map (V.int .u16))] false
theorem cellAt_u16 {l : List Int} {i : Nat} (h : i < l.length) : cellAt (l.map (V.int .u16)) (i * 1) = some (.int .u16 l[i]) := by
  rw [Nat.mul_one]
  induction l generalizing i with
  | nil => simp at h
  | cons x l ih =>
    cases i with
    | zero => rfl
    | succ i => exact ih (by simpa using h)

structure FlS where
  i : Nat
  H : List B
  ids : List Nat
abbrev exs (E : List Int) (i : Nat) : List V := ((List.range i).map (eX E)).map (V.int .i64)
theorem exs_length (E : List Int) (i : Nat) : (exs E i).length = i := by simp [exs]
theorem exs_snoc (E : List Int) (i : Nat) : exs E i ++ [.int .i64 (eX E i)] = exs E (i + 1) := by simp [exs, List.range_succ]
theorem exs_cell {E : List Int} {i n : Nat} (h : i < n) : cellAt (exs E n) (0 + i * 1) = some (.int .i64 (eX E i)) := by
  have := cellAt_ints (l := (List.range n).map (eX E)) (i := i) (by simpa using h)
  rw [Nat.zero_add]
  rw [this]; simp

/-- what stands in the blocks ahead of round i. -/
structure FlOk (a b d e : Int) (cl ce : Bool) (l : List Fr) (L E : List Int) (W H A D nx ny : Nat) (s : FlS) : Prop where
  len : 7 ≤ s.H.length
  h0 : bget s.H 0 = some (bP a b d e)
  h1 : bget s.H 1 = some (bX cl ce L E)
  h5 : bget s.H 5 = some (.blk (mC W H s.ids) false)
  h6 : bget s.H 6 = some (.blk (exs E s.i) true)
  hl : s.ids.length = s.i
  hn : ∀ k ∈ s.ids, k ≠ 5 ∧ k ≠ 6
  hq : ∀ k (h : k < s.ids.length), bget s.H s.ids[k] = some (.blk (ofBytes (qq l L E W A D nx ny k)) true)
abbrev hOne (a b d e : Int) (cl ce : Bool) (L E : List Int) (W H : Nat) (q : List UInt8) : List B :=
  [bP a b d e, bX cl ce L E, .blk (ofBytes q) true, .blk [.int .i64 W, .int .i64 H, .ms 1 2 (W * H) 0 (W * H) false] false, .blk [.int .i64 W, .int .i64 H, .ms 1 2 (W * H) 0 (W * H) false] false, .blk (mC W H [2]) false, .blk (exs E 1) true]
def FlP (a b d e : Int) (cl ce : Bool) (l : List Fr) (L E : List Int) (W H A D nx ny : Nat) (s : FlS) : Prop :=
  s.i ≤ l.length ∧ (∀ k < s.i, (frAt l k).length = W * H) ∧
  (s.i = 0 → s = ⟨0, [bP a b d e, bX cl ce L E], []⟩) ∧
  (s.i = 1 → s = ⟨1, hOne a b d e cl ce L E W H (qq l L E W A D nx ny 0), [2]⟩) ∧
  (1 ≤ s.i → FlOk a b d e cl ce l L E W H A D nx ny s)
theorem flOk_one (a b d e : Int) (cl ce : Bool) (l : List Fr) (L E : List Int) (W H A D nx ny : Nat) : FlOk a b d e cl ce l L E W H A D nx ny ⟨1, hOne a b d e cl ce L E W H (qq l L E W A D nx ny 0), [2]⟩ :=
  ⟨by simp, rfl, rfl, rfl, rfl, rfl, by simp, fun k hk => by
    obtain rfl : k = 0 := by simpa using hk
    rfl⟩
theorem fB0 {h : List B} {K : List B → Prop} (hk : K h) : Dr.fB (if 0 = 0 then h else h ++ unborns 0) K := fB.mk (by rw [if_pos rfl]; exact hk)
theorem fB1 {h : List B} {n : Nat} {K : List B → Prop} (hk : K (h ++ unborns (n + 1))) : Dr.fB (if n + 1 = 0 then h else h ++ unborns (n + 1)) K := fB.mk (by rw [if_neg (by omega)]; exact hk)
theorem freeNil {fp : Fp} {b : Nat} : freeOf fp b [] = true := rfl
theorem freeCons {fp q : Fp} {b i : Nat} {l : List (Nat × Fp)} (h : (b.testBit i || fp.free q) = true) (hl : freeOf fp b l = true) : freeOf fp b ((i, q) :: l) = true := by simp only [freeOf, h, hl, Bool.and_self]
theorem freeNew {b i k j : Nat} (h : k ≠ j) : (b.testBit i || (Fp.new k).free (.some [j] (some j))) = true := by
  have h2 : (j == k) = false := by simp; omega
  have h3 : (k == j) = false := by simp; omega
  simp [Fp.free, hits, h2, h3, h]
theorem mBool {b : Bool} {P : Prop} (hb : b = true) (h : P) : (match (generalizing := false) b with | true => P | false => False) := by subst hb; exact h
theorem norm_len2 {m : List Bool} {tm : List V} {h : List B} {n : Nat} (e : h.length = n) : norm m n ⟨tm, h⟩ = ⟨masked m tm, h⟩ := by subst e; exact norm_self
theorem mC_snoc_blo {W H k id x : Nat} {a : List Nat} {cs : List V} (hcs : cs = mC W H [x]) (hm : id ∈ a ++ [x]) (h : (B.blk (mC W H a ++ cs) false).blo k = true) : id < k := by
  subst hcs
  rw [← mC_append] at h
  simp only [B.blo, Bool.false_or] at h
  exact mC_blo hm h

theorem freeRW {b i k j : Nat} (h : k ≠ j) : (b.testBit i || (Fp.some [k] (some k)).free (.some [j] none)) = true := by
  have h2 : (j == k) = false := by simp; omega
  have h3 : (k == j) = false := by simp; omega
  simp [Fp.free, hits, h2, h3, h]
theorem qq_length (l : List Fr) (L E : List Int) (W A D nx ny i : Nat) : (qq l L E W A D nx ny i).length = (frAt l i).length := pnt_length _ _ _ _ _ _ _

theorem flOk_keep {a b d e : Int} {cl ce : Bool} {l : List Fr} {L E : List Int} {W H A D nx ny : Nat} {m : List Bool} {tm : List V} {X : List B} {i : Nat} {ids : List Nat} (ok : FlOk a b d e cl ce l L E W H A D nx ny ⟨i, X, ids⟩) (s4 : ∀ k, (tg (masked m tm) 4).blo k = true → 0 < k) (s5 : ∀ k, (tg (masked m tm) 5).blo k = true → 1 < k)
    (s7 : ∀ k, (tg (masked m tm) 7).blo k = true → 5 < k) (s8 : ∀ k, (tg (masked m tm) 8).blo k = true → 6 < k) : FlOk a b d e cl ce l L E W H A D nx ny ⟨i, (norm m 2 ⟨tm, X⟩).h, ids⟩ := by
  obtain ⟨f1, f2, f3, f4, f5, f6, f7, f8⟩ := ok
  dsimp only at f1 f2 f3 f4 f5 f6 f7 f8
  have hn : 2 ≤ X.length := by omega
  have k6 : bget (norm m 2 ⟨tm, X⟩).h 6 = _ := norm_keep (s := ⟨tm, X⟩) hn s8 f5
  refine ⟨bget_lt' k6, norm_keep (s := ⟨tm, X⟩) hn s4 f2, norm_keep (s := ⟨tm, X⟩) hn s5 f3, norm_keep (s := ⟨tm, X⟩) hn s7 f4, k6, f6, f7, fun k hk => ?_⟩
  exact norm_keep2 (s := ⟨tm, X⟩) hn s7 f4 (fun j hj => mC_blo (List.getElem_mem hk) (by simpa [B.blo] using hj)) (f8 k hk)
theorem flOk_next {a b d e : Int} {cl ce : Bool} {l : List Fr} {L E : List Int} {W H A D nx ny : Nat} {HH : List B} {i : Nat} {ids : List Nat} (ok : FlOk a b d e cl ce l L E W H A D nx ny ⟨i, HH, ids⟩) {f : B} {G : List B} {cs : List V} {x : Int} (hx : x = eX E i) (hcs : cs = mC W H [HH.length + 0]) :
    FlOk a b d e cl ce l L E W H A D nx ny ⟨i + 1, bset (bset ((HH ++ [.blk (ofBytes (qq l L E W A D nx ny i)) true, f]) ++ G) 5 (.blk (mC W H ids ++ cs) false)) 6 (.blk (exs E i ++ [.int .i64 x]) true), ids ++ [HH.length + 0]⟩ := by
  obtain ⟨f1, f2, f3, f4, f5, f6, f7, f8⟩ := ok
  dsimp only at f1 f2 f3 f4 f5 f6 f7 f8
  subst hx hcs
  have hlen : 7 ≤ ((HH ++ [B.blk (ofBytes (qq l L E W A D nx ny i)) true, f]) ++ G).length := by simp; omega
  have old : ∀ {k : Nat} {v : B}, k ≠ 5 → k ≠ 6 → bget HH k = some v → bget (bset (bset ((HH ++ [B.blk (ofBytes (qq l L E W A D nx ny i)) true, f]) ++ G) 5 (.blk (mC W H ids ++ mC W H [HH.length + 0]) false)) 6 (.blk (exs E i ++ [.int .i64 (eX E i)]) true)) k = some v := by
    intro k v h5 h6 hv
    rw [bset_other (by omega), bset_other (by omega)]
    exact bget_app (bget_app hv)
  refine ⟨by rw [bset_length, bset_length]; exact hlen, old (by omega) (by omega) f2, old (by omega) (by omega) f3, ?_, ?_, by simp [f6], ?_, ?_⟩
  · rw [bset_other (by omega), bset_same (by omega), mC_append]
  · rw [bset_same (by rw [bset_length]; omega), exs_snoc]
  · intro k hk
    rcases List.mem_append.1 hk with hk | hk
    · exact f7 k hk
    · have : k = HH.length + 0 := by simpa using hk
      omega
  · intro k hk
    dsimp only at hk ⊢
    by_cases h : k < ids.length
    · rw [List.getElem_append_left h]
      obtain ⟨q1, q2⟩ := f7 _ (List.getElem_mem h)
      exact old q1 q2 (f8 k h)
    · have hk' : k < ids.length + 1 := by simpa using hk
      obtain rfl : k = ids.length := by omega
      rw [List.getElem_append_right (Nat.le_refl _)]
      simp only [Nat.sub_self, List.getElem_cons_zero]
      rw [bset_other (by omega), bset_other (by omega), f6]
      exact bget_app (bget_new (i := 0))

end Go.Dr.T
