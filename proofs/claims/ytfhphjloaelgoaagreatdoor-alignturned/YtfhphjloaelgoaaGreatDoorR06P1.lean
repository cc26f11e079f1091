/- Chapter 06: the pair of two elements: its table; share. -/
import Derived.Test.YtfhphjloaelgoaaGreatDoorR06Hh
namespace Go.Dr.T
def tb (f : Nat → Nat → Int) : List Int := (List.range 1681).map fun k => f (k / 41) (k % 41)
def upT (f : Nat → Nat → Int) (i j : Nat) (v : Int) : Nat → Nat → Int := fun i' j' => if i' = i ∧ j' = j then v else f i' j'
theorem tb_len (f : Nat → Nat → Int) : (tb f).length = 1681 := by simp [tb]
theorem tb_get {f : Nat → Nat → Int} {i j : Nat} (hi : i < 41) (hj : j < 41) : (tb f)[i * 41 + j]? = some (f i j) := by
  have h1 : (i * 41 + j) / 41 = i := by omega
  have h2 : (i * 41 + j) % 41 = j := by omega
  have h3 : i * 41 + j < 1681 := by omega
  simp [tb, h1, h2, h3]
theorem tb_set {f : Nat → Nat → Int} {i j : Nat} {v : Int} (hi : i < 41) (hj : j < 41) : (tb f).set (i * 41 + j) v = tb (upT f i j v) := by
  apply List.ext_getElem?
  intro k
  by_cases hk : k < 1681
  · rw [List.getElem?_set, tb_len]
    have e : ∀ g : Nat → Nat → Int, (tb g)[k]? = some (g (k / 41) (k % 41)) := fun g => by simp [tb, hk]
    rw [e, e]
    by_cases h : i * 41 + j = k
    · rw [if_pos h, if_pos (by omega)]
      have h1 : k / 41 = i := by omega
      have h2 : k % 41 = j := by omega
      simp [upT, h1, h2]
    · rw [if_neg h]
      have : ¬ (k / 41 = i ∧ k % 41 = j) := by omega
      simp [upT, this]
  · rw [List.getElem?_eq_none (by simp [tb_len]; omega), List.getElem?_eq_none (by simp [tb_len]; omega)]
structure Sh where
  c : Bool
  l : List (Int × Int)
def Sh.v (a : Sh) : V := .sl a.c a.l.length (shC a.l)
@[irreducible] def pC (a b : Sh) (s : Int) (f : Nat → Nat → Int) : List V := a.v :: b.v :: .int .i64 s :: ofInts (tb f)
theorem pC_eq (a b : Sh) (s : Int) (f : Nat → Nat → Int) : pC a b s f = a.v :: b.v :: .int .i64 s :: ofInts (tb f) := by unfold pC; rfl
section
variable {a b : Sh} {s : Int} {f : Nat → Nat → Int}
theorem pC_len : (pC a b s f).length = 1684 := by rw [pC_eq]; simp [ofInts, tb_len]
theorem pC_0 : cellAt (pC a b s f) 0 = some a.v := by rw [pC_eq]; rfl
theorem pC_1 : cellAt (pC a b s f) 1 = some b.v := by rw [pC_eq]; rfl
theorem pC_2 : cellAt (pC a b s f) 2 = some (.int .i64 s) := by rw [pC_eq]; rfl
theorem pC_t {i j : Nat} (hi : i < 41) (hj : j < 41) : cellAt (pC a b s f) (3 + i * 41 + j) = some (.int .i64 (f i j)) := by
  rw [pC_eq, show 3 + i * 41 + j = (i * 41 + j) + 1 + 1 + 1 by omega]
  simp only [cellAt]
  obtain ⟨y, h1, h2⟩ : ∃ y, (tb f)[i * 41 + j]? = some y ∧ cellAt (ofInts (tb f)) (i * 41 + j) = some (.int .i64 y) := by
    refine ⟨_, tb_get hi hj, ?_⟩
    have key : ∀ (l : List Int) (n : Nat) (y : Int), l[n]? = some y → cellAt (ofInts l) n = some (.int .i64 y) := by
      intro l
      induction l with
      | nil => intro n y h; simp at h
      | cons x l ih =>
        intro n y h
        cases n with
        | zero => simp at h; subst h; rfl
        | succ n => exact ih n y (by simpa using h)
    exact key _ _ _ (tb_get hi hj)
  rw [tb_get hi hj] at h1
  cases h1; exact h2
theorem pC_st {i j : Nat} {v : Int} (hi : i < 41) (hj : j < 41) : over (pC a b s f) (3 + i * 41 + j) [.int .i64 v] = pC a b s (upT f i j v) := by
  rw [pC_eq, pC_eq, show 3 + i * 41 + j = (i * 41 + j) + 1 + 1 + 1 by omega]
  have key : ∀ (M : List Int) (n : Nat) (y : Int), over (ofInts M) n [.int .i64 y] = ofInts (M.set n y) := by
    intro M
    induction M with
    | nil => intro n y; cases n <;> rfl
    | cons m M ih =>
      intro n y
      cases n with
      | zero => cases M <;> rfl
      | succ n =>
        have := ih n y
        simp only [ofInts, List.map_cons, List.set_cons_succ, over] at this ⊢
        rw [this]
  simp only [over]
  rw [key, tb_set hi hj]
end
abbrev pB (a b : Sh) (s : Int) (f : Nat → Nat → Int) : B := .blk (pC a b s f) false
def shr (s : Int) (x y : Int × Int) : Int :=
  let n := min x.2 y.2
  if s < max x.2 y.2 - n then 0 else if x.1 = 0 ∨ y.1 = 0 then max (n / 2) 1 else if x.1 ≠ y.1 then 0 else n
def shOk (l : List (Int × Int)) : Prop := l.length ≤ 40 ∧ ∀ p ∈ l, 0 ≤ p.1 ∧ p.1 ≤ 999 ∧ 1 ≤ p.2 ∧ p.2 ≤ 200000
theorem shr_case {s : Int} {m n m' n' : Int} : shr s (m, n) (m', n') = if s < max n n' - min n n' then 0 else if m = 0 ∨ m' = 0 then max (min n n' / 2) 1 else if m ≠ m' then 0 else min n n' := rfl
theorem mul_zero {m m' : Int} : m * m' = 0 ↔ m = 0 ∨ m' = 0 := Int.mul_eq_zero
set_option maxRecDepth 100000 in
set_option maxHeartbeats 20000000 in
theorem share_fun {a b : Sh} {s : Int} {f : Nat → Nat → Int} {i j : Nat} {x y : Int × Int} (ha : shOk a.l) (hb : shOk b.l) (hs : 0 ≤ s ∧ s ≤ 200000) (hx : a.l[i]? = some x) (hy : b.l[j]? = some y) :
    Fun FB md 63 [.rp (pC a b s f) 0, .int .i64 (i : Nat), .int .i64 (j : Nat)] (.int .i64 (shr s x y)) := by
  have hil := (List.getElem?_eq_some_iff.1 hx).1
  have hjl := (List.getElem?_eq_some_iff.1 hy).1
  obtain ⟨a1, a2⟩ := ha
  obtain ⟨b1, b2⟩ := hb
  obtain ⟨x1, x2, x3, x4⟩ := a2 x (List.mem_of_getElem? hx)
  obtain ⟨y1, y2, y3, y4⟩ := b2 y (List.mem_of_getElem? hy)
  have hpx := shC_part hx
  have hpy := shC_part hy
  obtain ⟨m, n⟩ := x
  obtain ⟨m', n'⟩ := y
  dsimp only at *
  have hmm : 0 ≤ m * m' := Int.mul_nonneg x1 y1
  have hmM : m * m' ≤ 999 * 999 := Int.mul_le_mul x2 y2 y1 (by omega)
  have hz := mul_zero (m := m) (m' := m')
  have hw : IntKind.i64.wrap ((min n n').tdiv 2) = min n n' / 2 := by rw [Int.tdiv_eq_ediv_of_nonneg (by omega)]; exact wrap_i64 (by omega) (by omega)
  refine fun_of rfl rfl ?_
  repeat' (first
 | (conv => whnf)
   first
   | refine Br.dec (fun _ => ?_) (fun _ => ?_)
   | refine Br.not ?_
   | (refine Bnd.i64 ?_ ?_ ?_; (focus omega); (focus omega))
   | refine Get.mk _ pC_0 ?_
   | refine Get.mk _ pC_1 ?_
   | refine Get.mk _ pC_2 ?_
   | refine Get.mk _ hpx ?_
   | refine Get.mk _ hpy ?_
   | refine Bnd.any ?_
   | (refine Idx.nat ?_ ?_; (focus omega))
   | refine Get.mk _ rfl ?_
   | refine Leaves.of ?_
   | refine Vw.int ?_
   | (refine Req.mk ?_ ?_; (focus first | rfl | decide | exact ⟨rfl, rfl⟩ | exact ⟨rfl, by decide⟩ | exact (fun _ => rfl) | exact (fun h => nomatch h) | (simp; done) | omega | (simp [big]; done) | exact le_big (by omega) | exact lt_big (by omega))))
  all_goals rw [shr_case]
  all_goals first
    | (rw [if_pos (by omega)]; done)
    | (rw [if_neg (by omega), if_pos (hz.1 (by assumption)), hw]; done)
    | (rw [if_neg (by omega), if_neg (fun h => absurd (hz.2 h) (by assumption)), if_pos (by assumption)]; done)
    | (rw [if_neg (by omega), if_neg (fun h => absurd (hz.2 h) (by assumption)), if_neg (by assumption)]; done)
    | (rw [if_neg (by omega), if_neg (fun h => absurd (hz.2 h) (by assumption)), if_neg (fun h => by omega)]; done)
theorem blos_int1 (n : Nat) : ∀ l : List Int, blos n (ofInts l) = true
  | [] => rfl
  | _ :: l => by have := blos_int1 n l; simp only [ofInts, List.map_cons, blos, V.blo, Bool.true_and] at this ⊢; exact this
theorem pB_blo {a b : Sh} {s : Int} {f : Nat → Nat → Int} (n : Nat) : (pB a b s f).blo n = true := by
  simp only [pB, B.blo, Bool.false_or]
  rw [pC_eq]
  simp only [blos, V.blo, Sh.v, blos_int1, Bool.and_self]
end Go.Dr.T
