/- Chapter 09: keeps; the law SoundStruck. -/
import Derived.Test.YtokbdaiamhibeaaR09Tv
namespace Go.Dr.T

/-! plain laws of strikes -/
theorem keep_pair {t : Tsk} {x : Nat → Int} {a b : Mk} (hx : ∀ f : Nat, alLo t.lo t.hi a f ≤ x f ∧ x f ≤ alHi t.lo t.hi a f) {B : Nat} (hB : b.1 = (B : Int)) (hk : x B - b.2.1 ≤ b.2.2 ∧ b.2.1 - x B ≤ b.2.2) : agn t.lo t.hi a b = false := by
  have := hx B
  unfold agn
  rw [hB]
  simp only [Bool.or_eq_false_iff, decide_eq_false_iff_not]
  omega
/-- a sync, moved, that keeps to a mark is in what the mark allows. -/
theorem smp_moved {lo hi first : Int} (steps : List UInt8) (h : lo ≤ hi) (d : Int) {m : Mk} {a f : Nat} (ha : m.1 = (a : Int)) (hk : smp lo hi first steps a + d - m.2.1 ≤ m.2.2 ∧ m.2.1 - (smp lo hi first steps a + d) ≤ m.2.2) :
    alLo lo hi m f ≤ smp lo hi first steps f + d ∧ smp lo hi first steps f + d ≤ alHi lo hi m f := by
  have := smp_in (first := first) steps h (m := (m.1, m.2.1 - d, m.2.2)) (a := a) (f := f) ha (by dsimp only; omega)
  unfold alLo alHi at this ⊢
  dsimp only at this
  omega
theorem fiF_hit {p : Int → Bool} : ∀ {l : List Int} {i : Nat}, 0 ≤ fiF p i l → (i : Int) ≤ fiF p i l ∧ p (gI l ((fiF p i l).toNat - i)) = true
  | [], i, h => by simp [fiF] at h
  | x :: l, i, h => by
    simp only [fiF] at h ⊢
    by_cases hp : p x = true
    · simp only [hp, if_true]
      refine ⟨Int.le_refl _, ?_⟩
      rw [Int.toNat_natCast, Nat.sub_self]; exact hp
    · simp only [hp, Bool.false_eq_true, if_false] at h ⊢
      obtain ⟨q1, q2⟩ := fiF_hit (p := p) (l := l) (i := i + 1) h
      refine ⟨by push_cast at q1; omega, ?_⟩
      rw [show (fiF p (i + 1) l).toNat - i = (fiF p (i + 1) l).toNat - (i + 1) + 1 by push_cast at q1; omega]
      exact q2
/-- strikes: the mark, the one by which it is, which is taken. -/
theorem tkS_str (t : Tsk) : ∀ (i : Nat), ∀ x ∈ (tkS t i).2, ∃ a b : Nat, x = ((a : Int), (b : Int)) ∧ a < i ∧ b < a ∧ b ∈ (tkS t i).1 ∧ agn t.lo t.hi (mAt t.ms b) (mAt t.ms a) = true
  | 0, x, h => by simp [tkS] at h
  | i + 1, x, h => by
    simp only [tkS] at h ⊢
    by_cases hz : 0 ≤ hitZ t (tkS t i).1 (mAt t.ms i)
    · rw [if_pos hz] at h ⊢
      rcases List.mem_append.1 h with h | h
      · obtain ⟨a, b, h1, h2, h3, h4, h5⟩ := tkS_str t i x h
        exact ⟨a, b, h1, by omega, h3, h4, h5⟩
      · simp only [List.mem_singleton] at h
        have hl := hitZ_lt t (tkS t i).1 (mAt t.ms i)
        have hzl : (hitZ t (tkS t i).1 (mAt t.ms i)).toNat < (tkI (tkS t i).1).length := by rw [tkI_length]; omega
        have hg : gI (tkI (tkS t i).1) (hitZ t (tkS t i).1 (mAt t.ms i)).toNat = (((tkS t i).1[(hitZ t (tkS t i).1 (mAt t.ms i)).toNat]'(by omega) : Nat) : Int) := by
          rw [gI_get hzl]; simp [tkI]
        have hmem := List.getElem_mem (l := (tkS t i).1) (n := (hitZ t (tkS t i).1 (mAt t.ms i)).toNat) (by omega)
        have hlt := tkS_lt t i _ hmem
        refine ⟨i, _, by rw [h, hg], by omega, hlt, hmem, ?_⟩
        have hp := fiF_hit (p := fun x => agn t.lo t.hi (mAt t.ms x.toNat) (mAt t.ms i)) (l := tkI (tkS t i).1) (i := 0) hz
        rw [Nat.sub_zero] at hp
        have hq := hp.2
        rw [show (fiF (fun x => agn t.lo t.hi (mAt t.ms x.toNat) (mAt t.ms i)) 0 (tkI (tkS t i).1)).toNat = (hitZ t (tkS t i).1 (mAt t.ms i)).toNat from rfl, hg, Int.toNat_natCast] at hq
        exact hq
    · rw [if_neg hz] at h ⊢
      obtain ⟨a, b, h1, h2, h3, h4, h5⟩ := tkS_str t i x h
      exact ⟨a, b, h1, by omega, h3, List.mem_append_left _ h4, h5⟩
/-- no mark is both. -/
theorem tkS_apart (t : Tsk) : ∀ (i : Nat), ∀ k ∈ (tkS t i).1, ∀ x ∈ (tkS t i).2, x.1 ≠ (k : Int)
  | 0, k, h => by simp [tkS] at h
  | i + 1, k, h => by
    intro x hx
    simp only [tkS] at h hx
    by_cases hz : 0 ≤ hitZ t (tkS t i).1 (mAt t.ms i)
    · rw [if_pos hz] at h hx
      have hk := tkS_lt t i k h
      rcases List.mem_append.1 hx with hx | hx
      · exact tkS_apart t i k h x hx
      · simp only [List.mem_singleton] at hx
        rw [hx]; dsimp only; omega
    · rw [if_neg hz] at h hx
      obtain ⟨a, b, h1, h2, _⟩ := tkS_str t i x hx
      rcases List.mem_append.1 h with h | h
      · exact tkS_apart t i k h x hx
      · obtain rfl : k = i := by simpa using h
        rw [h1]; dsimp only; omega
/-- strikes are in order. -/
theorem tkS_order (t : Tsk) : ∀ (i : Nat), ∀ (j : Nat) (hj : j + 1 < (tkS t i).2.length), ((tkS t i).2[j]).1 < ((tkS t i).2[j + 1]).1
  | 0, j, hj => by simp [tkS] at hj
  | i + 1, j, hj => by
    have key : ∀ (l : List (Int × Int)), l = (tkS t (i + 1)).2 → ∀ (hj : j + 1 < l.length), l[j].1 < l[j + 1].1 := by
      intro l hl hj
      simp only [tkS] at hl
      by_cases hz : 0 ≤ hitZ t (tkS t i).1 (mAt t.ms i)
      · rw [if_pos hz] at hl
        subst hl
        dsimp only at hj ⊢
        rw [List.length_append, List.length_singleton] at hj
        by_cases e : j + 1 < (tkS t i).2.length
        · rw [List.getElem_append_left (by omega), List.getElem_append_left e]
          exact tkS_order t i j e
        · rw [List.getElem_append_left (by omega), List.getElem_append_right (by omega)]
          obtain ⟨a, b, h1, h2, _⟩ := tkS_str t i _ (List.getElem_mem (l := (tkS t i).2) (n := j) (by omega))
          rw [h1]
          have e2 : j + 1 - (tkS t i).2.length = 0 := by omega
          simp only [e2, List.getElem_cons_zero]
          omega
      · rw [if_neg hz] at hl
        subst hl
        exact tkS_order t i j hj
    exact key _ rfl hj

/-! a further mark -/
def moreT (t : Tsk) (y : Mk) : Tsk := ⟨t.fr, t.lo, t.hi, t.ms ++ [y], t.sp⟩
theorem moreT_mAt {t : Tsk} {y : Mk} {k : Nat} (h : k < t.ms.length) : mAt (moreT t y).ms k = mAt t.ms k := by
  unfold moreT
  dsimp only
  rw [mAt_get (by simp; omega), mAt_get h, List.getElem_append_left h]
theorem fiF_congr {p q : Int → Bool} : ∀ {l : List Int} {i : Nat}, (∀ x ∈ l, p x = q x) → fiF p i l = fiF q i l
  | [], i, _ => rfl
  | x :: l, i, h => by
    simp only [fiF]
    rw [h x (by simp), fiF_congr fun y hy => h y (by simp [hy])]
theorem moreT_tkS {t : Tsk} {y : Mk} : ∀ {i : Nat}, i ≤ t.ms.length → tkS (moreT t y) i = tkS t i
  | 0, _ => rfl
  | i + 1, hi => by
    have ih := moreT_tkS (t := t) (y := y) (i := i) (by omega)
    have hm := moreT_mAt (t := t) (y := y) (k := i) (by omega)
    have hh : hitZ (moreT t y) (tkS t i).1 (mAt t.ms i) = hitZ t (tkS t i).1 (mAt t.ms i) := by
      unfold hitZ
      refine fiF_congr fun x hx => ?_
      unfold tkI at hx
      obtain ⟨k, hk, rfl⟩ := List.mem_map.1 hx
      have := tkS_lt t i k hk
      rw [Int.toNat_natCast, moreT_mAt (by omega)]; rfl
    simp only [tkS]
    rw [ih, hm, hh]
theorem moreT_sub {t : Tsk} {y : Mk} : ∀ k ∈ tkK t, k ∈ tkK (moreT t y) := by
  intro k hk
  have hl : (moreT t y).ms.length = t.ms.length + 1 := by simp [moreT]
  unfold tkK
  rw [hl]
  simp only [tkS]
  rw [moreT_tkS (Nat.le_refl _)]
  split
  · exact hk
  · exact List.mem_append_left _ hk
theorem moreT_where {t : Tsk} {y : Mk} (h0 : 0 < t.ms.length) (f : Int) : (whS t f).1 ≤ (whS (moreT t y) f).1 ∧ (whS (moreT t y) f).2 ≤ (whS t f).2 := by
  obtain ⟨⟨k, hk, e1⟩, ⟨k', hk', e2⟩⟩ := atS_ends (g := atG t f) (tkS_pos t h0)
  have a1 := atS_in (g := atG (moreT t y) f) (ks := tkK (moreT t y)) k (moreT_sub k hk)
  have a2 := atS_in (g := atG (moreT t y) f) (ks := tkK (moreT t y)) k' (moreT_sub k' hk')
  have b1 : atG (moreT t y) f k = atG t f k := by unfold atG; rw [moreT_mAt (tkS_lt t _ k hk)]; rfl
  have b2 : atG (moreT t y) f k' = atG t f k' := by unfold atG; rw [moreT_mAt (tkS_lt t _ k' hk')]; rfl
  rw [b1] at a1
  rw [b2] at a2
  unfold whS
  rw [e1, e2]
  exact ⟨a1.1, a2.2⟩
theorem whE_zero {t : Tsk} {f : Int} (h : (whE t f).2.2 = 0) : (chkT t).2.2 = 0 ∧ 0 < t.ms.length ∧ (whE t f).1 = (whS t f).1 ∧ (whE t f).2.1 = (whS t f).2 := by
  unfold whE at h ⊢
  split at h
  · rename_i q; exact absurd h q
  · rename_i q
    split at h
    · simp at h
    · rename_i q2
      split at h
      · simp at h
      · rename_i q3
        rw [if_neg q, if_neg q2, if_neg q3]
        exact ⟨by omega, by omega, rfl, rfl⟩
theorem more_where {t : Tsk} {y : Mk} {f : Int} (h1 : (whE t f).2.2 = 0) (h2 : (whE (moreT t y) f).2.2 = 0) : (whE t f).1 ≤ (whE (moreT t y) f).1 ∧ (whE (moreT t y) f).2.1 ≤ (whE t f).2.1 ∧ (whE (moreT t y) f).1 ≤ (whE (moreT t y) f).2.1 := by
  obtain ⟨_, b, c, d⟩ := whE_zero h1
  obtain ⟨a', b', c', d'⟩ := whE_zero h2
  rw [c, d, c', d']
  have := moreT_where (y := y) b f
  have := whS_le (chk_ok a').2 b' f
  omega

/-! keeps -/
def keepB (x : Int) (m : Mk) : Bool := decide (max (x - m.2.1) (0 - (x - m.2.1)) ≤ m.2.2)
theorem keepB_iff (x : Int) (m : Mk) : keepB x m = true ↔ x - m.2.1 ≤ m.2.2 ∧ m.2.1 - x ≤ m.2.2 := by
  unfold keepB
  rw [decide_eq_true_iff]; omega
set_option maxRecDepth 100000 in
theorem keeps_any {c : Bool} {N A : Nat} {C : List V} {x : Int} {m : Mk} (hA : m.1 = (A : Int)) (hAN : A < N) (hc : cellAt C (A * 1) = some (.int .i64 x)) (hx : -1000000000 ≤ x ∧ x ≤ 1000000000) (hm : -1000000000 ≤ m.2.1 ∧ m.2.1 ≤ 1000000000) :
    Fun F md 34 [.sl c N C, .agg (mkC m)] (.bool (keepB x m)) := by
  obtain ⟨a, s, e⟩ := m
  dsimp only at hA hm
  subst hA
  unfold keepB mkC
  dsimp only
  refine fun_of rfl rfl ?_
  repeat' (first
    | (conv => whnf)
      first
      | refine Br.t ?_
      | refine Br.f ?_
      | (refine Br.decT ?_ ?_; (focus first | assumption | omega))
      | (refine Br.decF ?_ ?_; (focus first | assumption | omega))
      | refine Br.dec (fun _ => ?_) (fun _ => ?_)
      | refine Br.not ?_
      | refine Br.and ?_
      | refine Br.or ?_
      | (refine Bnd.i64 ?_ ?_ ?_; (focus omega); (focus omega))
      | refine Get.mk _ hc ?_
      | refine Bnd.any ?_
      | (refine Idx.nat ?_ ?_; (focus omega))
      | refine Idx.nat (le_big (by omega)) ?_
      | (refine Idx.int ?_ ?_ ?_; (focus omega); (focus omega))
      | (refine Idx.int ?_ ?_ ?_; (focus decide); (focus decide))
      | refine Ifz.zero ?_
      | (refine Ifz.pos ?_ ?_; (focus omega))
      | refine Get.mk _ rfl ?_
      | refine Leaves.of ?_
      | refine Ends.of ?_
      | refine Vw.bool ?_
      | refine Vw.int ?_
      | refine Vw.nil
      | refine Vw.sl
      | refine Vw.tup ?_
      | refine Vw.agg ?_
      | refine VwL.cons ?_ ?_
      | refine VwL.nil
      | refine LeavesF.of ?_
      | refine VwF.bool ?_
      | refine VwF.int ?_
      | refine VwF.nil
      | refine VwF.sl
      | refine VwF.tup ?_
      | refine VwF.agg ?_
      | refine VwLF.cons ?_ ?_
      | refine VwLF.nil
      | (refine Req.mk ?_ ?_; (focus first | rfl | decide | exact ⟨rfl, rfl⟩ | exact ⟨rfl, by decide⟩ | exact (fun _ => rfl) | exact (fun h => nomatch h) | (simp; done) | omega | (simp [big]; done) | exact le_big (by omega) | exact lt_big (by omega))))
  all_goals first | rfl | (exfalso; omega)

/-! lists of bools -/
abbrev ofBl (l : List Bool) : List V := l.map V.bool
theorem ofBl_cell0 : ∀ {l : List Bool} {i : Nat} (h : i < l.length), cellAt (ofBl l) (0 + i * 1) = some (.bool l[i])
  | x :: l, 0, _ => rfl
  | x :: l, i + 1, h => by
    have := ofBl_cell0 (l := l) (i := i) (by simpa using h)
    rw [show 0 + (i + 1) * 1 = 0 + i * 1 + 1 by omega]
    simpa only [ofBl, List.map_cons, cellAt, List.getElem_cons_succ] using this
theorem ofBl_put0 {l : List Bool} {i : Nat} {v : Bool} (h : i < l.length) : over (ofBl l) (0 + i * 1) [.bool v] = ofBl (l.set i v) := by
  rw [Nat.zero_add, Nat.mul_one, over_eq (by simp [ofBl]; omega), List.set_eq_take_append_cons_drop, if_pos h]
  simp [ofBl]
theorem reps_bool (n : Nat) : reps n [.bool false] = ofBl (List.replicate n false) := by
  induction n with
  | zero => rfl
  | succ n ih => simp only [reps, List.replicate_succ, ofBl, List.map_cons, List.singleton_append, ih]
theorem more_views {h : List B} {t : Tsk} {cs : Bool} {y : Mk} {g n : Nat} {id : Nat} {C : List V} {f : Int} (h1 : bget h id = some (.blk C true)) (hC : C = ofM (t.ms ++ [y])) (hg : g = (t.ms.length + 1) * 3) (hn : n = t.ms.length + 1) :
    views h depth ([.agg [.int .i64 t.fr, .int .i64 t.lo, .int .i64 t.hi, .ms 3 id g 0 n false, .sl cs t.sp.length (ofI t.sp)], .int .i64 f] ++ []) = some [tskV false cs (moreT t y), .int .i64 f] := by
  subst hg hn hC
  have e : (t.ms ++ [y]).length = t.ms.length + 1 := by simp
  exact (VwL.cons (Vw.agg (VwL.cons (Vw.int rfl) (VwL.cons (Vw.int rfl) (VwL.cons (Vw.int rfl) (VwL.cons (Vw.flat mkC_len (fun m => VwL.mk3 m) h1 rfl (by rw [e]) (by rw [e]) rfl) (VwL.cons Vw.sl VwL.nil)))))) (VwL.cons (Vw.int rfl) VwL.nil) : VwL h 64 _ _).1
theorem other_views {h : List B} {L : List Int} {m : Mk} {N : Nat} (h1 : bget h 4 = some (.blk (ofI L) true)) (hN : L.length = N) : views h depth ([.ms 1 4 N 0 N false, .agg (mkC m)] ++ []) = some [.sl false N (ofI L), .agg (mkC m)] := by
  subst hN
  exact (VwL.cons (Vw.ints h1 rfl rfl rfl rfl) (VwL.cons (Vw.agg (VwL.mk3 m)) VwL.nil) : VwL h 64 _ _).1

end Go.Dr.T
