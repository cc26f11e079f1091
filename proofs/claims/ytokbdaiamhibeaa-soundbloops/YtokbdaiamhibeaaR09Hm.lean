/- Chapter 09: sums by rests; Mean, Hum, both. -/
import Derived.Test.YtokbdaiamhibeaaR09Sp
namespace Go.Dr.T

/-- the sum of the first i samples whose index has a rest, and how many they are. -/
def sumR (l : List Int) (p k : Nat) : Nat → Int
  | 0 => 0
  | i + 1 => sumR l p k i + if i % p = k then gI l i else 0
def cntR (p k : Nat) : Nat → Int
  | 0 => 0
  | i + 1 => cntR p k i + if i % p = k then 1 else 0
section
variable {l : List Int} {p k : Nat}
theorem sumR_range (hg : ∀ i, -1000000 ≤ gI l i ∧ gI l i ≤ 1000000) : ∀ i : Nat, -(1000000 * (i : Int)) ≤ sumR l p k i ∧ sumR l p k i ≤ 1000000 * (i : Int)
  | 0 => by simp [sumR]
  | i + 1 => by
    have := sumR_range hg i
    have := hg i
    simp only [sumR]
    split <;> omega
theorem cntR_range : ∀ i : Nat, 0 ≤ cntR p k i ∧ cntR p k i ≤ (i : Int)
  | 0 => by simp [cntR]
  | i + 1 => by
    have := cntR_range i
    simp only [cntR]
    split <;> omega
theorem cntR_mono : ∀ {j d : Nat}, cntR p k j ≤ cntR p k (j + d)
  | j, 0 => Int.le_refl _
  | j, d + 1 => by
    have := cntR_mono (j := j) (d := d)
    show cntR p k j ≤ cntR p k (j + d) + _
    split <;> omega
theorem cntR_pos {n : Nat} (hk : k < p) (hn : k < n) : 1 ≤ cntR p k n := by
  have h1 : cntR p k (k + 1) = cntR p k k + 1 := by simp [cntR, Nat.mod_eq_of_lt hk]
  have h2 := cntR_mono (p := p) (k := k) (j := k + 1) (d := n - (k + 1))
  rw [show k + 1 + (n - (k + 1)) = n by omega] at h2
  have := (cntR_range (p := p) (k := k) k).1
  omega
theorem rest_zero (hk : k < p) : ∀ {i : Nat}, i ≤ k → sumR l p k i = 0 ∧ cntR p k i = 0
  | 0, _ => ⟨rfl, rfl⟩
  | i + 1, h => by
    obtain ⟨h1, h2⟩ := rest_zero hk (i := i) (by omega)
    have hne : i % p ≠ k := by rw [Nat.mod_eq_of_lt (by omega)]; omega
    simp only [sumR, cntR]
    rw [h1, h2, if_neg hne, if_neg hne]
    simp
theorem rest_jump {i : Nat} (hi : i % p = k) : ∀ {d : Nat}, d + 1 ≤ p → sumR l p k (i + (d + 1)) = sumR l p k i + gI l i ∧ cntR p k (i + (d + 1)) = cntR p k i + 1
  | 0, _ => by simp [sumR, cntR, hi]
  | d + 1, h => by
    obtain ⟨h1, h2⟩ := rest_jump hi (d := d) (by omega)
    have hne : (i + (d + 1)) % p ≠ k := by
      rw [← hi]
      intro e
      have e1 := Nat.div_add_mod i p
      have e2 := Nat.div_add_mod (i + (d + 1)) p
      rw [e] at e2
      have hq : p * (i / p) + (d + 1) = p * ((i + (d + 1)) / p) := by omega
      have hlt : p * (i / p) < p * ((i + (d + 1)) / p) := by omega
      have hlt2 : i / p < (i + (d + 1)) / p := Nat.lt_of_mul_lt_mul_left hlt
      have := Nat.mul_le_mul_left p (show i / p + 1 ≤ (i + (d + 1)) / p by omega)
      rw [Nat.mul_add, Nat.mul_one] at this
      omega
    rw [show i + (d + 1 + 1) = i + (d + 1) + 1 by omega]
    simp only [sumR, cntR]
    rw [if_neg hne, if_neg hne, Int.add_zero, Int.add_zero]
    exact ⟨h1, h2⟩
theorem sumR_one (i : Nat) : sumR l 1 0 (i + 1) = sumR l 1 0 i + gI l i := by simp [sumR, Nat.mod_one]
theorem cntR_one : ∀ i : Nat, cntR 1 0 i = (i : Int)
  | 0 => rfl
  | i + 1 => by simp [cntR, Nat.mod_one, cntR_one i]
end
def meanR (l : List Int) (k p : Nat) : Int := sumR l p k l.length / cntR p k l.length

/-! Mean -/
set_option maxRecDepth 100000 in
set_option maxHeartbeats 20000000 in
theorem mean_any {c : Bool} {l : List Int} {k p : Nat} (hl : l.length ≤ 4000) (hk : k < p) (hkl : k < l.length) (hp : p ≤ 1000000) (hg' : ∀ i, -10000000 ≤ gI l i ∧ gI l i ≤ 10000000) :
    Fun F md 52 [.sl c l.length (ofI l), .int .i64 (k : Nat), .int .i64 (p : Nat)] (.int .i64 (meanR l k p)) := by
  have hsr : ∀ i : Nat, -(10000000 * (i : Int)) ≤ sumR l p k i ∧ sumR l p k i ≤ 10000000 * (i : Int) := by
    intro i
    induction i with
    | zero => simp [sumR]
    | succ i ih =>
      have := hg' i
      simp only [sumR]
      split <;> omega
  have hcr := cntR_range (p := p) (k := k)
  have hcp := cntR_pos (p := p) hk hkl
  have hD := downR_any (a := sumR l p k l.length) (b := cntR p k l.length) (by have := hsr l.length; unfold mid; omega) (by omega) (by have := hcr l.length; omega)
  have hz := rest_zero (l := l) (p := p) hk (i := k) (Nat.le_refl _)
  change Fun F md 76 _ (.int .i64 (meanR l k p)) at hD
  generalize meanR l k p = mv at *
  refine fun_of rfl rfl ?_
  repeat' (first
    | (conv => whnf)
      first
      | refine Br.t ?_
      | refine Br.f ?_
      | (refine Br.decT ?_ ?_; (focus first | assumption | omega))
      | (refine Br.decF ?_ ?_; (focus first | assumption | omega))
      | refine Br.dec (fun _ => ?_) (fun _ => ?_)
      | refine Br.not ?_
      | refine Br.and ?_
      | refine Br.or ?_
      | (refine Bnd.i64 ?_ ?_ ?_; (focus omega); (focus omega))
      | (refine Idx.nat ?_ ?_; (focus omega))
      | refine Idx.nat (le_big (by omega)) ?_
      | (refine Idx.int ?_ ?_ ?_; (focus omega); (focus omega))
      | (refine Idx.int ?_ ?_ ?_; (focus decide); (focus decide))
      | refine Ifz.zero ?_
      | (refine Ifz.pos ?_ ?_; (focus omega))
      | refine Get.mk _ rfl ?_
      | refine Leaves.of ?_
      | refine Ends.of ?_
      | refine Vw.bool ?_
      | refine Vw.int ?_
      | refine Vw.nil
      | refine Vw.sl
      | refine Vw.tup ?_
      | refine Vw.agg ?_
      | refine VwL.cons ?_ ?_
      | refine VwL.nil
      | refine LeavesF.of ?_
      | refine VwF.bool ?_
      | refine VwF.int ?_
      | refine VwF.nil
      | refine VwF.sl
      | refine VwF.tup ?_
      | refine VwF.agg ?_
      | refine VwLF.cons ?_ ?_
      | refine VwLF.nil
      | (refine Req.mk ?_ ?_; (focus first | rfl | decide | exact ⟨rfl, rfl⟩ | exact ⟨rfl, by decide⟩ | exact (fun _ => rfl) | exact (fun h => nomatch h) | (simp; done) | omega | (simp [big]; done) | exact le_big (by omega) | exact lt_big (by omega))))
  refine LoopP.by (fun i : Nat => i % p = k ∧ i < l.length + p) (fun i => [(7, .int .i64 (sumR l p k (min i l.length))), (8, .int .i64 (cntR p k (min i l.length))), (9, .int .i64 (i : Nat))]) (fun _ => []) (fun i => l.length + p - i) k ⟨Nat.mod_eq_of_lt hk, by omega⟩ (by rw [Nat.min_eq_left (by omega), hz.1, hz.2]; rfl) ?_
  rintro i ⟨him, hil⟩
  by_cases hin : i < l.length
  · have hc := gI_cell hin
    have hgi := hg' i
    have hsi := hsr i
    have hci := hcr i
    have hmn : min i l.length = i := by omega
    obtain ⟨d, hd⟩ : ∃ d, min (i + p) l.length = i + (d + 1) := ⟨min (i + p) l.length - i - 1, by omega⟩
    obtain ⟨j1, j2⟩ := rest_jump (l := l) him (d := d) (by omega)
    rw [← hd] at j1 j2
    rw [hmn]
    generalize hS2 : sumR l p k (min (i + p) l.length) = S2 at *
    generalize hK2 : cntR p k (min (i + p) l.length) = K2 at *
    generalize sumR l p k i = S at *
    generalize cntR p k i = K at *
    generalize gI l i = x at *
    repeat' (first
      | (conv => whnf)
        first
        | refine Br.t ?_
        | refine Br.f ?_
        | (refine Br.decT ?_ ?_; (focus first | assumption | omega))
        | (refine Br.decF ?_ ?_; (focus first | assumption | omega))
        | refine Br.dec (fun _ => ?_) (fun _ => ?_)
        | refine Br.not ?_
        | refine Br.and ?_
        | refine Br.or ?_
        | (refine Bnd.i64 ?_ ?_ ?_; (focus omega); (focus omega))
        | refine Get.mk _ hc ?_
        | (refine Idx.nat ?_ ?_; (focus omega))
        | refine Idx.nat (le_big (by omega)) ?_
        | (refine Idx.int ?_ ?_ ?_; (focus omega); (focus omega))
        | (refine Idx.int ?_ ?_ ?_; (focus decide); (focus decide))
        | refine Ifz.zero ?_
        | (refine Ifz.pos ?_ ?_; (focus omega))
        | refine Get.mk _ rfl ?_
        | refine Leaves.of ?_
        | refine Ends.of ?_
        | refine Vw.bool ?_
        | refine Vw.int ?_
        | refine Vw.nil
        | refine Vw.sl
        | refine Vw.tup ?_
        | refine Vw.agg ?_
        | refine VwL.cons ?_ ?_
        | refine VwL.nil
        | refine LeavesF.of ?_
        | refine VwF.bool ?_
        | refine VwF.int ?_
        | refine VwF.nil
        | refine VwF.sl
        | refine VwF.tup ?_
        | refine VwF.agg ?_
        | refine VwLF.cons ?_ ?_
        | refine VwLF.nil
        | (refine Req.mk ?_ ?_; (focus first | rfl | decide | exact ⟨rfl, rfl⟩ | exact ⟨rfl, by decide⟩ | exact (fun _ => rfl) | exact (fun h => nomatch h) | (simp; done) | omega | (simp [big]; done) | exact le_big (by omega) | exact lt_big (by omega))))
    all_goals first | exact NextP.mk (i + p) ⟨by rw [Nat.add_mod_right]; exact him, by omega⟩ (by omega) (by rw [hS2, hK2, j1, j2]; rfl) | (exfalso; omega)
  · have hmn : min i l.length = l.length := by omega
    rw [hmn]
    repeat' (first
      | (conv => whnf)
        first
        | refine Br.t ?_
        | refine Br.f ?_
        | (refine Br.decT ?_ ?_; (focus first | assumption | omega))
        | (refine Br.decF ?_ ?_; (focus first | assumption | omega))
        | refine Br.dec (fun _ => ?_) (fun _ => ?_)
        | refine Br.not ?_
        | refine Br.and ?_
        | refine Br.or ?_
        | (refine Bnd.i64 ?_ ?_ ?_; (focus omega); (focus omega))
        | refine call_fun rfl rfl hD (.inl rfl) ?_
        | (refine Idx.nat ?_ ?_; (focus omega))
        | refine Idx.nat (le_big (by omega)) ?_
        | (refine Idx.int ?_ ?_ ?_; (focus omega); (focus omega))
        | (refine Idx.int ?_ ?_ ?_; (focus decide); (focus decide))
        | refine Ifz.zero ?_
        | (refine Ifz.pos ?_ ?_; (focus omega))
        | refine Get.mk _ rfl ?_
        | refine Leaves.of ?_
        | refine Ends.of ?_
        | refine Vw.bool ?_
        | refine Vw.int ?_
        | refine Vw.nil
        | refine Vw.sl
        | refine Vw.tup ?_
        | refine Vw.agg ?_
        | refine VwL.cons ?_ ?_
        | refine VwL.nil
        | refine LeavesF.of ?_
        | refine VwF.bool ?_
        | refine VwF.int ?_
        | refine VwF.nil
        | refine VwF.sl
        | refine VwF.tup ?_
        | refine VwF.agg ?_
        | refine VwLF.cons ?_ ?_
        | refine VwLF.nil
        | (refine Req.mk ?_ ?_; (focus first | rfl | decide | exact ⟨rfl, rfl⟩ | exact ⟨rfl, by decide⟩ | exact (fun _ => rfl) | exact (fun h => nomatch h) | (simp; done) | omega | (simp [big]; done) | exact le_big (by omega) | exact lt_big (by omega))))
    all_goals first | rfl | (exfalso; omega)

/-! maps from the numbers from 0 on -/
def kMf (a : Nat) : Nat → List V
  | 0 => []
  | m + 1 => .int .i64 (a : Nat) :: kMf (a + 1) m
abbrev kM (m : Nat) : List V := kMf 0 m
def vals (f : Nat → Int) (m : Nat) : List V := (List.range m).map fun j => V.int .i64 (f j)
theorem mfind_kMf {r : Nat} : ∀ {m a : Nat}, mfind 0 (.int .i64 (r : Nat)) (kMf a m) a = if a ≤ r ∧ r < a + m then some (some r) else some none
  | 0, a => by
    rw [if_neg (by omega)]; rfl
  | m + 1, a => by
    simp only [kMf, mfind]
    have e : eq1 0 (.int .i64 (r : Nat)) (.int .i64 (a : Nat)) = some (decide ((r : Int) = (a : Int))) := by simp [eq1]
    rw [e]
    by_cases h : r = a
    · subst h
      rw [if_pos (by omega)]; simp
    · rw [decide_eq_false (by omega)]
      dsimp only
      rw [mfind_kMf (m := m) (a := a + 1)]
      by_cases q : a + 1 ≤ r ∧ r < a + 1 + m
      · rw [if_pos q, if_pos (by omega)]
      · rw [if_neg q, if_neg (by omega)]
theorem mfind_in {r m : Nat} (h : r < m) : mfind 0 (.int .i64 (r : Nat)) (kM m) 0 = some (some r) := by rw [mfind_kMf, if_pos (by omega)]
theorem mfind_out {r m : Nat} (h : m ≤ r) : mfind 0 (.int .i64 (r : Nat)) (kM m) 0 = some none := by rw [mfind_kMf, if_neg (by omega)]
theorem kMf_snoc : ∀ (m a : Nat), kMf a m ++ [.int .i64 ((a + m : Nat) : Int)] = kMf a (m + 1)
  | 0, a => rfl
  | m + 1, a => by
    have ih := kMf_snoc m (a + 1)
    simp only [kMf, List.cons_append]
    rw [show a + (m + 1) = a + 1 + m by omega, ih]
    simp only [kMf]
theorem kM_snoc (m : Nat) : kM m ++ [.int .i64 ((m : Nat) : Int)] = kM (m + 1) := by
  have := kMf_snoc m 0
  rwa [Nat.zero_add] at this
theorem tg_list : ∀ {l : List V} {i : Nat} (h : i < l.length), tg l i = l[i]
  | x :: l, 0, _ => rfl
  | x :: l, i + 1, h => tg_list (l := l) (i := i) (by simpa using h)
theorem tset_list : ∀ (l : List V) (i : Nat) (v : V), tset l i v = l.set i v
  | [], _, _ => rfl
  | x :: l, 0, v => rfl
  | x :: l, i + 1, v => by simp only [tset, List.set_cons_succ]; rw [tset_list l i v]
theorem vals_tg {f : Nat → Int} {m r : Nat} (h : r < m) : tg (vals f m) r = .int .i64 (f r) := by
  rw [tg_list (by simpa [vals] using h)]; simp [vals]
theorem vals_tset {f g : Nat → Int} {m r : Nat} (hg : ∀ j, j ≠ r → g j = f j) : tset (vals f m) r (.int .i64 (g r)) = vals g m := by
  rw [tset_list]
  refine List.ext_getElem (by simp [vals]) fun j h1 h2 => ?_
  rw [List.getElem_set]
  by_cases e : r = j
  · subst e; simp [vals]
  · rw [if_neg e]
    simp only [vals, List.getElem_map, List.getElem_range]
    rw [hg j (Ne.symm e)]
theorem vals_snoc {f g : Nat → Int} {m : Nat} (hg : ∀ j, j ≠ m → g j = f j) : vals f m ++ [.int .i64 (g m)] = vals g (m + 1) := by
  unfold vals
  rw [List.range_succ, List.map_append, List.map_singleton]
  congr 1
  refine List.map_congr_left fun j hj => ?_
  rw [hg j (by have := List.mem_range.1 hj; omega)]
theorem fWe {v v' : V} {K : V → Prop} (e : v = v') (h : K v') : fW v K := fW.mk (e ▸ h)

theorem div_in {a b n : Int} (ha : -n ≤ a ∧ a ≤ n) (hb : 1 ≤ b) : -n ≤ a / b ∧ a / b ≤ n := by
  have h1 := Int.emod_nonneg a (show b ≠ 0 by omega)
  have h2 := Int.emod_lt_of_pos a (show 0 < b by omega)
  have h3 := Int.mul_ediv_add_emod a b
  generalize a / b = q at *
  constructor
  · apply Int.not_lt.1
    intro hq
    have : b * q ≤ b * (-n - 1) := Int.mul_le_mul_of_nonneg_left (by omega) (by omega)
    have e : b * (-n - 1) ≤ -n - b := by
      have : 1 * (n + 1) ≤ b * (n + 1) := Int.mul_le_mul_of_nonneg_right hb (by omega)
      rw [show (-n - 1 : Int) = -(n + 1) by omega, Int.mul_neg, Int.mul_add, Int.mul_one]
      rw [Int.mul_add, Int.mul_one] at this
      have h5 : n ≤ b * n := by
        have := Int.mul_le_mul_of_nonneg_right hb (show 0 ≤ n by omega)
        rwa [Int.one_mul] at this
      omega
    omega
  · apply Int.not_lt.1
    intro hq
    have : b * (n + 1) ≤ b * q := Int.mul_le_mul_of_nonneg_left (by omega) (by omega)
    have h5 : n ≤ b * n := by
      have := Int.mul_le_mul_of_nonneg_right hb (show 0 ≤ n by omega)
      rwa [Int.one_mul] at this
    rw [Int.mul_add, Int.mul_one] at this
    omega
/-! Hum -/
def humX (l : List Int) (p k : Nat) : Int := meanR l k p - meanR l 0 1
abbrev hmS (l : List Int) (p i : Nat) : List V := vals (fun j => sumR l p j i) (min i p)
abbrev hmC (p i : Nat) : List V := vals (fun j => cntR p j i) (min i p)
set_option maxRecDepth 100000 in
set_option maxHeartbeats 20000000 in
theorem hum_okF {c : Bool} {l : List Int} {p : Nat} (hE : smpE l 1000000 = 0) (hp : 1 ≤ p) (hp5 : p ≤ 500) (hpl : p ≤ l.length) :
    FunF F md 46 [.sl c l.length (ofI l), .int .i64 (p : Nat)] (.tup [.sl (decide (p = p)) p (ofI (acc (humX l p) p)), .int .i64 0]) := by
  have hst := strange_any (c := c) (l := l) (m := 1000000) (by omega)
  rw [hE] at hst
  obtain ⟨hL, hin⟩ := smp_ok hE
  have hg := gI_in (m := 1000000) (by omega) hin
  have hpm : (p : Int) ≤ min 500 (l.length : Int) := by omega
  refine funF_of rfl rfl ?_
  repeat' (first
    | (conv => whnf)
      first
      | refine Br.t ?_
      | refine Br.f ?_
      | (refine Br.decT ?_ ?_; (focus first | assumption | omega))
      | (refine Br.decF ?_ ?_; (focus first | assumption | omega))
      | refine Br.dec (fun _ => ?_) (fun _ => ?_)
      | refine Br.not ?_
      | refine Br.and ?_
      | refine Br.or ?_
      | (refine Bnd.i64 ?_ ?_ ?_; (focus omega); (focus omega))
      | refine call_fun rfl rfl hst (.inl rfl) ?_
      | refine call_fun rfl rfl (out_any _ _ _) (.inl rfl) ?_
      | refine Bnd.any ?_
      | (refine Idx.nat ?_ ?_; (focus omega))
      | refine Idx.nat (le_big (by omega)) ?_
      | (refine Idx.int ?_ ?_ ?_; (focus omega); (focus omega))
      | (refine Idx.int ?_ ?_ ?_; (focus decide); (focus decide))
      | refine Ifz.zero ?_
      | (refine Ifz.pos ?_ ?_; (focus omega))
      | refine Get.mk _ rfl ?_
      | refine Leaves.of ?_
      | refine Ends.of ?_
      | refine Vw.bool ?_
      | refine Vw.int ?_
      | refine Vw.nil
      | refine Vw.sl
      | refine Vw.tup ?_
      | refine Vw.agg ?_
      | refine VwL.cons ?_ ?_
      | refine VwL.nil
      | refine LeavesF.of ?_
      | refine VwF.bool ?_
      | refine VwF.int ?_
      | refine VwF.nil
      | refine VwF.sl
      | refine VwF.tup ?_
      | refine VwF.agg ?_
      | refine VwLF.cons ?_ ?_
      | refine VwLF.nil
      | (refine Req.mk ?_ ?_; (focus first | rfl | decide | exact ⟨rfl, rfl⟩ | exact ⟨rfl, by decide⟩ | exact (fun _ => rfl) | exact (fun h => nomatch h) | (simp; done) | omega | (simp [big]; done) | exact le_big (by omega) | exact lt_big (by omega))))
  all_goals try (exfalso; omega)
  refine LoopP.by (fun i : Nat => i ≤ l.length) (fun i => [(7, .int .i64 (sumR l 1 0 i)), (33, .int .i64 (i : Nat))]) (fun i => [.mp (kM (min i p)) (hmS l p i), .mp (kM (min i p)) (hmC p i)]) (fun i => l.length - i) 0 (Nat.zero_le _) (by rw [Nat.zero_min]; rfl) ?_
  intro i hi
  by_cases hin' : i < l.length
  · have hc := gI_cell hin'
    have hgi := hg i
    have hs1 := sumR_range (l := l) (p := 1) (k := 0) hg i
    have hall := sumR_one (l := l) i
    have hR : (i : Int).tmod (p : Int) = ((i % p : Nat) : Int) := Int.ofNat_tmod _ _
    have hrp : i % p < p := Nat.mod_lt _ (by omega)
    have hsr := sumR_range (l := l) (p := p) (k := i % p) hg i
    have hcr := cntR_range (p := p) (k := i % p) i
    have hsn : sumR l p (i % p) (i + 1) = sumR l p (i % p) i + gI l i := by simp [sumR]
    have hcn : cntR p (i % p) (i + 1) = cntR p (i % p) i + 1 := by simp [cntR]
    have hso : ∀ j, j ≠ i % p → sumR l p j (i + 1) = sumR l p j i := by intro j hj; simp only [sumR]; rw [if_neg (Ne.symm hj), Int.add_zero]
    have hco : ∀ j, j ≠ i % p → cntR p j (i + 1) = cntR p j i := by intro j hj; simp only [cntR]; rw [if_neg (Ne.symm hj), Int.add_zero]
    by_cases hip : i < p
    · have hmod : i % p = i := Nat.mod_eq_of_lt hip
      rw [hmod] at hR hsn hcn hso hco
      obtain ⟨z1, z2⟩ := rest_zero (l := l) (p := p) (k := i) hip (i := i) (Nat.le_refl _)
      rw [z1] at hsn
      rw [z2] at hcn
      have hm1 : min i p = i := by omega
      have hm2 : min (i + 1) p = i + 1 := by omega
      have hf := mfind_out (r := i) (m := i) (Nat.le_refl _)
      have hk := kM_snoc i
      have hv1 := vals_snoc (f := fun j => sumR l p j i) (g := fun j => sumR l p j (i + 1)) (m := i) hso
      have hv2 := vals_snoc (f := fun j => cntR p j i) (g := fun j => cntR p j (i + 1)) (m := i) hco
      rw [hsn] at hv1
      rw [hcn] at hv2
      have qA : hmS l p i = vals (fun j => sumR l p j i) i := by unfold hmS; rw [hm1]
      have qB : hmC p i = vals (fun j => cntR p j i) i := by unfold hmC; rw [hm1]
      have qA1 : hmS l p (i + 1) = vals (fun j => sumR l p j (i + 1)) (i + 1) := by unfold hmS; rw [hm2]
      have qB1 : hmC p (i + 1) = vals (fun j => cntR p j (i + 1)) (i + 1) := by unfold hmC; rw [hm2]
      rw [← qA, ← qA1] at hv1
      rw [← qB, ← qB1] at hv2
      clear qA qB qA1 qB1
      rw [hm1]
      generalize hmS l p i = A0 at *
      generalize hmC p i = B0 at *
      generalize hA1 : hmS l p (i + 1) = A1 at *
      generalize hB1 : hmC p (i + 1) = B1 at *
      generalize kM i = K0 at *
      generalize hK1 : kM (i + 1) = K1 at *
      repeat' (first
        | (conv => whnf)
          first
          | refine Bnd.eq hR ?_
          | refine Br.t ?_
          | refine Br.f ?_
          | (refine Br.decT ?_ ?_; (focus first | assumption | omega))
          | (refine Br.decF ?_ ?_; (focus first | assumption | omega))
          | refine Br.dec (fun _ => ?_) (fun _ => ?_)
          | refine Br.not ?_
          | refine Br.and ?_
          | refine Br.or ?_
          | (refine Bnd.i64 ?_ ?_ ?_; (focus omega); (focus omega))
          | refine Req.mk (show (_ : Int) ≠ 0 by omega) ?_
          | refine Get.mk _ hc ?_
          | refine Get.mk _ hf ?_
          | refine fVe hk ?_
          | refine fVe hv1 ?_
          | refine fVe hv2 ?_
          | (refine Idx.nat ?_ ?_; (focus omega))
          | refine Idx.nat (le_big (by omega)) ?_
          | (refine Idx.int ?_ ?_ ?_; (focus omega); (focus omega))
          | (refine Idx.int ?_ ?_ ?_; (focus decide); (focus decide))
          | refine Ifz.zero ?_
          | (refine Ifz.pos ?_ ?_; (focus omega))
          | refine Get.mk _ rfl ?_
          | refine Leaves.of ?_
          | refine Ends.of ?_
          | refine Vw.bool ?_
          | refine Vw.int ?_
          | refine Vw.nil
          | refine Vw.sl
          | refine Vw.tup ?_
          | refine Vw.agg ?_
          | refine VwL.cons ?_ ?_
          | refine VwL.nil
          | refine LeavesF.of ?_
          | refine VwF.bool ?_
          | refine VwF.int ?_
          | refine VwF.nil
          | refine VwF.sl
          | refine VwF.tup ?_
          | refine VwF.agg ?_
          | refine VwLF.cons ?_ ?_
          | refine VwLF.nil
          | (refine Req.mk ?_ ?_; (focus first | rfl | decide | exact ⟨rfl, rfl⟩ | exact ⟨rfl, by decide⟩ | exact (fun _ => rfl) | exact (fun h => nomatch h) | (simp; done) | omega | (simp [big]; done) | exact le_big (by omega) | exact lt_big (by omega))))
      all_goals first | exact NextP.mk (i + 1) (by omega) (by omega) (by rw [hm2, hall, hA1, hB1, hK1]; rfl) | (exfalso; omega)
    · have hm1 : min i p = p := by omega
      have hm2 : min (i + 1) p = p := by omega
      have hf := mfind_in (r := i % p) (m := p) hrp
      have ht1 := vals_tg (f := fun j => sumR l p j i) hrp
      have ht2 := vals_tg (f := fun j => cntR p j i) hrp
      have hv1 := vals_tset (f := fun j => sumR l p j i) (g := fun j => sumR l p j (i + 1)) (m := p) hso
      have hv2 := vals_tset (f := fun j => cntR p j i) (g := fun j => cntR p j (i + 1)) (m := p) hco
      rw [hsn] at hv1
      rw [hcn] at hv2
      have qA : hmS l p i = vals (fun j => sumR l p j i) p := by unfold hmS; rw [hm1]
      have qB : hmC p i = vals (fun j => cntR p j i) p := by unfold hmC; rw [hm1]
      have qA1 : hmS l p (i + 1) = vals (fun j => sumR l p j (i + 1)) p := by unfold hmS; rw [hm2]
      have qB1 : hmC p (i + 1) = vals (fun j => cntR p j (i + 1)) p := by unfold hmC; rw [hm2]
      rw [← qA] at hv1 ht1
      rw [← qB] at hv2 ht2
      rw [← qA1] at hv1
      rw [← qB1] at hv2
      clear qA qB qA1 qB1
      rw [hm1]
      generalize hmS l p i = A0 at *
      generalize hmC p i = B0 at *
      generalize hA1 : hmS l p (i + 1) = A1 at *
      generalize hB1 : hmC p (i + 1) = B1 at *
      generalize hK0 : kM p = K0 at *
      repeat' (first
        | (conv => whnf)
          first
          | refine Bnd.eq hR ?_
          | refine Br.t ?_
          | refine Br.f ?_
          | (refine Br.decT ?_ ?_; (focus first | assumption | omega))
          | (refine Br.decF ?_ ?_; (focus first | assumption | omega))
          | refine Br.dec (fun _ => ?_) (fun _ => ?_)
          | refine Br.not ?_
          | refine Br.and ?_
          | refine Br.or ?_
          | (refine Bnd.i64 ?_ ?_ ?_; (focus omega); (focus omega))
          | refine Req.mk (show (_ : Int) ≠ 0 by omega) ?_
          | refine Get.mk _ hc ?_
          | refine Get.mk _ hf ?_
          | rw [ht1]
          | rw [ht2]
          | refine fVe hv1 ?_
          | refine fVe hv2 ?_
          | (refine Idx.nat ?_ ?_; (focus omega))
          | refine Idx.nat (le_big (by omega)) ?_
          | (refine Idx.int ?_ ?_ ?_; (focus omega); (focus omega))
          | (refine Idx.int ?_ ?_ ?_; (focus decide); (focus decide))
          | refine Ifz.zero ?_
          | (refine Ifz.pos ?_ ?_; (focus omega))
          | refine Get.mk _ rfl ?_
          | refine Leaves.of ?_
          | refine Ends.of ?_
          | refine Vw.bool ?_
          | refine Vw.int ?_
          | refine Vw.nil
          | refine Vw.sl
          | refine Vw.tup ?_
          | refine Vw.agg ?_
          | refine VwL.cons ?_ ?_
          | refine VwL.nil
          | refine LeavesF.of ?_
          | refine VwF.bool ?_
          | refine VwF.int ?_
          | refine VwF.nil
          | refine VwF.sl
          | refine VwF.tup ?_
          | refine VwF.agg ?_
          | refine VwLF.cons ?_ ?_
          | refine VwLF.nil
          | (refine Req.mk ?_ ?_; (focus first | rfl | decide | exact ⟨rfl, rfl⟩ | exact ⟨rfl, by decide⟩ | exact (fun _ => rfl) | exact (fun h => nomatch h) | (simp; done) | omega | (simp [big]; done) | exact le_big (by omega) | exact lt_big (by omega))))
      all_goals first | exact NextP.mk (i + 1) (by omega) (by omega) (by rw [hm2, hall, hA1, hB1, hK0]; rfl) | (exfalso; omega)
  · obtain rfl : i = l.length := by omega
    rw [show min l.length p = p by omega]
    have hs1 := sumR_range (l := l) (p := 1) (k := 0) hg l.length
    have hD2 := down_any (a := sumR l 1 0 l.length) (b := (l.length : Int)) (by unfold mid; omega) (by omega)
    have hm0 : sumR l 1 0 l.length / (l.length : Int) = meanR l 0 1 := by unfold meanR; rw [cntR_one]
    rw [hm0] at hD2
    have hD1 := fun k (hk : k < p) => (by
      have hsr := sumR_range (l := l) (p := p) (k := k) hg l.length
      have := cntR_pos (p := p) hk (n := l.length) (by omega)
      exact down_any (a := sumR l p k l.length) (b := cntR p k l.length) (by unfold mid; omega) (by omega) : Fun F md 74 [.int .i64 (sumR l p k l.length), .int .i64 (cntR p k l.length)] (.int .i64 (meanR l k p)))
    have hmr := fun k (hk : k < p) => (by
      have hsr := sumR_range (l := l) (p := p) (k := k) hg l.length
      have hcr := cntR_range (p := p) (k := k) l.length
      have hcp := cntR_pos (p := p) hk (n := l.length) (by omega)
      unfold meanR
      have e1 : -(4000000000 : Int) ≤ sumR l p k l.length := by omega
      have e2 : sumR l p k l.length ≤ 4000000000 := by omega
      exact div_in ⟨e1, e2⟩ hcp : -4000000000 ≤ meanR l k p ∧ meanR l k p ≤ 4000000000)
    have hm1r : -4000000000 ≤ meanR l 0 1 ∧ meanR l 0 1 ≤ 4000000000 := by
      unfold meanR
      rw [cntR_one]
      exact div_in ⟨by omega, by omega⟩ (by omega)
    have hvs := fun k (hk : k < p) => vals_tg (f := fun j => sumR l p j l.length) hk
    have hvc := fun k (hk : k < p) => vals_tg (f := fun j => cntR p j l.length) hk
    have qA : hmS l p l.length = vals (fun j => sumR l p j l.length) p := by unfold hmS; rw [show min l.length p = p by omega]
    have qB : hmC p l.length = vals (fun j => cntR p j l.length) p := by unfold hmC; rw [show min l.length p = p by omega]
    rw [← qA] at hvs
    rw [← qB] at hvc
    clear qA qB
    generalize hmS l p l.length = A0 at *
    generalize hmC p l.length = B0 at *
    have hlen : sumR l 1 0 l.length = sumR l 1 0 l.length := rfl
    generalize sumR l 1 0 l.length = all at *
    repeat' (first
      | (conv => whnf)
        first
        | refine Br.t ?_
        | refine Br.f ?_
        | (refine Br.decT ?_ ?_; (focus first | assumption | omega))
        | (refine Br.decF ?_ ?_; (focus first | assumption | omega))
        | refine Br.dec (fun _ => ?_) (fun _ => ?_)
        | refine Br.not ?_
        | refine Br.and ?_
        | refine Br.or ?_
        | (refine Bnd.i64 ?_ ?_ ?_; (focus omega); (focus omega))
        | (refine Idx.nat ?_ ?_; (focus omega))
        | refine Idx.nat (le_big (by omega)) ?_
        | (refine Idx.int ?_ ?_ ?_; (focus omega); (focus omega))
        | (refine Idx.int ?_ ?_ ?_; (focus decide); (focus decide))
        | refine Ifz.zero ?_
        | (refine Ifz.pos ?_ ?_; (focus omega))
        | refine Get.mk _ rfl ?_
        | refine Leaves.of ?_
        | refine Ends.of ?_
        | refine Vw.bool ?_
        | refine Vw.int ?_
        | refine Vw.nil
        | refine Vw.sl
        | refine Vw.tup ?_
        | refine Vw.agg ?_
        | refine VwL.cons ?_ ?_
        | refine VwL.nil
        | refine LeavesF.of ?_
        | refine VwF.bool ?_
        | refine VwF.int ?_
        | refine VwF.nil
        | refine VwF.sl
        | refine VwF.tup ?_
        | refine VwF.agg ?_
        | refine VwLF.cons ?_ ?_
        | refine VwLF.nil
        | (refine Req.mk ?_ ?_; (focus first | rfl | decide | exact ⟨rfl, rfl⟩ | exact ⟨rfl, by decide⟩ | exact (fun _ => rfl) | exact (fun h => nomatch h) | (simp; done) | omega | (simp [big]; done) | exact le_big (by omega) | exact lt_big (by omega))))
    all_goals try (exfalso; omega)
    refine LoopP.by (fun k : Nat => k ≤ p) (fun k => [(59, .int .i64 (k : Nat))]) (fun k => [.mp (kM p) A0, .mp (kM p) B0, .blk (ofI (pfx (humX l p) p k)) true]) (fun k => p - k) 0 (Nat.zero_le _) (by rw [← pfx_zero, ← reps_int]; rfl) ?_
    intro k hk
    by_cases hkp : k < p
    · have hf := mfind_in (r := k) (m := p) hkp
      have ht1 := hvs k hkp
      have ht2 := hvc k hkp
      have hD := hD1 k hkp
      have hmk := hmr k hkp
      have hl0 : (ofI (pfx (humX l p) p k)).length = p * 1 := by rw [ofI_length, pfx_length, Nat.mul_one]
      have hput := ofI_put0 (l := pfx (humX l p) p k) (i := k) (v := humX l p k) (by rw [pfx_length]; exact hkp)
      rw [pfx_set hkp] at hput
      generalize hC2 : ofI (pfx (humX l p) p (k + 1)) = C2 at *
      generalize ofI (pfx (humX l p) p k) = C0 at *
      unfold humX at hput
      generalize kM p = K0 at *
      generalize sumR l p k l.length = s1 at *
      generalize cntR p k l.length = s2 at *
      generalize meanR l k p = m1 at *
      generalize meanR l 0 1 = m0 at *
      repeat' (first
        | (conv => whnf)
          first
          | refine Br.t ?_
          | refine Br.f ?_
          | (refine Br.decT ?_ ?_; (focus first | assumption | omega))
          | (refine Br.decF ?_ ?_; (focus first | assumption | omega))
          | refine Br.dec (fun _ => ?_) (fun _ => ?_)
          | refine Br.not ?_
          | refine Br.and ?_
          | refine Br.or ?_
          | (refine Bnd.i64 ?_ ?_ ?_; (focus omega); (focus omega))
          | refine Get.mk _ hf ?_
          | rw [ht1]
          | rw [ht2]
          | refine fVe hput ?_
          | refine Req.mk hl0 ?_
          | refine Req.mk ⟨hl0, by omega⟩ ?_
          | refine call_fun rfl rfl hD (.inl rfl) ?_
          | refine call_fun rfl rfl hD2 (.inl rfl) ?_
          | (refine Idx.nat ?_ ?_; (focus omega))
          | refine Idx.nat (le_big (by omega)) ?_
          | (refine Idx.int ?_ ?_ ?_; (focus omega); (focus omega))
          | (refine Idx.int ?_ ?_ ?_; (focus decide); (focus decide))
          | refine Ifz.zero ?_
          | (refine Ifz.pos ?_ ?_; (focus omega))
          | refine Get.mk _ rfl ?_
          | refine Leaves.of ?_
          | refine Ends.of ?_
          | refine Vw.bool ?_
          | refine Vw.int ?_
          | refine Vw.nil
          | refine Vw.sl
          | refine Vw.tup ?_
          | refine Vw.agg ?_
          | refine VwL.cons ?_ ?_
          | refine VwL.nil
          | refine LeavesF.of ?_
          | refine VwF.bool ?_
          | refine VwF.int ?_
          | refine VwF.nil
          | refine VwF.sl
          | refine VwF.tup ?_
          | refine VwF.agg ?_
          | refine VwLF.cons ?_ ?_
          | refine VwLF.nil
          | (refine Req.mk ?_ ?_; (focus first | rfl | decide | exact ⟨rfl, rfl⟩ | exact ⟨rfl, by decide⟩ | exact (fun _ => rfl) | exact (fun h => nomatch h) | (simp; done) | omega | (simp [big]; done) | exact le_big (by omega) | exact lt_big (by omega))))
      all_goals first | exact NextP.mk (k + 1) (by omega) (by omega) (by rw [hC2]; rfl) | (exfalso; omega)
    · obtain rfl : k = p := by omega
      have hfull := pfx_full (humX l k) k
      repeat' (first
        | (conv => whnf)
          first
          | refine Br.t ?_
          | refine Br.f ?_
          | (refine Br.decT ?_ ?_; (focus first | assumption | omega))
          | (refine Br.decF ?_ ?_; (focus first | assumption | omega))
          | refine Br.dec (fun _ => ?_) (fun _ => ?_)
          | refine Br.not ?_
          | refine Br.and ?_
          | refine Br.or ?_
          | (refine Bnd.i64 ?_ ?_ ?_; (focus omega); (focus omega))
          | (refine Idx.nat ?_ ?_; (focus omega))
          | refine Idx.nat (le_big (by omega)) ?_
          | (refine Idx.int ?_ ?_ ?_; (focus omega); (focus omega))
          | (refine Idx.int ?_ ?_ ?_; (focus decide); (focus decide))
          | refine Ifz.zero ?_
          | (refine Ifz.pos ?_ ?_; (focus omega))
          | refine Get.mk _ rfl ?_
          | refine Leaves.of ?_
          | refine Ends.of ?_
          | refine Vw.bool ?_
          | refine Vw.int ?_
          | refine Vw.nil
          | refine Vw.sl
          | refine Vw.tup ?_
          | refine Vw.agg ?_
          | refine VwL.cons ?_ ?_
          | refine VwL.nil
          | refine LeavesF.of ?_
          | refine VwF.bool ?_
          | refine VwF.int ?_
          | refine VwF.nil
          | refine VwF.sl
          | refine VwF.tup ?_
          | refine VwF.agg ?_
          | refine VwLF.cons ?_ ?_
          | refine VwLF.nil
          | (refine Req.mk ?_ ?_; (focus first | rfl | decide | exact ⟨rfl, rfl⟩ | exact ⟨rfl, by decide⟩ | exact (fun _ => rfl) | exact (fun h => nomatch h) | (simp; done) | omega | (simp [big]; done) | exact le_big (by omega) | exact lt_big (by omega))))
      · refine VwF.ints rfl (by rw [hfull]; rfl) (by rw [acc_length, Nat.mul_one]) (by rw [acc_length]) (by rw [acc_length])
      all_goals first | rfl | (exfalso; omega)
theorem hum_ok {c : Bool} {l : List Int} {p : Nat} (hE : smpE l 1000000 = 0) (hp : 1 ≤ p) (hp5 : p ≤ 500) (hpl : p ≤ l.length) :
    Fun F md 46 [.sl c l.length (ofI l), .int .i64 (p : Nat)] (.tup [.sl (decide (p = p)) p (ofI (acc (humX l p) p)), .int .i64 0]) := (hum_okF hE hp hp5 hpl).any

end Go.Dr.T
