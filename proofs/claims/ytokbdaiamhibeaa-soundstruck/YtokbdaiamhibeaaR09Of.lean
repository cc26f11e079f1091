/- Chapter 09: what is possible at a frame is never empty; Off, both. -/
import Derived.Test.YtokbdaiamhibeaaR09Bj
namespace Go.Dr.T

theorem LoopP.byB {w : St → (X → St → Prop) → Prop} {m : List Bool} {hl : Nat} {tm : List V} {h : List B} {Q : X → St → Prop} {α : Type} (P : α → Prop) (us : α → List (Nat × V)) (bs : α → List (Nat × B)) (μ : α → Nat) (a0 : α) (p0 : P a0)
    (h0 : (⟨tm, h⟩ : St) = ⟨upds tm (us a0), bupds h (bs a0)⟩)
    (step : ∀ a, P a → fV (upds tm (us a)) fun tm' => fB (bupds h (bs a)) fun h' => w ⟨tm', h'⟩ fun x s => match x with
      | .nrm => NextP P (fun a => (⟨upds tm (us a), bupds h (bs a)⟩ : St)) μ a (norm m hl s)
      | x => Q x s) : LoopP w m hl ⟨tm, h⟩ Q := LoopP.by P us (fun a => bupds h (bs a)) μ a0 p0 h0 step
theorem Vw.rp {h : List B} {d n : Nat} {c : List V} : Vw h (d + 1) (.rp c n) (.rp c n) := ⟨rfl⟩

/-! what all marks taken allow -/
theorem fold_nar {g : Nat → Int × Int} : ∀ {r : List Nat} {s : Int × Int}, ((r.foldl (narS g) s).1 = s.1 ∨ ∃ k ∈ r, (r.foldl (narS g) s).1 = (g k).1) ∧ ((r.foldl (narS g) s).2 = s.2 ∨ ∃ k ∈ r, (r.foldl (narS g) s).2 = (g k).2)
  | [], s => ⟨.inl rfl, .inl rfl⟩
  | k :: r, s => by
    obtain ⟨h1, h2⟩ := fold_nar (g := g) (r := r) (s := narS g s k)
    simp only [List.foldl_cons]
    constructor
    · rcases h1 with h1 | ⟨j, hj, h1⟩
      · rw [h1]
        simp only [narS]
        rcases Int.le_total s.1 (g k).1 with q | q
        · exact .inr ⟨k, by simp, by omega⟩
        · exact .inl (by omega)
      · exact .inr ⟨j, by simp [hj], h1⟩
    · rcases h2 with h2 | ⟨j, hj, h2⟩
      · rw [h2]
        simp only [narS]
        rcases Int.le_total s.2 (g k).2 with q | q
        · exact .inl (by omega)
        · exact .inr ⟨k, by simp, by omega⟩
      · exact .inr ⟨j, by simp [hj], h2⟩
theorem fold_in {g : Nat → Int × Int} : ∀ {r : List Nat} {s : Int × Int}, s.1 ≤ (r.foldl (narS g) s).1 ∧ (r.foldl (narS g) s).2 ≤ s.2 ∧ ∀ k ∈ r, (g k).1 ≤ (r.foldl (narS g) s).1 ∧ (r.foldl (narS g) s).2 ≤ (g k).2
  | [], s => ⟨Int.le_refl _, Int.le_refl _, by simp⟩
  | k :: r, s => by
    obtain ⟨h1, h2, h3⟩ := fold_in (g := g) (r := r) (s := narS g s k)
    simp only [List.foldl_cons]
    have e1 : (narS g s k).1 = max s.1 (g k).1 := rfl
    have e2 : (narS g s k).2 = min s.2 (g k).2 := rfl
    rw [e1] at h1
    rw [e2] at h2
    refine ⟨by omega, by omega, fun j hj => ?_⟩
    rcases List.mem_cons.1 hj with rfl | hj
    · omega
    · exact h3 j hj
/-- the span that marks allow: its ends are those of some marks, and it is in all of theirs. -/
theorem atS_ends {g : Nat → Int × Int} {ks : List Nat} (h : 0 < ks.length) : (∃ k ∈ ks, (atS g ks).1 = (g k).1) ∧ (∃ k ∈ ks, (atS g ks).2 = (g k).2) := by
  cases ks with
  | nil => simp at h
  | cons k r =>
    obtain ⟨h1, h2⟩ := fold_nar (g := g) (r := r) (s := g k)
    constructor
    · rcases h1 with h1 | ⟨j, hj, h1⟩
      · exact ⟨k, by simp, h1⟩
      · exact ⟨j, by simp [hj], h1⟩
    · rcases h2 with h2 | ⟨j, hj, h2⟩
      · exact ⟨k, by simp, h2⟩
      · exact ⟨j, by simp [hj], h2⟩
theorem atS_in {g : Nat → Int × Int} {ks : List Nat} : ∀ k ∈ ks, (g k).1 ≤ (atS g ks).1 ∧ (atS g ks).2 ≤ (g k).2 := by
  cases ks with
  | nil => simp
  | cons k r =>
    obtain ⟨h1, h2, h3⟩ := fold_in (g := g) (r := r) (s := g k)
    intro j hj
    rcases List.mem_cons.1 hj with rfl | hj
    · exact ⟨h1, h2⟩
    · exact h3 j hj
theorem agn_false {lo hi : Int} {a b : Mk} (h : agn lo hi a b = false) : alLo lo hi a b.1 ≤ b.2.1 + b.2.2 ∧ b.2.1 - b.2.2 ≤ alHi lo hi a b.1 := by
  unfold agn at h
  simp only [Bool.or_eq_false_iff, decide_eq_false_iff_not] at h
  omega
/-- two marks that do not contradict each other leave something at each frame. -/
theorem pair_le {lo hi : Int} {a b : Mk} (h : agn lo hi a b = false) (f : Int) : alLo lo hi a f ≤ alHi lo hi b f ∧ alLo lo hi b f ≤ alHi lo hi a f := by
  obtain ⟨h1, h2⟩ := agn_false h
  unfold alLo alHi at *
  have e : f - a.1 = (b.1 - a.1) + (f - b.1) := by omega
  rw [e, Int.add_mul, Int.add_mul]
  generalize (b.1 - a.1) * lo = y1 at *
  generalize (b.1 - a.1) * hi = y2 at *
  generalize (f - b.1) * lo = z1 at *
  generalize (f - b.1) * hi = z2 at *
  omega
theorem own_le {lo hi : Int} {a : Mk} (h : 0 ≤ a.2.2) (f : Int) : alLo lo hi a f ≤ alHi lo hi a f := by unfold alLo alHi; omega
theorem fiF_none {p : Int → Bool} {l : List Int} {i : Nat} (h : fiF p i l < 0) : ∀ x ∈ l, p x = false := by
  intro x hx
  have := List.all_eq_true.1 (fiF_neg.1 h) x hx
  simpa using this
theorem hit_none {t : Tsk} {ks : List Nat} {b : Mk} (h : hitZ t ks b < 0) : ∀ k ∈ ks, agn t.lo t.hi (mAt t.ms k) b = false := by
  intro k hk
  have := fiF_none h (k : Int) (by unfold tkI; exact List.mem_map.2 ⟨k, hk, rfl⟩)
  simpa using this
theorem tkS_pairs (t : Tsk) : ∀ (i : Nat), ∀ k ∈ (tkS t i).1, ∀ k' ∈ (tkS t i).1, k < k' → agn t.lo t.hi (mAt t.ms k) (mAt t.ms k') = false
  | 0, k, h => by simp [tkS] at h
  | i + 1, k, h => by
    intro k' h' hlt
    simp only [tkS] at h h'
    split at h
    · rename_i hz
      rw [if_pos hz] at h'
      exact tkS_pairs t i k h k' h' hlt
    · rename_i hz
      rw [if_neg hz] at h'
      rcases List.mem_append.1 h with h | h
      · rcases List.mem_append.1 h' with h' | h'
        · exact tkS_pairs t i k h k' h' hlt
        · obtain rfl : k' = i := by simpa using h'
          exact hit_none (by omega) k h
      · obtain rfl : k = i := by simpa using h
        rcases List.mem_append.1 h' with h' | h'
        · have := tkS_lt t k k' h'; omega
        · have : k' = k := by simpa using h'
          omega
theorem whS_le {t : Tsk} (ht : OkT t) (h0 : 0 < t.ms.length) (f : Int) : (whS t f).1 ≤ (whS t f).2 := by
  obtain ⟨⟨k, hk, e1⟩, ⟨k', hk', e2⟩⟩ := atS_ends (g := atG t f) (tkS_pos t h0)
  unfold whS
  rw [e1, e2]
  unfold atG
  dsimp only
  have hkn := tkS_lt t _ k hk
  have hkn' := tkS_lt t _ k' hk'
  rcases Nat.lt_trichotomy k k' with h | h | h
  · exact (pair_le (tkS_pairs t _ k hk k' hk' h) f).1
  · subst h; exact own_le (ht.at hkn).2.2.1 f
  · exact (pair_le (tkS_pairs t _ k' hk' k hk h) f).2
theorem whS_range {t : Tsk} (ht : OkT t) (h0 : 0 < t.ms.length) {f : Int} (hf : 0 ≤ f ∧ f ≤ 20000) : -100000000000000 ≤ (whS t f).1 ∧ (whS t f).1 ≤ 100000000000000 ∧ -100000000000000 ≤ (whS t f).2 ∧ (whS t f).2 ≤ 100000000000000 := by
  obtain ⟨⟨k, hk, e1⟩, ⟨k', hk', e2⟩⟩ := atS_ends (g := atG t f) (tkS_pos t h0)
  have hfr := ht.fr; have hlo := ht.lo; have hhi := ht.hi
  have key := fun j (hj : j ∈ tkK t) => (by
    have hat := ht.at (tkS_lt t _ j hj)
    exact al_range (lo := t.lo) (hi := t.hi) (m := mAt t.ms j) ⟨by omega, by omega, by omega, by omega⟩ ⟨by omega, by omega, by omega⟩ hf :
    -100000000000000 ≤ alLo t.lo t.hi (mAt t.ms j) f ∧ alLo t.lo t.hi (mAt t.ms j) f ≤ 100000000000000 ∧ -100000000000000 ≤ alHi t.lo t.hi (mAt t.ms j) f ∧ alHi t.lo t.hi (mAt t.ms j) f ≤ 100000000000000)
  have q1 := key k hk
  have q2 := key k' hk'
  unfold whS
  rw [e1, e2]
  unfold atG
  dsimp only
  omega

/-! Off -/
def qF (sp : Int) (f : Nat) : Int := (sp * (f : Int)).tdiv 1000
theorem qF_facts {sp : Int} {f : Nat} (hs : 1 ≤ sp ∧ sp ≤ 4000000) (hf : f ≤ 20000) : IntKind.i64.wrap (sp * ((f : Nat) : Int)) = sp * ((f : Nat) : Int) ∧ IntKind.i64.wrap ((sp * ((f : Nat) : Int)).tdiv 1000) = qF sp f ∧ 0 ≤ qF sp f ∧ qF sp f ≤ 80000000000 := by
  have h0 : 0 ≤ sp * (f : Int) := Int.mul_nonneg (by omega) (by omega)
  have h1 : sp * (f : Int) ≤ 4000000 * 20000 := Int.mul_le_mul hs.2 (by omega) (by omega) (by omega)
  have h2 : 0 ≤ (sp * (f : Int)).tdiv 1000 := Int.tdiv_nonneg h0 (by omega)
  have h3 : (sp * (f : Int)).tdiv 1000 ≤ sp * (f : Int) := Int.tdiv_le_self _ h0
  unfold qF
  exact ⟨wrap_i64 (by omega) (by omega), wrap_i64 (by omega) (by omega), h2, by omega⟩
/-- by how much sound is off at most at the first f frames, and where. -/
def offL (t : Tsk) (sp b : Int) : Nat → Int × Int
  | 0 => (-1, 0)
  | f + 1 => if (offL t sp b f).1 < max ((whS t f).2 - (b + qF sp f)) (b + qF sp f - (whS t f).1) then (max ((whS t f).2 - (b + qF sp f)) (b + qF sp f - (whS t f).1), (f : Int)) else offL t sp b f
theorem offL_range {t : Tsk} {sp b : Int} (ht : OkT t) (h0 : 0 < t.ms.length) (hs : 1 ≤ sp ∧ sp ≤ 4000000) (hb : -1000000000 ≤ b ∧ b ≤ 1000000000) : ∀ {f : Nat}, f ≤ 20000 → -1 ≤ (offL t sp b f).1 ∧ (offL t sp b f).1 ≤ 200000000000000 ∧ 0 ≤ (offL t sp b f).2 ∧ (offL t sp b f).2 ≤ 20000
  | 0, _ => by simp [offL]
  | f + 1, hf => by
    have ih := offL_range ht h0 hs hb (f := f) (by omega)
    have hq := qF_facts (f := f) hs (by omega)
    have hr := whS_range ht h0 (f := (f : Int)) (by omega)
    simp only [offL]
    split
    · dsimp only; omega
    · exact ih
theorem frames_any (p : List V) (s : Int) : Fun F md 70 [.rp p 0, .int .i64 s] (.fn 99 [.rp [.rp p 0] 0, .rp [.int .i64 s] 0]) := by
  refine fun_of rfl rfl ?_
  repeat' (first
    | (conv => whnf)
      first
      | refine Br.t ?_
      | refine Br.f ?_
      | (refine Br.decT ?_ ?_; (focus first | assumption | omega))
      | (refine Br.decF ?_ ?_; (focus first | assumption | omega))
      | refine Br.dec (fun _ => ?_) (fun _ => ?_)
      | refine Br.not ?_
      | refine Br.and ?_
      | refine Br.or ?_
      | (refine Bnd.i64 ?_ ?_ ?_; (focus omega); (focus omega))
      | refine Vw.fn ?_
      | refine Vw.ref rfl rfl rfl ?_
      | refine Vw.rp
      | (refine Idx.nat ?_ ?_; (focus omega))
      | refine Idx.nat (le_big (by omega)) ?_
      | (refine Idx.int ?_ ?_ ?_; (focus omega); (focus omega))
      | (refine Idx.int ?_ ?_ ?_; (focus decide); (focus decide))
      | refine Ifz.zero ?_
      | (refine Ifz.pos ?_ ?_; (focus omega))
      | refine Get.mk _ rfl ?_
      | refine Leaves.of ?_
      | refine Ends.of ?_
      | refine Vw.bool ?_
      | refine Vw.int ?_
      | refine Vw.nil
      | refine Vw.sl
      | refine Vw.tup ?_
      | refine Vw.agg ?_
      | refine VwL.cons ?_ ?_
      | refine VwL.nil
      | refine LeavesF.of ?_
      | refine VwF.bool ?_
      | refine VwF.int ?_
      | refine VwF.nil
      | refine VwF.sl
      | refine VwF.tup ?_
      | refine VwF.agg ?_
      | refine VwLF.cons ?_ ?_
      | refine VwLF.nil
      | (refine Req.mk ?_ ?_; (focus first | rfl | decide | exact ⟨rfl, rfl⟩ | exact ⟨rfl, by decide⟩ | exact (fun _ => rfl) | exact (fun h => nomatch h) | (simp; done) | omega | (simp [big]; done) | exact le_big (by omega) | exact lt_big (by omega))))
  all_goals rfl
def offE (t : Tsk) (sp b : Int) : Int × Int × Int := if (chkT t).2.2 ≠ 0 then (0, 0, (chkT t).2.2) else if sp < 1 ∨ 4000000 < sp ∨ b < -1000000000 ∨ 1000000000 < b then (0, 0, 7) else if t.ms.length = 0 then (0, 0, 9) else ((offL t sp b t.fr.toNat).1, (offL t sp b t.fr.toNat).2, 0)
abbrev offV (r : Int × Int × Int) : V := .tup [.int .i64 r.1, .int .i64 r.2.1, .int .i64 r.2.2]
set_option maxRecDepth 100000 in
set_option maxHeartbeats 20000000 in
theorem off_ok {cm cs : Bool} {t : Tsk} {sp b : Int} (hc : chkT t = (0, 0, 0)) (ht : OkT t) (h0 : 0 < t.ms.length) (hs : 1 ≤ sp ∧ sp ≤ 4000000) (hb' : -1000000000 ≤ b ∧ b ≤ 1000000000) :
    Fun F md 35 [tskV cm cs t, .int .i64 sp, .int .i64 b] (offV ((offL t sp b t.fr.toNat).1, (offL t sp b t.fr.toNat).2, 0)) := by
  have hb := begin_ok (cm := cm) (cs := cs) ht hc
  unfold bgV syV at hb
  rw [bgSt_eq, bgTk_eq] at hb
  have hfr := ht.fr
  have hat := fun (f : Nat) (hf : f ≤ 20000) => at_ok (cm := cm) (cs := cs) (c := decide (t.ms.length = 0)) (st := .sl (decide ((tkT t).length = 0)) (tkT t).length (ofSp (tkT t))) ht h0 (f := (f : Int)) (by omega)
  have hrg := fun (f : Nat) (hf : f ≤ 20000) => whS_range ht h0 (f := (f : Int)) (by omega)
  unfold syV at hat
  generalize V.sl (decide (t.ms.length = 0)) (tkK t).length (tkC (tkK t)) = tk at *
  generalize V.sl (decide ((tkT t).length = 0)) (tkT t).length (ofSp (tkT t)) = st at *
  obtain ⟨N, hN⟩ : ∃ N : Nat, t.fr = (N : Int) := ⟨t.fr.toNat, by omega⟩
  rw [hN, Int.toNat_natCast]
  rw [hN] at hfr
  refine fun_of rfl rfl ?_
  repeat' (first
    | (conv => whnf)
      first
      | refine Br.t ?_
      | refine Br.f ?_
      | (refine Br.decT ?_ ?_; (focus first | assumption | omega))
      | (refine Br.decF ?_ ?_; (focus first | assumption | omega))
      | refine Br.dec (fun _ => ?_) (fun _ => ?_)
      | refine Br.not ?_
      | refine Br.and ?_
      | refine Br.or ?_
      | (refine Bnd.i64 ?_ ?_ ?_; (focus omega); (focus omega))
      | refine call_fun rfl rfl hb (.inl rfl) ?_
      | refine call_fun rfl rfl (out_any _ _ _) (.inl rfl) ?_
      | refine call_fun rfl rfl (frames_any _ _) (.inl rfl) ?_
      | refine call_one rfl rfl rfl ?_
      | (refine Idx.nat ?_ ?_; (focus omega))
      | refine Idx.nat (le_big (by omega)) ?_
      | (refine Idx.int ?_ ?_ ?_; (focus omega); (focus omega))
      | (refine Idx.int ?_ ?_ ?_; (focus decide); (focus decide))
      | refine Ifz.zero ?_
      | (refine Ifz.pos ?_ ?_; (focus omega))
      | refine Get.mk _ rfl ?_
      | refine Leaves.of ?_
      | refine Ends.of ?_
      | refine Vw.bool ?_
      | refine Vw.int ?_
      | refine Vw.nil
      | refine Vw.sl
      | refine Vw.tup ?_
      | refine Vw.agg ?_
      | refine VwL.cons ?_ ?_
      | refine VwL.nil
      | refine LeavesF.of ?_
      | refine VwF.bool ?_
      | refine VwF.int ?_
      | refine VwF.nil
      | refine VwF.sl
      | refine VwF.tup ?_
      | refine VwF.agg ?_
      | refine VwLF.cons ?_ ?_
      | refine VwLF.nil
      | (refine Req.mk ?_ ?_; (focus first | rfl | decide | exact ⟨rfl, rfl⟩ | exact ⟨rfl, by decide⟩ | exact (fun _ => rfl) | exact (fun h => nomatch h) | (simp; done) | omega | (simp [big]; done) | exact le_big (by omega) | exact lt_big (by omega))))
  all_goals try (exfalso; omega)
  refine LoopP.byB (fun i : Nat => i ≤ N) (fun i => [(12, .int .i64 (i : Nat))]) (fun i => [(2, .blk [.int .i64 (offL t sp b i).1] false), (3, .blk [.int .i64 (offL t sp b i).2] false)]) (fun i => N - i) 0 (Nat.zero_le _) rfl ?_
  intro i hi
  have hor := offL_range (t := t) (sp := sp) (b := b) ht h0 hs hb' (f := i) (by omega)
  by_cases hin : i < N
  · obtain ⟨hMul, hQ, hq0, hq1⟩ := qF_facts (f := i) hs (by omega)
    have hati := hat i (by omega)
    have hrgi := hrg i (by omega)
    have hnx : offL t sp b (i + 1) = if (offL t sp b i).1 < max ((whS t i).2 - (b + qF sp i)) (b + qF sp i - (whS t i).1) then (max ((whS t i).2 - (b + qF sp i)) (b + qF sp i - (whS t i).1), (i : Int)) else offL t sp b i := rfl
    generalize qF sp i = q at *
    generalize whS t (i : Int) = w at *
    generalize hon : offL t sp b (i + 1) = on at *
    generalize offL t sp b i = o at *
    obtain ⟨w1, w2⟩ := w
    obtain ⟨o1, o2⟩ := o
    dsimp only at hnx hati hrgi hor ⊢
    have hmx : max (w2 - q - b) (b - (w1 - q)) = max (w2 - (b + q)) (b + q - w1) := by omega
    generalize max (w2 - (b + q)) (b + q - w1) = n at *
    by_cases hlt : o1 < n
    · rw [if_pos hlt] at hnx
      subst hnx
      repeat' (first
        | (conv => whnf)
          first
          | refine Bnd.eq hMul ?_
          | refine Bnd.eq hQ ?_
          | refine Bnd.eq hmx ?_
          | refine Br.t ?_
          | refine Br.f ?_
          | (refine Br.decT ?_ ?_; (focus first | assumption | omega))
          | (refine Br.decF ?_ ?_; (focus first | assumption | omega))
          | refine Br.dec (fun _ => ?_) (fun _ => ?_)
          | refine Br.not ?_
          | refine Br.and ?_
          | refine Br.or ?_
          | (refine Bnd.i64 ?_ ?_ ?_; (focus omega); (focus omega))
          | refine call_fun rfl rfl hati (.inl rfl) ?_
          | refine call_yld rfl (Nat.zero_le _) rfl ?_
          | refine ⟨rfl, ?_⟩
          | (refine Idx.nat ?_ ?_; (focus omega))
          | refine Idx.nat (le_big (by omega)) ?_
          | (refine Idx.int ?_ ?_ ?_; (focus omega); (focus omega))
          | (refine Idx.int ?_ ?_ ?_; (focus decide); (focus decide))
          | refine Ifz.zero ?_
          | (refine Ifz.pos ?_ ?_; (focus omega))
          | refine Get.mk _ rfl ?_
          | refine Leaves.of ?_
          | refine Ends.of ?_
          | refine Vw.bool ?_
          | refine Vw.int ?_
          | refine Vw.nil
          | refine Vw.sl
          | refine Vw.tup ?_
          | refine Vw.agg ?_
          | refine VwL.cons ?_ ?_
          | refine VwL.nil
          | refine LeavesF.of ?_
          | refine VwF.bool ?_
          | refine VwF.int ?_
          | refine VwF.nil
          | refine VwF.sl
          | refine VwF.tup ?_
          | refine VwF.agg ?_
          | refine VwLF.cons ?_ ?_
          | refine VwLF.nil
          | (refine Req.mk ?_ ?_; (focus first | rfl | decide | exact ⟨rfl, rfl⟩ | exact ⟨rfl, by decide⟩ | exact (fun _ => rfl) | exact (fun h => nomatch h) | (simp; done) | omega | (simp [big]; done) | exact le_big (by omega) | exact lt_big (by omega))))
      all_goals first | exact NextP.mk (i + 1) (by omega) (by omega) (by rw [hon]; rfl) | (exfalso; omega)
    · rw [if_neg hlt] at hnx
      subst hnx
      repeat' (first
        | (conv => whnf)
          first
          | refine Bnd.eq hMul ?_
          | refine Bnd.eq hQ ?_
          | refine Bnd.eq hmx ?_
          | refine Br.t ?_
          | refine Br.f ?_
          | (refine Br.decT ?_ ?_; (focus first | assumption | omega))
          | (refine Br.decF ?_ ?_; (focus first | assumption | omega))
          | refine Br.dec (fun _ => ?_) (fun _ => ?_)
          | refine Br.not ?_
          | refine Br.and ?_
          | refine Br.or ?_
          | (refine Bnd.i64 ?_ ?_ ?_; (focus omega); (focus omega))
          | refine call_fun rfl rfl hati (.inl rfl) ?_
          | refine call_yld rfl (Nat.zero_le _) rfl ?_
          | refine ⟨rfl, ?_⟩
          | (refine Idx.nat ?_ ?_; (focus omega))
          | refine Idx.nat (le_big (by omega)) ?_
          | (refine Idx.int ?_ ?_ ?_; (focus omega); (focus omega))
          | (refine Idx.int ?_ ?_ ?_; (focus decide); (focus decide))
          | refine Ifz.zero ?_
          | (refine Ifz.pos ?_ ?_; (focus omega))
          | refine Get.mk _ rfl ?_
          | refine Leaves.of ?_
          | refine Ends.of ?_
          | refine Vw.bool ?_
          | refine Vw.int ?_
          | refine Vw.nil
          | refine Vw.sl
          | refine Vw.tup ?_
          | refine Vw.agg ?_
          | refine VwL.cons ?_ ?_
          | refine VwL.nil
          | refine LeavesF.of ?_
          | refine VwF.bool ?_
          | refine VwF.int ?_
          | refine VwF.nil
          | refine VwF.sl
          | refine VwF.tup ?_
          | refine VwF.agg ?_
          | refine VwLF.cons ?_ ?_
          | refine VwLF.nil
          | (refine Req.mk ?_ ?_; (focus first | rfl | decide | exact ⟨rfl, rfl⟩ | exact ⟨rfl, by decide⟩ | exact (fun _ => rfl) | exact (fun h => nomatch h) | (simp; done) | omega | (simp [big]; done) | exact le_big (by omega) | exact lt_big (by omega))))
      all_goals first | exact NextP.mk (i + 1) (by omega) (by omega) (by rw [hon]; rfl) | (exfalso; omega)
  · obtain rfl : i = N := by omega
    repeat' (first
      | (conv => whnf)
        first
        | refine Br.t ?_
        | refine Br.f ?_
        | (refine Br.decT ?_ ?_; (focus first | assumption | omega))
        | (refine Br.decF ?_ ?_; (focus first | assumption | omega))
        | refine Br.dec (fun _ => ?_) (fun _ => ?_)
        | refine Br.not ?_
        | refine Br.and ?_
        | refine Br.or ?_
        | (refine Bnd.i64 ?_ ?_ ?_; (focus omega); (focus omega))
        | (refine Idx.nat ?_ ?_; (focus omega))
        | refine Idx.nat (le_big (by omega)) ?_
        | (refine Idx.int ?_ ?_ ?_; (focus omega); (focus omega))
        | (refine Idx.int ?_ ?_ ?_; (focus decide); (focus decide))
        | refine Ifz.zero ?_
        | (refine Ifz.pos ?_ ?_; (focus omega))
        | refine Get.mk _ rfl ?_
        | refine Leaves.of ?_
        | refine Ends.of ?_
        | refine Vw.bool ?_
        | refine Vw.int ?_
        | refine Vw.nil
        | refine Vw.sl
        | refine Vw.tup ?_
        | refine Vw.agg ?_
        | refine VwL.cons ?_ ?_
        | refine VwL.nil
        | refine LeavesF.of ?_
        | refine VwF.bool ?_
        | refine VwF.int ?_
        | refine VwF.nil
        | refine VwF.sl
        | refine VwF.tup ?_
        | refine VwF.agg ?_
        | refine VwLF.cons ?_ ?_
        | refine VwLF.nil
        | (refine Req.mk ?_ ?_; (focus first | rfl | decide | exact ⟨rfl, rfl⟩ | exact ⟨rfl, by decide⟩ | exact (fun _ => rfl) | exact (fun h => nomatch h) | (simp; done) | omega | (simp [big]; done) | exact le_big (by omega) | exact lt_big (by omega))))
    all_goals first | rfl | (exfalso; omega)

set_option maxRecDepth 100000 in
set_option maxHeartbeats 20000000 in
theorem offR_ok {cm cs : Bool} {t : Tsk} {sp b : Int} (hc : chkT t = (0, 0, 0)) (ht : OkT t) (h0 : 0 < t.ms.length) (hs : 1 ≤ sp ∧ sp ≤ 4000000) (hb' : -1000000000 ≤ b ∧ b ≤ 1000000000) :
    Fun F md 36 [tskV cm cs t, .int .i64 sp, .int .i64 b] (offV ((offL t sp b t.fr.toNat).1, (offL t sp b t.fr.toNat).2, 0)) := by
  have hv := valid_any cm cs t
  rw [hc] at hv
  have hb := taken_ok (cm := cm) (cs := cs) ht
  rw [bgSt_eq, tkOut_eq] at hb
  have hfr := ht.fr
  have hw := fun (f : Nat) (hf : f ≤ 20000) => where_any (cm := cm) (cs := cs) (c := decide (t.ms.length = 0)) ht h0 (f := (f : Int)) (by omega)
  have hrg := fun (f : Nat) (hf : f ≤ 20000) => whS_range ht h0 (f := (f : Int)) (by omega)
  have hle := fun (f : Nat) => whS_le ht h0 (f : Int)
  generalize ofM (outM t (tkK t)) = C at *
  generalize (tkK t).length = L at *
  obtain ⟨N, hN⟩ : ∃ N : Nat, t.fr = (N : Int) := ⟨t.fr.toNat, by omega⟩
  rw [hN, Int.toNat_natCast]
  rw [hN] at hfr
  refine fun_of rfl rfl ?_
  repeat' (first
    | (conv => whnf)
      first
      | refine Br.t ?_
      | refine Br.f ?_
      | (refine Br.decT ?_ ?_; (focus first | assumption | omega))
      | (refine Br.decF ?_ ?_; (focus first | assumption | omega))
      | refine Br.dec (fun _ => ?_) (fun _ => ?_)
      | refine Br.not ?_
      | refine Br.and ?_
      | refine Br.or ?_
      | (refine Bnd.i64 ?_ ?_ ?_; (focus omega); (focus omega))
      | refine call_fun rfl rfl hb (.inl rfl) ?_
      | refine call_fun rfl rfl hv (.inl rfl) ?_
      | refine call_fun rfl rfl (in_any _ _ _) (.inl rfl) ?_
      | (refine Idx.nat ?_ ?_; (focus omega))
      | refine Idx.nat (le_big (by omega)) ?_
      | (refine Idx.int ?_ ?_ ?_; (focus omega); (focus omega))
      | (refine Idx.int ?_ ?_ ?_; (focus decide); (focus decide))
      | refine Ifz.zero ?_
      | (refine Ifz.pos ?_ ?_; (focus omega))
      | refine Get.mk _ rfl ?_
      | refine Leaves.of ?_
      | refine Ends.of ?_
      | refine Vw.bool ?_
      | refine Vw.int ?_
      | refine Vw.nil
      | refine Vw.sl
      | refine Vw.tup ?_
      | refine Vw.agg ?_
      | refine VwL.cons ?_ ?_
      | refine VwL.nil
      | refine LeavesF.of ?_
      | refine VwF.bool ?_
      | refine VwF.int ?_
      | refine VwF.nil
      | refine VwF.sl
      | refine VwF.tup ?_
      | refine VwF.agg ?_
      | refine VwLF.cons ?_ ?_
      | refine VwLF.nil
      | (refine Req.mk ?_ ?_; (focus first | rfl | decide | exact ⟨rfl, rfl⟩ | exact ⟨rfl, by decide⟩ | exact (fun _ => rfl) | exact (fun h => nomatch h) | (simp; done) | omega | (simp [big]; done) | exact le_big (by omega) | exact lt_big (by omega))))
  all_goals try (exfalso; omega)
  refine LoopP.byB (fun i : Nat => i ≤ N) (fun i => [(12, .int .i64 (offL t sp b i).1), (13, .int .i64 (offL t sp b i).2), (14, .int .i64 (i : Nat))]) (fun _ => []) (fun i => N - i) 0 (Nat.zero_le _) rfl ?_
  intro i hi
  have hor := offL_range (t := t) (sp := sp) (b := b) ht h0 hs hb' (f := i) (by omega)
  by_cases hin : i < N
  · obtain ⟨hMul, hQ, hq0, hq1⟩ := qF_facts (f := i) hs (by omega)
    have hati := hw i (by omega)
    have hrgi := hrg i (by omega)
    have hlei := hle i
    have hnx : offL t sp b (i + 1) = if (offL t sp b i).1 < max ((whS t i).2 - (b + qF sp i)) (b + qF sp i - (whS t i).1) then (max ((whS t i).2 - (b + qF sp i)) (b + qF sp i - (whS t i).1), (i : Int)) else offL t sp b i := rfl
    generalize qF sp i = q at *
    generalize whS t (i : Int) = w at *
    generalize hon : offL t sp b (i + 1) = on at *
    generalize offL t sp b i = o at *
    obtain ⟨w1, w2⟩ := w
    obtain ⟨o1, o2⟩ := o
    dsimp only at hnx hati hrgi hor hlei ⊢
    have hmx : max (max (max (w2 - (b + q)) (b + q - w2)) (w1 - (b + q))) (b + q - w1) = max (w2 - (b + q)) (b + q - w1) := by omega
    generalize max (w2 - (b + q)) (b + q - w1) = n at *
    by_cases hlt : o1 < n
    · rw [if_pos hlt] at hnx
      subst hnx
      repeat' (first
        | (conv => whnf)
          first
          | refine Bnd.eq hMul ?_
          | refine Bnd.eq hQ ?_
          | refine Bnd.eq hmx ?_
          | refine Br.t ?_
          | refine Br.f ?_
          | (refine Br.decT ?_ ?_; (focus first | assumption | omega))
          | (refine Br.decF ?_ ?_; (focus first | assumption | omega))
          | refine Br.dec (fun _ => ?_) (fun _ => ?_)
          | refine Br.not ?_
          | refine Br.and ?_
          | refine Br.or ?_
          | (refine Bnd.i64 ?_ ?_ ?_; (focus omega); (focus omega))
          | refine Bnd.any ?_
          | refine call_fun rfl rfl hati (.inl rfl) ?_
          | (refine Idx.nat ?_ ?_; (focus omega))
          | refine Idx.nat (le_big (by omega)) ?_
          | (refine Idx.int ?_ ?_ ?_; (focus omega); (focus omega))
          | (refine Idx.int ?_ ?_ ?_; (focus decide); (focus decide))
          | refine Ifz.zero ?_
          | (refine Ifz.pos ?_ ?_; (focus omega))
          | refine Get.mk _ rfl ?_
          | refine Leaves.of ?_
          | refine Ends.of ?_
          | refine Vw.bool ?_
          | refine Vw.int ?_
          | refine Vw.nil
          | refine Vw.sl
          | refine Vw.tup ?_
          | refine Vw.agg ?_
          | refine VwL.cons ?_ ?_
          | refine VwL.nil
          | refine LeavesF.of ?_
          | refine VwF.bool ?_
          | refine VwF.int ?_
          | refine VwF.nil
          | refine VwF.sl
          | refine VwF.tup ?_
          | refine VwF.agg ?_
          | refine VwLF.cons ?_ ?_
          | refine VwLF.nil
          | (refine Req.mk ?_ ?_; (focus first | rfl | decide | exact ⟨rfl, rfl⟩ | exact ⟨rfl, by decide⟩ | exact (fun _ => rfl) | exact (fun h => nomatch h) | (simp; done) | omega | (simp [big]; done) | exact le_big (by omega) | exact lt_big (by omega))))
      all_goals first | exact NextP.mk (i + 1) (by omega) (by omega) (by rw [hon]; rfl) | (exfalso; omega)
    · rw [if_neg hlt] at hnx
      subst hnx
      repeat' (first
        | (conv => whnf)
          first
          | refine Bnd.eq hMul ?_
          | refine Bnd.eq hQ ?_
          | refine Bnd.eq hmx ?_
          | refine Br.t ?_
          | refine Br.f ?_
          | (refine Br.decT ?_ ?_; (focus first | assumption | omega))
          | (refine Br.decF ?_ ?_; (focus first | assumption | omega))
          | refine Br.dec (fun _ => ?_) (fun _ => ?_)
          | refine Br.not ?_
          | refine Br.and ?_
          | refine Br.or ?_
          | (refine Bnd.i64 ?_ ?_ ?_; (focus omega); (focus omega))
          | refine Bnd.any ?_
          | refine call_fun rfl rfl hati (.inl rfl) ?_
          | (refine Idx.nat ?_ ?_; (focus omega))
          | refine Idx.nat (le_big (by omega)) ?_
          | (refine Idx.int ?_ ?_ ?_; (focus omega); (focus omega))
          | (refine Idx.int ?_ ?_ ?_; (focus decide); (focus decide))
          | refine Ifz.zero ?_
          | (refine Ifz.pos ?_ ?_; (focus omega))
          | refine Get.mk _ rfl ?_
          | refine Leaves.of ?_
          | refine Ends.of ?_
          | refine Vw.bool ?_
          | refine Vw.int ?_
          | refine Vw.nil
          | refine Vw.sl
          | refine Vw.tup ?_
          | refine Vw.agg ?_
          | refine VwL.cons ?_ ?_
          | refine VwL.nil
          | refine LeavesF.of ?_
          | refine VwF.bool ?_
          | refine VwF.int ?_
          | refine VwF.nil
          | refine VwF.sl
          | refine VwF.tup ?_
          | refine VwF.agg ?_
          | refine VwLF.cons ?_ ?_
          | refine VwLF.nil
          | (refine Req.mk ?_ ?_; (focus first | rfl | decide | exact ⟨rfl, rfl⟩ | exact ⟨rfl, by decide⟩ | exact (fun _ => rfl) | exact (fun h => nomatch h) | (simp; done) | omega | (simp [big]; done) | exact le_big (by omega) | exact lt_big (by omega))))
      all_goals first | exact NextP.mk (i + 1) (by omega) (by omega) (by rw [hon]; rfl) | (exfalso; omega)
  · obtain rfl : i = N := by omega
    repeat' (first
      | (conv => whnf)
        first
        | refine Br.t ?_
        | refine Br.f ?_
        | (refine Br.decT ?_ ?_; (focus first | assumption | omega))
        | (refine Br.decF ?_ ?_; (focus first | assumption | omega))
        | refine Br.dec (fun _ => ?_) (fun _ => ?_)
        | refine Br.not ?_
        | refine Br.and ?_
        | refine Br.or ?_
        | (refine Bnd.i64 ?_ ?_ ?_; (focus omega); (focus omega))
        | (refine Idx.nat ?_ ?_; (focus omega))
        | refine Idx.nat (le_big (by omega)) ?_
        | (refine Idx.int ?_ ?_ ?_; (focus omega); (focus omega))
        | (refine Idx.int ?_ ?_ ?_; (focus decide); (focus decide))
        | refine Ifz.zero ?_
        | (refine Ifz.pos ?_ ?_; (focus omega))
        | refine Get.mk _ rfl ?_
        | refine Leaves.of ?_
        | refine Ends.of ?_
        | refine Vw.bool ?_
        | refine Vw.int ?_
        | refine Vw.nil
        | refine Vw.sl
        | refine Vw.tup ?_
        | refine Vw.agg ?_
        | refine VwL.cons ?_ ?_
        | refine VwL.nil
        | refine LeavesF.of ?_
        | refine VwF.bool ?_
        | refine VwF.int ?_
        | refine VwF.nil
        | refine VwF.sl
        | refine VwF.tup ?_
        | refine VwF.agg ?_
        | refine VwLF.cons ?_ ?_
        | refine VwLF.nil
        | (refine Req.mk ?_ ?_; (focus first | rfl | decide | exact ⟨rfl, rfl⟩ | exact ⟨rfl, by decide⟩ | exact (fun _ => rfl) | exact (fun h => nomatch h) | (simp; done) | omega | (simp [big]; done) | exact le_big (by omega) | exact lt_big (by omega))))
    all_goals first | rfl | (exfalso; omega)
set_option maxRecDepth 100000 in
set_option maxHeartbeats 20000000 in
theorem off_any (cm cs : Bool) (t : Tsk) (sp b : Int) : Fun F md 35 [tskV cm cs t, .int .i64 sp, .int .i64 b] (offV (offE t sp b)) := by
  have hv : True := trivial
  unfold offE
  by_cases h : (chkT t).2.2 = 0
  · obtain ⟨hc, ht⟩ := chk_ok h
    have hfr := ht.fr
    have hgood := off_ok (cm := cm) (cs := cs) (t := t) (sp := sp) (b := b) hc ht
    have hb := begin_ok (cm := cm) (cs := cs) ht hc
    unfold bgV syV at hb
    rw [bgSt_eq, bgTk_eq] at hb
    simp only [h, ne_eq, not_true_eq_false, if_false]
    by_cases h1 : sp < 1 ∨ 4000000 < sp ∨ b < -1000000000 ∨ 1000000000 < b
    · rw [if_pos h1]
      refine fun_of rfl rfl ?_
      repeat' (first
        | (conv => whnf)
          first
          | refine Br.t ?_
          | refine Br.f ?_
          | (refine Br.decT ?_ ?_; (focus first | assumption | omega))
          | (refine Br.decF ?_ ?_; (focus first | assumption | omega))
          | refine Br.dec (fun _ => ?_) (fun _ => ?_)
          | refine Br.not ?_
          | refine Br.and ?_
          | refine Br.or ?_
          | (refine Bnd.i64 ?_ ?_ ?_; (focus omega); (focus omega))
          | refine call_fun rfl rfl hv (.inl rfl) ?_
          | refine call_fun rfl rfl hb (.inl rfl) ?_
          | refine call_fun rfl rfl (out_any _ _ _) (.inl rfl) ?_
          | (refine Idx.nat ?_ ?_; (focus omega))
          | refine Idx.nat (le_big (by omega)) ?_
          | (refine Idx.int ?_ ?_ ?_; (focus omega); (focus omega))
          | (refine Idx.int ?_ ?_ ?_; (focus decide); (focus decide))
          | refine Ifz.zero ?_
          | (refine Ifz.pos ?_ ?_; (focus omega))
          | refine Get.mk _ rfl ?_
          | refine Leaves.of ?_
          | refine Ends.of ?_
          | refine Vw.bool ?_
          | refine Vw.int ?_
          | refine Vw.nil
          | refine Vw.sl
          | refine Vw.tup ?_
          | refine Vw.agg ?_
          | refine VwL.cons ?_ ?_
          | refine VwL.nil
          | refine LeavesF.of ?_
          | refine VwF.bool ?_
          | refine VwF.int ?_
          | refine VwF.nil
          | refine VwF.sl
          | refine VwF.tup ?_
          | refine VwF.agg ?_
          | refine VwLF.cons ?_ ?_
          | refine VwLF.nil
          | (refine Req.mk ?_ ?_; (focus first | rfl | decide | exact ⟨rfl, rfl⟩ | exact ⟨rfl, by decide⟩ | exact (fun _ => rfl) | exact (fun h => nomatch h) | (simp; done) | omega | (simp [big]; done) | exact le_big (by omega) | exact lt_big (by omega))))
      all_goals first | rfl | (exfalso; omega)
    · rw [if_neg h1]
      by_cases h2 : t.ms.length = 0
      · rw [if_pos h2]
        refine fun_of rfl rfl ?_
        repeat' (first
          | (conv => whnf)
            first
            | refine Br.t ?_
            | refine Br.f ?_
            | (refine Br.decT ?_ ?_; (focus first | assumption | omega))
            | (refine Br.decF ?_ ?_; (focus first | assumption | omega))
            | refine Br.dec (fun _ => ?_) (fun _ => ?_)
            | refine Br.not ?_
            | refine Br.and ?_
            | refine Br.or ?_
            | (refine Bnd.i64 ?_ ?_ ?_; (focus omega); (focus omega))
            | refine call_fun rfl rfl hv (.inl rfl) ?_
            | refine call_fun rfl rfl hb (.inl rfl) ?_
            | refine call_fun rfl rfl (out_any _ _ _) (.inl rfl) ?_
            | (refine Idx.nat ?_ ?_; (focus omega))
            | refine Idx.nat (le_big (by omega)) ?_
            | (refine Idx.int ?_ ?_ ?_; (focus omega); (focus omega))
            | (refine Idx.int ?_ ?_ ?_; (focus decide); (focus decide))
            | refine Ifz.zero ?_
            | (refine Ifz.pos ?_ ?_; (focus omega))
            | refine Get.mk _ rfl ?_
            | refine Leaves.of ?_
            | refine Ends.of ?_
            | refine Vw.bool ?_
            | refine Vw.int ?_
            | refine Vw.nil
            | refine Vw.sl
            | refine Vw.tup ?_
            | refine Vw.agg ?_
            | refine VwL.cons ?_ ?_
            | refine VwL.nil
            | refine LeavesF.of ?_
            | refine VwF.bool ?_
            | refine VwF.int ?_
            | refine VwF.nil
            | refine VwF.sl
            | refine VwF.tup ?_
            | refine VwF.agg ?_
            | refine VwLF.cons ?_ ?_
            | refine VwLF.nil
            | (refine Req.mk ?_ ?_; (focus first | rfl | decide | exact ⟨rfl, rfl⟩ | exact ⟨rfl, by decide⟩ | exact (fun _ => rfl) | exact (fun h => nomatch h) | (simp; done) | omega | (simp [big]; done) | exact le_big (by omega) | exact lt_big (by omega))))
        all_goals first | rfl | (exfalso; omega)
      · rw [if_neg h2]
        exact hgood (by omega) (by omega) (by omega)
  · have hb := begin_bad (cm := cm) (cs := cs) (t := t) rfl h
    simp only [h, ne_eq, not_false_eq_true, if_true]
    generalize (chkT t).2.2 = k at *
    refine fun_of rfl rfl ?_
    repeat' (first
      | (conv => whnf)
        first
        | refine Br.t ?_
        | refine Br.f ?_
        | (refine Br.decT ?_ ?_; (focus first | assumption | omega))
        | (refine Br.decF ?_ ?_; (focus first | assumption | omega))
        | refine Br.dec (fun _ => ?_) (fun _ => ?_)
        | refine Br.not ?_
        | refine Br.and ?_
        | refine Br.or ?_
        | (refine Bnd.i64 ?_ ?_ ?_; (focus omega); (focus omega))
        | refine call_fun rfl rfl hv (.inl rfl) ?_
        | refine call_fun rfl rfl hb (.inl rfl) ?_
        | refine call_fun rfl rfl (out_any _ _ _) (.inl rfl) ?_
        | (refine Idx.nat ?_ ?_; (focus omega))
        | refine Idx.nat (le_big (by omega)) ?_
        | (refine Idx.int ?_ ?_ ?_; (focus omega); (focus omega))
        | (refine Idx.int ?_ ?_ ?_; (focus decide); (focus decide))
        | refine Ifz.zero ?_
        | (refine Ifz.pos ?_ ?_; (focus omega))
        | refine Get.mk _ rfl ?_
        | refine Leaves.of ?_
        | refine Ends.of ?_
        | refine Vw.bool ?_
        | refine Vw.int ?_
        | refine Vw.nil
        | refine Vw.sl
        | refine Vw.tup ?_
        | refine Vw.agg ?_
        | refine VwL.cons ?_ ?_
        | refine VwL.nil
        | refine LeavesF.of ?_
        | refine VwF.bool ?_
        | refine VwF.int ?_
        | refine VwF.nil
        | refine VwF.sl
        | refine VwF.tup ?_
        | refine VwF.agg ?_
        | refine VwLF.cons ?_ ?_
        | refine VwLF.nil
        | (refine Req.mk ?_ ?_; (focus first | rfl | decide | exact ⟨rfl, rfl⟩ | exact ⟨rfl, by decide⟩ | exact (fun _ => rfl) | exact (fun h => nomatch h) | (simp; done) | omega | (simp [big]; done) | exact le_big (by omega) | exact lt_big (by omega))))
    all_goals first | rfl | (exfalso; omega)
set_option maxRecDepth 100000 in
set_option maxHeartbeats 20000000 in
theorem offR_any (cm cs : Bool) (t : Tsk) (sp b : Int) : Fun F md 36 [tskV cm cs t, .int .i64 sp, .int .i64 b] (offV (offE t sp b)) := by
  have hv := valid_any cm cs t
  have hb : True := trivial
  unfold offE
  by_cases h : (chkT t).2.2 = 0
  · obtain ⟨hc, ht⟩ := chk_ok h
    have hfr := ht.fr
    have hgood := offR_ok (cm := cm) (cs := cs) (t := t) (sp := sp) (b := b) hc ht
    rw [h] at hv
    simp only [h, ne_eq, not_true_eq_false, if_false]
    by_cases h1 : sp < 1 ∨ 4000000 < sp ∨ b < -1000000000 ∨ 1000000000 < b
    · rw [if_pos h1]
      refine fun_of rfl rfl ?_
      repeat' (first
        | (conv => whnf)
          first
          | refine Br.t ?_
          | refine Br.f ?_
          | (refine Br.decT ?_ ?_; (focus first | assumption | omega))
          | (refine Br.decF ?_ ?_; (focus first | assumption | omega))
          | refine Br.dec (fun _ => ?_) (fun _ => ?_)
          | refine Br.not ?_
          | refine Br.and ?_
          | refine Br.or ?_
          | (refine Bnd.i64 ?_ ?_ ?_; (focus omega); (focus omega))
          | refine call_fun rfl rfl hv (.inl rfl) ?_
          | refine call_fun rfl rfl hb (.inl rfl) ?_
          | refine call_fun rfl rfl (in_any _ _ _) (.inl rfl) ?_
          | (refine Idx.nat ?_ ?_; (focus omega))
          | refine Idx.nat (le_big (by omega)) ?_
          | (refine Idx.int ?_ ?_ ?_; (focus omega); (focus omega))
          | (refine Idx.int ?_ ?_ ?_; (focus decide); (focus decide))
          | refine Ifz.zero ?_
          | (refine Ifz.pos ?_ ?_; (focus omega))
          | refine Get.mk _ rfl ?_
          | refine Leaves.of ?_
          | refine Ends.of ?_
          | refine Vw.bool ?_
          | refine Vw.int ?_
          | refine Vw.nil
          | refine Vw.sl
          | refine Vw.tup ?_
          | refine Vw.agg ?_
          | refine VwL.cons ?_ ?_
          | refine VwL.nil
          | refine LeavesF.of ?_
          | refine VwF.bool ?_
          | refine VwF.int ?_
          | refine VwF.nil
          | refine VwF.sl
          | refine VwF.tup ?_
          | refine VwF.agg ?_
          | refine VwLF.cons ?_ ?_
          | refine VwLF.nil
          | (refine Req.mk ?_ ?_; (focus first | rfl | decide | exact ⟨rfl, rfl⟩ | exact ⟨rfl, by decide⟩ | exact (fun _ => rfl) | exact (fun h => nomatch h) | (simp; done) | omega | (simp [big]; done) | exact le_big (by omega) | exact lt_big (by omega))))
      all_goals first | rfl | (exfalso; omega)
    · rw [if_neg h1]
      by_cases h2 : t.ms.length = 0
      · rw [if_pos h2]
        refine fun_of rfl rfl ?_
        repeat' (first
          | (conv => whnf)
            first
            | refine Br.t ?_
            | refine Br.f ?_
            | (refine Br.decT ?_ ?_; (focus first | assumption | omega))
            | (refine Br.decF ?_ ?_; (focus first | assumption | omega))
            | refine Br.dec (fun _ => ?_) (fun _ => ?_)
            | refine Br.not ?_
            | refine Br.and ?_
            | refine Br.or ?_
            | (refine Bnd.i64 ?_ ?_ ?_; (focus omega); (focus omega))
            | refine call_fun rfl rfl hv (.inl rfl) ?_
            | refine call_fun rfl rfl hb (.inl rfl) ?_
            | refine call_fun rfl rfl (in_any _ _ _) (.inl rfl) ?_
            | (refine Idx.nat ?_ ?_; (focus omega))
            | refine Idx.nat (le_big (by omega)) ?_
            | (refine Idx.int ?_ ?_ ?_; (focus omega); (focus omega))
            | (refine Idx.int ?_ ?_ ?_; (focus decide); (focus decide))
            | refine Ifz.zero ?_
            | (refine Ifz.pos ?_ ?_; (focus omega))
            | refine Get.mk _ rfl ?_
            | refine Leaves.of ?_
            | refine Ends.of ?_
            | refine Vw.bool ?_
            | refine Vw.int ?_
            | refine Vw.nil
            | refine Vw.sl
            | refine Vw.tup ?_
            | refine Vw.agg ?_
            | refine VwL.cons ?_ ?_
            | refine VwL.nil
            | refine LeavesF.of ?_
            | refine VwF.bool ?_
            | refine VwF.int ?_
            | refine VwF.nil
            | refine VwF.sl
            | refine VwF.tup ?_
            | refine VwF.agg ?_
            | refine VwLF.cons ?_ ?_
            | refine VwLF.nil
            | (refine Req.mk ?_ ?_; (focus first | rfl | decide | exact ⟨rfl, rfl⟩ | exact ⟨rfl, by decide⟩ | exact (fun _ => rfl) | exact (fun h => nomatch h) | (simp; done) | omega | (simp [big]; done) | exact le_big (by omega) | exact lt_big (by omega))))
        all_goals first | rfl | (exfalso; omega)
      · rw [if_neg h2]
        exact hgood (by omega) (by omega) (by omega)
  · skip
    simp only [h, ne_eq, not_false_eq_true, if_true]
    generalize (chkT t).2.2 = k at *
    refine fun_of rfl rfl ?_
    repeat' (first
      | (conv => whnf)
        first
        | refine Br.t ?_
        | refine Br.f ?_
        | (refine Br.decT ?_ ?_; (focus first | assumption | omega))
        | (refine Br.decF ?_ ?_; (focus first | assumption | omega))
        | refine Br.dec (fun _ => ?_) (fun _ => ?_)
        | refine Br.not ?_
        | refine Br.and ?_
        | refine Br.or ?_
        | (refine Bnd.i64 ?_ ?_ ?_; (focus omega); (focus omega))
        | refine call_fun rfl rfl hv (.inl rfl) ?_
        | refine call_fun rfl rfl hb (.inl rfl) ?_
        | refine call_fun rfl rfl (in_any _ _ _) (.inl rfl) ?_
        | (refine Idx.nat ?_ ?_; (focus omega))
        | refine Idx.nat (le_big (by omega)) ?_
        | (refine Idx.int ?_ ?_ ?_; (focus omega); (focus omega))
        | (refine Idx.int ?_ ?_ ?_; (focus decide); (focus decide))
        | refine Ifz.zero ?_
        | (refine Ifz.pos ?_ ?_; (focus omega))
        | refine Get.mk _ rfl ?_
        | refine Leaves.of ?_
        | refine Ends.of ?_
        | refine Vw.bool ?_
        | refine Vw.int ?_
        | refine Vw.nil
        | refine Vw.sl
        | refine Vw.tup ?_
        | refine Vw.agg ?_
        | refine VwL.cons ?_ ?_
        | refine VwL.nil
        | refine LeavesF.of ?_
        | refine VwF.bool ?_
        | refine VwF.int ?_
        | refine VwF.nil
        | refine VwF.sl
        | refine VwF.tup ?_
        | refine VwF.agg ?_
        | refine VwLF.cons ?_ ?_
        | refine VwLF.nil
        | (refine Req.mk ?_ ?_; (focus first | rfl | decide | exact ⟨rfl, rfl⟩ | exact ⟨rfl, by decide⟩ | exact (fun _ => rfl) | exact (fun h => nomatch h) | (simp; done) | omega | (simp [big]; done) | exact le_big (by omega) | exact lt_big (by omega))))
    all_goals first | rfl | (exfalso; omega)

end Go.Dr.T
