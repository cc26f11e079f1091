/- Chapter 09: which marks are taken: allowed samples, both; begin of the program. -/
import Derived.Test.YtokbdaiamhibeaaR09Ck
import Derived.Test.YtokbdaiamhibeaaR09Sp
import Derived.Test.YtokbdaiamhibeaaR09Al
namespace Go.Dr.T

/-- a task that is valid. -/
structure OkT (t : Tsk) : Prop where
  fr : 1 ≤ t.fr ∧ t.fr ≤ 20000
  lo : 1 ≤ t.lo ∧ t.lo ≤ 4000
  hi : 1 ≤ t.hi ∧ t.hi ≤ 4000
  le : t.lo ≤ t.hi
  many : t.ms.length ≤ 40
  ms : ∀ m ∈ t.ms, (0 ≤ m.1 ∧ m.1 ≤ t.fr - 1) ∧ (0 ≤ m.2.1 ∧ m.2.1 ≤ 100000000) ∧ (0 ≤ m.2.2 ∧ m.2.2 ≤ 100000000)
  sps : 1 ≤ t.sp.length ∧ t.sp.length ≤ 16
  sp : ∀ n ∈ t.sp, 1 ≤ n ∧ n ≤ 4000000
theorem mkE_ok {fr : Int} : ∀ {l : List Mk} {i : Nat}, mkE fr i l = none → ∀ m ∈ l, (0 ≤ m.1 ∧ m.1 ≤ fr - 1) ∧ (0 ≤ m.2.1 ∧ m.2.1 ≤ 100000000) ∧ (0 ≤ m.2.2 ∧ m.2.2 ≤ 100000000)
  | [], _, _, _, hm => by simp at hm
  | x :: l, i, h, m, hm => by
    simp only [mkE] at h
    split at h
    · cases h
    · split at h
      · cases h
      · rcases List.mem_cons.1 hm with rfl | hm
        · omega
        · exact mkE_ok h m hm
theorem spE_ok : ∀ {l : List Int} {i : Nat} {b : Int}, spE i b l = none → ∀ n ∈ l, 1 ≤ n ∧ n ≤ 4000000
  | [], _, _, _, _, hm => by simp at hm
  | x :: l, i, b, h, m, hm => by
    simp only [spE] at h
    split at h
    · cases h
    · split at h
      · cases h
      · rcases List.mem_cons.1 hm with rfl | hm
        · omega
        · exact spE_ok h m hm
theorem mkE_err {fr : Int} : ∀ {l : List Mk} {i j : Nat} {e : Int}, mkE fr i l = some (j, e) → e ≠ 0
  | [], _, _, _, h => by simp [mkE] at h
  | x :: l, i, j, e, h => by
    simp only [mkE] at h
    split at h
    · simp only [Option.some.injEq, Prod.mk.injEq] at h; omega
    · split at h
      · simp only [Option.some.injEq, Prod.mk.injEq] at h; omega
      · exact mkE_err h
theorem spE_err : ∀ {l : List Int} {i j : Nat} {b e : Int}, spE i b l = some (j, e) → e ≠ 0
  | [], _, _, _, _, h => by simp [spE] at h
  | x :: l, i, j, b, e, h => by
    simp only [spE] at h
    split at h
    · simp only [Option.some.injEq, Prod.mk.injEq] at h; omega
    · split at h
      · simp only [Option.some.injEq, Prod.mk.injEq] at h; omega
      · exact spE_err h
theorem chk_ok {t : Tsk} (h : (chkT t).2.2 = 0) : chkT t = (0, 0, 0) ∧ OkT t := by
  unfold chkT at h ⊢
  by_cases h1 : t.fr < 1 ∨ 20000 < t.fr ∨ t.lo < 1 ∨ 4000 < t.lo ∨ t.hi < 1 ∨ 4000 < t.hi
  · rw [if_pos h1] at h; cases h
  rw [if_neg h1] at h ⊢
  by_cases h2 : t.hi < t.lo
  · rw [if_pos h2] at h; cases h
  rw [if_neg h2] at h ⊢
  by_cases h3 : 40 < t.ms.length
  · rw [if_pos h3] at h; cases h
  rw [if_neg h3] at h ⊢
  cases hm : mkE t.fr 0 t.ms with
  | some x => obtain ⟨i, e⟩ := x; rw [hm] at h; exact absurd h (mkE_err hm)
  | none =>
    rw [hm] at h
    dsimp only at h ⊢
    by_cases h4 : t.sp.length < 1 ∨ 16 < t.sp.length
    · rw [if_pos h4] at h; cases h
    rw [if_neg h4] at h ⊢
    cases hs : spE 0 0 t.sp with
    | some x => obtain ⟨i, e⟩ := x; rw [hs] at h; exact absurd h (spE_err hs)
    | none => exact ⟨rfl, ⟨by omega, by omega, by omega, by omega, by omega, mkE_ok hm, by omega, spE_ok hs⟩⟩

def mAt (l : List Mk) (i : Nat) : Mk := l.getD i (0, 0, 0)
theorem mAt_get {l : List Mk} {i : Nat} (h : i < l.length) : mAt l i = l[i] := by
  unfold mAt; rw [List.getD_eq_getElem?_getD, List.getElem?_eq_getElem h]; rfl
theorem mAt_part {l : List Mk} {i : Nat} (h : i < l.length) : part (ofM l) (i * 3) 3 = some (mkC (mAt l i)) := by
  rw [mAt_get h]; exact flat_part mkC_len h
theorem OkT.at {t : Tsk} (h : OkT t) {i : Nat} (hi : i < t.ms.length) : (0 ≤ (mAt t.ms i).1 ∧ (mAt t.ms i).1 ≤ t.fr - 1) ∧ (0 ≤ (mAt t.ms i).2.1 ∧ (mAt t.ms i).2.1 ≤ 100000000) ∧ (0 ≤ (mAt t.ms i).2.2 ∧ (mAt t.ms i).2.2 ≤ 100000000) := by
  rw [mAt_get hi]; exact h.ms _ (List.getElem_mem hi)
/-- a mark that is taken leaves nothing of another one. -/
def agn (lo hi : Int) (a b : Mk) : Bool := decide (b.2.1 + b.2.2 < alLo lo hi a b.1) || decide (alHi lo hi a b.1 < b.2.1 - b.2.2)
abbrev frIn (m : Mk) : Prop := (0 ≤ m.1 ∧ m.1 ≤ 20000) ∧ (0 ≤ m.2.1 ∧ m.2.1 ≤ 100000000) ∧ (0 ≤ m.2.2 ∧ m.2.2 ≤ 100000000)
theorem al_range {lo hi f : Int} {m : Mk} (hr : okR lo hi) (hm : frIn m) (hf : 0 ≤ f ∧ f ≤ 20000) : -100000000000000 ≤ alLo lo hi m f ∧ alLo lo hi m f ≤ 100000000000000 ∧ -100000000000000 ≤ alHi lo hi m f ∧ alHi lo hi m f ≤ 100000000000000 := by
  obtain ⟨r1, r2, r3, r4⟩ := hr
  obtain ⟨h1, h2, h3⟩ := hm
  have key : ∀ n r : Int, (-20000 ≤ n ∧ n ≤ 20000) → (0 ≤ r ∧ r ≤ 1000000) → -20000000000 ≤ n * r ∧ n * r ≤ 20000000000 := by
    intro n r hn hr
    have a1 := Int.mul_le_mul_of_nonneg_right hn.1 hr.1
    have a2 := Int.mul_le_mul_of_nonneg_right hn.2 hr.1
    omega
  have k1 := key (f - m.1) lo (by omega) ⟨r1, r2⟩
  have k2 := key (f - m.1) hi (by omega) ⟨r3, r4⟩
  unfold alLo alHi
  omega

/-! the reference -/
set_option maxRecDepth 100000 in
set_option maxHeartbeats 20000000 in
theorem from_any {fr lo hi f : Int} {cm cs : Bool} {nm ns : Nat} {mk sp : List V} {m : Mk} (hr : okR lo hi) (hle : lo ≤ hi) (hm : frIn m) (hf : 0 ≤ f ∧ f ≤ 20000) :
    Fun F md 98 [.agg [.int .i64 fr, .int .i64 lo, .int .i64 hi, .sl cm nm mk, .sl cs ns sp], .agg (mkC m), .int .i64 f] (.agg [.int .i64 (alLo lo hi m f), .int .i64 (alHi lo hi m f)]) := by
  obtain ⟨a, s, e⟩ := m
  obtain ⟨r1, r2, r3, r4⟩ := hr
  obtain ⟨q1, q2, q3⟩ := hm
  dsimp only at q1 q2 q3
  have h1 := mul_in (n := f - a) (r := lo) (by omega) ⟨r1, r2⟩
  have h2 := mul_in (n := f - a) (r := hi) (by omega) ⟨r3, r4⟩
  have hcmp : (0 ≤ f - a → (f - a) * lo ≤ (f - a) * hi) ∧ (f - a ≤ 0 → (f - a) * hi ≤ (f - a) * lo) := ⟨fun h => Int.mul_le_mul_of_nonneg_left hle h, fun h => Int.mul_le_mul_of_nonpos_left h hle⟩
  unfold alLo alHi mkC
  dsimp only
  refine fun_of rfl rfl ?_
  repeat' (first
    | (conv => whnf)
      first
      | refine Br.t ?_
      | refine Br.f ?_
      | (refine Br.decT ?_ ?_; (focus first | assumption | omega))
      | (refine Br.decF ?_ ?_; (focus first | assumption | omega))
      | refine Br.dec (fun _ => ?_) (fun _ => ?_)
      | refine Br.not ?_
      | refine Br.and ?_
      | refine Br.or ?_
      | (refine Bnd.i64 ?_ ?_ ?_; (focus omega); (focus omega))
      | (refine Idx.nat ?_ ?_; (focus omega))
      | refine Idx.nat (le_big (by omega)) ?_
      | (refine Idx.int ?_ ?_ ?_; (focus omega); (focus omega))
      | (refine Idx.int ?_ ?_ ?_; (focus decide); (focus decide))
      | refine Ifz.zero ?_
      | (refine Ifz.pos ?_ ?_; (focus omega))
      | refine Get.mk _ rfl ?_
      | refine Leaves.of ?_
      | refine Ends.of ?_
      | refine Vw.bool ?_
      | refine Vw.int ?_
      | refine Vw.nil
      | refine Vw.sl
      | refine Vw.tup ?_
      | refine Vw.agg ?_
      | refine VwL.cons ?_ ?_
      | refine VwL.nil
      | refine LeavesF.of ?_
      | refine VwF.bool ?_
      | refine VwF.int ?_
      | refine VwF.nil
      | refine VwF.sl
      | refine VwF.tup ?_
      | refine VwF.agg ?_
      | refine VwLF.cons ?_ ?_
      | refine VwLF.nil
      | (refine Req.mk ?_ ?_; (focus first | rfl | decide | exact ⟨rfl, rfl⟩ | exact ⟨rfl, by decide⟩ | exact (fun _ => rfl) | exact (fun h => nomatch h) | (simp; done) | omega | (simp [big]; done) | exact le_big (by omega) | exact lt_big (by omega))))
  all_goals first | omega | rfl
set_option maxRecDepth 100000 in
set_option maxHeartbeats 20000000 in
theorem both_any {fr lo hi : Int} {cm cs : Bool} {nm ns : Nat} {mk sp : List V} {a b : Mk} (hr : okR lo hi) (hle : lo ≤ hi) (ha : frIn a) (hb : frIn b) :
    Fun F md 95 [.agg [.int .i64 fr, .int .i64 lo, .int .i64 hi, .sl cm nm mk, .sl cs ns sp], .agg (mkC a), .agg (mkC b)] (.bool (!agn lo hi a b)) := by
  have hF := from_any (fr := fr) (cm := cm) (cs := cs) (nm := nm) (ns := ns) (mk := mk) (sp := sp) (f := b.1) hr hle ha (by omega)
  have hrg := al_range (f := b.1) hr ha (by omega)
  have hw : alLo lo hi a b.1 ≤ alHi lo hi a b.1 := by unfold alLo alHi; omega
  have hag : (!agn lo hi a b) = decide (max (alLo lo hi a b.1) (b.2.1 - b.2.2) ≤ min (alHi lo hi a b.1) (b.2.1 + b.2.2)) := by
    unfold agn
    rw [Bool.not_or, ← decide_not, ← decide_not, ← Bool.decide_and]
    exact decide_eq_decide.2 (by omega)
  rw [hag]
  generalize alLo lo hi a b.1 = x at *
  generalize alHi lo hi a b.1 = y at *
  obtain ⟨f, s, e⟩ := b
  obtain ⟨a1, a2, a3⟩ := a
  obtain ⟨b1, b2, b3⟩ := hb
  dsimp only at *
  unfold mkC at *
  dsimp only at *
  refine fun_of rfl rfl ?_
  repeat' (first
    | (conv => whnf)
      first
      | refine Br.t ?_
      | refine Br.f ?_
      | (refine Br.decT ?_ ?_; (focus first | assumption | omega))
      | (refine Br.decF ?_ ?_; (focus first | assumption | omega))
      | refine Br.dec (fun _ => ?_) (fun _ => ?_)
      | refine Br.not ?_
      | refine Br.and ?_
      | refine Br.or ?_
      | (refine Bnd.i64 ?_ ?_ ?_; (focus omega); (focus omega))
      | refine call_fun rfl rfl hF (.inl rfl) ?_
      | refine Bnd.any ?_
      | (refine Idx.nat ?_ ?_; (focus omega))
      | refine Idx.nat (le_big (by omega)) ?_
      | (refine Idx.int ?_ ?_ ?_; (focus omega); (focus omega))
      | (refine Idx.int ?_ ?_ ?_; (focus decide); (focus decide))
      | refine Ifz.zero ?_
      | (refine Ifz.pos ?_ ?_; (focus omega))
      | refine Get.mk _ rfl ?_
      | refine Leaves.of ?_
      | refine Ends.of ?_
      | refine Vw.bool ?_
      | refine Vw.int ?_
      | refine Vw.nil
      | refine Vw.sl
      | refine Vw.tup ?_
      | refine Vw.agg ?_
      | refine VwL.cons ?_ ?_
      | refine VwL.nil
      | refine LeavesF.of ?_
      | refine VwF.bool ?_
      | refine VwF.int ?_
      | refine VwF.nil
      | refine VwF.sl
      | refine VwF.tup ?_
      | refine VwF.agg ?_
      | refine VwLF.cons ?_ ?_
      | refine VwLF.nil
      | (refine Req.mk ?_ ?_; (focus first | rfl | decide | exact ⟨rfl, rfl⟩ | exact ⟨rfl, by decide⟩ | exact (fun _ => rfl) | exact (fun h => nomatch h) | (simp; done) | omega | (simp [big]; done) | exact le_big (by omega) | exact lt_big (by omega))))
  all_goals first | omega | rfl

/-! the program -/
set_option maxRecDepth 100000 in
set_option maxHeartbeats 20000000 in
theorem against_any {fr lo hi : Int} {cm : Bool} {nm i : Nat} {mk : List V} {sp tk st : V} {a b : Mk} (hr : okR lo hi) (ha : frIn a) (hb : frIn b) (hin : i < nm) (hp : part mk (i * 3) 3 = some (mkC a)) :
    Fun F md 92 [.int .i64 (i : Nat), .rp [syV fr lo hi cm nm mk sp tk st] 0, .rp (mkC b) 0] (.bool (agn lo hi a b)) := by
  have hrg := al_range (f := b.1) hr ha (by omega)
  obtain ⟨f, s, e⟩ := b
  obtain ⟨a1, a2, a3⟩ := a
  obtain ⟨b1, b2, b3⟩ := hb
  obtain ⟨c1, c2, c3⟩ := ha
  dsimp only at *
  have hA := allowed_any (fr := fr) (a := a1) (s := a2) (e := a3) (cm := cm) (sp := sp) (tk := tk) (st := st) (f := f) hr ⟨by omega, by omega, by omega, by omega, by omega, by omega⟩ hin hp
  unfold agn
  dsimp only
  generalize alLo lo hi (a1, a2, a3) f = x at *
  generalize alHi lo hi (a1, a2, a3) f = y at *
  unfold mkC
  dsimp only
  refine fun_of rfl rfl ?_
  repeat' (first
    | (conv => whnf)
      first
      | refine Br.t ?_
      | refine Br.f ?_
      | (refine Br.decT ?_ ?_; (focus first | assumption | omega))
      | (refine Br.decF ?_ ?_; (focus first | assumption | omega))
      | refine Br.dec (fun _ => ?_) (fun _ => ?_)
      | refine Br.not ?_
      | refine Br.and ?_
      | refine Br.or ?_
      | (refine Bnd.i64 ?_ ?_ ?_; (focus omega); (focus omega))
      | refine call_fun rfl rfl hA (.inl rfl) ?_
      | (refine Idx.nat ?_ ?_; (focus omega))
      | refine Idx.nat (le_big (by omega)) ?_
      | (refine Idx.int ?_ ?_ ?_; (focus omega); (focus omega))
      | (refine Idx.int ?_ ?_ ?_; (focus decide); (focus decide))
      | refine Ifz.zero ?_
      | (refine Ifz.pos ?_ ?_; (focus omega))
      | refine Get.mk _ rfl ?_
      | refine Leaves.of ?_
      | refine Ends.of ?_
      | refine Vw.bool ?_
      | refine Vw.int ?_
      | refine Vw.nil
      | refine Vw.sl
      | refine Vw.tup ?_
      | refine Vw.agg ?_
      | refine VwL.cons ?_ ?_
      | refine VwL.nil
      | refine LeavesF.of ?_
      | refine VwF.bool ?_
      | refine VwF.int ?_
      | refine VwF.nil
      | refine VwF.sl
      | refine VwF.tup ?_
      | refine VwF.agg ?_
      | refine VwLF.cons ?_ ?_
      | refine VwLF.nil
      | (refine Req.mk ?_ ?_; (focus first | rfl | decide | exact ⟨rfl, rfl⟩ | exact ⟨rfl, by decide⟩ | exact (fun _ => rfl) | exact (fun h => nomatch h) | (simp; done) | omega | (simp [big]; done) | exact le_big (by omega) | exact lt_big (by omega))))
  all_goals first | rfl | (simp_all; done) | (simp_all; omega)

def tkI (ks : List Nat) : List Int := ks.map fun (k : Nat) => (k : Int)
theorem tkC_eq (ks : List Nat) : tkC ks = ofI (tkI ks) := by simp [tkC, tkI, ofI]
theorem tkC_length (ks : List Nat) : (tkC ks).length = ks.length := by simp [tkC]
theorem tkI_length (ks : List Nat) : (tkI ks).length = ks.length := by simp [tkI]
set_option maxRecDepth 100000 in
set_option maxHeartbeats 20000000 in
theorem index_ag {c : Bool} {l : List Int} {cp dp : List V} {P : Int → Bool} (hl : l.length ≤ 1000000) (hcl : ∀ x ∈ l, Fun F md 92 [.int .i64 x, .rp cp 0, .rp dp 0] (.bool (P x))) :
    Fun F md 94 [.sl c l.length (l.map (V.int .i64)), .fn 92 [.rp cp 0, .rp dp 0]] (.int .i64 (fiF P 0 l)) := by
  refine fun_of rfl rfl ?_
  repeat' (first
    | (conv => whnf)
      first
      | refine Br.t ?_
      | refine Br.f ?_
      | (refine Br.decT ?_ ?_; (focus first | assumption | omega))
      | (refine Br.decF ?_ ?_; (focus first | assumption | omega))
      | refine Br.dec (fun _ => ?_) (fun _ => ?_)
      | refine Br.not ?_
      | refine Br.and ?_
      | refine Br.or ?_
      | (refine Bnd.i64 ?_ ?_ ?_; (focus omega); (focus omega))
      | (refine Idx.nat ?_ ?_; (focus omega))
      | refine Idx.nat (le_big (by omega)) ?_
      | (refine Idx.int ?_ ?_ ?_; (focus omega); (focus omega))
      | (refine Idx.int ?_ ?_ ?_; (focus decide); (focus decide))
      | refine Ifz.zero ?_
      | (refine Ifz.pos ?_ ?_; (focus omega))
      | refine Get.mk _ rfl ?_
      | refine Leaves.of ?_
      | refine Ends.of ?_
      | refine Vw.bool ?_
      | refine Vw.int ?_
      | refine Vw.nil
      | refine Vw.sl
      | refine Vw.tup ?_
      | refine Vw.agg ?_
      | refine VwL.cons ?_ ?_
      | refine VwL.nil
      | refine LeavesF.of ?_
      | refine VwF.bool ?_
      | refine VwF.int ?_
      | refine VwF.nil
      | refine VwF.sl
      | refine VwF.tup ?_
      | refine VwF.agg ?_
      | refine VwLF.cons ?_ ?_
      | refine VwLF.nil
      | (refine Req.mk ?_ ?_; (focus first | rfl | decide | exact ⟨rfl, rfl⟩ | exact ⟨rfl, by decide⟩ | exact (fun _ => rfl) | exact (fun h => nomatch h) | (simp; done) | omega | (simp [big]; done) | exact le_big (by omega) | exact lt_big (by omega))))
  refine LoopP.by (fun i : Nat => i ≤ l.length ∧ fiF P 0 l = fiF P i (l.drop i)) (fun i => [(8, .int .i64 (i : Nat))]) (fun _ => []) (fun i => l.length - i) 0 ⟨Nat.zero_le _, rfl⟩ rfl ?_
  rintro i ⟨hi, hd⟩
  by_cases hin : i < l.length
  · have hc := cellAt_ints hin
    rw [fiF_drop hin] at hd
    have hI := hcl l[i] (List.getElem_mem hin)
    generalize l[i] = x at *
    generalize P x = b at *
    cases b with
    | true =>
      rw [if_pos rfl] at hd
      rw [hd]
      repeat' (first
        | (conv => whnf)
          first
          | refine Br.t ?_
          | refine Br.f ?_
          | (refine Br.decT ?_ ?_; (focus first | assumption | omega))
          | (refine Br.decF ?_ ?_; (focus first | assumption | omega))
          | refine Br.dec (fun _ => ?_) (fun _ => ?_)
          | refine Br.not ?_
          | refine Br.and ?_
          | refine Br.or ?_
          | (refine Bnd.i64 ?_ ?_ ?_; (focus omega); (focus omega))
          | refine Get.mk _ hc ?_
          | refine call_fun rfl rfl hI (.inl rfl) ?_
          | (refine Idx.nat ?_ ?_; (focus omega))
          | refine Idx.nat (le_big (by omega)) ?_
          | (refine Idx.int ?_ ?_ ?_; (focus omega); (focus omega))
          | (refine Idx.int ?_ ?_ ?_; (focus decide); (focus decide))
          | refine Ifz.zero ?_
          | (refine Ifz.pos ?_ ?_; (focus omega))
          | refine Get.mk _ rfl ?_
          | refine Leaves.of ?_
          | refine Ends.of ?_
          | refine Vw.bool ?_
          | refine Vw.int ?_
          | refine Vw.nil
          | refine Vw.sl
          | refine Vw.tup ?_
          | refine Vw.agg ?_
          | refine VwL.cons ?_ ?_
          | refine VwL.nil
          | refine LeavesF.of ?_
          | refine VwF.bool ?_
          | refine VwF.int ?_
          | refine VwF.nil
          | refine VwF.sl
          | refine VwF.tup ?_
          | refine VwF.agg ?_
          | refine VwLF.cons ?_ ?_
          | refine VwLF.nil
          | (refine Req.mk ?_ ?_; (focus first | rfl | decide | exact ⟨rfl, rfl⟩ | exact ⟨rfl, by decide⟩ | exact (fun _ => rfl) | exact (fun h => nomatch h) | (simp; done) | omega | (simp [big]; done) | exact le_big (by omega) | exact lt_big (by omega))))
      all_goals first | rfl | (exfalso; omega)
    | false =>
      rw [if_neg (by simp)] at hd
      repeat' (first
        | (conv => whnf)
          first
          | refine Br.t ?_
          | refine Br.f ?_
          | (refine Br.decT ?_ ?_; (focus first | assumption | omega))
          | (refine Br.decF ?_ ?_; (focus first | assumption | omega))
          | refine Br.dec (fun _ => ?_) (fun _ => ?_)
          | refine Br.not ?_
          | refine Br.and ?_
          | refine Br.or ?_
          | (refine Bnd.i64 ?_ ?_ ?_; (focus omega); (focus omega))
          | refine Get.mk _ hc ?_
          | refine call_fun rfl rfl hI (.inl rfl) ?_
          | (refine Idx.nat ?_ ?_; (focus omega))
          | refine Idx.nat (le_big (by omega)) ?_
          | (refine Idx.int ?_ ?_ ?_; (focus omega); (focus omega))
          | (refine Idx.int ?_ ?_ ?_; (focus decide); (focus decide))
          | refine Ifz.zero ?_
          | (refine Ifz.pos ?_ ?_; (focus omega))
          | refine Get.mk _ rfl ?_
          | refine Leaves.of ?_
          | refine Ends.of ?_
          | refine Vw.bool ?_
          | refine Vw.int ?_
          | refine Vw.nil
          | refine Vw.sl
          | refine Vw.tup ?_
          | refine Vw.agg ?_
          | refine VwL.cons ?_ ?_
          | refine VwL.nil
          | refine LeavesF.of ?_
          | refine VwF.bool ?_
          | refine VwF.int ?_
          | refine VwF.nil
          | refine VwF.sl
          | refine VwF.tup ?_
          | refine VwF.agg ?_
          | refine VwLF.cons ?_ ?_
          | refine VwLF.nil
          | (refine Req.mk ?_ ?_; (focus first | rfl | decide | exact ⟨rfl, rfl⟩ | exact ⟨rfl, by decide⟩ | exact (fun _ => rfl) | exact (fun h => nomatch h) | (simp; done) | omega | (simp [big]; done) | exact le_big (by omega) | exact lt_big (by omega))))
      all_goals first | exact NextP.mk (i + 1) ⟨hin, hd⟩ (by omega) rfl | (exfalso; omega)
  · obtain rfl : i = l.length := by omega
    rw [List.drop_length] at hd
    rw [hd]
    repeat' (first
      | (conv => whnf)
        first
        | refine Br.t ?_
        | refine Br.f ?_
        | (refine Br.decT ?_ ?_; (focus first | assumption | omega))
        | (refine Br.decF ?_ ?_; (focus first | assumption | omega))
        | refine Br.dec (fun _ => ?_) (fun _ => ?_)
        | refine Br.not ?_
        | refine Br.and ?_
        | refine Br.or ?_
        | (refine Bnd.i64 ?_ ?_ ?_; (focus omega); (focus omega))
        | (refine Idx.nat ?_ ?_; (focus omega))
        | refine Idx.nat (le_big (by omega)) ?_
        | (refine Idx.int ?_ ?_ ?_; (focus omega); (focus omega))
        | (refine Idx.int ?_ ?_ ?_; (focus decide); (focus decide))
        | refine Ifz.zero ?_
        | (refine Ifz.pos ?_ ?_; (focus omega))
        | refine Get.mk _ rfl ?_
        | refine Leaves.of ?_
        | refine Ends.of ?_
        | refine Vw.bool ?_
        | refine Vw.int ?_
        | refine Vw.nil
        | refine Vw.sl
        | refine Vw.tup ?_
        | refine Vw.agg ?_
        | refine VwL.cons ?_ ?_
        | refine VwL.nil
        | refine LeavesF.of ?_
        | refine VwF.bool ?_
        | refine VwF.int ?_
        | refine VwF.nil
        | refine VwF.sl
        | refine VwF.tup ?_
        | refine VwF.agg ?_
        | refine VwLF.cons ?_ ?_
        | refine VwLF.nil
        | (refine Req.mk ?_ ?_; (focus first | rfl | decide | exact ⟨rfl, rfl⟩ | exact ⟨rfl, by decide⟩ | exact (fun _ => rfl) | exact (fun h => nomatch h) | (simp; done) | omega | (simp [big]; done) | exact le_big (by omega) | exact lt_big (by omega))))
    all_goals first | rfl | (exfalso; omega)
/-- the first mark taken that leaves nothing of another one. -/
def hitZ (t : Tsk) (ks : List Nat) (b : Mk) : Int := fiF (fun x => agn t.lo t.hi (mAt t.ms x.toNat) b) 0 (tkI ks)
/-- the marks that are taken, and those that are struck, behind the first i marks. -/
def tkS (t : Tsk) : Nat → List Nat × List (Int × Int)
  | 0 => ([], [])
  | i + 1 => if 0 ≤ hitZ t (tkS t i).1 (mAt t.ms i) then ((tkS t i).1, (tkS t i).2 ++ [(((i : Nat) : Int), (gI (tkI (tkS t i).1) (hitZ t (tkS t i).1 (mAt t.ms i)).toNat))]) else ((tkS t i).1 ++ [i], (tkS t i).2)
theorem tkS_lt (t : Tsk) : ∀ (i : Nat), ∀ k ∈ (tkS t i).1, k < i
  | 0, k, h => by simp [tkS] at h
  | i + 1, k, h => by
    simp only [tkS] at h
    split at h
    · have := tkS_lt t i k h; omega
    · rcases List.mem_append.1 h with h | h
      · have := tkS_lt t i k h; omega
      · simp at h; omega
theorem tkS_len (t : Tsk) : ∀ (i : Nat), (tkS t i).1.length ≤ i ∧ (tkS t i).2.length ≤ i
  | 0 => by simp [tkS]
  | i + 1 => by
    have := tkS_len t i
    simp only [tkS]
    split
    · simp; omega
    · simp; omega
theorem fiF_lt {p : Int → Bool} : ∀ {l : List Int} {i : Nat}, fiF p i l < (i + l.length : Nat)
  | [], i => by simp [fiF]; omega
  | x :: l, i => by
    have := fiF_lt (p := p) (l := l) (i := i + 1)
    simp only [fiF, List.length_cons]
    split
    · omega
    · omega
theorem hitZ_lt (t : Tsk) (ks : List Nat) (b : Mk) : hitZ t ks b < ks.length := by
  have := fiF_lt (p := fun x => agn t.lo t.hi (mAt t.ms x.toNat) b) (l := tkI ks) (i := 0)
  rw [tkI_length] at this
  unfold hitZ; omega

section
variable {h : List B} {d : Nat}
theorem Vw.fn {f : Nat} {l m : List V} (e : VwL h d l m) : Vw h (d + 1) (.fn f l) (.fn f m) := ⟨by simp only [V.view]; rw [e.1]; rfl⟩
theorem Vw.ref {id g off : Nat} {dat : Bool} {c cs r : List V} (h1 : bget h id = some (.blk c dat)) (h2 : c.length = g) (h3 : part c off (g - off) = some cs) (e : VwL h d cs r) : Vw h (d + 1) (.ref id g off) (.rp r 0) :=
  ⟨by simp only [V.view, h1, h2, if_true, h3, e.1]⟩
theorem VwL.mk3 (m : Mk) : VwL h (d + 1) (mkC m) (mkC m) := VwL.cons (Vw.int rfl) (VwL.cons (Vw.int rfl) (VwL.cons (Vw.int rfl) VwL.nil))
theorem Vw.tk {id g n : Nat} {clip dat : Bool} {ks : List Nat} (h1 : bget h id = some (.blk (tkC ks) dat)) (h2 : ks.length = g) (hn : ks.length = n) : Vw h (d + 1 + 1) (.ms 1 id g 0 n clip) (.sl clip n (tkC ks)) := by
  subst h2 hn
  rw [tkC_eq] at h1 ⊢
  have := Vw.ints (h := h) (d := d) (clip := clip) (l := tkI ks) (g := ks.length) (len := ks.length) (n := ks.length) h1 rfl (by rw [tkI_length]) (by rw [tkI_length]) (by rw [tkI_length])
  exact this
end
theorem bg_views {h : List B} {fr lo hi : Int} {cm cs : Bool} {nm ns j : Nat} {mk sp : List V} {tkv stv tk' st' : V} {b : Mk} (h2 : bget h 2 = some (.blk [.ref 1 7 0] false))
    (h1 : bget h 1 = some (.blk [.int .i64 fr, .int .i64 lo, .int .i64 hi, .sl cm nm mk, .sl cs ns sp, tkv, stv] false)) (hm : bget h j = some (.blk (mkC b) false))
    (ht : ∀ d, Vw h (d + 1 + 1) tkv tk') (hs : ∀ d, Vw h (d + 1 + 1) stv st') :
    views h depth ([tkv, .fn 92 [.ref 2 1 0, .ref j 3 0]] ++ []) = some [tk', .fn 92 [.rp [syV fr lo hi cm nm mk (.sl cs ns sp) tk' st'] 0, .rp (mkC b) 0]] :=
  (VwL.cons (ht _) (VwL.cons (Vw.fn (VwL.cons (Vw.ref h2 rfl rfl (VwL.cons (Vw.ref h1 rfl rfl (VwL.cons (Vw.int rfl) (VwL.cons (Vw.int rfl) (VwL.cons (Vw.int rfl) (VwL.cons Vw.sl (VwL.cons Vw.sl (VwL.cons (ht _) (VwL.cons (hs _) VwL.nil)))))))) VwL.nil))
    (VwL.cons (Vw.ref hm rfl rfl (VwL.mk3 b)) VwL.nil))) VwL.nil) : VwL h 64 _ _).1
theorem hit_any {t : Tsk} (ht : OkT t) {cm cmk : Bool} {sp st tk : V} {ks : List Nat} {b : Mk} (hks : ∀ k ∈ ks, k < t.ms.length) (hb : frIn b) (hl : ks.length ≤ 40) (n : Nat) (hn : ks.length = n) :
    Fun F md 94 [.sl cmk n (tkC ks), .fn 92 [.rp [syV t.fr t.lo t.hi cm t.ms.length (ofM t.ms) sp tk st] 0, .rp (mkC b) 0]] (.int .i64 (hitZ t ks b)) := by
  subst hn
  have hr := ht.lo; have hr2 := ht.hi
  have := index_ag (c := cmk) (l := tkI ks) (cp := [syV t.fr t.lo t.hi cm t.ms.length (ofM t.ms) sp tk st]) (dp := mkC b) (P := fun x => agn t.lo t.hi (mAt t.ms x.toNat) b) (by rw [tkI_length]; omega) (by
    intro x hx
    unfold tkI at hx
    obtain ⟨k, hk, rfl⟩ := List.mem_map.1 hx
    have hkn := hks k hk
    have hfr := ht.fr
    have hat := ht.at hkn
    have := against_any (fr := t.fr) (cm := cm) (sp := sp) (tk := tk) (st := st) (a := mAt t.ms k) (b := b) (lo := t.lo) (hi := t.hi) ⟨by omega, by omega, by omega, by omega⟩ ⟨by omega, by omega, by omega⟩ hb hkn (mAt_part hkn)
    exact this)
  rw [tkI_length] at this
  rw [tkC_eq]
  exact this

end Go.Dr.T
