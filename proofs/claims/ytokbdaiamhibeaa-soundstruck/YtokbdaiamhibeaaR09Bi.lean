/- Chapter 09: the marks that are taken (reference); Struck, Where, both; the law SoundSyncs. -/
import Derived.Test.YtokbdaiamhibeaaR09Bh
import Derived.Test.YtokbdaiamhibeaaR09Awk
namespace Go.Dr.T

set_option maxRecDepth 100000 in
set_option maxHeartbeats 20000000 in
theorem begin_bad {cm cs : Bool} {t : Tsk} {k : Int} (hk : (chkT t).2.2 = k) (h0 : k ≠ 0) : Fun F md 64 [tskV cm cs t] (.tup [.nilp, .int .i64 k]) := by
  have hck := chk_any cm cs t
  generalize chkT t = z at *
  obtain ⟨z1, z2, z3⟩ := z
  dsimp only at hk hck
  subst hk
  refine fun_of rfl rfl ?_
  repeat' (first
    | (conv => whnf)
      first
      | refine Br.t ?_
      | refine Br.f ?_
      | (refine Br.decT ?_ ?_; (focus first | assumption | omega))
      | (refine Br.decF ?_ ?_; (focus first | assumption | omega))
      | refine Br.dec (fun _ => ?_) (fun _ => ?_)
      | refine Br.not ?_
      | refine Br.and ?_
      | refine Br.or ?_
      | (refine Bnd.i64 ?_ ?_ ?_; (focus omega); (focus omega))
      | refine call_fun rfl rfl hck (.inl rfl) ?_
      | exact ⟨rfl⟩
      | (refine Idx.nat ?_ ?_; (focus omega))
      | refine Idx.nat (le_big (by omega)) ?_
      | (refine Idx.int ?_ ?_ ?_; (focus omega); (focus omega))
      | (refine Idx.int ?_ ?_ ?_; (focus decide); (focus decide))
      | refine Ifz.zero ?_
      | (refine Ifz.pos ?_ ?_; (focus omega))
      | refine Get.mk _ rfl ?_
      | refine Leaves.of ?_
      | refine Ends.of ?_
      | refine Vw.bool ?_
      | refine Vw.int ?_
      | refine Vw.nil
      | refine Vw.sl
      | refine Vw.tup ?_
      | refine Vw.agg ?_
      | refine VwL.cons ?_ ?_
      | refine VwL.nil
      | refine LeavesF.of ?_
      | refine VwF.bool ?_
      | refine VwF.int ?_
      | refine VwF.nil
      | refine VwF.sl
      | refine VwF.tup ?_
      | refine VwF.agg ?_
      | refine VwLF.cons ?_ ?_
      | refine VwLF.nil
      | (refine Req.mk ?_ ?_; (focus first | rfl | decide | exact ⟨rfl, rfl⟩ | exact ⟨rfl, by decide⟩ | exact (fun _ => rfl) | exact (fun h => nomatch h) | (simp; done) | omega | (simp [big]; done) | exact le_big (by omega) | exact lt_big (by omega))))
  all_goals first | rfl | (exfalso; omega)
set_option maxRecDepth 100000 in
theorem valid_any (cm cs : Bool) (t : Tsk) : Fun F md 65 [tskV cm cs t] (.int .i64 (chkT t).2.2) := by
  have hck := chkR_any cm cs t
  generalize chkT t = z at *
  obtain ⟨z1, z2, z3⟩ := z
  dsimp only at hck ⊢
  refine fun_of rfl rfl ?_
  repeat' (first
    | (conv => whnf)
      first
      | refine Br.t ?_
      | refine Br.f ?_
      | (refine Br.decT ?_ ?_; (focus first | assumption | omega))
      | (refine Br.decF ?_ ?_; (focus first | assumption | omega))
      | refine Br.dec (fun _ => ?_) (fun _ => ?_)
      | refine Br.not ?_
      | refine Br.and ?_
      | refine Br.or ?_
      | (refine Bnd.i64 ?_ ?_ ?_; (focus omega); (focus omega))
      | refine call_fun rfl rfl hck (.inl rfl) ?_
      | (refine Idx.nat ?_ ?_; (focus omega))
      | refine Idx.nat (le_big (by omega)) ?_
      | (refine Idx.int ?_ ?_ ?_; (focus omega); (focus omega))
      | (refine Idx.int ?_ ?_ ?_; (focus decide); (focus decide))
      | refine Ifz.zero ?_
      | (refine Ifz.pos ?_ ?_; (focus omega))
      | refine Get.mk _ rfl ?_
      | refine Leaves.of ?_
      | refine Ends.of ?_
      | refine Vw.bool ?_
      | refine Vw.int ?_
      | refine Vw.nil
      | refine Vw.sl
      | refine Vw.tup ?_
      | refine Vw.agg ?_
      | refine VwL.cons ?_ ?_
      | refine VwL.nil
      | refine LeavesF.of ?_
      | refine VwF.bool ?_
      | refine VwF.int ?_
      | refine VwF.nil
      | refine VwF.sl
      | refine VwF.tup ?_
      | refine VwF.agg ?_
      | refine VwLF.cons ?_ ?_
      | refine VwLF.nil
      | (refine Req.mk ?_ ?_; (focus first | rfl | decide | exact ⟨rfl, rfl⟩ | exact ⟨rfl, by decide⟩ | exact (fun _ => rfl) | exact (fun h => nomatch h) | (simp; done) | omega | (simp [big]; done) | exact le_big (by omega) | exact lt_big (by omega))))
  all_goals first | rfl | (exfalso; omega)

def byF (P : Int → Bool) : List Int → Int
  | [] => -1
  | x :: l => if P x = true then x else byF P l
theorem byF_drop {P : Int → Bool} {l : List Int} {i : Nat} (h : i < l.length) : byF P (l.drop i) = if P l[i] = true then l[i] else byF P (l.drop (i + 1)) := by
  rw [List.drop_eq_getElem_cons h]; rfl
theorem byF_fiF {P : Int → Bool} : ∀ (l : List Int) (i : Nat), (0 ≤ fiF P i l → (i : Int) ≤ fiF P i l ∧ byF P l = gI l ((fiF P i l).toNat - i)) ∧ (fiF P i l < 0 → byF P l = -1)
  | [], i => by simp [fiF, byF]
  | x :: l, i => by
    have ih := byF_fiF (P := P) l (i + 1)
    simp only [fiF, byF]
    by_cases h : P x = true
    · simp only [h, if_true]
      refine ⟨fun _ => ⟨Int.le_refl _, ?_⟩, fun hh => by omega⟩
      rw [Int.toNat_natCast, Nat.sub_self]; rfl
    · simp only [h]
      refine ⟨fun hh => ?_, fun hh => ih.2 hh⟩
      obtain ⟨q1, q2⟩ := ih.1 hh
      refine ⟨by push_cast at q1; simp at *; omega, ?_⟩
      simp only [Bool.false_eq_true, if_false]
      rw [q2, show (fiF P (i + 1) l).toNat - i = (fiF P (i + 1) l).toNat - (i + 1) + 1 by simp at *; omega]
      rfl
abbrev agP (t : Tsk) (b : Mk) (x : Int) : Bool := agn t.lo t.hi (mAt t.ms x.toNat) b
theorem by_hit (t : Tsk) (ks : List Nat) (b : Mk) : (0 ≤ hitZ t ks b → byF (agP t b) (tkI ks) = gI (tkI ks) (hitZ t ks b).toNat ∧ 0 ≤ byF (agP t b) (tkI ks)) ∧ (hitZ t ks b < 0 → byF (agP t b) (tkI ks) = -1) := by
  have h := byF_fiF (P := agP t b) (tkI ks) 0
  refine ⟨fun hh => ?_, fun hh => h.2 hh⟩
  have q := (h.1 hh).2
  rw [Nat.sub_zero] at q
  refine ⟨q, ?_⟩
  rw [q]
  have hl := hitZ_lt t ks b
  rw [show (fiF (agP t b) 0 (tkI ks)).toNat = (hitZ t ks b).toNat from rfl, gI_get (by rw [tkI_length]; omega)]
  simp [tkI]
abbrev outM (t : Tsk) (ks : List Nat) : List Mk := ks.map (mAt t.ms)
theorem outM_part {t : Tsk} {ks : List Nat} {j : Nat} (h : j < ks.length) : part (ofM (outM t ks)) (0 + j * 3) 3 = some (mkC (mAt t.ms ks[j])) := by
  rw [Nat.zero_add, show part (ofM (outM t ks)) (j * 3) 3 = _ from flat_part mkC_len (by simpa using h)]
  simp
theorem outM_snoc (t : Tsk) (ks : List Nat) (i : Nat) : ofM (outM t ks) ++ mkC (mAt t.ms i) = ofM (outM t (ks ++ [i])) := by
  simp only [outM, List.map_append, List.map_cons, List.map_nil]
  rw [show ofM (List.map (mAt t.ms) ks ++ [mAt t.ms i]) = _ from flat_append _ _]
  simp [flat]
theorem outM_length (t : Tsk) (ks : List Nat) : (ofM (outM t ks)).length = 3 * ks.length := by
  rw [show (ofM (outM t ks)).length = _ from flat_length mkC_len _]; simp; omega

structure TkS where
  i : Nat
  n : Nat
  m : Nat
  ks : List Nat
  st : List (Int × Int)
def tkU (a : TkS) : List (Nat × V) :=
  match a.i, a.m with
  | 0, _ => [(4, .nilsl), (5, .nilsl), (6, .nilsl), (7, .int .i64 ((0 : Nat) : Int))]
  | i + 1, 0 => [(4, .ms 3 1 (3 * a.n) 0 a.n false), (5, .ms 1 2 a.n 0 a.n false), (6, .nilsl), (7, .int .i64 ((i + 1 : Nat) : Int))]
  | i + 1, m + 1 => [(4, .ms 3 1 (3 * a.n) 0 a.n false), (5, .ms 1 2 a.n 0 a.n false), (6, .ms 2 3 (2 * (m + 1)) 0 (m + 1) false), (7, .int .i64 ((i + 1 : Nat) : Int))]
def tkH (t : Tsk) (cm cs : Bool) (a : TkS) : List B :=
  match a.i, a.m with
  | 0, _ => [bg0 t cm cs]
  | _ + 1, 0 => [bg0 t cm cs, .blk (ofM (outM t a.ks)) true, .blk (tkC a.ks) true]
  | _ + 1, _ + 1 => [bg0 t cm cs, .blk (ofM (outM t a.ks)) true, .blk (tkC a.ks) true, .blk (ofSp a.st) true]
theorem tkU_one (i n : Nat) (ks : List Nat) (st : List (Int × Int)) : tkU ⟨i + 1, n, 0, ks, st⟩ = [(4, .ms 3 1 (3 * n) 0 n false), (5, .ms 1 2 n 0 n false), (6, .nilsl), (7, .int .i64 ((i + 1 : Nat) : Int))] := rfl
theorem tkU_two (i n m : Nat) (ks : List Nat) (st : List (Int × Int)) : tkU ⟨i + 1, n, m + 1, ks, st⟩ = [(4, .ms 3 1 (3 * n) 0 n false), (5, .ms 1 2 n 0 n false), (6, .ms 2 3 (2 * (m + 1)) 0 (m + 1) false), (7, .int .i64 ((i + 1 : Nat) : Int))] := rfl
theorem tkH_one (t : Tsk) (cm cs : Bool) (i n : Nat) (ks : List Nat) (st : List (Int × Int)) : tkH t cm cs ⟨i + 1, n, 0, ks, st⟩ = [bg0 t cm cs, .blk (ofM (outM t ks)) true, .blk (tkC ks) true] := rfl
theorem tkH_two (t : Tsk) (cm cs : Bool) (i n m : Nat) (ks : List Nat) (st : List (Int × Int)) : tkH t cm cs ⟨i + 1, n, m + 1, ks, st⟩ = [bg0 t cm cs, .blk (ofM (outM t ks)) true, .blk (tkC ks) true, .blk (ofSp st) true] := rfl
def TkP (t : Tsk) (a : TkS) : Prop := a.i ≤ t.ms.length ∧ tkS t a.i = (a.ks, a.st) ∧ a.ks.length = a.n ∧ a.st.length = a.m ∧ (a.i ≠ 0 → a.n ≠ 0)
def tkOut (t : Tsk) : V := if t.ms.length = 0 then .sl true 0 [] else .sl false (tkS t t.ms.length).1.length (ofM (outM t (tkS t t.ms.length).1))
theorem VwL.ofM {h : List B} {d : Nat} (l : List Mk) : VwL h (d + 1) (T.ofM l) (T.ofM l) := VwL.flat (fun m => VwL.mk3 m) l
theorem Vw.outM {h : List B} {d id n g : Nat} {dat : Bool} {t : Tsk} {ks : List Nat} (h1 : bget h id = some (.blk (ofM (T.outM t ks)) dat)) (h2 : g = 3 * n) (hn : ks.length = n) : Vw h (d + 1 + 1) (.ms 3 id g 0 n false) (.sl false n (ofM (T.outM t ks))) := by
  subst h2 hn
  exact Vw.flat mkC_len (fun m => VwL.mk3 m) h1 rfl (by simp; omega) (by simp) (by simp)
set_option maxRecDepth 100000 in
set_option maxHeartbeats 20000000 in
theorem taken_ok {cm cs : Bool} {t : Tsk} (ht : OkT t) : Fun F md 66 [tskV cm cs t] (.tup [tkOut t, bgSt t]) := by
  have hfr := ht.fr
  have hlo' := ht.lo
  have hhi' := ht.hi
  have hmany := ht.many
  refine fun_of rfl rfl ?_
  repeat' (first
    | (conv => whnf)
      first
      | refine Br.t ?_
      | refine Br.f ?_
      | (refine Br.decT ?_ ?_; (focus first | assumption | omega))
      | (refine Br.decF ?_ ?_; (focus first | assumption | omega))
      | refine Br.dec (fun _ => ?_) (fun _ => ?_)
      | refine Br.not ?_
      | refine Br.and ?_
      | refine Br.or ?_
      | (refine Bnd.i64 ?_ ?_ ?_; (focus omega); (focus omega))
      | (refine Idx.nat ?_ ?_; (focus omega))
      | refine Idx.nat (le_big (by omega)) ?_
      | (refine Idx.int ?_ ?_ ?_; (focus omega); (focus omega))
      | (refine Idx.int ?_ ?_ ?_; (focus decide); (focus decide))
      | refine Ifz.zero ?_
      | (refine Ifz.pos ?_ ?_; (focus omega))
      | refine Get.mk _ rfl ?_
      | refine Leaves.of ?_
      | refine Ends.of ?_
      | refine Vw.bool ?_
      | refine Vw.int ?_
      | refine Vw.nil
      | refine Vw.sl
      | refine Vw.tup ?_
      | refine Vw.agg ?_
      | refine VwL.cons ?_ ?_
      | refine VwL.nil
      | refine LeavesF.of ?_
      | refine VwF.bool ?_
      | refine VwF.int ?_
      | refine VwF.nil
      | refine VwF.sl
      | refine VwF.tup ?_
      | refine VwF.agg ?_
      | refine VwLF.cons ?_ ?_
      | refine VwLF.nil
      | (refine Req.mk ?_ ?_; (focus first | rfl | decide | exact ⟨rfl, rfl⟩ | exact ⟨rfl, by decide⟩ | exact (fun _ => rfl) | exact (fun h => nomatch h) | (simp; done) | omega | (simp [big]; done) | exact le_big (by omega) | exact lt_big (by omega))))
  refine LoopP.by (TkP t) tkU (tkH t cm cs) (fun a => t.ms.length - a.i) ⟨0, 0, 0, [], []⟩ ⟨Nat.zero_le _, rfl, rfl, rfl, by simp⟩ rfl ?_
  rintro ⟨i, n, m, ks, st⟩ ⟨hi, hks, hn, hm, h0⟩
  dsimp only at hi hks hn hm h0 ⊢
  have hlt : ∀ k ∈ ks, k < t.ms.length := by
    intro k hk
    have := tkS_lt t i k (by rw [hks]; exact hk)
    omega
  have hlen := tkS_len t i
  rw [hks] at hlen
  dsimp only at hlen
  have hk40 : ks.length ≤ 40 := by omega
  by_cases hin : i < t.ms.length
  · have hfb : frIn (mAt t.ms i) := by
      have := ht.at hin
      exact ⟨by omega, by omega, by omega⟩
    have hpt := mAt_part hin
    have htk : tkS t (i + 1) = if 0 ≤ hitZ t (tkS t i).1 (mAt t.ms i) then ((tkS t i).1, (tkS t i).2 ++ [(((i : Nat) : Int), (gI (tkI (tkS t i).1) (hitZ t (tkS t i).1 (mAt t.ms i)).toNat))]) else ((tkS t i).1 ++ [i], (tkS t i).2) := rfl
    rw [hks] at htk
    dsimp only at htk
    have hlk : (tkC ks).length = n := by rw [tkC_length]; exact hn
    have hlo : (ofM (outM t ks)).length = 3 * n := by rw [outM_length, hn]
    cases i with
    | zero =>
      have hks' := hks
      simp only [tkS, Prod.mk.injEq] at hks'
      obtain ⟨rfl, rfl⟩ := hks'
      simp only [List.length_nil] at hn hm
      subst hn hm
      have hz : hitZ t [] (mAt t.ms 0) = -1 := rfl
      rw [hz, if_neg (by omega)] at htk
      generalize hb : mAt t.ms 0 = b at *
      repeat' (first
        | (conv => whnf)
          first
          | refine Br.t ?_
          | refine Br.f ?_
          | (refine Br.decT ?_ ?_; (focus first | assumption | omega))
          | (refine Br.decF ?_ ?_; (focus first | assumption | omega))
          | refine Br.dec (fun _ => ?_) (fun _ => ?_)
          | refine Br.not ?_
          | refine Br.and ?_
          | refine Br.or ?_
          | (refine Bnd.i64 ?_ ?_ ?_; (focus omega); (focus omega))
          | refine Get.mk _ hpt ?_
          | (refine Idx.nat ?_ ?_; (focus omega))
          | refine Idx.nat (le_big (by omega)) ?_
          | (refine Idx.int ?_ ?_ ?_; (focus omega); (focus omega))
          | (refine Idx.int ?_ ?_ ?_; (focus decide); (focus decide))
          | refine Ifz.zero ?_
          | (refine Ifz.pos ?_ ?_; (focus omega))
          | refine Get.mk _ rfl ?_
          | refine Leaves.of ?_
          | refine Ends.of ?_
          | refine Vw.bool ?_
          | refine Vw.int ?_
          | refine Vw.nil
          | refine Vw.sl
          | refine Vw.tup ?_
          | refine Vw.agg ?_
          | refine VwL.cons ?_ ?_
          | refine VwL.nil
          | refine LeavesF.of ?_
          | refine VwF.bool ?_
          | refine VwF.int ?_
          | refine VwF.nil
          | refine VwF.sl
          | refine VwF.tup ?_
          | refine VwF.agg ?_
          | refine VwLF.cons ?_ ?_
          | refine VwLF.nil
          | (refine Req.mk ?_ ?_; (focus first | rfl | decide | exact ⟨rfl, rfl⟩ | exact ⟨rfl, by decide⟩ | exact (fun _ => rfl) | exact (fun h => nomatch h) | (simp; done) | omega | (simp [big]; done) | exact le_big (by omega) | exact lt_big (by omega))))
      refine LoopP.by (fun _ : Nat => True) (fun _ => [(8, .int .i64 (-1)), (9, .int .i64 (-1))]) (fun _ => [bg0 t cm cs]) (fun _ => 0) 0 trivial rfl ?_
      intro j _
      repeat' (first
        | (conv => whnf)
          first
          | refine Br.t ?_
          | refine Br.f ?_
          | (refine Br.decT ?_ ?_; (focus first | assumption | omega))
          | (refine Br.decF ?_ ?_; (focus first | assumption | omega))
          | refine Br.dec (fun _ => ?_) (fun _ => ?_)
          | refine Br.not ?_
          | refine Br.and ?_
          | refine Br.or ?_
          | (refine Bnd.i64 ?_ ?_ ?_; (focus omega); (focus omega))
          | refine Get.mk _ hpt ?_
          | (refine Idx.nat ?_ ?_; (focus omega))
          | refine Idx.nat (le_big (by omega)) ?_
          | (refine Idx.int ?_ ?_ ?_; (focus omega); (focus omega))
          | (refine Idx.int ?_ ?_ ?_; (focus decide); (focus decide))
          | refine Ifz.zero ?_
          | (refine Ifz.pos ?_ ?_; (focus omega))
          | refine Get.mk _ rfl ?_
          | refine Leaves.of ?_
          | refine Ends.of ?_
          | refine Vw.bool ?_
          | refine Vw.int ?_
          | refine Vw.nil
          | refine Vw.sl
          | refine Vw.tup ?_
          | refine Vw.agg ?_
          | refine VwL.cons ?_ ?_
          | refine VwL.nil
          | refine LeavesF.of ?_
          | refine VwF.bool ?_
          | refine VwF.int ?_
          | refine VwF.nil
          | refine VwF.sl
          | refine VwF.tup ?_
          | refine VwF.agg ?_
          | refine VwLF.cons ?_ ?_
          | refine VwLF.nil
          | (refine Req.mk ?_ ?_; (focus first | rfl | decide | exact ⟨rfl, rfl⟩ | exact ⟨rfl, by decide⟩ | exact (fun _ => rfl) | exact (fun h => nomatch h) | (simp; done) | omega | (simp [big]; done) | exact le_big (by omega) | exact lt_big (by omega))))
      all_goals first | exact NextP.mk ⟨1, 1, 0, [0], []⟩ ⟨hin, htk, rfl, rfl, by simp⟩ (by simp only; omega) (by rw [tkU_one, tkH_one]; simp only [outM, List.map_cons, List.map_nil, hb]; rfl) | (exfalso; omega)
    | succ i =>
      have hos := outM_snoc t ks (i + 1)
      have hts := tkC_snoc ks (i + 1)
      cases m with
      | zero =>
        obtain rfl : st = [] := List.length_eq_zero_iff.1 hm
        rw [tkU_one, tkH_one]
        repeat' (first
          | (conv => whnf)
            first
            | refine Br.t ?_
            | refine Br.f ?_
            | (refine Br.decT ?_ ?_; (focus first | assumption | omega))
            | (refine Br.decF ?_ ?_; (focus first | assumption | omega))
            | refine Br.dec (fun _ => ?_) (fun _ => ?_)
            | refine Br.not ?_
            | refine Br.and ?_
            | refine Br.or ?_
            | (refine Bnd.i64 ?_ ?_ ?_; (focus omega); (focus omega))
            | (refine Idx.nat ?_ ?_; (focus omega))
            | refine Idx.nat (le_big (by omega)) ?_
            | (refine Idx.int ?_ ?_ ?_; (focus omega); (focus omega))
            | (refine Idx.int ?_ ?_ ?_; (focus decide); (focus decide))
            | refine Ifz.zero ?_
            | (refine Ifz.pos ?_ ?_; (focus omega))
            | refine Get.mk _ rfl ?_
            | refine Leaves.of ?_
            | refine Ends.of ?_
            | refine Vw.bool ?_
            | refine Vw.int ?_
            | refine Vw.nil
            | refine Vw.sl
            | refine Vw.tup ?_
            | refine Vw.agg ?_
            | refine VwL.cons ?_ ?_
            | refine VwL.nil
            | refine LeavesF.of ?_
            | refine VwF.bool ?_
            | refine VwF.int ?_
            | refine VwF.nil
            | refine VwF.sl
            | refine VwF.tup ?_
            | refine VwF.agg ?_
            | refine VwLF.cons ?_ ?_
            | refine VwLF.nil
            | (refine Req.mk ?_ ?_; (focus first | rfl | decide | exact ⟨rfl, rfl⟩ | exact ⟨rfl, by decide⟩ | exact (fun _ => rfl) | exact (fun h => nomatch h) | (simp; done) | omega | (simp [big]; done) | exact le_big (by omega) | exact lt_big (by omega))))
        all_goals try (exfalso; omega)
        refine LoopP.by (fun j : Nat => j ≤ ks.length) (fun j => [(8, .int .i64 (byF (agP t (mAt t.ms (i + 1))) ((tkI ks).drop j))), (9, .int .i64 ((j : Int) - 1))]) (fun _ => [bg0 t cm cs, .blk (ofM (outM t ks)) true, .blk (tkC ks) true]) (fun j => j) n (by omega) ?_ ?_
        · rw [← hn, ← tkI_length, List.drop_length]; rw [tkI_length, hn]; rfl
        intro j hj
        cases j with
        | zero =>
          rw [List.drop_zero]
          have hbz := by_hit t ks (mAt t.ms (i + 1))
          have hzl := hitZ_lt t ks (mAt t.ms (i + 1))
          generalize hitZ t ks (mAt t.ms (i + 1)) = z at *
          generalize hbv : byF (agP t (mAt t.ms (i + 1))) (tkI ks) = v at *
          generalize hb : mAt t.ms (i + 1) = b at *
          by_cases hz : 0 ≤ z
          · rw [if_pos hz] at htk
            obtain ⟨hv, hv0⟩ := hbz.1 hz
            rw [← hv] at htk
            repeat' (first
              | (conv => whnf)
                first
                | refine Br.t ?_
                | refine Br.f ?_
                | (refine Br.decT ?_ ?_; (focus first | assumption | omega))
                | (refine Br.decF ?_ ?_; (focus first | assumption | omega))
                | refine Br.dec (fun _ => ?_) (fun _ => ?_)
                | refine Br.not ?_
                | refine Br.and ?_
                | refine Br.or ?_
                | (refine Bnd.i64 ?_ ?_ ?_; (focus omega); (focus omega))
                | refine Get.mk _ hpt ?_
                | (refine Idx.nat ?_ ?_; (focus omega))
                | refine Idx.nat (le_big (by omega)) ?_
                | (refine Idx.int ?_ ?_ ?_; (focus omega); (focus omega))
                | (refine Idx.int ?_ ?_ ?_; (focus decide); (focus decide))
                | refine Ifz.zero ?_
                | (refine Ifz.pos ?_ ?_; (focus omega))
                | refine Get.mk _ rfl ?_
                | refine Leaves.of ?_
                | refine Ends.of ?_
                | refine Vw.bool ?_
                | refine Vw.int ?_
                | refine Vw.nil
                | refine Vw.sl
                | refine Vw.tup ?_
                | refine Vw.agg ?_
                | refine VwL.cons ?_ ?_
                | refine VwL.nil
                | refine LeavesF.of ?_
                | refine VwF.bool ?_
                | refine VwF.int ?_
                | refine VwF.nil
                | refine VwF.sl
                | refine VwF.tup ?_
                | refine VwF.agg ?_
                | refine VwLF.cons ?_ ?_
                | refine VwLF.nil
                | (refine Req.mk ?_ ?_; (focus first | rfl | decide | exact ⟨rfl, rfl⟩ | exact ⟨rfl, by decide⟩ | exact (fun _ => rfl) | exact (fun h => nomatch h) | (simp; done) | omega | (simp [big]; done) | exact le_big (by omega) | exact lt_big (by omega))))
            all_goals first | exact NextP.mk ⟨(i + 1) + 1, n, 0 + 1, ks, ([] : List (Int × Int)) ++ [((((i + 1) : Nat) : Int), v)]⟩ ⟨hin, htk, hn, by simp [hm], fun _ => h0 (by omega)⟩ (by simp only; omega) (by rw [tkU_two, tkH_two]; rfl) | (exfalso; omega)
          · rw [if_neg hz] at htk
            have hv := hbz.2 (by omega)
            generalize hC2 : ofM (outM t (ks ++ [(i + 1)])) = C2 at *
            generalize hD2 : tkC (ks ++ [(i + 1)]) = D2 at *
            repeat' (first
              | (conv => whnf)
                first
                | refine Br.t ?_
                | refine Br.f ?_
                | (refine Br.decT ?_ ?_; (focus first | assumption | omega))
                | (refine Br.decF ?_ ?_; (focus first | assumption | omega))
                | refine Br.dec (fun _ => ?_) (fun _ => ?_)
                | refine Br.not ?_
                | refine Br.and ?_
                | refine Br.or ?_
                | (refine Bnd.i64 ?_ ?_ ?_; (focus omega); (focus omega))
                | refine Get.mk _ hpt ?_
                | refine Req.mk hlo ?_
                | refine Req.mk hlk ?_
                | refine Req.mk ⟨by omega, by rw [hlo]; show (3 * n + 3) * 25 < 68719476736; omega⟩ ?_
                | refine Req.mk ⟨by omega, by rw [hlk]; show (n + 1) * 9 < 68719476736; omega⟩ ?_
                | (refine Idx.nat ?_ ?_; (focus omega))
                | refine Idx.nat (le_big (by omega)) ?_
                | (refine Idx.int ?_ ?_ ?_; (focus omega); (focus omega))
                | (refine Idx.int ?_ ?_ ?_; (focus decide); (focus decide))
                | refine Ifz.zero ?_
                | (refine Ifz.pos ?_ ?_; (focus omega))
                | refine Get.mk _ rfl ?_
                | refine Leaves.of ?_
                | refine Ends.of ?_
                | refine Vw.bool ?_
                | refine Vw.int ?_
                | refine Vw.nil
                | refine Vw.sl
                | refine Vw.tup ?_
                | refine Vw.agg ?_
                | refine VwL.cons ?_ ?_
                | refine VwL.nil
                | refine LeavesF.of ?_
                | refine VwF.bool ?_
                | refine VwF.int ?_
                | refine VwF.nil
                | refine VwF.sl
                | refine VwF.tup ?_
                | refine VwF.agg ?_
                | refine VwLF.cons ?_ ?_
                | refine VwLF.nil
                | (refine Req.mk ?_ ?_; (focus first | rfl | decide | exact ⟨rfl, rfl⟩ | exact ⟨rfl, by decide⟩ | exact (fun _ => rfl) | exact (fun h => nomatch h) | (simp; done) | omega | (simp [big]; done) | exact le_big (by omega) | exact lt_big (by omega))))
            all_goals first | exact NextP.mk ⟨(i + 1) + 1, n + 1, 0, ks ++ [(i + 1)], ([] : List (Int × Int))⟩ ⟨hin, htk, by simp [hn], hm, fun _ => by simp⟩ (by simp only; omega) (by rw [tkU_one, tkH_one, hC2, hD2, ← hos, ← hts]; rfl) | (exfalso; omega)
        | succ j =>
          have hkj := hlt ks[j] (List.getElem_mem _)
          have hat := ht.at hkj
          have hB := both_any (fr := t.fr) (lo := t.lo) (hi := t.hi) (cm := cm) (cs := cs) (nm := t.ms.length) (ns := t.sp.length) (mk := ofM t.ms) (sp := ofI t.sp) (a := mAt t.ms ks[j]) (b := mAt t.ms (i + 1)) ⟨by omega, by omega, by omega, by omega⟩ ht.le ⟨by omega, by omega, by omega⟩ hfb
          have hop := outM_part (t := t) (ks := ks) (j := j) (by omega)
          have hck := tkC_cell0 (ks := ks) (j := j) (by omega)
          have hby := byF_drop (P := agP t (mAt t.ms (i + 1))) (l := tkI ks) (i := j) (by rw [tkI_length]; omega)
          have hgj : (tkI ks)[j]'(by rw [tkI_length]; omega) = (ks[j] : Int) := by simp [tkI]
          rw [gI_get (by rw [tkI_length]; omega), hgj] at hck
          rw [hgj] at hby
          have hagp : agP t (mAt t.ms (i + 1)) (ks[j] : Int) = agn t.lo t.hi (mAt t.ms ks[j]) (mAt t.ms (i + 1)) := rfl
          rw [hagp] at hby
          have hj1 : (((j + 1 : Nat) : Int) - 1) = (j : Int) := by omega
          rw [hj1]
          generalize agn t.lo t.hi (mAt t.ms ks[j]) (mAt t.ms (i + 1)) = g at *
          generalize mAt t.ms ks[j] = a at *
          generalize hb : mAt t.ms (i + 1) = b at *
          generalize ((ks[j] : Nat) : Int) = kj at *
          generalize byF (agP t b) ((tkI ks).drop (j + 1)) = w at *
          cases g with
          | true =>
            rw [if_pos rfl] at hby
            repeat' (first
              | (conv => whnf)
                first
                | refine Br.t ?_
                | refine Br.f ?_
                | (refine Br.decT ?_ ?_; (focus first | assumption | omega))
                | (refine Br.decF ?_ ?_; (focus first | assumption | omega))
                | refine Br.dec (fun _ => ?_) (fun _ => ?_)
                | refine Br.not ?_
                | refine Br.and ?_
                | refine Br.or ?_
                | (refine Bnd.i64 ?_ ?_ ?_; (focus omega); (focus omega))
                | refine Get.mk _ hpt ?_
                | refine Get.mk _ hop ?_
                | refine Get.mk _ hck ?_
                | refine call_fun rfl rfl hB (.inl rfl) ?_
                | refine Req.mk hlo ?_
                | refine Req.mk hlk ?_
                | (refine Idx.nat ?_ ?_; (focus omega))
                | refine Idx.nat (le_big (by omega)) ?_
                | (refine Idx.int ?_ ?_ ?_; (focus omega); (focus omega))
                | (refine Idx.int ?_ ?_ ?_; (focus decide); (focus decide))
                | refine Ifz.zero ?_
                | (refine Ifz.pos ?_ ?_; (focus omega))
                | refine Get.mk _ rfl ?_
                | refine Leaves.of ?_
                | refine Ends.of ?_
                | refine Vw.bool ?_
                | refine Vw.int ?_
                | refine Vw.nil
                | refine Vw.sl
                | refine Vw.tup ?_
                | refine Vw.agg ?_
                | refine VwL.cons ?_ ?_
                | refine VwL.nil
                | refine LeavesF.of ?_
                | refine VwF.bool ?_
                | refine VwF.int ?_
                | refine VwF.nil
                | refine VwF.sl
                | refine VwF.tup ?_
                | refine VwF.agg ?_
                | refine VwLF.cons ?_ ?_
                | refine VwLF.nil
                | (refine Req.mk ?_ ?_; (focus first | rfl | decide | exact ⟨rfl, rfl⟩ | exact ⟨rfl, by decide⟩ | exact (fun _ => rfl) | exact (fun h => nomatch h) | (simp; done) | omega | (simp [big]; done) | exact le_big (by omega) | exact lt_big (by omega))))
            all_goals first | exact NextP.mk j (by omega) (by omega) (by rw [hby]; rfl) | (exfalso; omega)
          | false =>
            rw [if_neg (by simp)] at hby
            repeat' (first
              | (conv => whnf)
                first
                | refine Br.t ?_
                | refine Br.f ?_
                | (refine Br.decT ?_ ?_; (focus first | assumption | omega))
                | (refine Br.decF ?_ ?_; (focus first | assumption | omega))
                | refine Br.dec (fun _ => ?_) (fun _ => ?_)
                | refine Br.not ?_
                | refine Br.and ?_
                | refine Br.or ?_
                | (refine Bnd.i64 ?_ ?_ ?_; (focus omega); (focus omega))
                | refine Get.mk _ hpt ?_
                | refine Get.mk _ hop ?_
                | refine Get.mk _ hck ?_
                | refine call_fun rfl rfl hB (.inl rfl) ?_
                | refine Req.mk hlo ?_
                | refine Req.mk hlk ?_
                | (refine Idx.nat ?_ ?_; (focus omega))
                | refine Idx.nat (le_big (by omega)) ?_
                | (refine Idx.int ?_ ?_ ?_; (focus omega); (focus omega))
                | (refine Idx.int ?_ ?_ ?_; (focus decide); (focus decide))
                | refine Ifz.zero ?_
                | (refine Ifz.pos ?_ ?_; (focus omega))
                | refine Get.mk _ rfl ?_
                | refine Leaves.of ?_
                | refine Ends.of ?_
                | refine Vw.bool ?_
                | refine Vw.int ?_
                | refine Vw.nil
                | refine Vw.sl
                | refine Vw.tup ?_
                | refine Vw.agg ?_
                | refine VwL.cons ?_ ?_
                | refine VwL.nil
                | refine LeavesF.of ?_
                | refine VwF.bool ?_
                | refine VwF.int ?_
                | refine VwF.nil
                | refine VwF.sl
                | refine VwF.tup ?_
                | refine VwF.agg ?_
                | refine VwLF.cons ?_ ?_
                | refine VwLF.nil
                | (refine Req.mk ?_ ?_; (focus first | rfl | decide | exact ⟨rfl, rfl⟩ | exact ⟨rfl, by decide⟩ | exact (fun _ => rfl) | exact (fun h => nomatch h) | (simp; done) | omega | (simp [big]; done) | exact le_big (by omega) | exact lt_big (by omega))))
            all_goals first | exact NextP.mk j (by omega) (by omega) (by rw [hby]; rfl) | (exfalso; omega)
      | succ m =>
        rw [tkU_two, tkH_two]
        have hls : (ofSp st).length = 2 * (m + 1) := by rw [ofSp_length, hm]
        repeat' (first
          | (conv => whnf)
            first
            | refine Br.t ?_
            | refine Br.f ?_
            | (refine Br.decT ?_ ?_; (focus first | assumption | omega))
            | (refine Br.decF ?_ ?_; (focus first | assumption | omega))
            | refine Br.dec (fun _ => ?_) (fun _ => ?_)
            | refine Br.not ?_
            | refine Br.and ?_
            | refine Br.or ?_
            | (refine Bnd.i64 ?_ ?_ ?_; (focus omega); (focus omega))
            | (refine Idx.nat ?_ ?_; (focus omega))
            | refine Idx.nat (le_big (by omega)) ?_
            | (refine Idx.int ?_ ?_ ?_; (focus omega); (focus omega))
            | (refine Idx.int ?_ ?_ ?_; (focus decide); (focus decide))
            | refine Ifz.zero ?_
            | (refine Ifz.pos ?_ ?_; (focus omega))
            | refine Get.mk _ rfl ?_
            | refine Leaves.of ?_
            | refine Ends.of ?_
            | refine Vw.bool ?_
            | refine Vw.int ?_
            | refine Vw.nil
            | refine Vw.sl
            | refine Vw.tup ?_
            | refine Vw.agg ?_
            | refine VwL.cons ?_ ?_
            | refine VwL.nil
            | refine LeavesF.of ?_
            | refine VwF.bool ?_
            | refine VwF.int ?_
            | refine VwF.nil
            | refine VwF.sl
            | refine VwF.tup ?_
            | refine VwF.agg ?_
            | refine VwLF.cons ?_ ?_
            | refine VwLF.nil
            | (refine Req.mk ?_ ?_; (focus first | rfl | decide | exact ⟨rfl, rfl⟩ | exact ⟨rfl, by decide⟩ | exact (fun _ => rfl) | exact (fun h => nomatch h) | (simp; done) | omega | (simp [big]; done) | exact le_big (by omega) | exact lt_big (by omega))))
        all_goals try (exfalso; omega)
        refine LoopP.by (fun j : Nat => j ≤ ks.length) (fun j => [(8, .int .i64 (byF (agP t (mAt t.ms (i + 1))) ((tkI ks).drop j))), (9, .int .i64 ((j : Int) - 1))]) (fun _ => [bg0 t cm cs, .blk (ofM (outM t ks)) true, .blk (tkC ks) true, .blk (ofSp st) true]) (fun j => j) n (by omega) ?_ ?_
        · rw [← hn, ← tkI_length, List.drop_length]; rw [tkI_length, hn]; rfl
        intro j hj
        cases j with
        | zero =>
          rw [List.drop_zero]
          have hbz := by_hit t ks (mAt t.ms (i + 1))
          have hzl := hitZ_lt t ks (mAt t.ms (i + 1))
          generalize hitZ t ks (mAt t.ms (i + 1)) = z at *
          generalize hbv : byF (agP t (mAt t.ms (i + 1))) (tkI ks) = v at *
          generalize hb : mAt t.ms (i + 1) = b at *
          by_cases hz : 0 ≤ z
          · rw [if_pos hz] at htk
            obtain ⟨hv, hv0⟩ := hbz.1 hz
            rw [← hv] at htk
            repeat' (first
              | (conv => whnf)
                first
                | refine Br.t ?_
                | refine Br.f ?_
                | (refine Br.decT ?_ ?_; (focus first | assumption | omega))
                | (refine Br.decF ?_ ?_; (focus first | assumption | omega))
                | refine Br.dec (fun _ => ?_) (fun _ => ?_)
                | refine Br.not ?_
                | refine Br.and ?_
                | refine Br.or ?_
                | (refine Bnd.i64 ?_ ?_ ?_; (focus omega); (focus omega))
                | refine Get.mk _ hpt ?_
                | refine Req.mk hls ?_
                | refine Req.mk ⟨by omega, by rw [hls]; show (2 * (m + 1) + 2) * 17 < 68719476736; omega⟩ ?_
                | (refine Idx.nat ?_ ?_; (focus omega))
                | refine Idx.nat (le_big (by omega)) ?_
                | (refine Idx.int ?_ ?_ ?_; (focus omega); (focus omega))
                | (refine Idx.int ?_ ?_ ?_; (focus decide); (focus decide))
                | refine Ifz.zero ?_
                | (refine Ifz.pos ?_ ?_; (focus omega))
                | refine Get.mk _ rfl ?_
                | refine Leaves.of ?_
                | refine Ends.of ?_
                | refine Vw.bool ?_
                | refine Vw.int ?_
                | refine Vw.nil
                | refine Vw.sl
                | refine Vw.tup ?_
                | refine Vw.agg ?_
                | refine VwL.cons ?_ ?_
                | refine VwL.nil
                | refine LeavesF.of ?_
                | refine VwF.bool ?_
                | refine VwF.int ?_
                | refine VwF.nil
                | refine VwF.sl
                | refine VwF.tup ?_
                | refine VwF.agg ?_
                | refine VwLF.cons ?_ ?_
                | refine VwLF.nil
                | (refine Req.mk ?_ ?_; (focus first | rfl | decide | exact ⟨rfl, rfl⟩ | exact ⟨rfl, by decide⟩ | exact (fun _ => rfl) | exact (fun h => nomatch h) | (simp; done) | omega | (simp [big]; done) | exact le_big (by omega) | exact lt_big (by omega))))
            all_goals first | exact NextP.mk ⟨(i + 1) + 1, n, (m + 1) + 1, ks, st ++ [((((i + 1) : Nat) : Int), v)]⟩ ⟨hin, htk, hn, by simp [hm], fun _ => h0 (by omega)⟩ (by simp only; omega) (by rw [tkU_two, tkH_two, ← ofSp_snoc]; rfl) | (exfalso; omega)
          · rw [if_neg hz] at htk
            have hv := hbz.2 (by omega)
            generalize hC2 : ofM (outM t (ks ++ [(i + 1)])) = C2 at *
            generalize hD2 : tkC (ks ++ [(i + 1)]) = D2 at *
            repeat' (first
              | (conv => whnf)
                first
                | refine Br.t ?_
                | refine Br.f ?_
                | (refine Br.decT ?_ ?_; (focus first | assumption | omega))
                | (refine Br.decF ?_ ?_; (focus first | assumption | omega))
                | refine Br.dec (fun _ => ?_) (fun _ => ?_)
                | refine Br.not ?_
                | refine Br.and ?_
                | refine Br.or ?_
                | (refine Bnd.i64 ?_ ?_ ?_; (focus omega); (focus omega))
                | refine Get.mk _ hpt ?_
                | refine Req.mk hlo ?_
                | refine Req.mk hlk ?_
                | refine Req.mk ⟨by omega, by rw [hlo]; show (3 * n + 3) * 25 < 68719476736; omega⟩ ?_
                | refine Req.mk ⟨by omega, by rw [hlk]; show (n + 1) * 9 < 68719476736; omega⟩ ?_
                | (refine Idx.nat ?_ ?_; (focus omega))
                | refine Idx.nat (le_big (by omega)) ?_
                | (refine Idx.int ?_ ?_ ?_; (focus omega); (focus omega))
                | (refine Idx.int ?_ ?_ ?_; (focus decide); (focus decide))
                | refine Ifz.zero ?_
                | (refine Ifz.pos ?_ ?_; (focus omega))
                | refine Get.mk _ rfl ?_
                | refine Leaves.of ?_
                | refine Ends.of ?_
                | refine Vw.bool ?_
                | refine Vw.int ?_
                | refine Vw.nil
                | refine Vw.sl
                | refine Vw.tup ?_
                | refine Vw.agg ?_
                | refine VwL.cons ?_ ?_
                | refine VwL.nil
                | refine LeavesF.of ?_
                | refine VwF.bool ?_
                | refine VwF.int ?_
                | refine VwF.nil
                | refine VwF.sl
                | refine VwF.tup ?_
                | refine VwF.agg ?_
                | refine VwLF.cons ?_ ?_
                | refine VwLF.nil
                | (refine Req.mk ?_ ?_; (focus first | rfl | decide | exact ⟨rfl, rfl⟩ | exact ⟨rfl, by decide⟩ | exact (fun _ => rfl) | exact (fun h => nomatch h) | (simp; done) | omega | (simp [big]; done) | exact le_big (by omega) | exact lt_big (by omega))))
            all_goals first | exact NextP.mk ⟨(i + 1) + 1, n + 1, (m + 1), ks ++ [(i + 1)], st⟩ ⟨hin, htk, by simp [hn], hm, fun _ => by simp⟩ (by simp only; omega) (by rw [tkU_two, tkH_two, hC2, hD2, ← hos, ← hts]; rfl) | (exfalso; omega)
        | succ j =>
          have hkj := hlt ks[j] (List.getElem_mem _)
          have hat := ht.at hkj
          have hB := both_any (fr := t.fr) (lo := t.lo) (hi := t.hi) (cm := cm) (cs := cs) (nm := t.ms.length) (ns := t.sp.length) (mk := ofM t.ms) (sp := ofI t.sp) (a := mAt t.ms ks[j]) (b := mAt t.ms (i + 1)) ⟨by omega, by omega, by omega, by omega⟩ ht.le ⟨by omega, by omega, by omega⟩ hfb
          have hop := outM_part (t := t) (ks := ks) (j := j) (by omega)
          have hck := tkC_cell0 (ks := ks) (j := j) (by omega)
          have hby := byF_drop (P := agP t (mAt t.ms (i + 1))) (l := tkI ks) (i := j) (by rw [tkI_length]; omega)
          have hgj : (tkI ks)[j]'(by rw [tkI_length]; omega) = (ks[j] : Int) := by simp [tkI]
          rw [gI_get (by rw [tkI_length]; omega), hgj] at hck
          rw [hgj] at hby
          have hagp : agP t (mAt t.ms (i + 1)) (ks[j] : Int) = agn t.lo t.hi (mAt t.ms ks[j]) (mAt t.ms (i + 1)) := rfl
          rw [hagp] at hby
          have hj1 : (((j + 1 : Nat) : Int) - 1) = (j : Int) := by omega
          rw [hj1]
          generalize agn t.lo t.hi (mAt t.ms ks[j]) (mAt t.ms (i + 1)) = g at *
          generalize mAt t.ms ks[j] = a at *
          generalize hb : mAt t.ms (i + 1) = b at *
          generalize ((ks[j] : Nat) : Int) = kj at *
          generalize byF (agP t b) ((tkI ks).drop (j + 1)) = w at *
          cases g with
          | true =>
            rw [if_pos rfl] at hby
            repeat' (first
              | (conv => whnf)
                first
                | refine Br.t ?_
                | refine Br.f ?_
                | (refine Br.decT ?_ ?_; (focus first | assumption | omega))
                | (refine Br.decF ?_ ?_; (focus first | assumption | omega))
                | refine Br.dec (fun _ => ?_) (fun _ => ?_)
                | refine Br.not ?_
                | refine Br.and ?_
                | refine Br.or ?_
                | (refine Bnd.i64 ?_ ?_ ?_; (focus omega); (focus omega))
                | refine Get.mk _ hpt ?_
                | refine Get.mk _ hop ?_
                | refine Get.mk _ hck ?_
                | refine call_fun rfl rfl hB (.inl rfl) ?_
                | refine Req.mk hlo ?_
                | refine Req.mk hlk ?_
                | (refine Idx.nat ?_ ?_; (focus omega))
                | refine Idx.nat (le_big (by omega)) ?_
                | (refine Idx.int ?_ ?_ ?_; (focus omega); (focus omega))
                | (refine Idx.int ?_ ?_ ?_; (focus decide); (focus decide))
                | refine Ifz.zero ?_
                | (refine Ifz.pos ?_ ?_; (focus omega))
                | refine Get.mk _ rfl ?_
                | refine Leaves.of ?_
                | refine Ends.of ?_
                | refine Vw.bool ?_
                | refine Vw.int ?_
                | refine Vw.nil
                | refine Vw.sl
                | refine Vw.tup ?_
                | refine Vw.agg ?_
                | refine VwL.cons ?_ ?_
                | refine VwL.nil
                | refine LeavesF.of ?_
                | refine VwF.bool ?_
                | refine VwF.int ?_
                | refine VwF.nil
                | refine VwF.sl
                | refine VwF.tup ?_
                | refine VwF.agg ?_
                | refine VwLF.cons ?_ ?_
                | refine VwLF.nil
                | (refine Req.mk ?_ ?_; (focus first | rfl | decide | exact ⟨rfl, rfl⟩ | exact ⟨rfl, by decide⟩ | exact (fun _ => rfl) | exact (fun h => nomatch h) | (simp; done) | omega | (simp [big]; done) | exact le_big (by omega) | exact lt_big (by omega))))
            all_goals first | exact NextP.mk j (by omega) (by omega) (by rw [hby]; rfl) | (exfalso; omega)
          | false =>
            rw [if_neg (by simp)] at hby
            repeat' (first
              | (conv => whnf)
                first
                | refine Br.t ?_
                | refine Br.f ?_
                | (refine Br.decT ?_ ?_; (focus first | assumption | omega))
                | (refine Br.decF ?_ ?_; (focus first | assumption | omega))
                | refine Br.dec (fun _ => ?_) (fun _ => ?_)
                | refine Br.not ?_
                | refine Br.and ?_
                | refine Br.or ?_
                | (refine Bnd.i64 ?_ ?_ ?_; (focus omega); (focus omega))
                | refine Get.mk _ hpt ?_
                | refine Get.mk _ hop ?_
                | refine Get.mk _ hck ?_
                | refine call_fun rfl rfl hB (.inl rfl) ?_
                | refine Req.mk hlo ?_
                | refine Req.mk hlk ?_
                | (refine Idx.nat ?_ ?_; (focus omega))
                | refine Idx.nat (le_big (by omega)) ?_
                | (refine Idx.int ?_ ?_ ?_; (focus omega); (focus omega))
                | (refine Idx.int ?_ ?_ ?_; (focus decide); (focus decide))
                | refine Ifz.zero ?_
                | (refine Ifz.pos ?_ ?_; (focus omega))
                | refine Get.mk _ rfl ?_
                | refine Leaves.of ?_
                | refine Ends.of ?_
                | refine Vw.bool ?_
                | refine Vw.int ?_
                | refine Vw.nil
                | refine Vw.sl
                | refine Vw.tup ?_
                | refine Vw.agg ?_
                | refine VwL.cons ?_ ?_
                | refine VwL.nil
                | refine LeavesF.of ?_
                | refine VwF.bool ?_
                | refine VwF.int ?_
                | refine VwF.nil
                | refine VwF.sl
                | refine VwF.tup ?_
                | refine VwF.agg ?_
                | refine VwLF.cons ?_ ?_
                | refine VwLF.nil
                | (refine Req.mk ?_ ?_; (focus first | rfl | decide | exact ⟨rfl, rfl⟩ | exact ⟨rfl, by decide⟩ | exact (fun _ => rfl) | exact (fun h => nomatch h) | (simp; done) | omega | (simp [big]; done) | exact le_big (by omega) | exact lt_big (by omega))))
            all_goals first | exact NextP.mk j (by omega) (by omega) (by rw [hby]; rfl) | (exfalso; omega)
  · have hil : t.ms.length = i := by omega
    have e1 : tkOut t = if i = 0 then .sl true 0 [] else .sl false n (ofM (outM t ks)) := by unfold tkOut; rw [hil, hks]; dsimp only; rw [hn]
    have e2 : bgSt t = if m = 0 then .sl true 0 [] else .sl false m (ofSp st) := by unfold bgSt; rw [hil, hks]; dsimp only; rw [hm]
    rw [e1, e2]
    clear e1 e2
    cases i with
    | zero =>
      simp only [tkS, Prod.mk.injEq] at hks
      obtain ⟨rfl, rfl⟩ := hks
      simp only [List.length_nil] at hn hm
      subst hn hm
      rw [if_pos rfl, if_pos rfl]
      repeat' (first
        | (conv => whnf)
          first
          | refine Br.t ?_
          | refine Br.f ?_
          | (refine Br.decT ?_ ?_; (focus first | assumption | omega))
          | (refine Br.decF ?_ ?_; (focus first | assumption | omega))
          | refine Br.dec (fun _ => ?_) (fun _ => ?_)
          | refine Br.not ?_
          | refine Br.and ?_
          | refine Br.or ?_
          | (refine Bnd.i64 ?_ ?_ ?_; (focus omega); (focus omega))
          | (refine Idx.nat ?_ ?_; (focus omega))
          | refine Idx.nat (le_big (by omega)) ?_
          | (refine Idx.int ?_ ?_ ?_; (focus omega); (focus omega))
          | (refine Idx.int ?_ ?_ ?_; (focus decide); (focus decide))
          | refine Ifz.zero ?_
          | (refine Ifz.pos ?_ ?_; (focus omega))
          | refine Get.mk _ rfl ?_
          | refine Leaves.of ?_
          | refine Ends.of ?_
          | refine Vw.bool ?_
          | refine Vw.int ?_
          | refine Vw.nil
          | refine Vw.sl
          | refine Vw.tup ?_
          | refine Vw.agg ?_
          | refine VwL.cons ?_ ?_
          | refine VwL.nil
          | refine LeavesF.of ?_
          | refine VwF.bool ?_
          | refine VwF.int ?_
          | refine VwF.nil
          | refine VwF.sl
          | refine VwF.tup ?_
          | refine VwF.agg ?_
          | refine VwLF.cons ?_ ?_
          | refine VwLF.nil
          | (refine Req.mk ?_ ?_; (focus first | rfl | decide | exact ⟨rfl, rfl⟩ | exact ⟨rfl, by decide⟩ | exact (fun _ => rfl) | exact (fun h => nomatch h) | (simp; done) | omega | (simp [big]; done) | exact le_big (by omega) | exact lt_big (by omega))))
      all_goals first | rfl | (exfalso; omega)
    | succ i =>
      rw [if_neg (by omega)]
      cases m with
      | zero =>
        rw [if_pos rfl, tkU_one, tkH_one]
        repeat' (first
          | (conv => whnf)
            first
            | refine Br.t ?_
            | refine Br.f ?_
            | (refine Br.decT ?_ ?_; (focus first | assumption | omega))
            | (refine Br.decF ?_ ?_; (focus first | assumption | omega))
            | refine Br.dec (fun _ => ?_) (fun _ => ?_)
            | refine Br.not ?_
            | refine Br.and ?_
            | refine Br.or ?_
            | (refine Bnd.i64 ?_ ?_ ?_; (focus omega); (focus omega))
            | refine Vw.outM rfl rfl hn
            | (refine Idx.nat ?_ ?_; (focus omega))
            | refine Idx.nat (le_big (by omega)) ?_
            | (refine Idx.int ?_ ?_ ?_; (focus omega); (focus omega))
            | (refine Idx.int ?_ ?_ ?_; (focus decide); (focus decide))
            | refine Ifz.zero ?_
            | (refine Ifz.pos ?_ ?_; (focus omega))
            | refine Get.mk _ rfl ?_
            | refine Leaves.of ?_
            | refine Ends.of ?_
            | refine Vw.bool ?_
            | refine Vw.int ?_
            | refine Vw.nil
            | refine Vw.sl
            | refine Vw.tup ?_
            | refine Vw.agg ?_
            | refine VwL.cons ?_ ?_
            | refine VwL.nil
            | refine LeavesF.of ?_
            | refine VwF.bool ?_
            | refine VwF.int ?_
            | refine VwF.nil
            | refine VwF.sl
            | refine VwF.tup ?_
            | refine VwF.agg ?_
            | refine VwLF.cons ?_ ?_
            | refine VwLF.nil
            | (refine Req.mk ?_ ?_; (focus first | rfl | decide | exact ⟨rfl, rfl⟩ | exact ⟨rfl, by decide⟩ | exact (fun _ => rfl) | exact (fun h => nomatch h) | (simp; done) | omega | (simp [big]; done) | exact le_big (by omega) | exact lt_big (by omega))))
        all_goals first | rfl | (exfalso; omega)
      | succ m =>
        rw [if_neg (by omega), tkU_two, tkH_two]
        repeat' (first
          | (conv => whnf)
            first
            | refine Br.t ?_
            | refine Br.f ?_
            | (refine Br.decT ?_ ?_; (focus first | assumption | omega))
            | (refine Br.decF ?_ ?_; (focus first | assumption | omega))
            | refine Br.dec (fun _ => ?_) (fun _ => ?_)
            | refine Br.not ?_
            | refine Br.and ?_
            | refine Br.or ?_
            | (refine Bnd.i64 ?_ ?_ ?_; (focus omega); (focus omega))
            | refine Vw.outM rfl rfl hn
            | (refine Vw.sp rfl rfl ?_ hm.symm hm.symm; (focus rw [hm]))
            | (refine Idx.nat ?_ ?_; (focus omega))
            | refine Idx.nat (le_big (by omega)) ?_
            | (refine Idx.int ?_ ?_ ?_; (focus omega); (focus omega))
            | (refine Idx.int ?_ ?_ ?_; (focus decide); (focus decide))
            | refine Ifz.zero ?_
            | (refine Ifz.pos ?_ ?_; (focus omega))
            | refine Get.mk _ rfl ?_
            | refine Leaves.of ?_
            | refine Ends.of ?_
            | refine Vw.bool ?_
            | refine Vw.int ?_
            | refine Vw.nil
            | refine Vw.sl
            | refine Vw.tup ?_
            | refine Vw.agg ?_
            | refine VwL.cons ?_ ?_
            | refine VwL.nil
            | refine LeavesF.of ?_
            | refine VwF.bool ?_
            | refine VwF.int ?_
            | refine VwF.nil
            | refine VwF.sl
            | refine VwF.tup ?_
            | refine VwF.agg ?_
            | refine VwLF.cons ?_ ?_
            | refine VwLF.nil
            | (refine Req.mk ?_ ?_; (focus first | rfl | decide | exact ⟨rfl, rfl⟩ | exact ⟨rfl, by decide⟩ | exact (fun _ => rfl) | exact (fun h => nomatch h) | (simp; done) | omega | (simp [big]; done) | exact le_big (by omega) | exact lt_big (by omega))))
        all_goals first | rfl | (exfalso; omega)

end Go.Dr.T
