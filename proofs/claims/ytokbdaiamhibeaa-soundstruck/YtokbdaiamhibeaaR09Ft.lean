/- Chapter 09: Fit, both; the law SoundFits. -/
import Derived.Test.YtokbdaiamhibeaaR09Of
namespace Go.Dr.T

theorem fdiv_two (n : Int) : n.fdiv (2 ^ (min (Int.toNat 1) IntKind.i64.bits)) = n / 2 := by
  show n.fdiv 2 = n / 2
  exact Int.fdiv_eq_ediv_of_nonneg n (by omega)
set_option maxRecDepth 100000 in
theorem half_any (n : Int) : Fun F md 71 [.int .i64 n] (.int .i64 (n / 2)) := by
  have h := fdiv_two n
  refine fun_of rfl rfl ?_
  repeat' (first
    | (conv => whnf)
      first
      | refine Bnd.eq h ?_
      | refine Br.t ?_
      | refine Br.f ?_
      | (refine Br.decT ?_ ?_; (focus first | assumption | omega))
      | (refine Br.decF ?_ ?_; (focus first | assumption | omega))
      | refine Br.dec (fun _ => ?_) (fun _ => ?_)
      | refine Br.not ?_
      | refine Br.and ?_
      | refine Br.or ?_
      | (refine Bnd.i64 ?_ ?_ ?_; (focus omega); (focus omega))
      | (refine Idx.nat ?_ ?_; (focus omega))
      | refine Idx.nat (le_big (by omega)) ?_
      | (refine Idx.int ?_ ?_ ?_; (focus omega); (focus omega))
      | (refine Idx.int ?_ ?_ ?_; (focus decide); (focus decide))
      | refine Ifz.zero ?_
      | (refine Ifz.pos ?_ ?_; (focus omega))
      | refine Get.mk _ rfl ?_
      | refine Leaves.of ?_
      | refine Ends.of ?_
      | refine Vw.bool ?_
      | refine Vw.int ?_
      | refine Vw.nil
      | refine Vw.sl
      | refine Vw.tup ?_
      | refine Vw.agg ?_
      | refine VwL.cons ?_ ?_
      | refine VwL.nil
      | refine LeavesF.of ?_
      | refine VwF.bool ?_
      | refine VwF.int ?_
      | refine VwF.nil
      | refine VwF.sl
      | refine VwF.tup ?_
      | refine VwF.agg ?_
      | refine VwLF.cons ?_ ?_
      | refine VwLF.nil
      | (refine Req.mk ?_ ?_; (focus first | rfl | decide | exact ⟨rfl, rfl⟩ | exact ⟨rfl, by decide⟩ | exact (fun _ => rfl) | exact (fun h => nomatch h) | (simp; done) | omega | (simp [big]; done) | exact le_big (by omega) | exact lt_big (by omega))))
  all_goals first | rfl | (exfalso; omega)
set_option maxRecDepth 100000 in
theorem floor_any {n : Int} (hn : -1000000000000000000 ≤ n ∧ n ≤ 1000000000000000000) : Fun F md 72 [.int .i64 n] (.int .i64 (n / 2)) := by
  have hm := Int.mul_tdiv_add_tmod n 2
  have h1 := Int.tmod_lt_of_pos n (b := 2) (by omega)
  have h2 := Int.lt_tmod_of_pos n (b := 2) (by omega)
  generalize n.tmod 2 = r at *
  generalize hq : n.tdiv 2 = q at *
  have hQ : IntKind.i64.wrap (n.tdiv 2) = q := by rw [hq]; exact wrap_i64 (by omega) (by omega)
  by_cases hc : n < 2 * q
  · have e : n / 2 = q - 1 := by omega
    rw [e]
    refine fun_of rfl rfl ?_
    repeat' (first
      | (conv => whnf)
        first
        | refine Bnd.eq hQ ?_
        | refine Br.t ?_
        | refine Br.f ?_
        | (refine Br.decT ?_ ?_; (focus first | assumption | omega))
        | (refine Br.decF ?_ ?_; (focus first | assumption | omega))
        | refine Br.dec (fun _ => ?_) (fun _ => ?_)
        | refine Br.not ?_
        | refine Br.and ?_
        | refine Br.or ?_
        | (refine Bnd.i64 ?_ ?_ ?_; (focus omega); (focus omega))
        | (refine Idx.nat ?_ ?_; (focus omega))
        | refine Idx.nat (le_big (by omega)) ?_
        | (refine Idx.int ?_ ?_ ?_; (focus omega); (focus omega))
        | (refine Idx.int ?_ ?_ ?_; (focus decide); (focus decide))
        | refine Ifz.zero ?_
        | (refine Ifz.pos ?_ ?_; (focus omega))
        | refine Get.mk _ rfl ?_
        | refine Leaves.of ?_
        | refine Ends.of ?_
        | refine Vw.bool ?_
        | refine Vw.int ?_
        | refine Vw.nil
        | refine Vw.sl
        | refine Vw.tup ?_
        | refine Vw.agg ?_
        | refine VwL.cons ?_ ?_
        | refine VwL.nil
        | refine LeavesF.of ?_
        | refine VwF.bool ?_
        | refine VwF.int ?_
        | refine VwF.nil
        | refine VwF.sl
        | refine VwF.tup ?_
        | refine VwF.agg ?_
        | refine VwLF.cons ?_ ?_
        | refine VwLF.nil
        | (refine Req.mk ?_ ?_; (focus first | rfl | decide | exact ⟨rfl, rfl⟩ | exact ⟨rfl, by decide⟩ | exact (fun _ => rfl) | exact (fun h => nomatch h) | (simp; done) | omega | (simp [big]; done) | exact le_big (by omega) | exact lt_big (by omega))))
    all_goals first | rfl | (exfalso; omega)
  · have e : n / 2 = q := by omega
    rw [e]
    refine fun_of rfl rfl ?_
    repeat' (first
      | (conv => whnf)
        first
        | refine Bnd.eq hQ ?_
        | refine Br.t ?_
        | refine Br.f ?_
        | (refine Br.decT ?_ ?_; (focus first | assumption | omega))
        | (refine Br.decF ?_ ?_; (focus first | assumption | omega))
        | refine Br.dec (fun _ => ?_) (fun _ => ?_)
        | refine Br.not ?_
        | refine Br.and ?_
        | refine Br.or ?_
        | (refine Bnd.i64 ?_ ?_ ?_; (focus omega); (focus omega))
        | (refine Idx.nat ?_ ?_; (focus omega))
        | refine Idx.nat (le_big (by omega)) ?_
        | (refine Idx.int ?_ ?_ ?_; (focus omega); (focus omega))
        | (refine Idx.int ?_ ?_ ?_; (focus decide); (focus decide))
        | refine Ifz.zero ?_
        | (refine Ifz.pos ?_ ?_; (focus omega))
        | refine Get.mk _ rfl ?_
        | refine Leaves.of ?_
        | refine Ends.of ?_
        | refine Vw.bool ?_
        | refine Vw.int ?_
        | refine Vw.nil
        | refine Vw.sl
        | refine Vw.tup ?_
        | refine Vw.agg ?_
        | refine VwL.cons ?_ ?_
        | refine VwL.nil
        | refine LeavesF.of ?_
        | refine VwF.bool ?_
        | refine VwF.int ?_
        | refine VwF.nil
        | refine VwF.sl
        | refine VwF.tup ?_
        | refine VwF.agg ?_
        | refine VwLF.cons ?_ ?_
        | refine VwLF.nil
        | (refine Req.mk ?_ ?_; (focus first | rfl | decide | exact ⟨rfl, rfl⟩ | exact ⟨rfl, by decide⟩ | exact (fun _ => rfl) | exact (fun h => nomatch h) | (simp; done) | omega | (simp [big]; done) | exact le_big (by omega) | exact lt_big (by omega))))
    all_goals first | rfl | (exfalso; omega)

structure Ext where
  h : Int
  m : Int
  l : Int
  s : Int
/-- the ends of what is possible at the first f frames, less what is heard. -/
def exL (t : Tsk) (sp : Int) : Nat → Ext
  | 0 => ⟨0, 0, 0, 0⟩
  | f + 1 => ⟨if f = 0 ∨ (exL t sp f).m < (whS t f).2 - qF sp f then (f : Int) else (exL t sp f).h, if f = 0 ∨ (exL t sp f).m < (whS t f).2 - qF sp f then (whS t f).2 - qF sp f else (exL t sp f).m,
      if f = 0 ∨ (whS t f).1 - qF sp f < (exL t sp f).s then (f : Int) else (exL t sp f).l, if f = 0 ∨ (whS t f).1 - qF sp f < (exL t sp f).s then (whS t f).1 - qF sp f else (exL t sp f).s⟩
theorem exL_range {t : Tsk} {sp : Int} (ht : OkT t) (h0 : 0 < t.ms.length) (hs : 1 ≤ sp ∧ sp ≤ 4000000) : ∀ {f : Nat}, f ≤ 20000 → (0 ≤ (exL t sp f).h ∧ (exL t sp f).h ≤ 20000) ∧ (0 ≤ (exL t sp f).l ∧ (exL t sp f).l ≤ 20000) ∧ (-200000000000000 ≤ (exL t sp f).m ∧ (exL t sp f).m ≤ 200000000000000) ∧ (-200000000000000 ≤ (exL t sp f).s ∧ (exL t sp f).s ≤ 200000000000000)
  | 0, _ => by simp [exL]
  | f + 1, hf => by
    have ih := exL_range ht h0 hs (f := f) (by omega)
    have hq := qF_facts (f := f) hs (by omega)
    have hr := whS_range ht h0 (f := (f : Int)) (by omega)
    simp only [exL]
    refine ⟨?_, ?_, ?_, ?_⟩ <;> split <;> omega
theorem exL_le {t : Tsk} {sp : Int} (ht : OkT t) (h0 : 0 < t.ms.length) : ∀ {f : Nat}, (exL t sp f).s ≤ (exL t sp f).m
  | 0 => by simp [exL]
  | f + 1 => by
    have ih := exL_le (sp := sp) ht h0 (f := f)
    have hr := whS_le ht h0 (f : Int)
    simp only [exL]
    split <;> split <;> omega
abbrev Pf := Int × Int × Int × Int
def pfC (p : Pf) : List V := [.int .i64 p.1, .int .i64 p.2.1, .int .i64 p.2.2.1, .int .i64 p.2.2.2]
theorem pfC_len (p : Pf) : (pfC p).length = 4 := rfl
abbrev ofP (l : List Pf) : List V := flat pfC l
theorem ofP_length (l : List Pf) : (ofP l).length = 4 * l.length := by rw [show (ofP l).length = _ from flat_length pfC_len l]; omega
theorem ofP_snoc (l : List Pf) (a b c d : Int) : ofP l ++ [.int .i64 a, .int .i64 b, .int .i64 c, .int .i64 d] = ofP (l ++ [(a, b, c, d)]) := by
  rw [show ofP (l ++ [(a, b, c, d)]) = _ from flat_append _ _]; rfl
theorem VwL.pf {h : List B} {d : Nat} (p : Pf) : VwL h (d + 1) (pfC p) (pfC p) := VwL.cons (Vw.int rfl) (VwL.cons (Vw.int rfl) (VwL.cons (Vw.int rfl) (VwL.cons (Vw.int rfl) VwL.nil)))
theorem Vw.pfs {h : List B} {d id n g : Nat} {dat : Bool} {l : List Pf} (h1 : bget h id = some (.blk (ofP l) dat)) (h2 : g = 4 * n) (hn : l.length = n) : Vw h (d + 1 + 1) (.ms 4 id g 0 n false) (.sl false n (ofP l)) := by
  subst h2 hn
  exact Vw.flat pfC_len (fun m => VwL.pf m) h1 rfl (by omega) rfl rfl
/-- off, at a speed. -/
def exO (e : Ext) : Int := (e.m - e.s + 1) / 2
def fitL (t : Tsk) (N : Nat) : Nat → (Int × Int × Int) × List Pf
  | 0 => ((0, 0, 0), [])
  | i + 1 => (if i = 0 ∨ exO (exL t (gI t.sp i) N) < (fitL t N i).1.2.2 then (gI t.sp i, ((exL t (gI t.sp i) N).m + (exL t (gI t.sp i) N).s) / 2, exO (exL t (gI t.sp i) N)) else (fitL t N i).1,
      (fitL t N i).2 ++ [(gI t.sp i, (exL t (gI t.sp i) N).h, (exL t (gI t.sp i) N).l, exO (exL t (gI t.sp i) N))])
theorem fitL_len (t : Tsk) (N : Nat) : ∀ i, (fitL t N i).2.length = i
  | 0 => rfl
  | i + 1 => by simp [fitL, fitL_len t N i]
theorem gI_sp {t : Tsk} (ht : OkT t) {i : Nat} (hi : i < t.sp.length) : 1 ≤ gI t.sp i ∧ gI t.sp i ≤ 4000000 := by rw [gI_get hi]; exact ht.sp _ (List.getElem_mem hi)
def fitE (t : Tsk) : (Int × Int × Int) × List Pf × Int := if (chkT t).2.2 ≠ 0 then ((0, 0, 0), [], (chkT t).2.2) else if t.ms.length = 0 then ((0, 0, 0), [], 9) else ((fitL t t.fr.toNat t.sp.length).1, (fitL t t.fr.toNat t.sp.length).2, 0)
abbrev fitV (c : Bool) (r : (Int × Int × Int) × List Pf × Int) : V := .tup [.agg [.int .i64 r.1.1, .int .i64 r.1.2.1, .int .i64 r.1.2.2], .sl c r.2.1.length (ofP r.2.1), .int .i64 r.2.2]

structure FtS where
  i : Nat
  b : Int × Int × Int
  l : List Pf
def ftU (a : FtS) : List (Nat × V) :=
  match a.i with
  | 0 => [(9, .nilsl), (10, .int .i64 ((0 : Nat) : Int))]
  | i + 1 => [(9, .ms 4 3 (4 * (i + 1)) 0 (i + 1) false), (10, .int .i64 ((i + 1 : Nat) : Int))]
def ftH (t : Tsk) (cm cs : Bool) (a : FtS) : List B :=
  match a.i with
  | 0 => [bg0 t cm cs, .blk [.int .i64 0, .int .i64 0, .int .i64 0] false, .blk [.int .i64 0, .int .i64 0, .int .i64 0] false]
  | _ + 1 => [bg0 t cm cs, .blk [.int .i64 0, .int .i64 0, .int .i64 0] false, .blk [.int .i64 a.b.1, .int .i64 a.b.2.1, .int .i64 a.b.2.2] false, .blk (ofP a.l) true]
theorem ftU_one (i : Nat) (b : Int × Int × Int) (l : List Pf) : ftU ⟨i + 1, b, l⟩ = [(9, .ms 4 3 (4 * (i + 1)) 0 (i + 1) false), (10, .int .i64 ((i + 1 : Nat) : Int))] := rfl
theorem ftH_one (t : Tsk) (cm cs : Bool) (i : Nat) (b : Int × Int × Int) (l : List Pf) : ftH t cm cs ⟨i + 1, b, l⟩ = [bg0 t cm cs, .blk [.int .i64 0, .int .i64 0, .int .i64 0] false, .blk [.int .i64 b.1, .int .i64 b.2.1, .int .i64 b.2.2] false, .blk (ofP l) true] := rfl
def FtP (t : Tsk) (N : Nat) (a : FtS) : Prop := a.i ≤ t.sp.length ∧ fitL t N a.i = (a.b, a.l) ∧ a.l.length = a.i

set_option maxRecDepth 100000 in
set_option maxHeartbeats 20000000 in
theorem fitR_ok {cm cs : Bool} {t : Tsk} (hc : chkT t = (0, 0, 0)) (ht : OkT t) (h0 : 0 < t.ms.length) :
    Fun F md 37 [tskV cm cs t] (fitV false ((fitL t t.fr.toNat t.sp.length).1, (fitL t t.fr.toNat t.sp.length).2, 0)) := by
  have hv := valid_any cm cs t
  rw [hc] at hv
  have hb := taken_ok (cm := cm) (cs := cs) ht
  rw [bgSt_eq, tkOut_eq] at hb
  have hfr := ht.fr
  have hsps := ht.sps
  have hat := fun (f : Nat) (hf : f ≤ 20000) => where_any (cm := cm) (cs := cs) (c := decide (t.ms.length = 0)) ht h0 (f := (f : Int)) (by omega)
  have hrg := fun (f : Nat) (hf : f ≤ 20000) => whS_range ht h0 (f := (f : Int)) (by omega)
  generalize ofM (outM t (tkK t)) = C at *
  generalize (tkK t).length = L at *
  obtain ⟨N, hN⟩ : ∃ N : Nat, t.fr = (N : Int) := ⟨t.fr.toNat, by omega⟩
  rw [hN, Int.toNat_natCast]
  rw [hN] at hfr
  refine fun_of rfl rfl ?_
  repeat' (first
    | (conv => whnf)
      first
      | refine Br.t ?_
      | refine Br.f ?_
      | (refine Br.decT ?_ ?_; (focus first | assumption | omega))
      | (refine Br.decF ?_ ?_; (focus first | assumption | omega))
      | refine Br.dec (fun _ => ?_) (fun _ => ?_)
      | refine Br.not ?_
      | refine Br.and ?_
      | refine Br.or ?_
      | (refine Bnd.i64 ?_ ?_ ?_; (focus omega); (focus omega))
      | refine call_fun rfl rfl hb (.inl rfl) ?_
      | refine call_fun rfl rfl hv (.inl rfl) ?_
      | (refine Idx.nat ?_ ?_; (focus omega))
      | refine Idx.nat (le_big (by omega)) ?_
      | (refine Idx.int ?_ ?_ ?_; (focus omega); (focus omega))
      | (refine Idx.int ?_ ?_ ?_; (focus decide); (focus decide))
      | refine Ifz.zero ?_
      | (refine Ifz.pos ?_ ?_; (focus omega))
      | refine Get.mk _ rfl ?_
      | refine Leaves.of ?_
      | refine Ends.of ?_
      | refine Vw.bool ?_
      | refine Vw.int ?_
      | refine Vw.nil
      | refine Vw.sl
      | refine Vw.tup ?_
      | refine Vw.agg ?_
      | refine VwL.cons ?_ ?_
      | refine VwL.nil
      | refine LeavesF.of ?_
      | refine VwF.bool ?_
      | refine VwF.int ?_
      | refine VwF.nil
      | refine VwF.sl
      | refine VwF.tup ?_
      | refine VwF.agg ?_
      | refine VwLF.cons ?_ ?_
      | refine VwLF.nil
      | (refine Req.mk ?_ ?_; (focus first | rfl | decide | exact ⟨rfl, rfl⟩ | exact ⟨rfl, by decide⟩ | exact (fun _ => rfl) | exact (fun h => nomatch h) | (simp; done) | omega | (simp [big]; done) | exact le_big (by omega) | exact lt_big (by omega))))
  all_goals try (exfalso; omega)
  refine LoopP.by (FtP t N) ftU (ftH t cm cs) (fun a => t.sp.length - a.i) ⟨0, (0, 0, 0), []⟩ ⟨Nat.zero_le _, rfl, rfl⟩ rfl ?_
  rintro ⟨i, b, l⟩ ⟨hi, hfl, hll⟩
  dsimp only at hi hfl hll ⊢
  by_cases hin : i < t.sp.length
  · cases i with
    | zero =>
      obtain rfl : l = [] := List.length_eq_zero_iff.1 hll
      have hsp := gI_sp ht hin
      have hcs := gI_cell (l := t.sp) hin
      have hnf : fitL t N (0 + 1) = (if 0 = 0 ∨ exO (exL t (gI t.sp 0) N) < (fitL t N (0)).1.2.2 then (gI t.sp 0, ((exL t (gI t.sp 0) N).m + (exL t (gI t.sp 0) N).s) / 2, exO (exL t (gI t.sp 0) N)) else (fitL t N (0)).1,
            (fitL t N (0)).2 ++ [(gI t.sp 0, (exL t (gI t.sp 0) N).h, (exL t (gI t.sp 0) N).l, exO (exL t (gI t.sp 0) N))]) := rfl
      rw [hfl] at hnf
      dsimp only at hnf
      repeat' (first
        | (conv => whnf)
          first
          | refine Br.t ?_
          | refine Br.f ?_
          | (refine Br.decT ?_ ?_; (focus first | assumption | omega))
          | (refine Br.decF ?_ ?_; (focus first | assumption | omega))
          | refine Br.dec (fun _ => ?_) (fun _ => ?_)
          | refine Br.not ?_
          | refine Br.and ?_
          | refine Br.or ?_
          | (refine Bnd.i64 ?_ ?_ ?_; (focus omega); (focus omega))
          | (refine Idx.nat ?_ ?_; (focus omega))
          | refine Idx.nat (le_big (by omega)) ?_
          | (refine Idx.int ?_ ?_ ?_; (focus omega); (focus omega))
          | (refine Idx.int ?_ ?_ ?_; (focus decide); (focus decide))
          | refine Ifz.zero ?_
          | (refine Ifz.pos ?_ ?_; (focus omega))
          | refine Get.mk _ rfl ?_
          | refine Leaves.of ?_
          | refine Ends.of ?_
          | refine Vw.bool ?_
          | refine Vw.int ?_
          | refine Vw.nil
          | refine Vw.sl
          | refine Vw.tup ?_
          | refine Vw.agg ?_
          | refine VwL.cons ?_ ?_
          | refine VwL.nil
          | refine LeavesF.of ?_
          | refine VwF.bool ?_
          | refine VwF.int ?_
          | refine VwF.nil
          | refine VwF.sl
          | refine VwF.tup ?_
          | refine VwF.agg ?_
          | refine VwLF.cons ?_ ?_
          | refine VwLF.nil
          | (refine Req.mk ?_ ?_; (focus first | rfl | decide | exact ⟨rfl, rfl⟩ | exact ⟨rfl, by decide⟩ | exact (fun _ => rfl) | exact (fun h => nomatch h) | (simp; done) | omega | (simp [big]; done) | exact le_big (by omega) | exact lt_big (by omega))))
      all_goals try (exfalso; omega)
      refine LoopP.byB (fun f : Nat => f ≤ N) (fun f => [(11, .int .i64 (exL t (gI t.sp 0) f).h), (12, .int .i64 (exL t (gI t.sp 0) f).l), (13, .int .i64 (exL t (gI t.sp 0) f).m), (14, .int .i64 (exL t (gI t.sp 0) f).s), (15, .int .i64 (f : Nat))]) (fun _ => []) (fun f => N - f) 0 (Nat.zero_le _) rfl ?_
      intro f hf
      have hexr := exL_range ht h0 hsp (f := f) (by omega)
      by_cases hfn : f < N
      · obtain ⟨hMul, hQ, hq0, hq1⟩ := qF_facts (sp := gI t.sp 0) (f := f) hsp (by omega)
        have hatf := hat f (by omega)
        have hrgf := hrg f (by omega)
        have hnx : exL t (gI t.sp 0) (f + 1) = ⟨if f = 0 ∨ (exL t (gI t.sp 0) f).m < (whS t f).2 - qF (gI t.sp 0) f then (f : Int) else (exL t (gI t.sp 0) f).h, if f = 0 ∨ (exL t (gI t.sp 0) f).m < (whS t f).2 - qF (gI t.sp 0) f then (whS t f).2 - qF (gI t.sp 0) f else (exL t (gI t.sp 0) f).m,
              if f = 0 ∨ (whS t f).1 - qF (gI t.sp 0) f < (exL t (gI t.sp 0) f).s then (f : Int) else (exL t (gI t.sp 0) f).l, if f = 0 ∨ (whS t f).1 - qF (gI t.sp 0) f < (exL t (gI t.sp 0) f).s then (whS t f).1 - qF (gI t.sp 0) f else (exL t (gI t.sp 0) f).s⟩ := rfl
        generalize qF (gI t.sp 0) f = q at *
        generalize whS t (f : Int) = w at *
        generalize hon : exL t (gI t.sp 0) (f + 1) = on at *
        generalize exL t (gI t.sp 0) f = o at *
        obtain ⟨w1, w2⟩ := w
        obtain ⟨o1, o2, o3, o4⟩ := o
        dsimp only at hnx hatf hrgf hexr ⊢
        by_cases c1 : f = 0 ∨ o2 < w2 - q
        · by_cases c2 : f = 0 ∨ w1 - q < o4
          · rw [if_pos c1, if_pos c1, if_pos c2, if_pos c2] at hnx
            subst hnx
            repeat' (first
              | (conv => whnf)
                first
                | refine Bnd.eq hMul ?_
                | refine Bnd.eq hQ ?_
                | refine Br.t ?_
                | refine Br.f ?_
                | (refine Br.decT ?_ ?_; (focus first | assumption | omega))
                | (refine Br.decF ?_ ?_; (focus first | assumption | omega))
                | refine Br.dec (fun _ => ?_) (fun _ => ?_)
                | refine Br.not ?_
                | refine Br.and ?_
                | refine Br.or ?_
                | (refine Bnd.i64 ?_ ?_ ?_; (focus omega); (focus omega))
                | refine Get.mk _ hcs ?_
                | refine call_fun rfl rfl hatf (.inl rfl) ?_
                | (refine Idx.nat ?_ ?_; (focus omega))
                | refine Idx.nat (le_big (by omega)) ?_
                | (refine Idx.int ?_ ?_ ?_; (focus omega); (focus omega))
                | (refine Idx.int ?_ ?_ ?_; (focus decide); (focus decide))
                | refine Ifz.zero ?_
                | (refine Ifz.pos ?_ ?_; (focus omega))
                | refine Get.mk _ rfl ?_
                | refine Leaves.of ?_
                | refine Ends.of ?_
                | refine Vw.bool ?_
                | refine Vw.int ?_
                | refine Vw.nil
                | refine Vw.sl
                | refine Vw.tup ?_
                | refine Vw.agg ?_
                | refine VwL.cons ?_ ?_
                | refine VwL.nil
                | refine LeavesF.of ?_
                | refine VwF.bool ?_
                | refine VwF.int ?_
                | refine VwF.nil
                | refine VwF.sl
                | refine VwF.tup ?_
                | refine VwF.agg ?_
                | refine VwLF.cons ?_ ?_
                | refine VwLF.nil
                | (refine Req.mk ?_ ?_; (focus first | rfl | decide | exact ⟨rfl, rfl⟩ | exact ⟨rfl, by decide⟩ | exact (fun _ => rfl) | exact (fun h => nomatch h) | (simp; done) | omega | (simp [big]; done) | exact le_big (by omega) | exact lt_big (by omega))))
            all_goals first | exact NextP.mk (f + 1) (by omega) (by omega) (by rw [hon]; rfl) | (exfalso; omega)
          · rw [if_pos c1, if_pos c1, if_neg c2, if_neg c2] at hnx
            subst hnx
            repeat' (first
              | (conv => whnf)
                first
                | refine Bnd.eq hMul ?_
                | refine Bnd.eq hQ ?_
                | refine Br.t ?_
                | refine Br.f ?_
                | (refine Br.decT ?_ ?_; (focus first | assumption | omega))
                | (refine Br.decF ?_ ?_; (focus first | assumption | omega))
                | refine Br.dec (fun _ => ?_) (fun _ => ?_)
                | refine Br.not ?_
                | refine Br.and ?_
                | refine Br.or ?_
                | (refine Bnd.i64 ?_ ?_ ?_; (focus omega); (focus omega))
                | refine Get.mk _ hcs ?_
                | refine call_fun rfl rfl hatf (.inl rfl) ?_
                | (refine Idx.nat ?_ ?_; (focus omega))
                | refine Idx.nat (le_big (by omega)) ?_
                | (refine Idx.int ?_ ?_ ?_; (focus omega); (focus omega))
                | (refine Idx.int ?_ ?_ ?_; (focus decide); (focus decide))
                | refine Ifz.zero ?_
                | (refine Ifz.pos ?_ ?_; (focus omega))
                | refine Get.mk _ rfl ?_
                | refine Leaves.of ?_
                | refine Ends.of ?_
                | refine Vw.bool ?_
                | refine Vw.int ?_
                | refine Vw.nil
                | refine Vw.sl
                | refine Vw.tup ?_
                | refine Vw.agg ?_
                | refine VwL.cons ?_ ?_
                | refine VwL.nil
                | refine LeavesF.of ?_
                | refine VwF.bool ?_
                | refine VwF.int ?_
                | refine VwF.nil
                | refine VwF.sl
                | refine VwF.tup ?_
                | refine VwF.agg ?_
                | refine VwLF.cons ?_ ?_
                | refine VwLF.nil
                | (refine Req.mk ?_ ?_; (focus first | rfl | decide | exact ⟨rfl, rfl⟩ | exact ⟨rfl, by decide⟩ | exact (fun _ => rfl) | exact (fun h => nomatch h) | (simp; done) | omega | (simp [big]; done) | exact le_big (by omega) | exact lt_big (by omega))))
            all_goals first | exact NextP.mk (f + 1) (by omega) (by omega) (by rw [hon]; rfl) | (exfalso; omega)
        · by_cases c2 : f = 0 ∨ w1 - q < o4
          · rw [if_neg c1, if_neg c1, if_pos c2, if_pos c2] at hnx
            subst hnx
            repeat' (first
              | (conv => whnf)
                first
                | refine Bnd.eq hMul ?_
                | refine Bnd.eq hQ ?_
                | refine Br.t ?_
                | refine Br.f ?_
                | (refine Br.decT ?_ ?_; (focus first | assumption | omega))
                | (refine Br.decF ?_ ?_; (focus first | assumption | omega))
                | refine Br.dec (fun _ => ?_) (fun _ => ?_)
                | refine Br.not ?_
                | refine Br.and ?_
                | refine Br.or ?_
                | (refine Bnd.i64 ?_ ?_ ?_; (focus omega); (focus omega))
                | refine Get.mk _ hcs ?_
                | refine call_fun rfl rfl hatf (.inl rfl) ?_
                | (refine Idx.nat ?_ ?_; (focus omega))
                | refine Idx.nat (le_big (by omega)) ?_
                | (refine Idx.int ?_ ?_ ?_; (focus omega); (focus omega))
                | (refine Idx.int ?_ ?_ ?_; (focus decide); (focus decide))
                | refine Ifz.zero ?_
                | (refine Ifz.pos ?_ ?_; (focus omega))
                | refine Get.mk _ rfl ?_
                | refine Leaves.of ?_
                | refine Ends.of ?_
                | refine Vw.bool ?_
                | refine Vw.int ?_
                | refine Vw.nil
                | refine Vw.sl
                | refine Vw.tup ?_
                | refine Vw.agg ?_
                | refine VwL.cons ?_ ?_
                | refine VwL.nil
                | refine LeavesF.of ?_
                | refine VwF.bool ?_
                | refine VwF.int ?_
                | refine VwF.nil
                | refine VwF.sl
                | refine VwF.tup ?_
                | refine VwF.agg ?_
                | refine VwLF.cons ?_ ?_
                | refine VwLF.nil
                | (refine Req.mk ?_ ?_; (focus first | rfl | decide | exact ⟨rfl, rfl⟩ | exact ⟨rfl, by decide⟩ | exact (fun _ => rfl) | exact (fun h => nomatch h) | (simp; done) | omega | (simp [big]; done) | exact le_big (by omega) | exact lt_big (by omega))))
            all_goals first | exact NextP.mk (f + 1) (by omega) (by omega) (by rw [hon]; rfl) | (exfalso; omega)
          · rw [if_neg c1, if_neg c1, if_neg c2, if_neg c2] at hnx
            subst hnx
            repeat' (first
              | (conv => whnf)
                first
                | refine Bnd.eq hMul ?_
                | refine Bnd.eq hQ ?_
                | refine Br.t ?_
                | refine Br.f ?_
                | (refine Br.decT ?_ ?_; (focus first | assumption | omega))
                | (refine Br.decF ?_ ?_; (focus first | assumption | omega))
                | refine Br.dec (fun _ => ?_) (fun _ => ?_)
                | refine Br.not ?_
                | refine Br.and ?_
                | refine Br.or ?_
                | (refine Bnd.i64 ?_ ?_ ?_; (focus omega); (focus omega))
                | refine Get.mk _ hcs ?_
                | refine call_fun rfl rfl hatf (.inl rfl) ?_
                | (refine Idx.nat ?_ ?_; (focus omega))
                | refine Idx.nat (le_big (by omega)) ?_
                | (refine Idx.int ?_ ?_ ?_; (focus omega); (focus omega))
                | (refine Idx.int ?_ ?_ ?_; (focus decide); (focus decide))
                | refine Ifz.zero ?_
                | (refine Ifz.pos ?_ ?_; (focus omega))
                | refine Get.mk _ rfl ?_
                | refine Leaves.of ?_
                | refine Ends.of ?_
                | refine Vw.bool ?_
                | refine Vw.int ?_
                | refine Vw.nil
                | refine Vw.sl
                | refine Vw.tup ?_
                | refine Vw.agg ?_
                | refine VwL.cons ?_ ?_
                | refine VwL.nil
                | refine LeavesF.of ?_
                | refine VwF.bool ?_
                | refine VwF.int ?_
                | refine VwF.nil
                | refine VwF.sl
                | refine VwF.tup ?_
                | refine VwF.agg ?_
                | refine VwLF.cons ?_ ?_
                | refine VwLF.nil
                | (refine Req.mk ?_ ?_; (focus first | rfl | decide | exact ⟨rfl, rfl⟩ | exact ⟨rfl, by decide⟩ | exact (fun _ => rfl) | exact (fun h => nomatch h) | (simp; done) | omega | (simp [big]; done) | exact le_big (by omega) | exact lt_big (by omega))))
            all_goals first | exact NextP.mk (f + 1) (by omega) (by omega) (by rw [hon]; rfl) | (exfalso; omega)
      · obtain rfl : f = N := by omega
        have hexs := exL_le (sp := gI t.sp 0) ht h0 (f := f)
        generalize exL t (gI t.sp 0) f = e at *
        obtain ⟨e1, e2, e3, e4⟩ := e
        dsimp only at hexr hexs hnf ⊢
        have hO : exO ⟨e1, e2, e3, e4⟩ = (e2 - e4 + 1) / 2 := rfl
        have hO2 : 0 - (0 - (e2 - e4)) / 2 = (e2 - e4 + 1) / 2 := by omega
        have hfl1 := floor_any (n := 0 - (e2 - e4)) (by omega)
        have hfl2 := floor_any (n := e2 + e4) (by omega)
        rw [hO] at hnf
        generalize hh2 : (e2 + e4) / 2 = h2 at *
        generalize hh1 : (0 - (e2 - e4)) / 2 = h1 at *
        generalize (e2 - e4 + 1) / 2 = oo at *
        by_cases hbst : 0 = 0 ∨ oo < b.2.2
        · rw [if_pos hbst] at hnf
          repeat' (first
            | (conv => whnf)
              first
              | refine Bnd.eq (wrap_i64 (by omega) (by omega) |>.trans hO2) ?_
              | refine Br.t ?_
              | refine Br.f ?_
              | (refine Br.decT ?_ ?_; (focus first | assumption | omega))
              | (refine Br.decF ?_ ?_; (focus first | assumption | omega))
              | refine Br.dec (fun _ => ?_) (fun _ => ?_)
              | refine Br.not ?_
              | refine Br.and ?_
              | refine Br.or ?_
              | (refine Bnd.i64 ?_ ?_ ?_; (focus omega); (focus omega))
              | refine Get.mk _ hcs ?_
              | refine call_fun rfl rfl hfl1 (.inl rfl) ?_
              | refine call_fun rfl rfl hfl2 (.inl rfl) ?_
              | (refine Idx.nat ?_ ?_; (focus omega))
              | refine Idx.nat (le_big (by omega)) ?_
              | (refine Idx.int ?_ ?_ ?_; (focus omega); (focus omega))
              | (refine Idx.int ?_ ?_ ?_; (focus decide); (focus decide))
              | refine Ifz.zero ?_
              | (refine Ifz.pos ?_ ?_; (focus omega))
              | refine Get.mk _ rfl ?_
              | refine Leaves.of ?_
              | refine Ends.of ?_
              | refine Vw.bool ?_
              | refine Vw.int ?_
              | refine Vw.nil
              | refine Vw.sl
              | refine Vw.tup ?_
              | refine Vw.agg ?_
              | refine VwL.cons ?_ ?_
              | refine VwL.nil
              | refine LeavesF.of ?_
              | refine VwF.bool ?_
              | refine VwF.int ?_
              | refine VwF.nil
              | refine VwF.sl
              | refine VwF.tup ?_
              | refine VwF.agg ?_
              | refine VwLF.cons ?_ ?_
              | refine VwLF.nil
              | (refine Req.mk ?_ ?_; (focus first | rfl | decide | exact ⟨rfl, rfl⟩ | exact ⟨rfl, by decide⟩ | exact (fun _ => rfl) | exact (fun h => nomatch h) | (simp; done) | omega | (simp [big]; done) | exact le_big (by omega) | exact lt_big (by omega))))
          all_goals first | exact NextP.mk ⟨0 + 1, (gI t.sp 0, h2, oo), ([] : List Pf) ++ [(gI t.sp 0, e1, e3, oo)]⟩ ⟨hin, hnf, by simp [hll]⟩ (by simp only; omega) (by rw [ftU_one, ftH_one, ← ofP_snoc]; rfl) | (exfalso; omega)
        · rw [if_neg hbst] at hnf
          repeat' (first
            | (conv => whnf)
              first
              | refine Bnd.eq (wrap_i64 (by omega) (by omega) |>.trans hO2) ?_
              | refine Br.t ?_
              | refine Br.f ?_
              | (refine Br.decT ?_ ?_; (focus first | assumption | omega))
              | (refine Br.decF ?_ ?_; (focus first | assumption | omega))
              | refine Br.dec (fun _ => ?_) (fun _ => ?_)
              | refine Br.not ?_
              | refine Br.and ?_
              | refine Br.or ?_
              | (refine Bnd.i64 ?_ ?_ ?_; (focus omega); (focus omega))
              | refine Get.mk _ hcs ?_
              | refine call_fun rfl rfl hfl1 (.inl rfl) ?_
              | refine call_fun rfl rfl hfl2 (.inl rfl) ?_
              | (refine Idx.nat ?_ ?_; (focus omega))
              | refine Idx.nat (le_big (by omega)) ?_
              | (refine Idx.int ?_ ?_ ?_; (focus omega); (focus omega))
              | (refine Idx.int ?_ ?_ ?_; (focus decide); (focus decide))
              | refine Ifz.zero ?_
              | (refine Ifz.pos ?_ ?_; (focus omega))
              | refine Get.mk _ rfl ?_
              | refine Leaves.of ?_
              | refine Ends.of ?_
              | refine Vw.bool ?_
              | refine Vw.int ?_
              | refine Vw.nil
              | refine Vw.sl
              | refine Vw.tup ?_
              | refine Vw.agg ?_
              | refine VwL.cons ?_ ?_
              | refine VwL.nil
              | refine LeavesF.of ?_
              | refine VwF.bool ?_
              | refine VwF.int ?_
              | refine VwF.nil
              | refine VwF.sl
              | refine VwF.tup ?_
              | refine VwF.agg ?_
              | refine VwLF.cons ?_ ?_
              | refine VwLF.nil
              | (refine Req.mk ?_ ?_; (focus first | rfl | decide | exact ⟨rfl, rfl⟩ | exact ⟨rfl, by decide⟩ | exact (fun _ => rfl) | exact (fun h => nomatch h) | (simp; done) | omega | (simp [big]; done) | exact le_big (by omega) | exact lt_big (by omega))))
          all_goals first | exact NextP.mk ⟨0 + 1, b, ([] : List Pf) ++ [(gI t.sp 0, e1, e3, oo)]⟩ ⟨hin, hnf, by simp [hll]⟩ (by simp only; omega) (by rw [ftU_one, ftH_one, ← ofP_snoc]; rfl) | (exfalso; omega)
    | succ i =>
      have hlp : (ofP l).length = 4 * (i + 1) := by rw [ofP_length, hll]
      rw [ftU_one, ftH_one]
      have hsp := gI_sp ht hin
      have hcs := gI_cell (l := t.sp) hin
      have hnf : fitL t N ((i + 1) + 1) = (if (i + 1) = 0 ∨ exO (exL t (gI t.sp (i + 1)) N) < (fitL t N ((i + 1))).1.2.2 then (gI t.sp (i + 1), ((exL t (gI t.sp (i + 1)) N).m + (exL t (gI t.sp (i + 1)) N).s) / 2, exO (exL t (gI t.sp (i + 1)) N)) else (fitL t N ((i + 1))).1,
            (fitL t N ((i + 1))).2 ++ [(gI t.sp (i + 1), (exL t (gI t.sp (i + 1)) N).h, (exL t (gI t.sp (i + 1)) N).l, exO (exL t (gI t.sp (i + 1)) N))]) := rfl
      rw [hfl] at hnf
      dsimp only at hnf
      repeat' (first
        | (conv => whnf)
          first
          | refine Br.t ?_
          | refine Br.f ?_
          | (refine Br.decT ?_ ?_; (focus first | assumption | omega))
          | (refine Br.decF ?_ ?_; (focus first | assumption | omega))
          | refine Br.dec (fun _ => ?_) (fun _ => ?_)
          | refine Br.not ?_
          | refine Br.and ?_
          | refine Br.or ?_
          | (refine Bnd.i64 ?_ ?_ ?_; (focus omega); (focus omega))
          | (refine Idx.nat ?_ ?_; (focus omega))
          | refine Idx.nat (le_big (by omega)) ?_
          | (refine Idx.int ?_ ?_ ?_; (focus omega); (focus omega))
          | (refine Idx.int ?_ ?_ ?_; (focus decide); (focus decide))
          | refine Ifz.zero ?_
          | (refine Ifz.pos ?_ ?_; (focus omega))
          | refine Get.mk _ rfl ?_
          | refine Leaves.of ?_
          | refine Ends.of ?_
          | refine Vw.bool ?_
          | refine Vw.int ?_
          | refine Vw.nil
          | refine Vw.sl
          | refine Vw.tup ?_
          | refine Vw.agg ?_
          | refine VwL.cons ?_ ?_
          | refine VwL.nil
          | refine LeavesF.of ?_
          | refine VwF.bool ?_
          | refine VwF.int ?_
          | refine VwF.nil
          | refine VwF.sl
          | refine VwF.tup ?_
          | refine VwF.agg ?_
          | refine VwLF.cons ?_ ?_
          | refine VwLF.nil
          | (refine Req.mk ?_ ?_; (focus first | rfl | decide | exact ⟨rfl, rfl⟩ | exact ⟨rfl, by decide⟩ | exact (fun _ => rfl) | exact (fun h => nomatch h) | (simp; done) | omega | (simp [big]; done) | exact le_big (by omega) | exact lt_big (by omega))))
      all_goals try (exfalso; omega)
      refine LoopP.byB (fun f : Nat => f ≤ N) (fun f => [(11, .int .i64 (exL t (gI t.sp (i + 1)) f).h), (12, .int .i64 (exL t (gI t.sp (i + 1)) f).l), (13, .int .i64 (exL t (gI t.sp (i + 1)) f).m), (14, .int .i64 (exL t (gI t.sp (i + 1)) f).s), (15, .int .i64 (f : Nat))]) (fun _ => []) (fun f => N - f) 0 (Nat.zero_le _) rfl ?_
      intro f hf
      have hexr := exL_range ht h0 hsp (f := f) (by omega)
      by_cases hfn : f < N
      · obtain ⟨hMul, hQ, hq0, hq1⟩ := qF_facts (sp := gI t.sp (i + 1)) (f := f) hsp (by omega)
        have hatf := hat f (by omega)
        have hrgf := hrg f (by omega)
        have hnx : exL t (gI t.sp (i + 1)) (f + 1) = ⟨if f = 0 ∨ (exL t (gI t.sp (i + 1)) f).m < (whS t f).2 - qF (gI t.sp (i + 1)) f then (f : Int) else (exL t (gI t.sp (i + 1)) f).h, if f = 0 ∨ (exL t (gI t.sp (i + 1)) f).m < (whS t f).2 - qF (gI t.sp (i + 1)) f then (whS t f).2 - qF (gI t.sp (i + 1)) f else (exL t (gI t.sp (i + 1)) f).m,
              if f = 0 ∨ (whS t f).1 - qF (gI t.sp (i + 1)) f < (exL t (gI t.sp (i + 1)) f).s then (f : Int) else (exL t (gI t.sp (i + 1)) f).l, if f = 0 ∨ (whS t f).1 - qF (gI t.sp (i + 1)) f < (exL t (gI t.sp (i + 1)) f).s then (whS t f).1 - qF (gI t.sp (i + 1)) f else (exL t (gI t.sp (i + 1)) f).s⟩ := rfl
        generalize qF (gI t.sp (i + 1)) f = q at *
        generalize whS t (f : Int) = w at *
        generalize hon : exL t (gI t.sp (i + 1)) (f + 1) = on at *
        generalize exL t (gI t.sp (i + 1)) f = o at *
        obtain ⟨w1, w2⟩ := w
        obtain ⟨o1, o2, o3, o4⟩ := o
        dsimp only at hnx hatf hrgf hexr ⊢
        by_cases c1 : f = 0 ∨ o2 < w2 - q
        · by_cases c2 : f = 0 ∨ w1 - q < o4
          · rw [if_pos c1, if_pos c1, if_pos c2, if_pos c2] at hnx
            subst hnx
            repeat' (first
              | (conv => whnf)
                first
                | refine Bnd.eq hMul ?_
                | refine Bnd.eq hQ ?_
                | refine Br.t ?_
                | refine Br.f ?_
                | (refine Br.decT ?_ ?_; (focus first | assumption | omega))
                | (refine Br.decF ?_ ?_; (focus first | assumption | omega))
                | refine Br.dec (fun _ => ?_) (fun _ => ?_)
                | refine Br.not ?_
                | refine Br.and ?_
                | refine Br.or ?_
                | (refine Bnd.i64 ?_ ?_ ?_; (focus omega); (focus omega))
                | refine Get.mk _ hcs ?_
                | refine call_fun rfl rfl hatf (.inl rfl) ?_
                | (refine Idx.nat ?_ ?_; (focus omega))
                | refine Idx.nat (le_big (by omega)) ?_
                | (refine Idx.int ?_ ?_ ?_; (focus omega); (focus omega))
                | (refine Idx.int ?_ ?_ ?_; (focus decide); (focus decide))
                | refine Ifz.zero ?_
                | (refine Ifz.pos ?_ ?_; (focus omega))
                | refine Get.mk _ rfl ?_
                | refine Leaves.of ?_
                | refine Ends.of ?_
                | refine Vw.bool ?_
                | refine Vw.int ?_
                | refine Vw.nil
                | refine Vw.sl
                | refine Vw.tup ?_
                | refine Vw.agg ?_
                | refine VwL.cons ?_ ?_
                | refine VwL.nil
                | refine LeavesF.of ?_
                | refine VwF.bool ?_
                | refine VwF.int ?_
                | refine VwF.nil
                | refine VwF.sl
                | refine VwF.tup ?_
                | refine VwF.agg ?_
                | refine VwLF.cons ?_ ?_
                | refine VwLF.nil
                | (refine Req.mk ?_ ?_; (focus first | rfl | decide | exact ⟨rfl, rfl⟩ | exact ⟨rfl, by decide⟩ | exact (fun _ => rfl) | exact (fun h => nomatch h) | (simp; done) | omega | (simp [big]; done) | exact le_big (by omega) | exact lt_big (by omega))))
            all_goals first | exact NextP.mk (f + 1) (by omega) (by omega) (by rw [hon]; rfl) | (exfalso; omega)
          · rw [if_pos c1, if_pos c1, if_neg c2, if_neg c2] at hnx
            subst hnx
            repeat' (first
              | (conv => whnf)
                first
                | refine Bnd.eq hMul ?_
                | refine Bnd.eq hQ ?_
                | refine Br.t ?_
                | refine Br.f ?_
                | (refine Br.decT ?_ ?_; (focus first | assumption | omega))
                | (refine Br.decF ?_ ?_; (focus first | assumption | omega))
                | refine Br.dec (fun _ => ?_) (fun _ => ?_)
                | refine Br.not ?_
                | refine Br.and ?_
                | refine Br.or ?_
                | (refine Bnd.i64 ?_ ?_ ?_; (focus omega); (focus omega))
                | refine Get.mk _ hcs ?_
                | refine call_fun rfl rfl hatf (.inl rfl) ?_
                | (refine Idx.nat ?_ ?_; (focus omega))
                | refine Idx.nat (le_big (by omega)) ?_
                | (refine Idx.int ?_ ?_ ?_; (focus omega); (focus omega))
                | (refine Idx.int ?_ ?_ ?_; (focus decide); (focus decide))
                | refine Ifz.zero ?_
                | (refine Ifz.pos ?_ ?_; (focus omega))
                | refine Get.mk _ rfl ?_
                | refine Leaves.of ?_
                | refine Ends.of ?_
                | refine Vw.bool ?_
                | refine Vw.int ?_
                | refine Vw.nil
                | refine Vw.sl
                | refine Vw.tup ?_
                | refine Vw.agg ?_
                | refine VwL.cons ?_ ?_
                | refine VwL.nil
                | refine LeavesF.of ?_
                | refine VwF.bool ?_
                | refine VwF.int ?_
                | refine VwF.nil
                | refine VwF.sl
                | refine VwF.tup ?_
                | refine VwF.agg ?_
                | refine VwLF.cons ?_ ?_
                | refine VwLF.nil
                | (refine Req.mk ?_ ?_; (focus first | rfl | decide | exact ⟨rfl, rfl⟩ | exact ⟨rfl, by decide⟩ | exact (fun _ => rfl) | exact (fun h => nomatch h) | (simp; done) | omega | (simp [big]; done) | exact le_big (by omega) | exact lt_big (by omega))))
            all_goals first | exact NextP.mk (f + 1) (by omega) (by omega) (by rw [hon]; rfl) | (exfalso; omega)
        · by_cases c2 : f = 0 ∨ w1 - q < o4
          · rw [if_neg c1, if_neg c1, if_pos c2, if_pos c2] at hnx
            subst hnx
            repeat' (first
              | (conv => whnf)
                first
                | refine Bnd.eq hMul ?_
                | refine Bnd.eq hQ ?_
                | refine Br.t ?_
                | refine Br.f ?_
                | (refine Br.decT ?_ ?_; (focus first | assumption | omega))
                | (refine Br.decF ?_ ?_; (focus first | assumption | omega))
                | refine Br.dec (fun _ => ?_) (fun _ => ?_)
                | refine Br.not ?_
                | refine Br.and ?_
                | refine Br.or ?_
                | (refine Bnd.i64 ?_ ?_ ?_; (focus omega); (focus omega))
                | refine Get.mk _ hcs ?_
                | refine call_fun rfl rfl hatf (.inl rfl) ?_
                | (refine Idx.nat ?_ ?_; (focus omega))
                | refine Idx.nat (le_big (by omega)) ?_
                | (refine Idx.int ?_ ?_ ?_; (focus omega); (focus omega))
                | (refine Idx.int ?_ ?_ ?_; (focus decide); (focus decide))
                | refine Ifz.zero ?_
                | (refine Ifz.pos ?_ ?_; (focus omega))
                | refine Get.mk _ rfl ?_
                | refine Leaves.of ?_
                | refine Ends.of ?_
                | refine Vw.bool ?_
                | refine Vw.int ?_
                | refine Vw.nil
                | refine Vw.sl
                | refine Vw.tup ?_
                | refine Vw.agg ?_
                | refine VwL.cons ?_ ?_
                | refine VwL.nil
                | refine LeavesF.of ?_
                | refine VwF.bool ?_
                | refine VwF.int ?_
                | refine VwF.nil
                | refine VwF.sl
                | refine VwF.tup ?_
                | refine VwF.agg ?_
                | refine VwLF.cons ?_ ?_
                | refine VwLF.nil
                | (refine Req.mk ?_ ?_; (focus first | rfl | decide | exact ⟨rfl, rfl⟩ | exact ⟨rfl, by decide⟩ | exact (fun _ => rfl) | exact (fun h => nomatch h) | (simp; done) | omega | (simp [big]; done) | exact le_big (by omega) | exact lt_big (by omega))))
            all_goals first | exact NextP.mk (f + 1) (by omega) (by omega) (by rw [hon]; rfl) | (exfalso; omega)
          · rw [if_neg c1, if_neg c1, if_neg c2, if_neg c2] at hnx
            subst hnx
            repeat' (first
              | (conv => whnf)
                first
                | refine Bnd.eq hMul ?_
                | refine Bnd.eq hQ ?_
                | refine Br.t ?_
                | refine Br.f ?_
                | (refine Br.decT ?_ ?_; (focus first | assumption | omega))
                | (refine Br.decF ?_ ?_; (focus first | assumption | omega))
                | refine Br.dec (fun _ => ?_) (fun _ => ?_)
                | refine Br.not ?_
                | refine Br.and ?_
                | refine Br.or ?_
                | (refine Bnd.i64 ?_ ?_ ?_; (focus omega); (focus omega))
                | refine Get.mk _ hcs ?_
                | refine call_fun rfl rfl hatf (.inl rfl) ?_
                | (refine Idx.nat ?_ ?_; (focus omega))
                | refine Idx.nat (le_big (by omega)) ?_
                | (refine Idx.int ?_ ?_ ?_; (focus omega); (focus omega))
                | (refine Idx.int ?_ ?_ ?_; (focus decide); (focus decide))
                | refine Ifz.zero ?_
                | (refine Ifz.pos ?_ ?_; (focus omega))
                | refine Get.mk _ rfl ?_
                | refine Leaves.of ?_
                | refine Ends.of ?_
                | refine Vw.bool ?_
                | refine Vw.int ?_
                | refine Vw.nil
                | refine Vw.sl
                | refine Vw.tup ?_
                | refine Vw.agg ?_
                | refine VwL.cons ?_ ?_
                | refine VwL.nil
                | refine LeavesF.of ?_
                | refine VwF.bool ?_
                | refine VwF.int ?_
                | refine VwF.nil
                | refine VwF.sl
                | refine VwF.tup ?_
                | refine VwF.agg ?_
                | refine VwLF.cons ?_ ?_
                | refine VwLF.nil
                | (refine Req.mk ?_ ?_; (focus first | rfl | decide | exact ⟨rfl, rfl⟩ | exact ⟨rfl, by decide⟩ | exact (fun _ => rfl) | exact (fun h => nomatch h) | (simp; done) | omega | (simp [big]; done) | exact le_big (by omega) | exact lt_big (by omega))))
            all_goals first | exact NextP.mk (f + 1) (by omega) (by omega) (by rw [hon]; rfl) | (exfalso; omega)
      · obtain rfl : f = N := by omega
        have hexs := exL_le (sp := gI t.sp (i + 1)) ht h0 (f := f)
        generalize exL t (gI t.sp (i + 1)) f = e at *
        obtain ⟨e1, e2, e3, e4⟩ := e
        dsimp only at hexr hexs hnf ⊢
        have hO : exO ⟨e1, e2, e3, e4⟩ = (e2 - e4 + 1) / 2 := rfl
        have hO2 : 0 - (0 - (e2 - e4)) / 2 = (e2 - e4 + 1) / 2 := by omega
        have hfl1 := floor_any (n := 0 - (e2 - e4)) (by omega)
        have hfl2 := floor_any (n := e2 + e4) (by omega)
        rw [hO] at hnf
        generalize hh2 : (e2 + e4) / 2 = h2 at *
        generalize hh1 : (0 - (e2 - e4)) / 2 = h1 at *
        generalize (e2 - e4 + 1) / 2 = oo at *
        by_cases hbst : (i + 1) = 0 ∨ oo < b.2.2
        · rw [if_pos hbst] at hnf
          repeat' (first
            | (conv => whnf)
              first
              | refine Bnd.eq (wrap_i64 (by omega) (by omega) |>.trans hO2) ?_
              | refine Br.t ?_
              | refine Br.f ?_
              | (refine Br.decT ?_ ?_; (focus first | assumption | omega))
              | (refine Br.decF ?_ ?_; (focus first | assumption | omega))
              | refine Br.dec (fun _ => ?_) (fun _ => ?_)
              | refine Br.not ?_
              | refine Br.and ?_
              | refine Br.or ?_
              | (refine Bnd.i64 ?_ ?_ ?_; (focus omega); (focus omega))
              | refine Get.mk _ hcs ?_
              | refine call_fun rfl rfl hfl1 (.inl rfl) ?_
              | refine call_fun rfl rfl hfl2 (.inl rfl) ?_
              | refine Req.mk hlp ?_
              | refine Req.mk ⟨by omega, by rw [hlp]; show (4 * (i + 1) + 4) * 33 < 68719476736; omega⟩ ?_
              | (refine Idx.nat ?_ ?_; (focus omega))
              | refine Idx.nat (le_big (by omega)) ?_
              | (refine Idx.int ?_ ?_ ?_; (focus omega); (focus omega))
              | (refine Idx.int ?_ ?_ ?_; (focus decide); (focus decide))
              | refine Ifz.zero ?_
              | (refine Ifz.pos ?_ ?_; (focus omega))
              | refine Get.mk _ rfl ?_
              | refine Leaves.of ?_
              | refine Ends.of ?_
              | refine Vw.bool ?_
              | refine Vw.int ?_
              | refine Vw.nil
              | refine Vw.sl
              | refine Vw.tup ?_
              | refine Vw.agg ?_
              | refine VwL.cons ?_ ?_
              | refine VwL.nil
              | refine LeavesF.of ?_
              | refine VwF.bool ?_
              | refine VwF.int ?_
              | refine VwF.nil
              | refine VwF.sl
              | refine VwF.tup ?_
              | refine VwF.agg ?_
              | refine VwLF.cons ?_ ?_
              | refine VwLF.nil
              | (refine Req.mk ?_ ?_; (focus first | rfl | decide | exact ⟨rfl, rfl⟩ | exact ⟨rfl, by decide⟩ | exact (fun _ => rfl) | exact (fun h => nomatch h) | (simp; done) | omega | (simp [big]; done) | exact le_big (by omega) | exact lt_big (by omega))))
          all_goals first | exact NextP.mk ⟨(i + 1) + 1, (gI t.sp (i + 1), h2, oo), l ++ [(gI t.sp (i + 1), e1, e3, oo)]⟩ ⟨hin, hnf, by simp [hll]⟩ (by simp only; omega) (by rw [ftU_one, ftH_one, ← ofP_snoc]; rfl) | (exfalso; omega)
        · rw [if_neg hbst] at hnf
          repeat' (first
            | (conv => whnf)
              first
              | refine Bnd.eq (wrap_i64 (by omega) (by omega) |>.trans hO2) ?_
              | refine Br.t ?_
              | refine Br.f ?_
              | (refine Br.decT ?_ ?_; (focus first | assumption | omega))
              | (refine Br.decF ?_ ?_; (focus first | assumption | omega))
              | refine Br.dec (fun _ => ?_) (fun _ => ?_)
              | refine Br.not ?_
              | refine Br.and ?_
              | refine Br.or ?_
              | (refine Bnd.i64 ?_ ?_ ?_; (focus omega); (focus omega))
              | refine Get.mk _ hcs ?_
              | refine call_fun rfl rfl hfl1 (.inl rfl) ?_
              | refine call_fun rfl rfl hfl2 (.inl rfl) ?_
              | refine Req.mk hlp ?_
              | refine Req.mk ⟨by omega, by rw [hlp]; show (4 * (i + 1) + 4) * 33 < 68719476736; omega⟩ ?_
              | (refine Idx.nat ?_ ?_; (focus omega))
              | refine Idx.nat (le_big (by omega)) ?_
              | (refine Idx.int ?_ ?_ ?_; (focus omega); (focus omega))
              | (refine Idx.int ?_ ?_ ?_; (focus decide); (focus decide))
              | refine Ifz.zero ?_
              | (refine Ifz.pos ?_ ?_; (focus omega))
              | refine Get.mk _ rfl ?_
              | refine Leaves.of ?_
              | refine Ends.of ?_
              | refine Vw.bool ?_
              | refine Vw.int ?_
              | refine Vw.nil
              | refine Vw.sl
              | refine Vw.tup ?_
              | refine Vw.agg ?_
              | refine VwL.cons ?_ ?_
              | refine VwL.nil
              | refine LeavesF.of ?_
              | refine VwF.bool ?_
              | refine VwF.int ?_
              | refine VwF.nil
              | refine VwF.sl
              | refine VwF.tup ?_
              | refine VwF.agg ?_
              | refine VwLF.cons ?_ ?_
              | refine VwLF.nil
              | (refine Req.mk ?_ ?_; (focus first | rfl | decide | exact ⟨rfl, rfl⟩ | exact ⟨rfl, by decide⟩ | exact (fun _ => rfl) | exact (fun h => nomatch h) | (simp; done) | omega | (simp [big]; done) | exact le_big (by omega) | exact lt_big (by omega))))
          all_goals first | exact NextP.mk ⟨(i + 1) + 1, b, l ++ [(gI t.sp (i + 1), e1, e3, oo)]⟩ ⟨hin, hnf, by simp [hll]⟩ (by simp only; omega) (by rw [ftU_one, ftH_one, ← ofP_snoc]; rfl) | (exfalso; omega)
  · have hil : t.sp.length = i := by omega
    rw [hil, hfl]
    cases i with
    | zero => exfalso; omega
    | succ i =>
      obtain ⟨b1, b2, b3⟩ := b
      rw [ftU_one, ftH_one]
      repeat' (first
        | (conv => whnf)
          first
          | refine Br.t ?_
          | refine Br.f ?_
          | (refine Br.decT ?_ ?_; (focus first | assumption | omega))
          | (refine Br.decF ?_ ?_; (focus first | assumption | omega))
          | refine Br.dec (fun _ => ?_) (fun _ => ?_)
          | refine Br.not ?_
          | refine Br.and ?_
          | refine Br.or ?_
          | (refine Bnd.i64 ?_ ?_ ?_; (focus omega); (focus omega))
          | (refine hll ▸ Vw.pfs rfl ?_ rfl; (focus rw [hll]))
          | (refine Idx.nat ?_ ?_; (focus omega))
          | refine Idx.nat (le_big (by omega)) ?_
          | (refine Idx.int ?_ ?_ ?_; (focus omega); (focus omega))
          | (refine Idx.int ?_ ?_ ?_; (focus decide); (focus decide))
          | refine Ifz.zero ?_
          | (refine Ifz.pos ?_ ?_; (focus omega))
          | refine Get.mk _ rfl ?_
          | refine Leaves.of ?_
          | refine Ends.of ?_
          | refine Vw.bool ?_
          | refine Vw.int ?_
          | refine Vw.nil
          | refine Vw.sl
          | refine Vw.tup ?_
          | refine Vw.agg ?_
          | refine VwL.cons ?_ ?_
          | refine VwL.nil
          | refine LeavesF.of ?_
          | refine VwF.bool ?_
          | refine VwF.int ?_
          | refine VwF.nil
          | refine VwF.sl
          | refine VwF.tup ?_
          | refine VwF.agg ?_
          | refine VwLF.cons ?_ ?_
          | refine VwLF.nil
          | (refine Req.mk ?_ ?_; (focus first | rfl | decide | exact ⟨rfl, rfl⟩ | exact ⟨rfl, by decide⟩ | exact (fun _ => rfl) | exact (fun h => nomatch h) | (simp; done) | omega | (simp [big]; done) | exact le_big (by omega) | exact lt_big (by omega))))
      all_goals first | rfl | (exfalso; omega)

def fpU (a : FtS) : List (Nat × V) :=
  match a.i with
  | 0 => [(3, .nilsl), (31, .int .i64 ((0 : Nat) : Int))]
  | i + 1 => [(3, .ms 4 5 (4 * (i + 1)) 0 (i + 1) false), (31, .int .i64 ((i + 1 : Nat) : Int))]
def fpH (t : Tsk) (cm cs : Bool) (D2 D3 D4 : B) (a : FtS) : List B :=
  match a.i with
  | 0 => [bg0 t cm cs, .blk [.int .i64 0, .int .i64 0, .int .i64 0] false]
  | _ + 1 => [bg0 t cm cs, .blk [.int .i64 a.b.1, .int .i64 a.b.2.1, .int .i64 a.b.2.2] false, D2, D3, D4, .blk (ofP a.l) true]
theorem fpU_one (i : Nat) (b : Int × Int × Int) (l : List Pf) : fpU ⟨i + 1, b, l⟩ = [(3, .ms 4 5 (4 * (i + 1)) 0 (i + 1) false), (31, .int .i64 ((i + 1 : Nat) : Int))] := rfl
theorem fpH_one (t : Tsk) (cm cs : Bool) (D2 D3 D4 : B) (i : Nat) (b : Int × Int × Int) (l : List Pf) : fpH t cm cs D2 D3 D4 ⟨i + 1, b, l⟩ = [bg0 t cm cs, .blk [.int .i64 b.1, .int .i64 b.2.1, .int .i64 b.2.2] false, D2, D3, D4, .blk (ofP l) true] := rfl
set_option maxRecDepth 100000 in
set_option maxHeartbeats 20000000 in
theorem fit_ok {cm cs : Bool} {t : Tsk} (hc : chkT t = (0, 0, 0)) (ht : OkT t) (h0 : 0 < t.ms.length) :
    Fun F md 33 [tskV cm cs t] (fitV false ((fitL t t.fr.toNat t.sp.length).1, (fitL t t.fr.toNat t.sp.length).2, 0)) := by
  have hb := begin_ok (cm := cm) (cs := cs) ht hc
  unfold bgV syV at hb
  rw [bgSt_eq, bgTk_eq] at hb
  have hfr := ht.fr
  have hsps := ht.sps
  have hat := fun (f : Nat) (hf : f ≤ 20000) => at_ok (cm := cm) (cs := cs) (c := decide (t.ms.length = 0)) (st := .sl (decide ((tkT t).length = 0)) (tkT t).length (ofSp (tkT t))) ht h0 (f := (f : Int)) (by omega)
  have hrg := fun (f : Nat) (hf : f ≤ 20000) => whS_range ht h0 (f := (f : Int)) (by omega)
  unfold syV at hat
  generalize V.sl (decide (t.ms.length = 0)) (tkK t).length (tkC (tkK t)) = tk at *
  generalize V.sl (decide ((tkT t).length = 0)) (tkT t).length (ofSp (tkT t)) = st at *
  obtain ⟨N, hN⟩ : ∃ N : Nat, t.fr = (N : Int) := ⟨t.fr.toNat, by omega⟩
  rw [hN, Int.toNat_natCast]
  rw [hN] at hfr
  obtain ⟨⟨e1, e2, e3, e4⟩, he0⟩ : ∃ e, exL t (gI t.sp 0) N = e := ⟨_, rfl⟩
  refine fun_of rfl rfl ?_
  repeat' (first
    | (conv => whnf)
      first
      | refine Br.t ?_
      | refine Br.f ?_
      | (refine Br.decT ?_ ?_; (focus first | assumption | omega))
      | (refine Br.decF ?_ ?_; (focus first | assumption | omega))
      | refine Br.dec (fun _ => ?_) (fun _ => ?_)
      | refine Br.not ?_
      | refine Br.and ?_
      | refine Br.or ?_
      | (refine Bnd.i64 ?_ ?_ ?_; (focus omega); (focus omega))
      | refine call_fun rfl rfl hb (.inl rfl) ?_
      | (refine Idx.nat ?_ ?_; (focus omega))
      | refine Idx.nat (le_big (by omega)) ?_
      | (refine Idx.int ?_ ?_ ?_; (focus omega); (focus omega))
      | (refine Idx.int ?_ ?_ ?_; (focus decide); (focus decide))
      | refine Ifz.zero ?_
      | (refine Ifz.pos ?_ ?_; (focus omega))
      | refine Get.mk _ rfl ?_
      | refine Leaves.of ?_
      | refine Ends.of ?_
      | refine Vw.bool ?_
      | refine Vw.int ?_
      | refine Vw.nil
      | refine Vw.sl
      | refine Vw.tup ?_
      | refine Vw.agg ?_
      | refine VwL.cons ?_ ?_
      | refine VwL.nil
      | refine LeavesF.of ?_
      | refine VwF.bool ?_
      | refine VwF.int ?_
      | refine VwF.nil
      | refine VwF.sl
      | refine VwF.tup ?_
      | refine VwF.agg ?_
      | refine VwLF.cons ?_ ?_
      | refine VwLF.nil
      | (refine Req.mk ?_ ?_; (focus first | rfl | decide | exact ⟨rfl, rfl⟩ | exact ⟨rfl, by decide⟩ | exact (fun _ => rfl) | exact (fun h => nomatch h) | (simp; done) | omega | (simp [big]; done) | exact le_big (by omega) | exact lt_big (by omega))))
  all_goals try (exfalso; omega)
  refine LoopP.by (FtP t N) fpU (fpH t cm cs (.blk [.int .i64 (gI t.sp 0), .int .i64 e1, .int .i64 e3, .int .i64 ((e2 - e4 + 1) / 2)] false) (.blk [.int .i64 e4, .int .i64 e2] false) ?D) (fun a => t.sp.length - a.i) ⟨0, (0, 0, 0), []⟩ ⟨Nat.zero_le _, rfl, rfl⟩ rfl ?_
  rotate_left
  rintro ⟨i, b, l⟩ ⟨hi, hfl, hll⟩
  dsimp only at hi hfl hll ⊢
  by_cases hin : i < t.sp.length
  · cases i with
    | zero =>
      obtain rfl : l = [] := List.length_eq_zero_iff.1 hll
      have hsp := gI_sp ht hin
      have hcs := gI_cell (l := t.sp) hin
      have hnf : fitL t N (0 + 1) = (if 0 = 0 ∨ exO (exL t (gI t.sp 0) N) < (fitL t N (0)).1.2.2 then (gI t.sp 0, ((exL t (gI t.sp 0) N).m + (exL t (gI t.sp 0) N).s) / 2, exO (exL t (gI t.sp 0) N)) else (fitL t N (0)).1,
            (fitL t N (0)).2 ++ [(gI t.sp 0, (exL t (gI t.sp 0) N).h, (exL t (gI t.sp 0) N).l, exO (exL t (gI t.sp 0) N))]) := rfl
      rw [hfl] at hnf
      dsimp only at hnf
      repeat' (first
        | (conv => whnf)
          first
          | refine Br.t ?_
          | refine Br.f ?_
          | (refine Br.decT ?_ ?_; (focus first | assumption | omega))
          | (refine Br.decF ?_ ?_; (focus first | assumption | omega))
          | refine Br.dec (fun _ => ?_) (fun _ => ?_)
          | refine Br.not ?_
          | refine Br.and ?_
          | refine Br.or ?_
          | (refine Bnd.i64 ?_ ?_ ?_; (focus omega); (focus omega))
          | refine Get.mk _ hcs ?_
          | refine call_fun rfl rfl (frames_any _ _) (.inl rfl) ?_
          | refine call_one rfl rfl rfl ?_
          | (refine Idx.nat ?_ ?_; (focus omega))
          | refine Idx.nat (le_big (by omega)) ?_
          | (refine Idx.int ?_ ?_ ?_; (focus omega); (focus omega))
          | (refine Idx.int ?_ ?_ ?_; (focus decide); (focus decide))
          | refine Ifz.zero ?_
          | (refine Ifz.pos ?_ ?_; (focus omega))
          | refine Get.mk _ rfl ?_
          | refine Leaves.of ?_
          | refine Ends.of ?_
          | refine Vw.bool ?_
          | refine Vw.int ?_
          | refine Vw.nil
          | refine Vw.sl
          | refine Vw.tup ?_
          | refine Vw.agg ?_
          | refine VwL.cons ?_ ?_
          | refine VwL.nil
          | refine LeavesF.of ?_
          | refine VwF.bool ?_
          | refine VwF.int ?_
          | refine VwF.nil
          | refine VwF.sl
          | refine VwF.tup ?_
          | refine VwF.agg ?_
          | refine VwLF.cons ?_ ?_
          | refine VwLF.nil
          | (refine Req.mk ?_ ?_; (focus first | rfl | decide | exact ⟨rfl, rfl⟩ | exact ⟨rfl, by decide⟩ | exact (fun _ => rfl) | exact (fun h => nomatch h) | (simp; done) | omega | (simp [big]; done) | exact le_big (by omega) | exact lt_big (by omega))))
      all_goals try (exfalso; omega)
      refine LoopP.byB (fun f : Nat => f ≤ N) (fun f => [(12, .int .i64 (f : Nat))]) (fun f => [(2, .blk [.int .i64 (gI t.sp 0), .int .i64 (exL t (gI t.sp 0) f).h, .int .i64 (exL t (gI t.sp 0) f).l, .int .i64 0] false), (3, .blk [.int .i64 (exL t (gI t.sp 0) f).s, .int .i64 (exL t (gI t.sp 0) f).m] false)]) (fun f => N - f) 0 (Nat.zero_le _) rfl ?_
      intro f hf
      have hexr := exL_range ht h0 hsp (f := f) (by omega)
      by_cases hfn : f < N
      · obtain ⟨hMul, hQ, hq0, hq1⟩ := qF_facts (sp := gI t.sp 0) (f := f) hsp (by omega)
        have hatf := hat f (by omega)
        have hrgf := hrg f (by omega)
        have hnx : exL t (gI t.sp 0) (f + 1) = ⟨if f = 0 ∨ (exL t (gI t.sp 0) f).m < (whS t f).2 - qF (gI t.sp 0) f then (f : Int) else (exL t (gI t.sp 0) f).h, if f = 0 ∨ (exL t (gI t.sp 0) f).m < (whS t f).2 - qF (gI t.sp 0) f then (whS t f).2 - qF (gI t.sp 0) f else (exL t (gI t.sp 0) f).m,
              if f = 0 ∨ (whS t f).1 - qF (gI t.sp 0) f < (exL t (gI t.sp 0) f).s then (f : Int) else (exL t (gI t.sp 0) f).l, if f = 0 ∨ (whS t f).1 - qF (gI t.sp 0) f < (exL t (gI t.sp 0) f).s then (whS t f).1 - qF (gI t.sp 0) f else (exL t (gI t.sp 0) f).s⟩ := rfl
        generalize qF (gI t.sp 0) f = q at *
        generalize whS t (f : Int) = w at *
        generalize hon : exL t (gI t.sp 0) (f + 1) = on at *
        generalize exL t (gI t.sp 0) f = o at *
        obtain ⟨w1, w2⟩ := w
        obtain ⟨o1, o2, o3, o4⟩ := o
        dsimp only at hnx hatf hrgf hexr ⊢
        by_cases c1 : f = 0 ∨ o2 < w2 - q
        · by_cases c2 : f = 0 ∨ w1 - q < o4
          · rw [if_pos c1, if_pos c1, if_pos c2, if_pos c2] at hnx
            subst hnx
            repeat' (first
              | (conv => whnf)
                first
                | refine Bnd.eq hMul ?_
                | refine Bnd.eq hQ ?_
                | refine Br.t ?_
                | refine Br.f ?_
                | (refine Br.decT ?_ ?_; (focus first | assumption | omega))
                | (refine Br.decF ?_ ?_; (focus first | assumption | omega))
                | refine Br.dec (fun _ => ?_) (fun _ => ?_)
                | refine Br.not ?_
                | refine Br.and ?_
                | refine Br.or ?_
                | (refine Bnd.i64 ?_ ?_ ?_; (focus omega); (focus omega))
                | refine call_fun rfl rfl hatf (.inl rfl) ?_
                | refine call_yld rfl (Nat.zero_le _) rfl ?_
                | refine ⟨rfl, ?_⟩
                | (refine Idx.nat ?_ ?_; (focus omega))
                | refine Idx.nat (le_big (by omega)) ?_
                | (refine Idx.int ?_ ?_ ?_; (focus omega); (focus omega))
                | (refine Idx.int ?_ ?_ ?_; (focus decide); (focus decide))
                | refine Ifz.zero ?_
                | (refine Ifz.pos ?_ ?_; (focus omega))
                | refine Get.mk _ rfl ?_
                | refine Leaves.of ?_
                | refine Ends.of ?_
                | refine Vw.bool ?_
                | refine Vw.int ?_
                | refine Vw.nil
                | refine Vw.sl
                | refine Vw.tup ?_
                | refine Vw.agg ?_
                | refine VwL.cons ?_ ?_
                | refine VwL.nil
                | refine LeavesF.of ?_
                | refine VwF.bool ?_
                | refine VwF.int ?_
                | refine VwF.nil
                | refine VwF.sl
                | refine VwF.tup ?_
                | refine VwF.agg ?_
                | refine VwLF.cons ?_ ?_
                | refine VwLF.nil
                | (refine Req.mk ?_ ?_; (focus first | rfl | decide | exact ⟨rfl, rfl⟩ | exact ⟨rfl, by decide⟩ | exact (fun _ => rfl) | exact (fun h => nomatch h) | (simp; done) | omega | (simp [big]; done) | exact le_big (by omega) | exact lt_big (by omega))))
            all_goals first | exact NextP.mk (f + 1) (by omega) (by omega) (by rw [hon]; rfl) | (exfalso; omega)
          · rw [if_pos c1, if_pos c1, if_neg c2, if_neg c2] at hnx
            subst hnx
            repeat' (first
              | (conv => whnf)
                first
                | refine Bnd.eq hMul ?_
                | refine Bnd.eq hQ ?_
                | refine Br.t ?_
                | refine Br.f ?_
                | (refine Br.decT ?_ ?_; (focus first | assumption | omega))
                | (refine Br.decF ?_ ?_; (focus first | assumption | omega))
                | refine Br.dec (fun _ => ?_) (fun _ => ?_)
                | refine Br.not ?_
                | refine Br.and ?_
                | refine Br.or ?_
                | (refine Bnd.i64 ?_ ?_ ?_; (focus omega); (focus omega))
                | refine call_fun rfl rfl hatf (.inl rfl) ?_
                | refine call_yld rfl (Nat.zero_le _) rfl ?_
                | refine ⟨rfl, ?_⟩
                | (refine Idx.nat ?_ ?_; (focus omega))
                | refine Idx.nat (le_big (by omega)) ?_
                | (refine Idx.int ?_ ?_ ?_; (focus omega); (focus omega))
                | (refine Idx.int ?_ ?_ ?_; (focus decide); (focus decide))
                | refine Ifz.zero ?_
                | (refine Ifz.pos ?_ ?_; (focus omega))
                | refine Get.mk _ rfl ?_
                | refine Leaves.of ?_
                | refine Ends.of ?_
                | refine Vw.bool ?_
                | refine Vw.int ?_
                | refine Vw.nil
                | refine Vw.sl
                | refine Vw.tup ?_
                | refine Vw.agg ?_
                | refine VwL.cons ?_ ?_
                | refine VwL.nil
                | refine LeavesF.of ?_
                | refine VwF.bool ?_
                | refine VwF.int ?_
                | refine VwF.nil
                | refine VwF.sl
                | refine VwF.tup ?_
                | refine VwF.agg ?_
                | refine VwLF.cons ?_ ?_
                | refine VwLF.nil
                | (refine Req.mk ?_ ?_; (focus first | rfl | decide | exact ⟨rfl, rfl⟩ | exact ⟨rfl, by decide⟩ | exact (fun _ => rfl) | exact (fun h => nomatch h) | (simp; done) | omega | (simp [big]; done) | exact le_big (by omega) | exact lt_big (by omega))))
            all_goals first | exact NextP.mk (f + 1) (by omega) (by omega) (by rw [hon]; rfl) | (exfalso; omega)
        · by_cases c2 : f = 0 ∨ w1 - q < o4
          · rw [if_neg c1, if_neg c1, if_pos c2, if_pos c2] at hnx
            subst hnx
            repeat' (first
              | (conv => whnf)
                first
                | refine Bnd.eq hMul ?_
                | refine Bnd.eq hQ ?_
                | refine Br.t ?_
                | refine Br.f ?_
                | (refine Br.decT ?_ ?_; (focus first | assumption | omega))
                | (refine Br.decF ?_ ?_; (focus first | assumption | omega))
                | refine Br.dec (fun _ => ?_) (fun _ => ?_)
                | refine Br.not ?_
                | refine Br.and ?_
                | refine Br.or ?_
                | (refine Bnd.i64 ?_ ?_ ?_; (focus omega); (focus omega))
                | refine call_fun rfl rfl hatf (.inl rfl) ?_
                | refine call_yld rfl (Nat.zero_le _) rfl ?_
                | refine ⟨rfl, ?_⟩
                | (refine Idx.nat ?_ ?_; (focus omega))
                | refine Idx.nat (le_big (by omega)) ?_
                | (refine Idx.int ?_ ?_ ?_; (focus omega); (focus omega))
                | (refine Idx.int ?_ ?_ ?_; (focus decide); (focus decide))
                | refine Ifz.zero ?_
                | (refine Ifz.pos ?_ ?_; (focus omega))
                | refine Get.mk _ rfl ?_
                | refine Leaves.of ?_
                | refine Ends.of ?_
                | refine Vw.bool ?_
                | refine Vw.int ?_
                | refine Vw.nil
                | refine Vw.sl
                | refine Vw.tup ?_
                | refine Vw.agg ?_
                | refine VwL.cons ?_ ?_
                | refine VwL.nil
                | refine LeavesF.of ?_
                | refine VwF.bool ?_
                | refine VwF.int ?_
                | refine VwF.nil
                | refine VwF.sl
                | refine VwF.tup ?_
                | refine VwF.agg ?_
                | refine VwLF.cons ?_ ?_
                | refine VwLF.nil
                | (refine Req.mk ?_ ?_; (focus first | rfl | decide | exact ⟨rfl, rfl⟩ | exact ⟨rfl, by decide⟩ | exact (fun _ => rfl) | exact (fun h => nomatch h) | (simp; done) | omega | (simp [big]; done) | exact le_big (by omega) | exact lt_big (by omega))))
            all_goals first | exact NextP.mk (f + 1) (by omega) (by omega) (by rw [hon]; rfl) | (exfalso; omega)
          · rw [if_neg c1, if_neg c1, if_neg c2, if_neg c2] at hnx
            subst hnx
            repeat' (first
              | (conv => whnf)
                first
                | refine Bnd.eq hMul ?_
                | refine Bnd.eq hQ ?_
                | refine Br.t ?_
                | refine Br.f ?_
                | (refine Br.decT ?_ ?_; (focus first | assumption | omega))
                | (refine Br.decF ?_ ?_; (focus first | assumption | omega))
                | refine Br.dec (fun _ => ?_) (fun _ => ?_)
                | refine Br.not ?_
                | refine Br.and ?_
                | refine Br.or ?_
                | (refine Bnd.i64 ?_ ?_ ?_; (focus omega); (focus omega))
                | refine call_fun rfl rfl hatf (.inl rfl) ?_
                | refine call_yld rfl (Nat.zero_le _) rfl ?_
                | refine ⟨rfl, ?_⟩
                | (refine Idx.nat ?_ ?_; (focus omega))
                | refine Idx.nat (le_big (by omega)) ?_
                | (refine Idx.int ?_ ?_ ?_; (focus omega); (focus omega))
                | (refine Idx.int ?_ ?_ ?_; (focus decide); (focus decide))
                | refine Ifz.zero ?_
                | (refine Ifz.pos ?_ ?_; (focus omega))
                | refine Get.mk _ rfl ?_
                | refine Leaves.of ?_
                | refine Ends.of ?_
                | refine Vw.bool ?_
                | refine Vw.int ?_
                | refine Vw.nil
                | refine Vw.sl
                | refine Vw.tup ?_
                | refine Vw.agg ?_
                | refine VwL.cons ?_ ?_
                | refine VwL.nil
                | refine LeavesF.of ?_
                | refine VwF.bool ?_
                | refine VwF.int ?_
                | refine VwF.nil
                | refine VwF.sl
                | refine VwF.tup ?_
                | refine VwF.agg ?_
                | refine VwLF.cons ?_ ?_
                | refine VwLF.nil
                | (refine Req.mk ?_ ?_; (focus first | rfl | decide | exact ⟨rfl, rfl⟩ | exact ⟨rfl, by decide⟩ | exact (fun _ => rfl) | exact (fun h => nomatch h) | (simp; done) | omega | (simp [big]; done) | exact le_big (by omega) | exact lt_big (by omega))))
            all_goals first | exact NextP.mk (f + 1) (by omega) (by omega) (by rw [hon]; rfl) | (exfalso; omega)
      · obtain rfl : f = N := by omega
        have hexs := exL_le (sp := gI t.sp 0) ht h0 (f := f)
        have he := he0
        rw [he0] at hexr hexs hnf ⊢
        dsimp only at hexr hexs hnf ⊢
        have hO : exO ⟨e1, e2, e3, e4⟩ = (e2 - e4 + 1) / 2 := rfl
        have hfl1 := half_any (e2 - e4 + 1)
        have hfl2 := half_any (e2 + e4)
        rw [hO] at hnf
        generalize hh2 : (e2 + e4) / 2 = h2 at *
        generalize hho : (e2 - e4 + 1) / 2 = oo at *
        by_cases hbst : 0 = 0 ∨ oo < b.2.2
        · rw [if_pos hbst] at hnf
          repeat' (first
            | (conv => whnf)
              first
              | refine Br.t ?_
              | refine Br.f ?_
              | (refine Br.decT ?_ ?_; (focus first | assumption | omega))
              | (refine Br.decF ?_ ?_; (focus first | assumption | omega))
              | refine Br.dec (fun _ => ?_) (fun _ => ?_)
              | refine Br.not ?_
              | refine Br.and ?_
              | refine Br.or ?_
              | (refine Bnd.i64 ?_ ?_ ?_; (focus omega); (focus omega))
              | refine call_fun rfl rfl hfl1 (.inl rfl) ?_
              | refine call_fun rfl rfl hfl2 (.inl rfl) ?_
              | (refine Idx.nat ?_ ?_; (focus omega))
              | refine Idx.nat (le_big (by omega)) ?_
              | (refine Idx.int ?_ ?_ ?_; (focus omega); (focus omega))
              | (refine Idx.int ?_ ?_ ?_; (focus decide); (focus decide))
              | refine Ifz.zero ?_
              | (refine Ifz.pos ?_ ?_; (focus omega))
              | refine Get.mk _ rfl ?_
              | refine Leaves.of ?_
              | refine Ends.of ?_
              | refine Vw.bool ?_
              | refine Vw.int ?_
              | refine Vw.nil
              | refine Vw.sl
              | refine Vw.tup ?_
              | refine Vw.agg ?_
              | refine VwL.cons ?_ ?_
              | refine VwL.nil
              | refine LeavesF.of ?_
              | refine VwF.bool ?_
              | refine VwF.int ?_
              | refine VwF.nil
              | refine VwF.sl
              | refine VwF.tup ?_
              | refine VwF.agg ?_
              | refine VwLF.cons ?_ ?_
              | refine VwLF.nil
              | (refine Req.mk ?_ ?_; (focus first | rfl | decide | exact ⟨rfl, rfl⟩ | exact ⟨rfl, by decide⟩ | exact (fun _ => rfl) | exact (fun h => nomatch h) | (simp; done) | omega | (simp [big]; done) | exact le_big (by omega) | exact lt_big (by omega))))
          all_goals first | exact NextP.mk ⟨0 + 1, (gI t.sp 0, h2, oo), ([] : List Pf) ++ [(gI t.sp 0, e1, e3, oo)]⟩ ⟨hin, hnf, by simp [hll]⟩ (by simp only; omega) (by rw [fpU_one, fpH_one, ← ofP_snoc]; rfl) | (exfalso; omega)
        · rw [if_neg hbst] at hnf
          repeat' (first
            | (conv => whnf)
              first
              | refine Br.t ?_
              | refine Br.f ?_
              | (refine Br.decT ?_ ?_; (focus first | assumption | omega))
              | (refine Br.decF ?_ ?_; (focus first | assumption | omega))
              | refine Br.dec (fun _ => ?_) (fun _ => ?_)
              | refine Br.not ?_
              | refine Br.and ?_
              | refine Br.or ?_
              | (refine Bnd.i64 ?_ ?_ ?_; (focus omega); (focus omega))
              | refine call_fun rfl rfl hfl1 (.inl rfl) ?_
              | refine call_fun rfl rfl hfl2 (.inl rfl) ?_
              | (refine Idx.nat ?_ ?_; (focus omega))
              | refine Idx.nat (le_big (by omega)) ?_
              | (refine Idx.int ?_ ?_ ?_; (focus omega); (focus omega))
              | (refine Idx.int ?_ ?_ ?_; (focus decide); (focus decide))
              | refine Ifz.zero ?_
              | (refine Ifz.pos ?_ ?_; (focus omega))
              | refine Get.mk _ rfl ?_
              | refine Leaves.of ?_
              | refine Ends.of ?_
              | refine Vw.bool ?_
              | refine Vw.int ?_
              | refine Vw.nil
              | refine Vw.sl
              | refine Vw.tup ?_
              | refine Vw.agg ?_
              | refine VwL.cons ?_ ?_
              | refine VwL.nil
              | refine LeavesF.of ?_
              | refine VwF.bool ?_
              | refine VwF.int ?_
              | refine VwF.nil
              | refine VwF.sl
              | refine VwF.tup ?_
              | refine VwF.agg ?_
              | refine VwLF.cons ?_ ?_
              | refine VwLF.nil
              | (refine Req.mk ?_ ?_; (focus first | rfl | decide | exact ⟨rfl, rfl⟩ | exact ⟨rfl, by decide⟩ | exact (fun _ => rfl) | exact (fun h => nomatch h) | (simp; done) | omega | (simp [big]; done) | exact le_big (by omega) | exact lt_big (by omega))))
          all_goals first | exact NextP.mk ⟨0 + 1, b, ([] : List Pf) ++ [(gI t.sp 0, e1, e3, oo)]⟩ ⟨hin, hnf, by simp [hll]⟩ (by simp only; omega) (by rw [fpU_one, fpH_one, ← ofP_snoc]; rfl) | (exfalso; omega)
    | succ i =>
      have hlp : (ofP l).length = 4 * (i + 1) := by rw [ofP_length, hll]
      rw [fpU_one, fpH_one]
      have hsp := gI_sp ht hin
      have hcs := gI_cell (l := t.sp) hin
      have hnf : fitL t N ((i + 1) + 1) = (if (i + 1) = 0 ∨ exO (exL t (gI t.sp (i + 1)) N) < (fitL t N ((i + 1))).1.2.2 then (gI t.sp (i + 1), ((exL t (gI t.sp (i + 1)) N).m + (exL t (gI t.sp (i + 1)) N).s) / 2, exO (exL t (gI t.sp (i + 1)) N)) else (fitL t N ((i + 1))).1,
            (fitL t N ((i + 1))).2 ++ [(gI t.sp (i + 1), (exL t (gI t.sp (i + 1)) N).h, (exL t (gI t.sp (i + 1)) N).l, exO (exL t (gI t.sp (i + 1)) N))]) := rfl
      rw [hfl] at hnf
      dsimp only at hnf
      repeat' (first
        | (conv => whnf)
          first
          | refine Br.t ?_
          | refine Br.f ?_
          | (refine Br.decT ?_ ?_; (focus first | assumption | omega))
          | (refine Br.decF ?_ ?_; (focus first | assumption | omega))
          | refine Br.dec (fun _ => ?_) (fun _ => ?_)
          | refine Br.not ?_
          | refine Br.and ?_
          | refine Br.or ?_
          | (refine Bnd.i64 ?_ ?_ ?_; (focus omega); (focus omega))
          | refine Get.mk _ hcs ?_
          | refine call_fun rfl rfl (frames_any _ _) (.inl rfl) ?_
          | refine call_one rfl rfl rfl ?_
          | (refine Idx.nat ?_ ?_; (focus omega))
          | refine Idx.nat (le_big (by omega)) ?_
          | (refine Idx.int ?_ ?_ ?_; (focus omega); (focus omega))
          | (refine Idx.int ?_ ?_ ?_; (focus decide); (focus decide))
          | refine Ifz.zero ?_
          | (refine Ifz.pos ?_ ?_; (focus omega))
          | refine Get.mk _ rfl ?_
          | refine Leaves.of ?_
          | refine Ends.of ?_
          | refine Vw.bool ?_
          | refine Vw.int ?_
          | refine Vw.nil
          | refine Vw.sl
          | refine Vw.tup ?_
          | refine Vw.agg ?_
          | refine VwL.cons ?_ ?_
          | refine VwL.nil
          | refine LeavesF.of ?_
          | refine VwF.bool ?_
          | refine VwF.int ?_
          | refine VwF.nil
          | refine VwF.sl
          | refine VwF.tup ?_
          | refine VwF.agg ?_
          | refine VwLF.cons ?_ ?_
          | refine VwLF.nil
          | (refine Req.mk ?_ ?_; (focus first | rfl | decide | exact ⟨rfl, rfl⟩ | exact ⟨rfl, by decide⟩ | exact (fun _ => rfl) | exact (fun h => nomatch h) | (simp; done) | omega | (simp [big]; done) | exact le_big (by omega) | exact lt_big (by omega))))
      all_goals try (exfalso; omega)
      refine LoopP.byB (fun f : Nat => f ≤ N) (fun f => [(12, .int .i64 (f : Nat))]) (fun f => [(6, .blk [.int .i64 (gI t.sp (i + 1)), .int .i64 (exL t (gI t.sp (i + 1)) f).h, .int .i64 (exL t (gI t.sp (i + 1)) f).l, .int .i64 0] false), (7, .blk [.int .i64 (exL t (gI t.sp (i + 1)) f).s, .int .i64 (exL t (gI t.sp (i + 1)) f).m] false)]) (fun f => N - f) 0 (Nat.zero_le _) rfl ?_
      intro f hf
      have hexr := exL_range ht h0 hsp (f := f) (by omega)
      by_cases hfn : f < N
      · obtain ⟨hMul, hQ, hq0, hq1⟩ := qF_facts (sp := gI t.sp (i + 1)) (f := f) hsp (by omega)
        have hatf := hat f (by omega)
        have hrgf := hrg f (by omega)
        have hnx : exL t (gI t.sp (i + 1)) (f + 1) = ⟨if f = 0 ∨ (exL t (gI t.sp (i + 1)) f).m < (whS t f).2 - qF (gI t.sp (i + 1)) f then (f : Int) else (exL t (gI t.sp (i + 1)) f).h, if f = 0 ∨ (exL t (gI t.sp (i + 1)) f).m < (whS t f).2 - qF (gI t.sp (i + 1)) f then (whS t f).2 - qF (gI t.sp (i + 1)) f else (exL t (gI t.sp (i + 1)) f).m,
              if f = 0 ∨ (whS t f).1 - qF (gI t.sp (i + 1)) f < (exL t (gI t.sp (i + 1)) f).s then (f : Int) else (exL t (gI t.sp (i + 1)) f).l, if f = 0 ∨ (whS t f).1 - qF (gI t.sp (i + 1)) f < (exL t (gI t.sp (i + 1)) f).s then (whS t f).1 - qF (gI t.sp (i + 1)) f else (exL t (gI t.sp (i + 1)) f).s⟩ := rfl
        generalize qF (gI t.sp (i + 1)) f = q at *
        generalize whS t (f : Int) = w at *
        generalize hon : exL t (gI t.sp (i + 1)) (f + 1) = on at *
        generalize exL t (gI t.sp (i + 1)) f = o at *
        obtain ⟨w1, w2⟩ := w
        obtain ⟨o1, o2, o3, o4⟩ := o
        dsimp only at hnx hatf hrgf hexr ⊢
        by_cases c1 : f = 0 ∨ o2 < w2 - q
        · by_cases c2 : f = 0 ∨ w1 - q < o4
          · rw [if_pos c1, if_pos c1, if_pos c2, if_pos c2] at hnx
            subst hnx
            repeat' (first
              | (conv => whnf)
                first
                | refine Bnd.eq hMul ?_
                | refine Bnd.eq hQ ?_
                | refine Br.t ?_
                | refine Br.f ?_
                | (refine Br.decT ?_ ?_; (focus first | assumption | omega))
                | (refine Br.decF ?_ ?_; (focus first | assumption | omega))
                | refine Br.dec (fun _ => ?_) (fun _ => ?_)
                | refine Br.not ?_
                | refine Br.and ?_
                | refine Br.or ?_
                | (refine Bnd.i64 ?_ ?_ ?_; (focus omega); (focus omega))
                | refine call_fun rfl rfl hatf (.inl rfl) ?_
                | refine call_yld rfl (Nat.zero_le _) rfl ?_
                | refine ⟨rfl, ?_⟩
                | (refine Idx.nat ?_ ?_; (focus omega))
                | refine Idx.nat (le_big (by omega)) ?_
                | (refine Idx.int ?_ ?_ ?_; (focus omega); (focus omega))
                | (refine Idx.int ?_ ?_ ?_; (focus decide); (focus decide))
                | refine Ifz.zero ?_
                | (refine Ifz.pos ?_ ?_; (focus omega))
                | refine Get.mk _ rfl ?_
                | refine Leaves.of ?_
                | refine Ends.of ?_
                | refine Vw.bool ?_
                | refine Vw.int ?_
                | refine Vw.nil
                | refine Vw.sl
                | refine Vw.tup ?_
                | refine Vw.agg ?_
                | refine VwL.cons ?_ ?_
                | refine VwL.nil
                | refine LeavesF.of ?_
                | refine VwF.bool ?_
                | refine VwF.int ?_
                | refine VwF.nil
                | refine VwF.sl
                | refine VwF.tup ?_
                | refine VwF.agg ?_
                | refine VwLF.cons ?_ ?_
                | refine VwLF.nil
                | (refine Req.mk ?_ ?_; (focus first | rfl | decide | exact ⟨rfl, rfl⟩ | exact ⟨rfl, by decide⟩ | exact (fun _ => rfl) | exact (fun h => nomatch h) | (simp; done) | omega | (simp [big]; done) | exact le_big (by omega) | exact lt_big (by omega))))
            all_goals first | exact NextP.mk (f + 1) (by omega) (by omega) (by rw [hon]; rfl) | (exfalso; omega)
          · rw [if_pos c1, if_pos c1, if_neg c2, if_neg c2] at hnx
            subst hnx
            repeat' (first
              | (conv => whnf)
                first
                | refine Bnd.eq hMul ?_
                | refine Bnd.eq hQ ?_
                | refine Br.t ?_
                | refine Br.f ?_
                | (refine Br.decT ?_ ?_; (focus first | assumption | omega))
                | (refine Br.decF ?_ ?_; (focus first | assumption | omega))
                | refine Br.dec (fun _ => ?_) (fun _ => ?_)
                | refine Br.not ?_
                | refine Br.and ?_
                | refine Br.or ?_
                | (refine Bnd.i64 ?_ ?_ ?_; (focus omega); (focus omega))
                | refine call_fun rfl rfl hatf (.inl rfl) ?_
                | refine call_yld rfl (Nat.zero_le _) rfl ?_
                | refine ⟨rfl, ?_⟩
                | (refine Idx.nat ?_ ?_; (focus omega))
                | refine Idx.nat (le_big (by omega)) ?_
                | (refine Idx.int ?_ ?_ ?_; (focus omega); (focus omega))
                | (refine Idx.int ?_ ?_ ?_; (focus decide); (focus decide))
                | refine Ifz.zero ?_
                | (refine Ifz.pos ?_ ?_; (focus omega))
                | refine Get.mk _ rfl ?_
                | refine Leaves.of ?_
                | refine Ends.of ?_
                | refine Vw.bool ?_
                | refine Vw.int ?_
                | refine Vw.nil
                | refine Vw.sl
                | refine Vw.tup ?_
                | refine Vw.agg ?_
                | refine VwL.cons ?_ ?_
                | refine VwL.nil
                | refine LeavesF.of ?_
                | refine VwF.bool ?_
                | refine VwF.int ?_
                | refine VwF.nil
                | refine VwF.sl
                | refine VwF.tup ?_
                | refine VwF.agg ?_
                | refine VwLF.cons ?_ ?_
                | refine VwLF.nil
                | (refine Req.mk ?_ ?_; (focus first | rfl | decide | exact ⟨rfl, rfl⟩ | exact ⟨rfl, by decide⟩ | exact (fun _ => rfl) | exact (fun h => nomatch h) | (simp; done) | omega | (simp [big]; done) | exact le_big (by omega) | exact lt_big (by omega))))
            all_goals first | exact NextP.mk (f + 1) (by omega) (by omega) (by rw [hon]; rfl) | (exfalso; omega)
        · by_cases c2 : f = 0 ∨ w1 - q < o4
          · rw [if_neg c1, if_neg c1, if_pos c2, if_pos c2] at hnx
            subst hnx
            repeat' (first
              | (conv => whnf)
                first
                | refine Bnd.eq hMul ?_
                | refine Bnd.eq hQ ?_
                | refine Br.t ?_
                | refine Br.f ?_
                | (refine Br.decT ?_ ?_; (focus first | assumption | omega))
                | (refine Br.decF ?_ ?_; (focus first | assumption | omega))
                | refine Br.dec (fun _ => ?_) (fun _ => ?_)
                | refine Br.not ?_
                | refine Br.and ?_
                | refine Br.or ?_
                | (refine Bnd.i64 ?_ ?_ ?_; (focus omega); (focus omega))
                | refine call_fun rfl rfl hatf (.inl rfl) ?_
                | refine call_yld rfl (Nat.zero_le _) rfl ?_
                | refine ⟨rfl, ?_⟩
                | (refine Idx.nat ?_ ?_; (focus omega))
                | refine Idx.nat (le_big (by omega)) ?_
                | (refine Idx.int ?_ ?_ ?_; (focus omega); (focus omega))
                | (refine Idx.int ?_ ?_ ?_; (focus decide); (focus decide))
                | refine Ifz.zero ?_
                | (refine Ifz.pos ?_ ?_; (focus omega))
                | refine Get.mk _ rfl ?_
                | refine Leaves.of ?_
                | refine Ends.of ?_
                | refine Vw.bool ?_
                | refine Vw.int ?_
                | refine Vw.nil
                | refine Vw.sl
                | refine Vw.tup ?_
                | refine Vw.agg ?_
                | refine VwL.cons ?_ ?_
                | refine VwL.nil
                | refine LeavesF.of ?_
                | refine VwF.bool ?_
                | refine VwF.int ?_
                | refine VwF.nil
                | refine VwF.sl
                | refine VwF.tup ?_
                | refine VwF.agg ?_
                | refine VwLF.cons ?_ ?_
                | refine VwLF.nil
                | (refine Req.mk ?_ ?_; (focus first | rfl | decide | exact ⟨rfl, rfl⟩ | exact ⟨rfl, by decide⟩ | exact (fun _ => rfl) | exact (fun h => nomatch h) | (simp; done) | omega | (simp [big]; done) | exact le_big (by omega) | exact lt_big (by omega))))
            all_goals first | exact NextP.mk (f + 1) (by omega) (by omega) (by rw [hon]; rfl) | (exfalso; omega)
          · rw [if_neg c1, if_neg c1, if_neg c2, if_neg c2] at hnx
            subst hnx
            repeat' (first
              | (conv => whnf)
                first
                | refine Bnd.eq hMul ?_
                | refine Bnd.eq hQ ?_
                | refine Br.t ?_
                | refine Br.f ?_
                | (refine Br.decT ?_ ?_; (focus first | assumption | omega))
                | (refine Br.decF ?_ ?_; (focus first | assumption | omega))
                | refine Br.dec (fun _ => ?_) (fun _ => ?_)
                | refine Br.not ?_
                | refine Br.and ?_
                | refine Br.or ?_
                | (refine Bnd.i64 ?_ ?_ ?_; (focus omega); (focus omega))
                | refine call_fun rfl rfl hatf (.inl rfl) ?_
                | refine call_yld rfl (Nat.zero_le _) rfl ?_
                | refine ⟨rfl, ?_⟩
                | (refine Idx.nat ?_ ?_; (focus omega))
                | refine Idx.nat (le_big (by omega)) ?_
                | (refine Idx.int ?_ ?_ ?_; (focus omega); (focus omega))
                | (refine Idx.int ?_ ?_ ?_; (focus decide); (focus decide))
                | refine Ifz.zero ?_
                | (refine Ifz.pos ?_ ?_; (focus omega))
                | refine Get.mk _ rfl ?_
                | refine Leaves.of ?_
                | refine Ends.of ?_
                | refine Vw.bool ?_
                | refine Vw.int ?_
                | refine Vw.nil
                | refine Vw.sl
                | refine Vw.tup ?_
                | refine Vw.agg ?_
                | refine VwL.cons ?_ ?_
                | refine VwL.nil
                | refine LeavesF.of ?_
                | refine VwF.bool ?_
                | refine VwF.int ?_
                | refine VwF.nil
                | refine VwF.sl
                | refine VwF.tup ?_
                | refine VwF.agg ?_
                | refine VwLF.cons ?_ ?_
                | refine VwLF.nil
                | (refine Req.mk ?_ ?_; (focus first | rfl | decide | exact ⟨rfl, rfl⟩ | exact ⟨rfl, by decide⟩ | exact (fun _ => rfl) | exact (fun h => nomatch h) | (simp; done) | omega | (simp [big]; done) | exact le_big (by omega) | exact lt_big (by omega))))
            all_goals first | exact NextP.mk (f + 1) (by omega) (by omega) (by rw [hon]; rfl) | (exfalso; omega)
      · obtain rfl : f = N := by omega
        have hexs := exL_le (sp := gI t.sp (i + 1)) ht h0 (f := f)
        generalize exL t (gI t.sp (i + 1)) f = e at *
        obtain ⟨e1, e2, e3, e4⟩ := e
        dsimp only at hexr hexs hnf ⊢
        have hO : exO ⟨e1, e2, e3, e4⟩ = (e2 - e4 + 1) / 2 := rfl
        have hfl1 := half_any (e2 - e4 + 1)
        have hfl2 := half_any (e2 + e4)
        rw [hO] at hnf
        generalize hh2 : (e2 + e4) / 2 = h2 at *
        generalize hho : (e2 - e4 + 1) / 2 = oo at *
        by_cases hbst : (i + 1) = 0 ∨ oo < b.2.2
        · rw [if_pos hbst] at hnf
          repeat' (first
            | (conv => whnf)
              first
              | refine Br.t ?_
              | refine Br.f ?_
              | (refine Br.decT ?_ ?_; (focus first | assumption | omega))
              | (refine Br.decF ?_ ?_; (focus first | assumption | omega))
              | refine Br.dec (fun _ => ?_) (fun _ => ?_)
              | refine Br.not ?_
              | refine Br.and ?_
              | refine Br.or ?_
              | (refine Bnd.i64 ?_ ?_ ?_; (focus omega); (focus omega))
              | refine call_fun rfl rfl hfl1 (.inl rfl) ?_
              | refine call_fun rfl rfl hfl2 (.inl rfl) ?_
              | refine Req.mk hlp ?_
              | refine Req.mk ⟨by omega, by rw [hlp]; show (4 * (i + 1) + 4) * 33 < 68719476736; omega⟩ ?_
              | (refine Idx.nat ?_ ?_; (focus omega))
              | refine Idx.nat (le_big (by omega)) ?_
              | (refine Idx.int ?_ ?_ ?_; (focus omega); (focus omega))
              | (refine Idx.int ?_ ?_ ?_; (focus decide); (focus decide))
              | refine Ifz.zero ?_
              | (refine Ifz.pos ?_ ?_; (focus omega))
              | refine Get.mk _ rfl ?_
              | refine Leaves.of ?_
              | refine Ends.of ?_
              | refine Vw.bool ?_
              | refine Vw.int ?_
              | refine Vw.nil
              | refine Vw.sl
              | refine Vw.tup ?_
              | refine Vw.agg ?_
              | refine VwL.cons ?_ ?_
              | refine VwL.nil
              | refine LeavesF.of ?_
              | refine VwF.bool ?_
              | refine VwF.int ?_
              | refine VwF.nil
              | refine VwF.sl
              | refine VwF.tup ?_
              | refine VwF.agg ?_
              | refine VwLF.cons ?_ ?_
              | refine VwLF.nil
              | (refine Req.mk ?_ ?_; (focus first | rfl | decide | exact ⟨rfl, rfl⟩ | exact ⟨rfl, by decide⟩ | exact (fun _ => rfl) | exact (fun h => nomatch h) | (simp; done) | omega | (simp [big]; done) | exact le_big (by omega) | exact lt_big (by omega))))
          all_goals first | exact NextP.mk ⟨(i + 1) + 1, (gI t.sp (i + 1), h2, oo), l ++ [(gI t.sp (i + 1), e1, e3, oo)]⟩ ⟨hin, hnf, by simp [hll]⟩ (by simp only; omega) (by rw [fpU_one, fpH_one, ← ofP_snoc]; rfl) | (exfalso; omega)
        · rw [if_neg hbst] at hnf
          repeat' (first
            | (conv => whnf)
              first
              | refine Br.t ?_
              | refine Br.f ?_
              | (refine Br.decT ?_ ?_; (focus first | assumption | omega))
              | (refine Br.decF ?_ ?_; (focus first | assumption | omega))
              | refine Br.dec (fun _ => ?_) (fun _ => ?_)
              | refine Br.not ?_
              | refine Br.and ?_
              | refine Br.or ?_
              | (refine Bnd.i64 ?_ ?_ ?_; (focus omega); (focus omega))
              | refine call_fun rfl rfl hfl1 (.inl rfl) ?_
              | refine call_fun rfl rfl hfl2 (.inl rfl) ?_
              | refine Req.mk hlp ?_
              | refine Req.mk ⟨by omega, by rw [hlp]; show (4 * (i + 1) + 4) * 33 < 68719476736; omega⟩ ?_
              | (refine Idx.nat ?_ ?_; (focus omega))
              | refine Idx.nat (le_big (by omega)) ?_
              | (refine Idx.int ?_ ?_ ?_; (focus omega); (focus omega))
              | (refine Idx.int ?_ ?_ ?_; (focus decide); (focus decide))
              | refine Ifz.zero ?_
              | (refine Ifz.pos ?_ ?_; (focus omega))
              | refine Get.mk _ rfl ?_
              | refine Leaves.of ?_
              | refine Ends.of ?_
              | refine Vw.bool ?_
              | refine Vw.int ?_
              | refine Vw.nil
              | refine Vw.sl
              | refine Vw.tup ?_
              | refine Vw.agg ?_
              | refine VwL.cons ?_ ?_
              | refine VwL.nil
              | refine LeavesF.of ?_
              | refine VwF.bool ?_
              | refine VwF.int ?_
              | refine VwF.nil
              | refine VwF.sl
              | refine VwF.tup ?_
              | refine VwF.agg ?_
              | refine VwLF.cons ?_ ?_
              | refine VwLF.nil
              | (refine Req.mk ?_ ?_; (focus first | rfl | decide | exact ⟨rfl, rfl⟩ | exact ⟨rfl, by decide⟩ | exact (fun _ => rfl) | exact (fun h => nomatch h) | (simp; done) | omega | (simp [big]; done) | exact le_big (by omega) | exact lt_big (by omega))))
          all_goals first | exact NextP.mk ⟨(i + 1) + 1, b, l ++ [(gI t.sp (i + 1), e1, e3, oo)]⟩ ⟨hin, hnf, by simp [hll]⟩ (by simp only; omega) (by rw [fpU_one, fpH_one, ← ofP_snoc]; rfl) | (exfalso; omega)
  · have hil : t.sp.length = i := by omega
    rw [hil, hfl]
    cases i with
    | zero => exfalso; omega
    | succ i =>
      obtain ⟨b1, b2, b3⟩ := b
      rw [fpU_one, fpH_one]
      repeat' (first
        | (conv => whnf)
          first
          | refine Br.t ?_
          | refine Br.f ?_
          | (refine Br.decT ?_ ?_; (focus first | assumption | omega))
          | (refine Br.decF ?_ ?_; (focus first | assumption | omega))
          | refine Br.dec (fun _ => ?_) (fun _ => ?_)
          | refine Br.not ?_
          | refine Br.and ?_
          | refine Br.or ?_
          | (refine Bnd.i64 ?_ ?_ ?_; (focus omega); (focus omega))
          | (refine hll ▸ Vw.pfs rfl ?_ rfl; (focus rw [hll]))
          | (refine Idx.nat ?_ ?_; (focus omega))
          | refine Idx.nat (le_big (by omega)) ?_
          | (refine Idx.int ?_ ?_ ?_; (focus omega); (focus omega))
          | (refine Idx.int ?_ ?_ ?_; (focus decide); (focus decide))
          | refine Ifz.zero ?_
          | (refine Ifz.pos ?_ ?_; (focus omega))
          | refine Get.mk _ rfl ?_
          | refine Leaves.of ?_
          | refine Ends.of ?_
          | refine Vw.bool ?_
          | refine Vw.int ?_
          | refine Vw.nil
          | refine Vw.sl
          | refine Vw.tup ?_
          | refine Vw.agg ?_
          | refine VwL.cons ?_ ?_
          | refine VwL.nil
          | refine LeavesF.of ?_
          | refine VwF.bool ?_
          | refine VwF.int ?_
          | refine VwF.nil
          | refine VwF.sl
          | refine VwF.tup ?_
          | refine VwF.agg ?_
          | refine VwLF.cons ?_ ?_
          | refine VwLF.nil
          | (refine Req.mk ?_ ?_; (focus first | rfl | decide | exact ⟨rfl, rfl⟩ | exact ⟨rfl, by decide⟩ | exact (fun _ => rfl) | exact (fun h => nomatch h) | (simp; done) | omega | (simp [big]; done) | exact le_big (by omega) | exact lt_big (by omega))))
      all_goals first | rfl | (exfalso; omega)

set_option maxRecDepth 100000 in
set_option maxHeartbeats 20000000 in
theorem fit_any (cm cs : Bool) (t : Tsk) : ∃ c, Fun F md 33 [tskV cm cs t] (fitV c (fitE t)) := by
  have hv : True := trivial
  unfold fitE
  by_cases h : (chkT t).2.2 = 0
  · obtain ⟨hc, ht⟩ := chk_ok h
    have hfr := ht.fr
    have hgood := fit_ok (cm := cm) (cs := cs) (t := t) hc ht
    have hb := begin_ok (cm := cm) (cs := cs) ht hc
    unfold bgV syV at hb
    rw [bgSt_eq, bgTk_eq] at hb
    simp only [h, ne_eq, not_true_eq_false, if_false]
    by_cases h2 : t.ms.length = 0
    · rw [if_pos h2]
      refine ⟨true, ?_⟩
      refine fun_of rfl rfl ?_
      repeat' (first
        | (conv => whnf)
          first
          | refine Br.t ?_
          | refine Br.f ?_
          | (refine Br.decT ?_ ?_; (focus first | assumption | omega))
          | (refine Br.decF ?_ ?_; (focus first | assumption | omega))
          | refine Br.dec (fun _ => ?_) (fun _ => ?_)
          | refine Br.not ?_
          | refine Br.and ?_
          | refine Br.or ?_
          | (refine Bnd.i64 ?_ ?_ ?_; (focus omega); (focus omega))
          | refine call_fun rfl rfl hv (.inl rfl) ?_
          | refine call_fun rfl rfl hb (.inl rfl) ?_
          | (refine Idx.nat ?_ ?_; (focus omega))
          | refine Idx.nat (le_big (by omega)) ?_
          | (refine Idx.int ?_ ?_ ?_; (focus omega); (focus omega))
          | (refine Idx.int ?_ ?_ ?_; (focus decide); (focus decide))
          | refine Ifz.zero ?_
          | (refine Ifz.pos ?_ ?_; (focus omega))
          | refine Get.mk _ rfl ?_
          | refine Leaves.of ?_
          | refine Ends.of ?_
          | refine Vw.bool ?_
          | refine Vw.int ?_
          | refine Vw.nil
          | refine Vw.sl
          | refine Vw.tup ?_
          | refine Vw.agg ?_
          | refine VwL.cons ?_ ?_
          | refine VwL.nil
          | refine LeavesF.of ?_
          | refine VwF.bool ?_
          | refine VwF.int ?_
          | refine VwF.nil
          | refine VwF.sl
          | refine VwF.tup ?_
          | refine VwF.agg ?_
          | refine VwLF.cons ?_ ?_
          | refine VwLF.nil
          | (refine Req.mk ?_ ?_; (focus first | rfl | decide | exact ⟨rfl, rfl⟩ | exact ⟨rfl, by decide⟩ | exact (fun _ => rfl) | exact (fun h => nomatch h) | (simp; done) | omega | (simp [big]; done) | exact le_big (by omega) | exact lt_big (by omega))))
      all_goals first | rfl | (exfalso; omega)
    · rw [if_neg h2]
      exact ⟨false, hgood (by omega)⟩
  · have hb := begin_bad (cm := cm) (cs := cs) (t := t) rfl h
    simp only [h, ne_eq, not_false_eq_true, if_true]
    generalize (chkT t).2.2 = k at *
    refine ⟨true, ?_⟩
    refine fun_of rfl rfl ?_
    repeat' (first
      | (conv => whnf)
        first
        | refine Br.t ?_
        | refine Br.f ?_
        | (refine Br.decT ?_ ?_; (focus first | assumption | omega))
        | (refine Br.decF ?_ ?_; (focus first | assumption | omega))
        | refine Br.dec (fun _ => ?_) (fun _ => ?_)
        | refine Br.not ?_
        | refine Br.and ?_
        | refine Br.or ?_
        | (refine Bnd.i64 ?_ ?_ ?_; (focus omega); (focus omega))
        | refine call_fun rfl rfl hv (.inl rfl) ?_
        | refine call_fun rfl rfl hb (.inl rfl) ?_
        | (refine Idx.nat ?_ ?_; (focus omega))
        | refine Idx.nat (le_big (by omega)) ?_
        | (refine Idx.int ?_ ?_ ?_; (focus omega); (focus omega))
        | (refine Idx.int ?_ ?_ ?_; (focus decide); (focus decide))
        | refine Ifz.zero ?_
        | (refine Ifz.pos ?_ ?_; (focus omega))
        | refine Get.mk _ rfl ?_
        | refine Leaves.of ?_
        | refine Ends.of ?_
        | refine Vw.bool ?_
        | refine Vw.int ?_
        | refine Vw.nil
        | refine Vw.sl
        | refine Vw.tup ?_
        | refine Vw.agg ?_
        | refine VwL.cons ?_ ?_
        | refine VwL.nil
        | refine LeavesF.of ?_
        | refine VwF.bool ?_
        | refine VwF.int ?_
        | refine VwF.nil
        | refine VwF.sl
        | refine VwF.tup ?_
        | refine VwF.agg ?_
        | refine VwLF.cons ?_ ?_
        | refine VwLF.nil
        | (refine Req.mk ?_ ?_; (focus first | rfl | decide | exact ⟨rfl, rfl⟩ | exact ⟨rfl, by decide⟩ | exact (fun _ => rfl) | exact (fun h => nomatch h) | (simp; done) | omega | (simp [big]; done) | exact le_big (by omega) | exact lt_big (by omega))))
    all_goals first | rfl | (exfalso; omega)
set_option maxRecDepth 100000 in
set_option maxHeartbeats 20000000 in
theorem fitR_any (cm cs : Bool) (t : Tsk) : ∃ c, Fun F md 37 [tskV cm cs t] (fitV c (fitE t)) := by
  have hv := valid_any cm cs t
  have hb : True := trivial
  unfold fitE
  by_cases h : (chkT t).2.2 = 0
  · obtain ⟨hc, ht⟩ := chk_ok h
    have hfr := ht.fr
    have hgood := fitR_ok (cm := cm) (cs := cs) (t := t) hc ht
    rw [h] at hv
    simp only [h, ne_eq, not_true_eq_false, if_false]
    by_cases h2 : t.ms.length = 0
    · rw [if_pos h2]
      refine ⟨true, ?_⟩
      refine fun_of rfl rfl ?_
      repeat' (first
        | (conv => whnf)
          first
          | refine Br.t ?_
          | refine Br.f ?_
          | (refine Br.decT ?_ ?_; (focus first | assumption | omega))
          | (refine Br.decF ?_ ?_; (focus first | assumption | omega))
          | refine Br.dec (fun _ => ?_) (fun _ => ?_)
          | refine Br.not ?_
          | refine Br.and ?_
          | refine Br.or ?_
          | (refine Bnd.i64 ?_ ?_ ?_; (focus omega); (focus omega))
          | refine call_fun rfl rfl hv (.inl rfl) ?_
          | refine call_fun rfl rfl hb (.inl rfl) ?_
          | (refine Idx.nat ?_ ?_; (focus omega))
          | refine Idx.nat (le_big (by omega)) ?_
          | (refine Idx.int ?_ ?_ ?_; (focus omega); (focus omega))
          | (refine Idx.int ?_ ?_ ?_; (focus decide); (focus decide))
          | refine Ifz.zero ?_
          | (refine Ifz.pos ?_ ?_; (focus omega))
          | refine Get.mk _ rfl ?_
          | refine Leaves.of ?_
          | refine Ends.of ?_
          | refine Vw.bool ?_
          | refine Vw.int ?_
          | refine Vw.nil
          | refine Vw.sl
          | refine Vw.tup ?_
          | refine Vw.agg ?_
          | refine VwL.cons ?_ ?_
          | refine VwL.nil
          | refine LeavesF.of ?_
          | refine VwF.bool ?_
          | refine VwF.int ?_
          | refine VwF.nil
          | refine VwF.sl
          | refine VwF.tup ?_
          | refine VwF.agg ?_
          | refine VwLF.cons ?_ ?_
          | refine VwLF.nil
          | (refine Req.mk ?_ ?_; (focus first | rfl | decide | exact ⟨rfl, rfl⟩ | exact ⟨rfl, by decide⟩ | exact (fun _ => rfl) | exact (fun h => nomatch h) | (simp; done) | omega | (simp [big]; done) | exact le_big (by omega) | exact lt_big (by omega))))
      all_goals first | rfl | (exfalso; omega)
    · rw [if_neg h2]
      exact ⟨false, hgood (by omega)⟩
  · skip
    simp only [h, ne_eq, not_false_eq_true, if_true]
    generalize (chkT t).2.2 = k at *
    refine ⟨true, ?_⟩
    refine fun_of rfl rfl ?_
    repeat' (first
      | (conv => whnf)
        first
        | refine Br.t ?_
        | refine Br.f ?_
        | (refine Br.decT ?_ ?_; (focus first | assumption | omega))
        | (refine Br.decF ?_ ?_; (focus first | assumption | omega))
        | refine Br.dec (fun _ => ?_) (fun _ => ?_)
        | refine Br.not ?_
        | refine Br.and ?_
        | refine Br.or ?_
        | (refine Bnd.i64 ?_ ?_ ?_; (focus omega); (focus omega))
        | refine call_fun rfl rfl hv (.inl rfl) ?_
        | refine call_fun rfl rfl hb (.inl rfl) ?_
        | (refine Idx.nat ?_ ?_; (focus omega))
        | refine Idx.nat (le_big (by omega)) ?_
        | (refine Idx.int ?_ ?_ ?_; (focus omega); (focus omega))
        | (refine Idx.int ?_ ?_ ?_; (focus decide); (focus decide))
        | refine Ifz.zero ?_
        | (refine Ifz.pos ?_ ?_; (focus omega))
        | refine Get.mk _ rfl ?_
        | refine Leaves.of ?_
        | refine Ends.of ?_
        | refine Vw.bool ?_
        | refine Vw.int ?_
        | refine Vw.nil
        | refine Vw.sl
        | refine Vw.tup ?_
        | refine Vw.agg ?_
        | refine VwL.cons ?_ ?_
        | refine VwL.nil
        | refine LeavesF.of ?_
        | refine VwF.bool ?_
        | refine VwF.int ?_
        | refine VwF.nil
        | refine VwF.sl
        | refine VwF.tup ?_
        | refine VwF.agg ?_
        | refine VwLF.cons ?_ ?_
        | refine VwLF.nil
        | (refine Req.mk ?_ ?_; (focus first | rfl | decide | exact ⟨rfl, rfl⟩ | exact ⟨rfl, by decide⟩ | exact (fun _ => rfl) | exact (fun h => nomatch h) | (simp; done) | omega | (simp [big]; done) | exact le_big (by omega) | exact lt_big (by omega))))
    all_goals first | rfl | (exfalso; omega)
set_option maxRecDepth 100000 in
theorem proofs_same {c c' : Bool} {l : List Pf} (hl : l.length ≤ 1000000) : Fun F md 38 [.sl c l.length (ofP l), .sl c' l.length (ofP l)] (.bool true) := by
  refine fun_of rfl rfl ?_
  repeat' (first
    | (conv => whnf)
      first
      | refine Br.t ?_
      | refine Br.f ?_
      | (refine Br.decT ?_ ?_; (focus first | assumption | omega))
      | (refine Br.decF ?_ ?_; (focus first | assumption | omega))
      | refine Br.dec (fun _ => ?_) (fun _ => ?_)
      | refine Br.not ?_
      | refine Br.and ?_
      | refine Br.or ?_
      | (refine Bnd.i64 ?_ ?_ ?_; (focus omega); (focus omega))
      | (refine Idx.nat ?_ ?_; (focus omega))
      | refine Idx.nat (le_big (by omega)) ?_
      | (refine Idx.int ?_ ?_ ?_; (focus omega); (focus omega))
      | (refine Idx.int ?_ ?_ ?_; (focus decide); (focus decide))
      | refine Ifz.zero ?_
      | (refine Ifz.pos ?_ ?_; (focus omega))
      | refine Get.mk _ rfl ?_
      | refine Leaves.of ?_
      | refine Ends.of ?_
      | refine Vw.bool ?_
      | refine Vw.int ?_
      | refine Vw.nil
      | refine Vw.sl
      | refine Vw.tup ?_
      | refine Vw.agg ?_
      | refine VwL.cons ?_ ?_
      | refine VwL.nil
      | refine LeavesF.of ?_
      | refine VwF.bool ?_
      | refine VwF.int ?_
      | refine VwF.nil
      | refine VwF.sl
      | refine VwF.tup ?_
      | refine VwF.agg ?_
      | refine VwLF.cons ?_ ?_
      | refine VwLF.nil
      | (refine Req.mk ?_ ?_; (focus first | rfl | decide | exact ⟨rfl, rfl⟩ | exact ⟨rfl, by decide⟩ | exact (fun _ => rfl) | exact (fun h => nomatch h) | (simp; done) | omega | (simp [big]; done) | exact le_big (by omega) | exact lt_big (by omega))))
  refine LoopP.by (fun i : Nat => i ≤ l.length) (fun i => [(5, .int .i64 (i : Nat))]) (fun _ => []) (fun i => l.length - i) 0 (Nat.zero_le _) rfl ?_
  intro i hi
  by_cases hin : i < l.length
  · have hpt : part (ofP l) (i * 4) 4 = some (pfC l[i]) := flat_part pfC_len hin
    repeat' (first
      | (conv => whnf)
        first
        | refine Br.t ?_
        | refine Br.f ?_
        | (refine Br.decT ?_ ?_; (focus first | assumption | omega))
        | (refine Br.decF ?_ ?_; (focus first | assumption | omega))
        | refine Br.dec (fun _ => ?_) (fun _ => ?_)
        | refine Br.not ?_
        | refine Br.and ?_
        | refine Br.or ?_
        | (refine Bnd.i64 ?_ ?_ ?_; (focus omega); (focus omega))
        | refine Get.mk _ hpt ?_
        | (refine Idx.nat ?_ ?_; (focus omega))
        | refine Idx.nat (le_big (by omega)) ?_
        | (refine Idx.int ?_ ?_ ?_; (focus omega); (focus omega))
        | (refine Idx.int ?_ ?_ ?_; (focus decide); (focus decide))
        | refine Ifz.zero ?_
        | (refine Ifz.pos ?_ ?_; (focus omega))
        | refine Get.mk _ rfl ?_
        | refine Leaves.of ?_
        | refine Ends.of ?_
        | refine Vw.bool ?_
        | refine Vw.int ?_
        | refine Vw.nil
        | refine Vw.sl
        | refine Vw.tup ?_
        | refine Vw.agg ?_
        | refine VwL.cons ?_ ?_
        | refine VwL.nil
        | refine LeavesF.of ?_
        | refine VwF.bool ?_
        | refine VwF.int ?_
        | refine VwF.nil
        | refine VwF.sl
        | refine VwF.tup ?_
        | refine VwF.agg ?_
        | refine VwLF.cons ?_ ?_
        | refine VwLF.nil
        | (refine Req.mk ?_ ?_; (focus first | rfl | decide | exact ⟨rfl, rfl⟩ | exact ⟨rfl, by decide⟩ | exact (fun _ => rfl) | exact (fun h => nomatch h) | (simp; done) | omega | (simp [big]; done) | exact le_big (by omega) | exact lt_big (by omega))))
    exact NextP.mk (i + 1) hin (by omega) rfl
  · repeat' (first
      | (conv => whnf)
        first
        | refine Br.t ?_
        | refine Br.f ?_
        | (refine Br.decT ?_ ?_; (focus first | assumption | omega))
        | (refine Br.decF ?_ ?_; (focus first | assumption | omega))
        | refine Br.dec (fun _ => ?_) (fun _ => ?_)
        | refine Br.not ?_
        | refine Br.and ?_
        | refine Br.or ?_
        | (refine Bnd.i64 ?_ ?_ ?_; (focus omega); (focus omega))
        | (refine Idx.nat ?_ ?_; (focus omega))
        | refine Idx.nat (le_big (by omega)) ?_
        | (refine Idx.int ?_ ?_ ?_; (focus omega); (focus omega))
        | (refine Idx.int ?_ ?_ ?_; (focus decide); (focus decide))
        | refine Ifz.zero ?_
        | (refine Ifz.pos ?_ ?_; (focus omega))
        | refine Get.mk _ rfl ?_
        | refine Leaves.of ?_
        | refine Ends.of ?_
        | refine Vw.bool ?_
        | refine Vw.int ?_
        | refine Vw.nil
        | refine Vw.sl
        | refine Vw.tup ?_
        | refine Vw.agg ?_
        | refine VwL.cons ?_ ?_
        | refine VwL.nil
        | refine LeavesF.of ?_
        | refine VwF.bool ?_
        | refine VwF.int ?_
        | refine VwF.nil
        | refine VwF.sl
        | refine VwF.tup ?_
        | refine VwF.agg ?_
        | refine VwLF.cons ?_ ?_
        | refine VwLF.nil
        | (refine Req.mk ?_ ?_; (focus first | rfl | decide | exact ⟨rfl, rfl⟩ | exact ⟨rfl, by decide⟩ | exact (fun _ => rfl) | exact (fun h => nomatch h) | (simp; done) | omega | (simp [big]; done) | exact le_big (by omega) | exact lt_big (by omega))))
    all_goals rfl
theorem fitE_len (t : Tsk) : (fitE t).2.1.length ≤ 1000000 := by
  unfold fitE
  split
  · simp
  · split
    · simp
    · rename_i h _
      have ht := (chk_ok (t := t) (by omega)).2
      have := ht.sps
      dsimp only
      rw [fitL_len]; omega
set_option maxRecDepth 100000 in
set_option maxHeartbeats 20000000 in
theorem law_fits (cm cs : Bool) (t : Tsk) (sp b : Int) : Fun F md 10 [tskV cm cs t, .agg [.int .i64 sp, .int .i64 b]] (.bool true) := by
  have hA := off_any cm cs t sp b
  have hB := offR_any cm cs t sp b
  obtain ⟨c1, hC⟩ := fit_any cm cs t
  obtain ⟨c2, hD⟩ := fitR_any cm cs t
  have hs := proofs_same (c := c1) (c' := c2) (fitE_len t)
  generalize offE t sp b = z1 at *
  generalize fitE t = z2 at *
  refine fun_of rfl rfl ?_
  repeat' (first
    | (conv => whnf)
      first
      | refine Br.t ?_
      | refine Br.f ?_
      | (refine Br.decT ?_ ?_; (focus first | assumption | omega))
      | (refine Br.decF ?_ ?_; (focus first | assumption | omega))
      | refine Br.dec (fun _ => ?_) (fun _ => ?_)
      | refine Br.not ?_
      | refine Br.and ?_
      | refine Br.or ?_
      | (refine Bnd.i64 ?_ ?_ ?_; (focus omega); (focus omega))
      | refine call_fun rfl rfl hA (.inl rfl) ?_
      | refine call_fun rfl rfl hB (.inl rfl) ?_
      | refine call_fun rfl rfl hC (.inl rfl) ?_
      | refine call_fun rfl rfl hD (.inl rfl) ?_
      | refine call_fun rfl rfl hs (.inl rfl) ?_
      | refine call_fun rfl rfl awake (.inl rfl) ?_
      | (refine Idx.nat ?_ ?_; (focus omega))
      | refine Idx.nat (le_big (by omega)) ?_
      | (refine Idx.int ?_ ?_ ?_; (focus omega); (focus omega))
      | (refine Idx.int ?_ ?_ ?_; (focus decide); (focus decide))
      | refine Ifz.zero ?_
      | (refine Ifz.pos ?_ ?_; (focus omega))
      | refine Get.mk _ rfl ?_
      | refine Leaves.of ?_
      | refine Ends.of ?_
      | refine Vw.bool ?_
      | refine Vw.int ?_
      | refine Vw.nil
      | refine Vw.sl
      | refine Vw.tup ?_
      | refine Vw.agg ?_
      | refine VwL.cons ?_ ?_
      | refine VwL.nil
      | refine LeavesF.of ?_
      | refine VwF.bool ?_
      | refine VwF.int ?_
      | refine VwF.nil
      | refine VwF.sl
      | refine VwF.tup ?_
      | refine VwF.agg ?_
      | refine VwLF.cons ?_ ?_
      | refine VwLF.nil
      | (refine Req.mk ?_ ?_; (focus first | rfl | decide | exact ⟨rfl, rfl⟩ | exact ⟨rfl, by decide⟩ | exact (fun _ => rfl) | exact (fun h => nomatch h) | (simp; done) | omega | (simp [big]; done) | exact le_big (by omega) | exact lt_big (by omega))))
  all_goals first | rfl | (exfalso; omega)

end Go.Dr.T
