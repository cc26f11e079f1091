/- Chapter 09: begin of the program. -/
import Derived.Test.YtokbdaiamhibeaaR09Bg
namespace Go.Dr.T

structure BgS where
  i : Nat
  n : Nat
  m : Nat
  ks : List Nat
  st : List (Int × Int)
  d : Mk
section
variable (t : Tsk) (cm cs : Bool)
abbrev bg0 : B := .blk [.int .i64 t.fr, .int .i64 t.lo, .int .i64 t.hi, .sl cm t.ms.length (ofM t.ms), .sl cs t.sp.length (ofI t.sp)] false
abbrev bg1 (a b : V) : B := .blk [.int .i64 t.fr, .int .i64 t.lo, .int .i64 t.hi, .sl cm t.ms.length (ofM t.ms), .sl cs t.sp.length (ofI t.sp), a, b] false
abbrev bg2 : B := .blk [.ref 1 7 0] false
def bgH (a : BgS) : List B :=
  match a.i, a.m with
  | 0, _ => [bg0 t cm cs, bg1 t cm cs .nilsl .nilsl, bg2]
  | _ + 1, 0 => [bg0 t cm cs, bg1 t cm cs (.ms 1 4 a.n 0 a.n false) .nilsl, bg2, .blk (mkC (mAt t.ms 0)) false, .blk (tkC a.ks) true]
  | _ + 1, m + 1 => [bg0 t cm cs, bg1 t cm cs (.ms 1 4 a.n 0 a.n false) (.ms 2 6 (2 * (m + 1)) 0 (m + 1) false), bg2, .blk (mkC (mAt t.ms 0)) false, .blk (tkC a.ks) true, .blk (mkC a.d) false, .blk (ofSp a.st) true]
end
theorem bgH_one (t : Tsk) (cm cs : Bool) (i n : Nat) (ks : List Nat) (st : List (Int × Int)) (d : Mk) : bgH t cm cs ⟨i + 1, n, 0, ks, st, d⟩ = [bg0 t cm cs, bg1 t cm cs (.ms 1 4 n 0 n false) .nilsl, bg2, .blk (mkC (mAt t.ms 0)) false, .blk (tkC ks) true] := rfl
theorem bgH_two (t : Tsk) (cm cs : Bool) (i n m : Nat) (ks : List Nat) (st : List (Int × Int)) (d : Mk) : bgH t cm cs ⟨i + 1, n, m + 1, ks, st, d⟩ = [bg0 t cm cs, bg1 t cm cs (.ms 1 4 n 0 n false) (.ms 2 6 (2 * (m + 1)) 0 (m + 1) false), bg2, .blk (mkC (mAt t.ms 0)) false, .blk (tkC ks) true, .blk (mkC d) false, .blk (ofSp st) true] := rfl
def BgP (t : Tsk) (a : BgS) : Prop := a.i ≤ t.ms.length ∧ tkS t a.i = (a.ks, a.st) ∧ a.ks.length = a.n ∧ a.st.length = a.m ∧ (a.i ≠ 0 → a.n ≠ 0)
/-- what begin gives. -/
def bgTk (t : Tsk) : V := if t.ms.length = 0 then .sl true 0 [] else .sl false (tkS t t.ms.length).1.length (tkC (tkS t t.ms.length).1)
def bgSt (t : Tsk) : V := if (tkS t t.ms.length).2.length = 0 then .sl true 0 [] else .sl false (tkS t t.ms.length).2.length (ofSp (tkS t t.ms.length).2)
abbrev bgV (t : Tsk) (cm cs : Bool) : V := syV t.fr t.lo t.hi cm t.ms.length (ofM t.ms) (.sl cs t.sp.length (ofI t.sp)) (bgTk t) (bgSt t)

theorem tkC_snoc (ks : List Nat) (i : Nat) : tkC ks ++ [.int .i64 ((i : Nat) : Int)] = tkC (ks ++ [i]) := by simp [tkC]
theorem tkC_cell0 {ks : List Nat} {j : Nat} (h : j < ks.length) : cellAt (tkC ks) (0 + j * 1) = some (.int .i64 (gI (tkI ks) j)) := by
  rw [tkC_eq]; exact gI_cell0 (by rw [tkI_length]; exact h)
theorem ofSp_snoc (l : List (Int × Int)) (a b : Int) : ofSp l ++ [.int .i64 a, .int .i64 b] = ofSp (l ++ [(a, b)]) := by rw [ofSp_append]; rfl
set_option maxRecDepth 100000 in
set_option maxHeartbeats 20000000 in
theorem begin_ok {cm cs : Bool} {t : Tsk} (ht : OkT t) (hc : chkT t = (0, 0, 0)) : Fun F md 64 [tskV cm cs t] (.tup [bgV t cm cs, .int .i64 0]) := by
  have hck := chk_any cm cs t
  rw [hc] at hck
  have hfr := ht.fr
  have hmany := ht.many
  refine fun_of rfl rfl ?_
  repeat' (first
    | (conv => whnf)
      first
      | refine Br.t ?_
      | refine Br.f ?_
      | (refine Br.decT ?_ ?_; (focus first | assumption | omega))
      | (refine Br.decF ?_ ?_; (focus first | assumption | omega))
      | refine Br.dec (fun _ => ?_) (fun _ => ?_)
      | refine Br.not ?_
      | refine Br.and ?_
      | refine Br.or ?_
      | (refine Bnd.i64 ?_ ?_ ?_; (focus omega); (focus omega))
      | refine call_fun rfl rfl hck (.inl rfl) ?_
      | (refine Idx.nat ?_ ?_; (focus omega))
      | refine Idx.nat (le_big (by omega)) ?_
      | (refine Idx.int ?_ ?_ ?_; (focus omega); (focus omega))
      | (refine Idx.int ?_ ?_ ?_; (focus decide); (focus decide))
      | refine Ifz.zero ?_
      | (refine Ifz.pos ?_ ?_; (focus omega))
      | refine Get.mk _ rfl ?_
      | refine Leaves.of ?_
      | refine Ends.of ?_
      | refine Vw.bool ?_
      | refine Vw.int ?_
      | refine Vw.nil
      | refine Vw.sl
      | refine Vw.tup ?_
      | refine Vw.agg ?_
      | refine VwL.cons ?_ ?_
      | refine VwL.nil
      | refine LeavesF.of ?_
      | refine VwF.bool ?_
      | refine VwF.int ?_
      | refine VwF.nil
      | refine VwF.sl
      | refine VwF.tup ?_
      | refine VwF.agg ?_
      | refine VwLF.cons ?_ ?_
      | refine VwLF.nil
      | (refine Req.mk ?_ ?_; (focus first | rfl | decide | exact ⟨rfl, rfl⟩ | exact ⟨rfl, by decide⟩ | exact (fun _ => rfl) | exact (fun h => nomatch h) | (simp; done) | omega | (simp [big]; done) | exact le_big (by omega) | exact lt_big (by omega))))
  refine LoopP.by (BgP t) (fun a => [(27, .int .i64 (a.i : Nat))]) (bgH t cm cs) (fun a => t.ms.length - a.i) ⟨0, 0, 0, [], [], (0, 0, 0)⟩ ⟨Nat.zero_le _, rfl, rfl, rfl, by simp⟩ rfl ?_
  rintro ⟨i, n, m, ks, st, d⟩ ⟨hi, hks, hn, hm, h0⟩
  dsimp only at hi hks hn hm h0 ⊢
  have hlt : ∀ k ∈ ks, k < t.ms.length := by
    intro k hk
    have := tkS_lt t i k (by rw [hks]; exact hk)
    omega
  have hlen := tkS_len t i
  rw [hks] at hlen
  dsimp only at hlen
  have hk40 : ks.length ≤ 40 := by omega
  by_cases hin : i < t.ms.length
  · have hfb : frIn (mAt t.ms i) := by
      have := ht.at hin
      exact ⟨by omega, by omega, by omega⟩
    cases i with
    | zero =>
      simp only [tkS, Prod.mk.injEq] at hks
      obtain ⟨rfl, rfl⟩ := hks
      simp only [List.length_nil] at hn hm
      subst hn hm
      have hks : tkS t 0 = ([], []) := rfl
      have hz : hitZ t [] (mAt t.ms 0) = -1 := rfl
      have htk : tkS t (0 + 1) = ([0], []) := by simp [tkS, hz]
      have hpt := mAt_part hin
      have hit := hit_any (cm := cm) (cmk := true) (sp := .sl cs t.sp.length (ofI t.sp)) (st := .sl true 0 []) (tk := .sl true 0 []) (ks := []) (b := mAt t.ms 0) ht hlt hfb (by simp) 0 rfl
      rw [hz] at hit
      have hvw := fun (h : List B) (h2 : bget h 2 = some (.blk [.ref 1 7 0] false)) (h1 : bget h 1 = some _) (hm : bget h 3 = some (.blk (mkC (mAt t.ms 0)) false)) => bg_views (h := h) (fr := t.fr) (lo := t.lo) (hi := t.hi) (cm := cm) (cs := cs) (nm := t.ms.length) (ns := t.sp.length) (mk := ofM t.ms) (sp := ofI t.sp) (tkv := .nilsl) (stv := .nilsl) (j := 3) (b := mAt t.ms 0) h2 h1 hm (fun _ => Vw.nil) (fun _ => Vw.nil)
      generalize hb : mAt t.ms 0 = b at *
      repeat' (first
        | (conv => whnf)
          first
          | refine Br.t ?_
          | refine Br.f ?_
          | (refine Br.decT ?_ ?_; (focus first | assumption | omega))
          | (refine Br.decF ?_ ?_; (focus first | assumption | omega))
          | refine Br.dec (fun _ => ?_) (fun _ => ?_)
          | refine Br.not ?_
          | refine Br.and ?_
          | refine Br.or ?_
          | (refine Bnd.i64 ?_ ?_ ?_; (focus omega); (focus omega))
          | refine Get.mk _ hpt ?_
          | refine call_fun rfl (hvw _ rfl rfl rfl) hit (.inr rfl) ?_
          | (refine Idx.nat ?_ ?_; (focus omega))
          | refine Idx.nat (le_big (by omega)) ?_
          | (refine Idx.int ?_ ?_ ?_; (focus omega); (focus omega))
          | (refine Idx.int ?_ ?_ ?_; (focus decide); (focus decide))
          | refine Ifz.zero ?_
          | (refine Ifz.pos ?_ ?_; (focus omega))
          | refine Get.mk _ rfl ?_
          | refine Leaves.of ?_
          | refine Ends.of ?_
          | refine Vw.bool ?_
          | refine Vw.int ?_
          | refine Vw.nil
          | refine Vw.sl
          | refine Vw.tup ?_
          | refine Vw.agg ?_
          | refine VwL.cons ?_ ?_
          | refine VwL.nil
          | refine LeavesF.of ?_
          | refine VwF.bool ?_
          | refine VwF.int ?_
          | refine VwF.nil
          | refine VwF.sl
          | refine VwF.tup ?_
          | refine VwF.agg ?_
          | refine VwLF.cons ?_ ?_
          | refine VwLF.nil
          | (refine Req.mk ?_ ?_; (focus first | rfl | decide | exact ⟨rfl, rfl⟩ | exact ⟨rfl, by decide⟩ | exact (fun _ => rfl) | exact (fun h => nomatch h) | (simp; done) | omega | (simp [big]; done) | exact le_big (by omega) | exact lt_big (by omega))))
      all_goals first | exact NextP.mk ⟨1, 1, 0, [0], [], (0, 0, 0)⟩ ⟨hin, htk, rfl, rfl, by simp⟩ (by simp only; omega) (by unfold bgH; dsimp only; rw [hb]; rfl) | (exfalso; omega)
    | succ i =>
      cases m with
      | zero =>
        obtain rfl : st = [] := List.length_eq_zero_iff.1 hm
        rw [bgH_one]
        have hpt := mAt_part hin
        have hit := hit_any (cm := cm) (cmk := false) (sp := .sl cs t.sp.length (ofI t.sp)) (st := .sl true 0 []) (tk := .sl false n (tkC ks)) (ks := ks) (b := mAt t.ms (i + 1)) ht hlt hfb hk40 n hn
        have htk : tkS t (i + 1 + 1) = if 0 ≤ hitZ t (tkS t (i + 1)).1 (mAt t.ms (i + 1)) then ((tkS t (i + 1)).1, (tkS t (i + 1)).2 ++ [(((i + 1 : Nat) : Int), (gI (tkI (tkS t (i + 1)).1) (hitZ t (tkS t (i + 1)).1 (mAt t.ms (i + 1))).toNat))]) else ((tkS t (i + 1)).1 ++ [i + 1], (tkS t (i + 1)).2) := rfl
        rw [hks] at htk
        dsimp only at htk
        have hzl := hitZ_lt t ks (mAt t.ms (i + 1))
        have hvw := fun (h : List B) (h2 : bget h 2 = some (.blk [.ref 1 7 0] false)) (h1 : bget h 1 = some _) (hmk : bget h 5 = some (.blk (mkC (mAt t.ms (i + 1))) false)) (h4 : bget h 4 = some (.blk (tkC ks) true)) (_ : True) => bg_views (h := h) (fr := t.fr) (lo := t.lo) (hi := t.hi) (cm := cm) (cs := cs) (nm := t.ms.length) (ns := t.sp.length) (mk := ofM t.ms) (sp := ofI t.sp) (tkv := .ms 1 4 n 0 n false) (stv := .nilsl) (j := 5) (b := mAt t.ms (i + 1)) h2 h1 hmk (fun _ => Vw.tk h4 hn hn) (fun _ => Vw.nil)
        have hlk : (tkC ks).length = n := by rw [tkC_length]; exact hn
        have hsn := tkC_snoc ks (i + 1)
        generalize hitZ t ks (mAt t.ms (i + 1)) = z at *
        by_cases hz : 0 ≤ z
        · rw [if_pos hz] at htk
          have hcz := tkC_cell0 (ks := ks) (j := z.toNat) (by omega)
          generalize gI (tkI ks) z.toNat = v at *
          generalize hC : tkC ks = C at *
          generalize hb : mAt t.ms (i + 1) = b at *
          clear hsn
          repeat' (first
            | (conv => whnf)
              first
              | refine Br.t ?_
              | refine Br.f ?_
              | (refine Br.decT ?_ ?_; (focus first | assumption | omega))
              | (refine Br.decF ?_ ?_; (focus first | assumption | omega))
              | refine Br.dec (fun _ => ?_) (fun _ => ?_)
              | refine Br.not ?_
              | refine Br.and ?_
              | refine Br.or ?_
              | (refine Bnd.i64 ?_ ?_ ?_; (focus omega); (focus omega))
              | refine Get.mk _ hpt ?_
              | refine call_fun rfl (hvw _ rfl rfl rfl rfl trivial) hit (.inr rfl) ?_
              | refine Get.mk _ hcz ?_
              | refine Req.mk hlk ?_
              | (refine Idx.nat ?_ ?_; (focus omega))
              | refine Idx.nat (le_big (by omega)) ?_
              | (refine Idx.int ?_ ?_ ?_; (focus omega); (focus omega))
              | (refine Idx.int ?_ ?_ ?_; (focus decide); (focus decide))
              | refine Ifz.zero ?_
              | (refine Ifz.pos ?_ ?_; (focus omega))
              | refine Get.mk _ rfl ?_
              | refine Leaves.of ?_
              | refine Ends.of ?_
              | refine Vw.bool ?_
              | refine Vw.int ?_
              | refine Vw.nil
              | refine Vw.sl
              | refine Vw.tup ?_
              | refine Vw.agg ?_
              | refine VwL.cons ?_ ?_
              | refine VwL.nil
              | refine LeavesF.of ?_
              | refine VwF.bool ?_
              | refine VwF.int ?_
              | refine VwF.nil
              | refine VwF.sl
              | refine VwF.tup ?_
              | refine VwF.agg ?_
              | refine VwLF.cons ?_ ?_
              | refine VwLF.nil
              | (refine Req.mk ?_ ?_; (focus first | rfl | decide | exact ⟨rfl, rfl⟩ | exact ⟨rfl, by decide⟩ | exact (fun _ => rfl) | exact (fun h => nomatch h) | (simp; done) | omega | (simp [big]; done) | exact le_big (by omega) | exact lt_big (by omega))))
          all_goals first | exact NextP.mk ⟨i + 1 + 1, n, 0 + 1, ks, ([] : List (Int × Int)) ++ [(((i + 1 : Nat) : Int), v)], b⟩ ⟨hin, htk, hn, by simp [hm], fun _ => h0 (by omega)⟩ (by simp only; omega) (by rw [bgH_two]; rw [hC]; rfl) | (exfalso; omega)
        · rw [if_neg hz] at htk
          generalize hC2 : tkC (ks ++ [i + 1]) = C2 at *
          generalize tkC ks = C at *
          generalize hb : mAt t.ms (i + 1) = b at *
          repeat' (first
            | (conv => whnf)
              first
              | refine Br.t ?_
              | refine Br.f ?_
              | (refine Br.decT ?_ ?_; (focus first | assumption | omega))
              | (refine Br.decF ?_ ?_; (focus first | assumption | omega))
              | refine Br.dec (fun _ => ?_) (fun _ => ?_)
              | refine Br.not ?_
              | refine Br.and ?_
              | refine Br.or ?_
              | (refine Bnd.i64 ?_ ?_ ?_; (focus omega); (focus omega))
              | refine Get.mk _ hpt ?_
              | refine call_fun rfl (hvw _ rfl rfl rfl rfl trivial) hit (.inr rfl) ?_
              | refine Req.mk hlk ?_
              | refine Req.mk ⟨by omega, by rw [hlk]; show (n + 1) * 9 < 68719476736; omega⟩ ?_
              | (refine Idx.nat ?_ ?_; (focus omega))
              | refine Idx.nat (le_big (by omega)) ?_
              | (refine Idx.int ?_ ?_ ?_; (focus omega); (focus omega))
              | (refine Idx.int ?_ ?_ ?_; (focus decide); (focus decide))
              | refine Ifz.zero ?_
              | (refine Ifz.pos ?_ ?_; (focus omega))
              | refine Get.mk _ rfl ?_
              | refine Leaves.of ?_
              | refine Ends.of ?_
              | refine Vw.bool ?_
              | refine Vw.int ?_
              | refine Vw.nil
              | refine Vw.sl
              | refine Vw.tup ?_
              | refine Vw.agg ?_
              | refine VwL.cons ?_ ?_
              | refine VwL.nil
              | refine LeavesF.of ?_
              | refine VwF.bool ?_
              | refine VwF.int ?_
              | refine VwF.nil
              | refine VwF.sl
              | refine VwF.tup ?_
              | refine VwF.agg ?_
              | refine VwLF.cons ?_ ?_
              | refine VwLF.nil
              | (refine Req.mk ?_ ?_; (focus first | rfl | decide | exact ⟨rfl, rfl⟩ | exact ⟨rfl, by decide⟩ | exact (fun _ => rfl) | exact (fun h => nomatch h) | (simp; done) | omega | (simp [big]; done) | exact le_big (by omega) | exact lt_big (by omega))))
          all_goals first | exact NextP.mk ⟨i + 1 + 1, n + 1, 0, ks ++ [i + 1], ([] : List (Int × Int)), d⟩ ⟨hin, htk, by simp [hn], hm, fun _ => by simp⟩ (by simp only; omega) (by rw [bgH_one]; rw [hC2, ← hsn]; rfl) | (exfalso; omega)
      | succ m =>
        rw [bgH_two]
        have hls : (ofSp st).length = 2 * (m + 1) := by rw [ofSp_length, hm]
        have hpt := mAt_part hin
        have hit := hit_any (cm := cm) (cmk := false) (sp := .sl cs t.sp.length (ofI t.sp)) (st := .sl false (m + 1) (ofSp st)) (tk := .sl false n (tkC ks)) (ks := ks) (b := mAt t.ms (i + 1)) ht hlt hfb hk40 n hn
        have htk : tkS t (i + 1 + 1) = if 0 ≤ hitZ t (tkS t (i + 1)).1 (mAt t.ms (i + 1)) then ((tkS t (i + 1)).1, (tkS t (i + 1)).2 ++ [(((i + 1 : Nat) : Int), (gI (tkI (tkS t (i + 1)).1) (hitZ t (tkS t (i + 1)).1 (mAt t.ms (i + 1))).toNat))]) else ((tkS t (i + 1)).1 ++ [i + 1], (tkS t (i + 1)).2) := rfl
        rw [hks] at htk
        dsimp only at htk
        have hzl := hitZ_lt t ks (mAt t.ms (i + 1))
        have hvw := fun (h : List B) (h2 : bget h 2 = some (.blk [.ref 1 7 0] false)) (h1 : bget h 1 = some _) (hmk : bget h 7 = some (.blk (mkC (mAt t.ms (i + 1))) false)) (h4 : bget h 4 = some (.blk (tkC ks) true)) (h6 : bget h 6 = some (.blk (ofSp st) true)) => bg_views (h := h) (fr := t.fr) (lo := t.lo) (hi := t.hi) (cm := cm) (cs := cs) (nm := t.ms.length) (ns := t.sp.length) (mk := ofM t.ms) (sp := ofI t.sp) (tkv := .ms 1 4 n 0 n false) (stv := .ms 2 6 (2 * (m + 1)) 0 (m + 1) false) (j := 7) (b := mAt t.ms (i + 1)) h2 h1 hmk (fun _ => Vw.tk h4 hn hn) (fun _ => Vw.sp h6 rfl (by rw [hm]) hm.symm hm.symm)
        have hlk : (tkC ks).length = n := by rw [tkC_length]; exact hn
        have hsn := tkC_snoc ks (i + 1)
        generalize hitZ t ks (mAt t.ms (i + 1)) = z at *
        by_cases hz : 0 ≤ z
        · rw [if_pos hz] at htk
          have hcz := tkC_cell0 (ks := ks) (j := z.toNat) (by omega)
          generalize gI (tkI ks) z.toNat = v at *
          generalize hC : tkC ks = C at *
          generalize hb : mAt t.ms (i + 1) = b at *
          clear hsn
          repeat' (first
            | (conv => whnf)
              first
              | refine Br.t ?_
              | refine Br.f ?_
              | (refine Br.decT ?_ ?_; (focus first | assumption | omega))
              | (refine Br.decF ?_ ?_; (focus first | assumption | omega))
              | refine Br.dec (fun _ => ?_) (fun _ => ?_)
              | refine Br.not ?_
              | refine Br.and ?_
              | refine Br.or ?_
              | (refine Bnd.i64 ?_ ?_ ?_; (focus omega); (focus omega))
              | refine Get.mk _ hpt ?_
              | refine call_fun rfl (hvw _ rfl rfl rfl rfl rfl) hit (.inr rfl) ?_
              | refine Get.mk _ hcz ?_
              | refine Req.mk hlk ?_
              | refine Req.mk hls ?_
              | refine Req.mk ⟨by omega, by rw [hls]; show (2 * (m + 1) + 2) * 17 < 68719476736; omega⟩ ?_
              | (refine Idx.nat ?_ ?_; (focus omega))
              | refine Idx.nat (le_big (by omega)) ?_
              | (refine Idx.int ?_ ?_ ?_; (focus omega); (focus omega))
              | (refine Idx.int ?_ ?_ ?_; (focus decide); (focus decide))
              | refine Ifz.zero ?_
              | (refine Ifz.pos ?_ ?_; (focus omega))
              | refine Get.mk _ rfl ?_
              | refine Leaves.of ?_
              | refine Ends.of ?_
              | refine Vw.bool ?_
              | refine Vw.int ?_
              | refine Vw.nil
              | refine Vw.sl
              | refine Vw.tup ?_
              | refine Vw.agg ?_
              | refine VwL.cons ?_ ?_
              | refine VwL.nil
              | refine LeavesF.of ?_
              | refine VwF.bool ?_
              | refine VwF.int ?_
              | refine VwF.nil
              | refine VwF.sl
              | refine VwF.tup ?_
              | refine VwF.agg ?_
              | refine VwLF.cons ?_ ?_
              | refine VwLF.nil
              | (refine Req.mk ?_ ?_; (focus first | rfl | decide | exact ⟨rfl, rfl⟩ | exact ⟨rfl, by decide⟩ | exact (fun _ => rfl) | exact (fun h => nomatch h) | (simp; done) | omega | (simp [big]; done) | exact le_big (by omega) | exact lt_big (by omega))))
          all_goals first | exact NextP.mk ⟨i + 1 + 1, n, (m + 1) + 1, ks, st ++ [(((i + 1 : Nat) : Int), v)], d⟩ ⟨hin, htk, hn, by simp [hm], fun _ => h0 (by omega)⟩ (by simp only; omega) (by rw [bgH_two]; rw [hC, ← ofSp_snoc]; rfl) | (exfalso; omega)
        · rw [if_neg hz] at htk
          generalize hC2 : tkC (ks ++ [i + 1]) = C2 at *
          generalize tkC ks = C at *
          generalize hb : mAt t.ms (i + 1) = b at *
          repeat' (first
            | (conv => whnf)
              first
              | refine Br.t ?_
              | refine Br.f ?_
              | (refine Br.decT ?_ ?_; (focus first | assumption | omega))
              | (refine Br.decF ?_ ?_; (focus first | assumption | omega))
              | refine Br.dec (fun _ => ?_) (fun _ => ?_)
              | refine Br.not ?_
              | refine Br.and ?_
              | refine Br.or ?_
              | (refine Bnd.i64 ?_ ?_ ?_; (focus omega); (focus omega))
              | refine Get.mk _ hpt ?_
              | refine call_fun rfl (hvw _ rfl rfl rfl rfl rfl) hit (.inr rfl) ?_
              | refine Req.mk hlk ?_
              | refine Req.mk ⟨by omega, by rw [hlk]; show (n + 1) * 9 < 68719476736; omega⟩ ?_
              | (refine Idx.nat ?_ ?_; (focus omega))
              | refine Idx.nat (le_big (by omega)) ?_
              | (refine Idx.int ?_ ?_ ?_; (focus omega); (focus omega))
              | (refine Idx.int ?_ ?_ ?_; (focus decide); (focus decide))
              | refine Ifz.zero ?_
              | (refine Ifz.pos ?_ ?_; (focus omega))
              | refine Get.mk _ rfl ?_
              | refine Leaves.of ?_
              | refine Ends.of ?_
              | refine Vw.bool ?_
              | refine Vw.int ?_
              | refine Vw.nil
              | refine Vw.sl
              | refine Vw.tup ?_
              | refine Vw.agg ?_
              | refine VwL.cons ?_ ?_
              | refine VwL.nil
              | refine LeavesF.of ?_
              | refine VwF.bool ?_
              | refine VwF.int ?_
              | refine VwF.nil
              | refine VwF.sl
              | refine VwF.tup ?_
              | refine VwF.agg ?_
              | refine VwLF.cons ?_ ?_
              | refine VwLF.nil
              | (refine Req.mk ?_ ?_; (focus first | rfl | decide | exact ⟨rfl, rfl⟩ | exact ⟨rfl, by decide⟩ | exact (fun _ => rfl) | exact (fun h => nomatch h) | (simp; done) | omega | (simp [big]; done) | exact le_big (by omega) | exact lt_big (by omega))))
          all_goals first | exact NextP.mk ⟨i + 1 + 1, n + 1, (m + 1), ks ++ [i + 1], st, d⟩ ⟨hin, htk, by simp [hn], hm, fun _ => by simp⟩ (by simp only; omega) (by rw [bgH_two]; rw [hC2, ← hsn]; rfl) | (exfalso; omega)
  · have hil : t.ms.length = i := by omega
    have e1 : bgTk t = if i = 0 then .sl true 0 [] else .sl false n (tkC ks) := by unfold bgTk; rw [hil, hks]; dsimp only; rw [hn]
    have e2 : bgSt t = if m = 0 then .sl true 0 [] else .sl false m (ofSp st) := by unfold bgSt; rw [hil, hks]; dsimp only; rw [hm]
    unfold bgV
    rw [e1, e2]
    clear e1 e2
    cases i with
    | zero =>
      simp only [tkS, Prod.mk.injEq] at hks
      obtain ⟨rfl, rfl⟩ := hks
      simp only [List.length_nil] at hn hm
      subst hn hm
      rw [if_pos rfl, if_pos rfl]
      unfold bgH
      dsimp only
      repeat' (first
        | (conv => whnf)
          first
          | refine Br.t ?_
          | refine Br.f ?_
          | (refine Br.decT ?_ ?_; (focus first | assumption | omega))
          | (refine Br.decF ?_ ?_; (focus first | assumption | omega))
          | refine Br.dec (fun _ => ?_) (fun _ => ?_)
          | refine Br.not ?_
          | refine Br.and ?_
          | refine Br.or ?_
          | (refine Bnd.i64 ?_ ?_ ?_; (focus omega); (focus omega))
          | refine Vw.ref rfl rfl rfl ?_
          | (refine Idx.nat ?_ ?_; (focus omega))
          | refine Idx.nat (le_big (by omega)) ?_
          | (refine Idx.int ?_ ?_ ?_; (focus omega); (focus omega))
          | (refine Idx.int ?_ ?_ ?_; (focus decide); (focus decide))
          | refine Ifz.zero ?_
          | (refine Ifz.pos ?_ ?_; (focus omega))
          | refine Get.mk _ rfl ?_
          | refine Leaves.of ?_
          | refine Ends.of ?_
          | refine Vw.bool ?_
          | refine Vw.int ?_
          | refine Vw.nil
          | refine Vw.sl
          | refine Vw.tup ?_
          | refine Vw.agg ?_
          | refine VwL.cons ?_ ?_
          | refine VwL.nil
          | refine LeavesF.of ?_
          | refine VwF.bool ?_
          | refine VwF.int ?_
          | refine VwF.nil
          | refine VwF.sl
          | refine VwF.tup ?_
          | refine VwF.agg ?_
          | refine VwLF.cons ?_ ?_
          | refine VwLF.nil
          | (refine Req.mk ?_ ?_; (focus first | rfl | decide | exact ⟨rfl, rfl⟩ | exact ⟨rfl, by decide⟩ | exact (fun _ => rfl) | exact (fun h => nomatch h) | (simp; done) | omega | (simp [big]; done) | exact le_big (by omega) | exact lt_big (by omega))))
      all_goals first | rfl | (exfalso; omega)
    | succ i =>
      rw [if_neg (by omega)]
      cases m with
      | zero =>
        rw [if_pos rfl]
        unfold bgH
        dsimp only
        repeat' (first
          | (conv => whnf)
            first
            | refine Br.t ?_
            | refine Br.f ?_
            | (refine Br.decT ?_ ?_; (focus first | assumption | omega))
            | (refine Br.decF ?_ ?_; (focus first | assumption | omega))
            | refine Br.dec (fun _ => ?_) (fun _ => ?_)
            | refine Br.not ?_
            | refine Br.and ?_
            | refine Br.or ?_
            | (refine Bnd.i64 ?_ ?_ ?_; (focus omega); (focus omega))
            | refine Vw.ref rfl rfl rfl ?_
            | refine Vw.sl
            | refine Vw.tk rfl hn hn
            | (refine Idx.nat ?_ ?_; (focus omega))
            | refine Idx.nat (le_big (by omega)) ?_
            | (refine Idx.int ?_ ?_ ?_; (focus omega); (focus omega))
            | (refine Idx.int ?_ ?_ ?_; (focus decide); (focus decide))
            | refine Ifz.zero ?_
            | (refine Ifz.pos ?_ ?_; (focus omega))
            | refine Get.mk _ rfl ?_
            | refine Leaves.of ?_
            | refine Ends.of ?_
            | refine Vw.bool ?_
            | refine Vw.int ?_
            | refine Vw.nil
            | refine Vw.sl
            | refine Vw.tup ?_
            | refine Vw.agg ?_
            | refine VwL.cons ?_ ?_
            | refine VwL.nil
            | refine LeavesF.of ?_
            | refine VwF.bool ?_
            | refine VwF.int ?_
            | refine VwF.nil
            | refine VwF.sl
            | refine VwF.tup ?_
            | refine VwF.agg ?_
            | refine VwLF.cons ?_ ?_
            | refine VwLF.nil
            | (refine Req.mk ?_ ?_; (focus first | rfl | decide | exact ⟨rfl, rfl⟩ | exact ⟨rfl, by decide⟩ | exact (fun _ => rfl) | exact (fun h => nomatch h) | (simp; done) | omega | (simp [big]; done) | exact le_big (by omega) | exact lt_big (by omega))))
        all_goals first | rfl | (exfalso; omega)
      | succ m =>
        rw [if_neg (by omega)]
        unfold bgH
        dsimp only
        repeat' (first
          | (conv => whnf)
            first
            | refine Br.t ?_
            | refine Br.f ?_
            | (refine Br.decT ?_ ?_; (focus first | assumption | omega))
            | (refine Br.decF ?_ ?_; (focus first | assumption | omega))
            | refine Br.dec (fun _ => ?_) (fun _ => ?_)
            | refine Br.not ?_
            | refine Br.and ?_
            | refine Br.or ?_
            | (refine Bnd.i64 ?_ ?_ ?_; (focus omega); (focus omega))
            | refine Vw.ref rfl rfl rfl ?_
            | refine Vw.sl
            | refine Vw.tk rfl hn hn
            | (refine Vw.sp rfl rfl ?_ hm.symm hm.symm; (focus rw [hm]))
            | (refine Idx.nat ?_ ?_; (focus omega))
            | refine Idx.nat (le_big (by omega)) ?_
            | (refine Idx.int ?_ ?_ ?_; (focus omega); (focus omega))
            | (refine Idx.int ?_ ?_ ?_; (focus decide); (focus decide))
            | refine Ifz.zero ?_
            | (refine Ifz.pos ?_ ?_; (focus omega))
            | refine Get.mk _ rfl ?_
            | refine Leaves.of ?_
            | refine Ends.of ?_
            | refine Vw.bool ?_
            | refine Vw.int ?_
            | refine Vw.nil
            | refine Vw.sl
            | refine Vw.tup ?_
            | refine Vw.agg ?_
            | refine VwL.cons ?_ ?_
            | refine VwL.nil
            | refine LeavesF.of ?_
            | refine VwF.bool ?_
            | refine VwF.int ?_
            | refine VwF.nil
            | refine VwF.sl
            | refine VwF.tup ?_
            | refine VwF.agg ?_
            | refine VwLF.cons ?_ ?_
            | refine VwLF.nil
            | (refine Req.mk ?_ ?_; (focus first | rfl | decide | exact ⟨rfl, rfl⟩ | exact ⟨rfl, by decide⟩ | exact (fun _ => rfl) | exact (fun h => nomatch h) | (simp; done) | omega | (simp [big]; done) | exact le_big (by omega) | exact lt_big (by omega))))
        all_goals first | rfl | (exfalso; omega)

end Go.Dr.T
