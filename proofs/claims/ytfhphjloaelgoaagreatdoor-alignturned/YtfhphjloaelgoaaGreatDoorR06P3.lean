/- Chapter 06: open: the pair of two elements. -/
import Derived.Test.YtfhphjloaelgoaaGreatDoorR06P2
import Derived.Test.YtfhphjloaelgoaaGreatDoorR06Gc
namespace Go.Dr.T
def zP : List V := [.nilsl, .nilsl] ++ List.replicate 1682 (.int .i64 0)
def c53z : Fc := ⟨30, 3, [.tmp 6, .tmp 7], .seq (.reg false 2 [⟨some 3, none, 0, .bx 0 (.t 0)⟩, ⟨some 4, none, 0, .bx 1 (.t 1)⟩, ⟨some 6, none, 0, .mv (.c .nilp)⟩, ⟨some 7, none, 4, .mv (.c (.int .i64 0))⟩]) (.seq (.seq (.reg false 1 [⟨some 10, none, 0, .ld true 3 (.t 3)⟩, ⟨some 11, none, 0, .ld true 3 (.t 4)⟩, ⟨some 12, none, 3, .bl 0 3 2 [.str [], .nilsl, .int .i64 0] [(0, 3, .t 10), (3, 3, .t 11)]⟩, ⟨some 13, none, 7, .call (.c (.fn 89 [])) [.t 12]⟩, ⟨some 8, none, 15, .mv (.t 13)⟩]) (.seq (.reg false 0 [⟨some 14, none, 0, .mv (.t 8)⟩, ⟨some 15, none, 1, .bo .neq (.t 14) (.c (.int .i64 0))⟩]) (.cond (.t 15) (.seq (.reg false 0 [⟨some 16, none, 0, .mv (.t 8)⟩, ⟨some 6, none, 0, .mv (.c .nilp)⟩, ⟨some 7, none, 3, .mv (.t 16)⟩]) .ret) .skip))) (.seq (.seq (.reg false 0 [⟨some 17, none, 0, .mv (.t 2)⟩, ⟨some 18, none, 1, .call (.c (.fn 50 [])) [.t 17, .c (.int .i64 0), .c (.int .i64 200000)]⟩]) (.cond (.t 18) (.seq (.reg false 0 [⟨some 6, none, 0, .mv (.c .nilp)⟩, ⟨some 7, none, 1, .mv (.c (.int .i64 7))⟩]) .ret) .skip)) (.seq (.reg false 1 [⟨some 19, none, 0, .fa 1 (.t 3)⟩, ⟨some 20, none, 1, .ld false 1 (.t 19)⟩, ⟨some 21, none, 0, .fa 1 (.t 4)⟩, ⟨some 22, none, 4, .ld false 1 (.t 21)⟩, ⟨some 23, none, 0, .mv (.t 2)⟩, ⟨some 24, none, 31, .bd zP [(0, 1, .t 20), (1, 1, .t 22), (2, 1, .t 23)]⟩, ⟨some 25, none, 63, .bx 0 (.t 24)⟩, ⟨some 9, none, 127, .mv (.t 25)⟩]) (.seq (.reg false 0 [⟨some 26, none, 0, .mv (.t 9)⟩, ⟨some 27, none, 0, .bd [.int .i64 0, .int .i64 0] [(0, 1, .c (.int .i64 (-1)))]⟩, ⟨some 28, none, 3, .call (.c (.fn 80 [])) [.t 26, .t 27]⟩]) (.seq (.reg false 0 [⟨some 29, none, 0, .mv (.t 9)⟩, ⟨some 6, none, 1, .mv (.t 29)⟩, ⟨some 7, none, 3, .mv (.c (.int .i64 0))⟩]) .ret))))), none⟩
theorem c53_eq : FB 53 = some c53z := rfl
def El.sh (x : El) : Sh := ⟨x.c, x.l⟩
def zT : Nat → Nat → Int := fun _ _ => 0
theorem tb_zero : ofInts (tb zT) = List.replicate 1681 (.int .i64 0) := by
  have key : ∀ (n : Nat) (c : V), (List.range n).map (fun _ => c) = List.replicate n c := fun n c => by rw [List.map_const']; simp
  unfold tb zT ofInts
  rw [List.map_map]
  exact key 1681 _
theorem fills_zP {tm : List V} {a b : Sh} {s : Int} (h1 : (O.t 20).ev tm = a.v) (h2 : (O.t 22).ev tm = b.v) (h3 : (O.t 23).ev tm = .int .i64 s) : fills tm zP [(0, 1, .t 20), (1, 1, .t 22), (2, 1, .t 23)] = some (pC a b s zT) := by
  have e : zP = .nilsl :: .nilsl :: .int .i64 0 :: ofInts (tb zT) := by rw [tb_zero]; rfl
  rw [e, pC_eq]
  have hl : (ofInts (tb zT)).length = 1681 := by simp [ofInts, tb_len]
  generalize ofInts (tb zT) = T at *
  unfold Sh.v at *
  simp only [fills, h1, h2, h3, V.cells, over, List.length_cons, List.length_nil, hl]
  rfl
attribute [irreducible] zP
theorem fC.mk {l : List V} {K : List V → Prop} (h : K l) : fC l K := fC_eq.2 h
theorem fLv.pC {a b : Sh} {s : Int} {f : Nat → Nat → Int} {K : Nat → Prop} (h : K 1684) : fLv (pC a b s f) 0 K := fLv_eq.2 (by rw [pC_len]; exact h)
theorem pC_ones {a b : Sh} {s : Int} {f : Nat → Nat → Int} : ones (pC a b s f) = true := by
  rw [pC_eq]
  have key : ∀ l : List Int, ones (ofInts l) = true := by
    intro l
    induction l with
    | nil => rfl
    | cons x l ih => simp only [ofInts, List.map_cons, ones, Bool.and_eq_true] at ih ⊢; exact ⟨rfl, ih⟩
  simp only [ones, Bool.and_eq_true]
  exact ⟨rfl, rfl, rfl, key _⟩
def openT (x y : El) (s : Int) : Nat → Nat → Int := mixT zT (wT x.l y.l s (-1) 0) x.l.length y.l.length 0 y.l.length
def openE (x y : El) (s : Int) : Int := if ckd [x, y] ≠ 0 then ckd [x, y] else if outB s 0 200000 then 7 else 0
def openV (x y : El) (s : Int) : V := if openE x y s ≠ 0 then .tup [.nilp, .int .i64 (openE x y s)] else .tup [.rp (pC x.sh y.sh s (openT x y s)) 0, .int .i64 0]
theorem shOk_of {x : El} (h : x.e = 0) : shOk x.l := by
  obtain ⟨_, _, _, h1, h2⟩ := ck_good h
  refine ⟨h1, fun p hp => ?_⟩
  obtain ⟨i, hi⟩ := List.getElem?_of_mem hp
  obtain ⟨a, b, c, d, _⟩ := h2 i p hi
  exact ⟨a, b, c, d⟩
theorem open_good {x y : El} {s : Int} (h : openE x y s = 0) : shOk x.l ∧ shOk y.l ∧ 0 ≤ s ∧ s ≤ 200000 := by
  unfold openE at h
  split at h
  · rename_i h1; exact absurd h h1
  · rename_i h1
    have h1 : ckd [x, y] = 0 := Classical.not_not.1 h1
    split at h
    · cases h
    · rename_i h2
      simp only [outB, Bool.or_eq_true, decide_eq_true_eq, not_or] at h2
      exact ⟨shOk_of (ckd_good h1 x (by simp)), shOk_of (ckd_good h1 y (by simp)), by omega, by omega⟩
theorem wG_bxP {base d k n : Nat} {tm : List V} {h : List B} {a b : Sh} {s : Int} {f : Nat → Nat → Int} {K : List V → List B → Fp → Prop} (hv : (O.t n).ev tm = .agg (pC a b s f)) (hb : bget h (base + k) = some .unborn)
    (hk : fB (bset h (base + k) (.blk (pC a b s f) false)) fun h' => fV (tset tm d (.ref (base + k) 1684 0)) fun tm' => K tm' h' (fpS md base tm (.bx k (.t n)))) : wG FB md 0 base tm h (some d) none (.bx k (.t n)) K := by
  show fC ((O.t n).ev tm).cells _
  rw [hv]
  refine fC.mk ?_
  refine fLv.pC ?_
  refine Req.mk pC_ones ?_
  refine ⟨_, hb, ?_⟩
  exact hk
def elA' (x : El) : V := .agg x.v
set_option maxRecDepth 100000 in
set_option maxHeartbeats 20000000 in
theorem open_ok {x y : El} {s : Int} : Fun FB md 53 [elA' x, elA' y, .int .i64 s] (openV x y s) := by
  have hck := checked_ok (c := true) (l := [x, y]) (by simp)
  have hou := out_ok (n := s) (lo := 0) (hi := 200000)
  unfold openV
  by_cases he : ckd [x, y] = 0
  rotate_left
  · have e1 : openE x y s = ckd [x, y] := by unfold openE; rw [if_pos he]
    rw [e1, if_pos he]
    generalize ckd [x, y] = e at *
    refine fun_of c53_eq rfl ?_
    repeat' (first
 | (conv => whnf)
   first
   | (refine Br.decF ?_ ?_; (focus first | assumption | omega))
   | refine Br.not ?_
   | refine call_fun rfl rfl hck (.inl rfl) ?_
   | refine Get.mk _ rfl ?_
   | refine Leaves.of ?_
   | refine Vw.int ?_
   | refine Vw.tup ?_
   | refine VwL.cons ?_ ?_
   | refine VwL.nil
   | (refine Req.mk ?_ ?_; (focus first | rfl | decide | exact ⟨rfl, rfl⟩ | exact ⟨rfl, by decide⟩ | exact (fun _ => rfl) | exact (fun h => nomatch h) | (simp; done) | omega | (simp [big]; done) | exact le_big (by omega) | exact lt_big (by omega))))
    all_goals first | rfl | exact ⟨rfl⟩ | (exfalso; omega)
  rw [he] at hck
  cases hs : outB s 0 200000 with
  | true =>
    have e1 : openE x y s = 7 := by unfold openE; rw [if_neg (fun h => h he), hs]; rfl
    rw [hs] at hou
    rw [e1, if_pos (by decide)]
    refine fun_of c53_eq rfl ?_
    repeat' (first
 | (conv => whnf)
   first
   | refine Br.t ?_
   | refine Br.f ?_
   | refine call_fun rfl rfl hck (.inl rfl) ?_
   | refine call_fun rfl rfl hou (.inl rfl) ?_
   | refine Get.mk _ rfl ?_
   | refine Leaves.of ?_
   | refine Vw.int ?_
   | refine Vw.tup ?_
   | refine VwL.cons ?_ ?_
   | refine VwL.nil
   | (refine Req.mk ?_ ?_; (focus first | rfl | decide | exact ⟨rfl, rfl⟩ | exact ⟨rfl, by decide⟩ | exact (fun _ => rfl) | exact (fun h => nomatch h) | (simp; done) | omega | (simp [big]; done) | exact le_big (by omega) | exact lt_big (by omega))))
    all_goals first | rfl | exact ⟨rfl⟩ | (exfalso; omega)
  | false =>
    have e1 : openE x y s = 0 := by unfold openE; rw [if_neg (fun h => h he), hs]; rfl
    rw [hs] at hou
    obtain ⟨ha, hb, hs1⟩ := open_good e1
    rw [e1, if_neg (by decide)]
    have hvw : ∀ h, bget h 3 = some (pB x.sh y.sh s (openT x y s)) → Vw h depth (.tup [.ref 3 1684 0, .int .i64 0]) (.tup [.rp (pC x.sh y.sh s (openT x y s)) 0, .int .i64 0]) := fun h hb =>
      Vw.tup (d := 63) (VwL.cons (Vw.ref (d := 62) hb pC_len (part_all pC_len) ⟨view_pC⟩) (VwL.cons (Vw.int rfl) VwL.nil))
    refine fun_of c53_eq rfl ?_
    repeat' (first
 | (conv => whnf)
   first
   | refine Br.f ?_
   | refine call_fun rfl rfl hck (.inl rfl) ?_
   | refine call_fun rfl rfl hou (.inl rfl) ?_
   | refine Get.mk _ (fills_zP (a := x.sh) (b := y.sh) (s := s) rfl rfl rfl) ?_
   | refine Get.mk _ rfl ?_
   | (refine Req.mk ?_ ?_; (focus first | rfl | decide | exact ⟨rfl, rfl⟩ | exact ⟨rfl, by decide⟩ | exact (fun _ => rfl) | exact (fun h => nomatch h) | (simp; done) | omega | (simp [big]; done) | exact le_big (by omega) | exact lt_big (by omega))))
    all_goals refine fC.mk ?_
    simp only [wPut]
    refine fW.mk ?_
    refine fV.mk ?_
    simp only [wOps]
    refine wG_bxP (a := x.sh) (b := y.sh) (s := s) (f := zT) rfl rfl ?_
    refine fB.mk ?_
    refine fV.mk ?_
    simp only [tset, bset]
    repeat' (first
 | (conv => whnf)
   first
   | refine hvw _ rfl
   | refine fill_call (a := x.sh) (b := y.sh) (g := zT) ha hb hs1 (fun _ _ _ => rfl) (fun _ _ => rfl) ?_
   | refine Get.mk _ rfl ?_
   | refine Leaves.of ?_)
end Go.Dr.T
