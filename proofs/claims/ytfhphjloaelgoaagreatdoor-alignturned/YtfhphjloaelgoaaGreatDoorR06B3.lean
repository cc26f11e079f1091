/- Chapter 06: the iterator of begins, walked, whatever a yield does. -/
import Derived.Test.YtfhphjloaelgoaaGreatDoorR06B1
namespace Go.Dr.T
def goY {σ : Type} (ok : σ → Nat × Nat → Bool) (nx : σ → Nat × Nat → σ) : σ → List (Nat × Nat) → σ
  | s, [] => s
  | s, p :: ps => if ok s p = true then goY ok nx (nx s p) ps else nx s p
structure KS (σ : Type) where
  k : Nat
  s : σ
theorem fB.o0 {h g : List B} {K : List B → Prop} (hk : K h) : fB (if 0 = 0 then h else g) K := fB.i0 hk
set_option maxRecDepth 100000 in
set_option maxHeartbeats 20000000 in
theorem begins_call {σ : Type} {Bl : σ → List B} {Lh id : Nat} {ok : σ → Nat × Nat → Bool} {nx : σ → Nat × Nat → σ} {Iv : σ → Prop} {a b : Sh} {sl : Int} {f : Nat → Nat → Int} {i j : Nat} {s0 : σ} {K : V → List B → Prop}
    (ha : shOk a.l) (hb : shOk b.l) (hs : 0 ≤ sl ∧ sl ≤ 200000) (hf : ∀ k l, 0 ≤ f k l ∧ f k l ≤ 8000000) (hi : i ≤ a.l.length) (hj : j ≤ b.l.length)
    (hlen : ∀ s, (Bl s).length = Lh) (hI : Iv s0) (hn : ∀ s p, Iv s → Iv (nx s p))
    (hy : ∀ s (k l : Nat) (K : V → List B → Prop), Iv s → i ≤ k → k < a.l.length → j ≤ l → l < b.l.length → K (.bool (ok s (k, l))) (Bl (nx s (k, l))) → CallP FB md 0 (.yld id) [.agg [.int .i64 (k : Nat), .int .i64 (l : Nat)]] (Bl s) K)
    (hk : K (.tup []) (Bl (goY ok nx s0 (bgs (shA a.l b.l sl) f a.l.length b.l.length i j)))) : CallP FB md 0 (.fn 90 [.rp [.int .i64 (i : Nat)] 0, .rp [.rp (pC a b sl f) 0] 0, .rp [.int .i64 (j : Nat)] 0]) [.yld id] (Bl s0) K := by
  have hal := ha.1
  have hbl := hb.1
  have hJ0 : j < 41 := by omega
  have hI0 : i < 41 := by omega
  have fx : ∀ p q : Nat, 0 + 3 + p * 41 + q * 1 = 3 + p * 41 + q := fun p q => by omega
  have cij := pC_t (a := a) (b := b) (s := sl) (f := f) hI0 hJ0
  rw [← fx] at cij
  unfold bgs at hk
  have hfij := hf i j
  refine call_one rfl rfl rfl ?_
  repeat' (first
 | (conv => whnf)
   first
   | refine fLen.mk ?_
   | refine fB.i0 ?_
   | refine Get.mk _ rfl ?_)
  refine LoopP.by (fun a' : KS σ => i ≤ a'.k ∧ Iv a'.s ∧ goY ok nx s0 (bgF (shA a.l b.l sl) f a.l.length b.l.length (f i j) j i) = goY ok nx a'.s (bgF (shA a.l b.l sl) f a.l.length b.l.length (f i j) j a'.k)) (fun a' => [(5, .int .i64 (a'.k : Nat))]) (fun a' => Bl a'.s) (fun a' => a.l.length - a'.k) ⟨i, s0⟩ ⟨Nat.le_refl _, hI, rfl⟩ rfl ?_
  rintro ⟨k, s⟩ ⟨w1, w2, w3⟩
  dsimp only at w1 w2 w3 ⊢
  by_cases hkn : k < a.l.length
  rotate_left
  · rw [bgF_end (fun h => hkn h.1)] at w3
    rw [w3] at hk
    repeat' (first
 | (conv => whnf)
   first
   | refine Br.f ?_
   | (refine Br.decF ?_ ?_; (focus first | assumption | omega))
   | refine fLen.mk ?_
   | refine fB.i0 ?_
   | refine fB.mk ?_
   | refine Get.mk _ pC_0 ?_
   | refine Get.mk _ rfl ?_
   | refine Ends.of ?_)
    all_goals first | (show K (.tup []) (trunc (Bl s0).length _ (Bl s)); rw [trunc_same (by rw [hlen, hlen])]; exact hk) | (exfalso; omega)
  have hK0 : k < 41 := by omega
  have hK1 : k + 1 < 41 := by omega
  have ckj := pC_t (a := a) (b := b) (s := sl) (f := f) hK0 hJ0
  rw [← fx] at ckj
  by_cases hv : f k j = f i j
  rotate_left
  · rw [bgF_end (fun h => hv h.2)] at w3
    rw [w3] at hk
    repeat' (first
 | (conv => whnf)
   first
   | refine Idx.nat (Nat.le_of_lt_succ hK0) ?_
   | refine Idx.nat (Nat.le_of_lt_succ hJ0) ?_
   | refine Idx.nat (Nat.le_of_lt_succ hI0) ?_
   | (refine Br.decT ?_ ?_; (focus first | assumption | omega))
   | (refine Br.decF ?_ ?_; (focus first | assumption | omega))
   | refine fLen.mk ?_
   | refine fB.i0 ?_
   | refine fB.mk ?_
   | refine Get.mk _ pC_0 ?_
   | refine Get.mk _ ckj ?_
   | refine Get.mk _ cij ?_
   | refine Get.mk _ rfl ?_
   | refine Ends.of ?_)
    all_goals first | (show K (.tup []) (trunc (Bl s0).length _ (Bl s)); rw [trunc_same (by rw [hlen, hlen])]; exact hk) | (exfalso; omega)
  rw [bgF_step ⟨hkn, hv⟩] at w3
  obtain ⟨x, hx⟩ : ∃ x, a.l[k]? = some x := ⟨_, List.getElem?_eq_getElem hkn⟩
  repeat' (first
 | (conv => whnf)
   first
   | refine Idx.nat (Nat.le_of_lt_succ hK0) ?_
   | refine Idx.nat (Nat.le_of_lt_succ hJ0) ?_
   | refine Idx.nat (Nat.le_of_lt_succ hI0) ?_
   | (refine Br.decT ?_ ?_; (focus first | assumption | omega))
   | refine fLen.mk ?_
   | refine fB.i0 ?_
   | refine fB.mk ?_
   | refine Get.mk _ pC_0 ?_
   | refine Get.mk _ ckj ?_
   | refine Get.mk _ cij ?_
   | refine Get.mk _ rfl ?_)
  all_goals try (exfalso; omega)
  refine LoopP.by (fun a' : KS σ => j ≤ a'.k ∧ Iv a'.s ∧ goY ok nx s (bgR (shA a.l b.l sl) f b.l.length (f i j) j k ++ bgF (shA a.l b.l sl) f a.l.length b.l.length (f i j) j (k + 1)) = goY ok nx a'.s (bgR (shA a.l b.l sl) f b.l.length (f i j) a'.k k ++ bgF (shA a.l b.l sl) f a.l.length b.l.length (f i j) j (k + 1))) (fun a' => [(6, .int .i64 (a'.k : Nat))]) (fun a' => Bl a'.s) (fun a' => b.l.length - a'.k) ⟨j, s⟩ ⟨Nat.le_refl _, w2, rfl⟩ rfl ?_
  rintro ⟨l, s'⟩ ⟨v1, v2, v3⟩
  dsimp only at v1 v2 v3 ⊢
  by_cases hlm : l < b.l.length
  rotate_left
  · rw [bgR_end (m := b.l.length) (l := l) (by omega), List.nil_append] at v3
    repeat' (first
 | (conv => whnf)
   first
   | (refine Br.decF ?_ ?_; (focus first | assumption | omega))
   | (refine Bnd.i64 ?_ ?_ ?_; (focus omega); (focus omega))
   | refine fLen.mk ?_
   | refine fB.i0 ?_
   | refine fB.mk ?_
   | refine Get.mk _ pC_1 ?_
   | refine Get.mk _ rfl ?_)
    all_goals first | (exfalso; omega; done) | exact NextP.mk ⟨k + 1, s'⟩ ⟨by dsimp only; omega, v2, by dsimp only; rw [w3, v3]⟩ (by dsimp only; omega) (norm_same (by rw [hlen, hlen]))
  obtain ⟨y, hy'⟩ : ∃ y, b.l[l]? = some y := ⟨_, List.getElem?_eq_getElem hlm⟩
  have hL1 : l + 1 < 41 := by omega
  have ckl := pC_t (a := a) (b := b) (s := sl) (f := f) hK1 hL1
  rw [← fx] at ckl
  have hfkl := hf (k + 1) (l + 1)
  have hsh := share_fun (f := f) ha hb hs hx hy'
  have hxm := ha.2 x (List.mem_of_getElem? hx)
  have hym := hb.2 y (List.mem_of_getElem? hy')
  have rs := shr_rng (s := sl) (x := x) (y := y) ⟨hxm.2.2.1, hxm.2.2.2⟩ ⟨hym.2.2.1, hym.2.2.2⟩
  have hS : shA a.l b.l sl k l = shr sl x y := by unfold shA; rw [List.getD_eq_getElem?_getD, hx, List.getD_eq_getElem?_getD, hy']; rfl
  rw [bgR_step hlm, hS] at v3
  have hyl : ∀ {K : V → List B → Prop}, K (.bool (ok s' (k, l))) (Bl (nx s' (k, l))) → CallP FB md 0 (.yld id) [.agg [.int .i64 (k : Nat), .int .i64 (l : Nat)]] (Bl s') K := fun h => hy s' k l _ v2 w1 hkn v1 hlm h
  have hkw : IntKind.i64.wrap ((k : Int) + 1) = ((k + 1 : Nat) : Int) := by rw [wrap_i64 (by omega) (by omega)]; omega
  have hlw : IntKind.i64.wrap ((l : Int) + 1) = ((l + 1 : Nat) : Int) := by rw [wrap_i64 (by omega) (by omega)]; omega
  generalize shr sl x y = S at *
  by_cases hc : 0 < S ∧ S + f (k + 1) (l + 1) = f i j
  · rw [if_pos hc, List.cons_append] at v3
    cases hok : ok s' (k, l) with
    | true =>
      rw [hok] at hyl
      have v4 : goY ok nx s' ((k, l) :: (bgR (shA a.l b.l sl) f b.l.length (f i j) (l + 1) k ++ bgF (shA a.l b.l sl) f a.l.length b.l.length (f i j) j (k + 1))) = goY ok nx (nx s' (k, l)) (bgR (shA a.l b.l sl) f b.l.length (f i j) (l + 1) k ++ bgF (shA a.l b.l sl) f a.l.length b.l.length (f i j) j (k + 1)) := by
        conv => lhs; unfold goY
        rw [if_pos hok]
      repeat' (first
 | (conv => whnf)
   first
   | refine Bnd.eq hkw ?_
   | refine Bnd.eq hlw ?_
   | refine Idx.nat (Nat.le_of_lt_succ hK1) ?_
   | refine Idx.nat (Nat.le_of_lt_succ hL1) ?_
   | refine Idx.nat (Nat.le_of_lt_succ hJ0) ?_
   | refine Idx.nat (Nat.le_of_lt_succ hI0) ?_
   | refine Br.f ?_
   | (refine Br.decT ?_ ?_; (focus first | assumption | omega))
   | (refine Bnd.i64 ?_ ?_ ?_; (focus omega); (focus omega))
   | refine fLen.mk ?_
   | refine fB.i0 ?_
   | refine fB.mk ?_
   | refine Get.mk _ pC_1 ?_
   | refine Get.mk _ ckl ?_
   | refine Get.mk _ cij ?_
   | refine call_fun rfl rfl hsh (.inl rfl) ?_
   | refine hyl ?_
   | refine Get.mk _ rfl ?_)
      all_goals first | (exfalso; omega; done) | exact NextP.mk ⟨l + 1, nx s' (k, l)⟩ ⟨by dsimp only; omega, hn _ _ v2, by dsimp only; rw [v3, v4]⟩ (by dsimp only; omega) (norm_same (by rw [hlen, hlen]))
    | false =>
      rw [hok] at hyl
      have v4 : goY ok nx s' ((k, l) :: (bgR (shA a.l b.l sl) f b.l.length (f i j) (l + 1) k ++ bgF (shA a.l b.l sl) f a.l.length b.l.length (f i j) j (k + 1))) = nx s' (k, l) := by
        unfold goY
        rw [if_neg (by rw [hok]; simp)]
      rw [w3, v3, v4] at hk
      repeat' (first
 | (conv => whnf)
   first
   | refine Bnd.eq hkw ?_
   | refine Bnd.eq hlw ?_
   | refine Idx.nat (Nat.le_of_lt_succ hK1) ?_
   | refine Idx.nat (Nat.le_of_lt_succ hL1) ?_
   | refine Idx.nat (Nat.le_of_lt_succ hJ0) ?_
   | refine Idx.nat (Nat.le_of_lt_succ hI0) ?_
   | refine Br.t ?_
   | (refine Br.decT ?_ ?_; (focus first | assumption | omega))
   | (refine Bnd.i64 ?_ ?_ ?_; (focus omega); (focus omega))
   | refine fLen.mk ?_
   | refine fB.i0 ?_
   | refine fB.mk ?_
   | refine Get.mk _ pC_1 ?_
   | refine Get.mk _ ckl ?_
   | refine Get.mk _ cij ?_
   | refine call_fun rfl rfl hsh (.inl rfl) ?_
   | refine hyl ?_
   | refine Get.mk _ rfl ?_
   | refine Ends.of ?_)
      all_goals first | (exfalso; omega; done) | (show K (.tup []) (trunc (Bl s0).length _ (Bl (nx s' (k, l)))); rw [trunc_same (by rw [hlen, hlen])]; exact hk)
  · rw [if_neg hc] at v3
    repeat' (first
 | (conv => whnf)
   first
   | refine Bnd.eq hkw ?_
   | refine Bnd.eq hlw ?_
   | refine Idx.nat (Nat.le_of_lt_succ hK1) ?_
   | refine Idx.nat (Nat.le_of_lt_succ hL1) ?_
   | refine Idx.nat (Nat.le_of_lt_succ hJ0) ?_
   | refine Idx.nat (Nat.le_of_lt_succ hI0) ?_
   | refine Br.f ?_
   | (refine Br.decT ?_ ?_; (focus first | assumption | omega))
   | (refine Br.decF ?_ ?_; (focus first | assumption | omega))
   | refine Br.dec (fun _ => ?_) (fun _ => ?_)
   | (refine Bnd.i64 ?_ ?_ ?_; (focus omega); (focus omega))
   | refine fLen.mk ?_
   | refine fB.i0 ?_
   | refine fB.mk ?_
   | refine Get.mk _ pC_1 ?_
   | refine Get.mk _ ckl ?_
   | refine Get.mk _ cij ?_
   | refine call_fun rfl rfl hsh (.inl rfl) ?_
   | refine Get.mk _ rfl ?_)
    all_goals first | (exfalso; omega; done) | exact NextP.mk ⟨l + 1, s'⟩ ⟨by dsimp only; omega, v2, by dsimp only; rw [v3]⟩ (by dsimp only; omega) (norm_same (by rw [hlen, hlen]))
end Go.Dr.T
