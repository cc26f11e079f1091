/- Chapter 06: the table with gather and sorted; round. -/
import Derived.Test.YtfhphjloaelgoaaGreatDoorR06Gs
namespace Go.Dr.T
theorem shC_inj : ∀ {l l' : List (Int × Int)}, shC l = shC l' → l = l'
  | [], [], _ => rfl
  | [], _ :: _, h => by simp [shC] at h
  | _ :: _, [], h => by simp [shC] at h
  | p :: l, q :: l', h => by
    simp only [shC, List.cons.injEq, V.int.injEq, true_and] at h
    obtain ⟨h1, h2, h3⟩ := h
    rw [shC_inj h3, Prod.ext h1 h2]
theorem elC_inj : ∀ {l l' : List El}, elC l = elC l' → l = l'
  | [], [], _ => rfl
  | [], _ :: _, h => by simp [elC] at h
  | _ :: _, [], h => by simp [elC] at h
  | ⟨n, c, s, g⟩ :: l, ⟨n', c', s', g'⟩ :: l', h => by
    simp only [elC, List.cons.injEq, V.int.injEq, V.str.injEq, V.sl.injEq, true_and] at h
    obtain ⟨rfl, ⟨rfl, _, h2⟩, rfl, h3⟩ := h
    rw [elC_inj h3, shC_inj h2]
open Classical in
noncomputable def gatG (as : List V) : Option V := if h : ∃ p : Bool × List El, as = [elsV p.1 p.2] then some (gatherV (Classical.choose h).2) else none
theorem gatG_eq {c : Bool} {l : List El} : gatG [elsV c l] = some (gatherV l) := by
  have h : ∃ p : Bool × List El, [elsV c l] = [elsV p.1 p.2] := ⟨(c, l), rfl⟩
  have e := Classical.choose_spec h
  unfold gatG
  rw [dif_pos h]
  generalize Classical.choose h = q at *
  simp only [elsV, List.cons.injEq, V.sl.injEq, and_true] at e
  rw [elC_inj e.2.2]
theorem gatG_some {as : List V} {v : V} (h : gatG as = some v) : ∃ c l, as = [elsV c l] ∧ v = gatherV l := by
  unfold gatG at h
  split at h
  · rename_i hx
    cases h
    exact ⟨_, _, Classical.choose_spec hx, rfl⟩
  · cases h
def srtdG : List V → Option V
  | [.rm kc _] => match intsOf kc with
    | some ks => if ks.length ≤ 1000000 then some (lw false (isort ks)) else none
    | none => none
  | _ => none
theorem intsOf_of : ∀ l : List Int, intsOf (ofInts l) = some l
  | [] => rfl
  | x :: l => by
    show (intsOf (ofInts l)).map (x :: ·) = _
    rw [intsOf_of l]; rfl
theorem srtdG_eq {ks : List Int} {vs : List V} (h : ks.length ≤ 1000000) : srtdG [.rm (ofInts ks) vs] = some (lw false (isort ks)) := by
  simp only [srtdG, intsOf_of, h, if_true]
noncomputable def FB1 : Nat → Option Fc
  | 65 => some (knFc 1 65 (plainKn gatG))
  | 67 => some (knFc 1 67 (plainKn srtdG))
  | n => FB n
theorem sub1 : Sub' FB FB1 := by
  intro f fc h
  unfold FB1
  split
  · cases h
  · cases h
  · exact h
theorem gather_fun {c : Bool} {l : List El} (hv : V.view [] depth (gatherV l) = some (gatherV l)) : Fun FB1 md 65 [elsV c l] (gatherV l) := fun_kn rfl rfl gatG_eq hv
theorem view_lw {h : List B} {d : Nat} (c : Bool) (l : List Int) : V.view h (d + 1) (lw c l) = some (lw c l) := by cases l <;> rfl
theorem sorted_fun {ks : List Int} {vs : List V} (h : ks.length ≤ 1000000) : Fun FB1 md 67 [.rm (ofInts ks) vs] (lw false (isort ks)) := fun_kn rfl rfl (srtdG_eq h) (view_lw _ _)
def wayV : Option (List Int) → V
  | none => .tup [.sl true 0 [], .bool false]
  | some l => .tup [.sl false l.length (ofInts l), .bool true]
def bestV : Option (List Int) → V
  | none => .nilsl
  | some l => .sl false l.length (ofInts l)
def rStep (w : Int → Option (List Int)) (b : Option (List Int)) (k : Int) : Option (List Int) :=
  match w k with
  | none => b
  | some l => match b with
    | none => some l
    | some x => if l.length < x.length then some l else some x
def roundP (w : Int → Option (List Int)) (S : List Int) : Option (List Int) := S.foldl (rStep w) none
theorem round_snoc {w : Int → Option (List Int)} {S : List Int} {i : Nat} {k : Int} (h : S[i]? = some k) : roundP w (S.take (i + 1)) = rStep w (roundP w (S.take i)) k := by
  have : S.take (i + 1) = S.take i ++ [k] := by rw [List.take_add_one, h]; rfl
  rw [this, roundP, List.foldl_append]; rfl
theorem round_ne {w : Int → Option (List Int)} (hne : ∀ k, w k ≠ some []) : ∀ (S : List Int) (b : Option (List Int)), b ≠ some [] → S.foldl (rStep w) b ≠ some []
  | [], b, h => h
  | k :: S, b, h => by
    refine round_ne hne S _ ?_
    unfold rStep
    have := hne k
    split
    · exact h
    · rename_i l hl
      split
      · rw [hl] at this; exact this
      · split
        · rw [hl] at this; exact this
        · exact h
def lwL (l : List Int) : Nat := l.length
theorem fB.if0 {h g : List B} {K : List B → Prop} (hk : K h) : fB (if 0 = 0 then h else g) K := fB.mk (by rw [if_pos rfl]; exact hk)
theorem lw_sl (l : List Int) : ∃ c, lw false l = .sl c l.length (ofInts l) := by cases l <;> exact ⟨_, rfl⟩
set_option maxRecDepth 100000 in
set_option maxHeartbeats 20000000 in
theorem round_call {D : List PE} {w : Int → Option (List Int)} {h : List B} {ro : Nat} {K : V → List B → Prop} (hn : D.length ≤ 1000000) (hw : ∀ k ∈ D.map (·.k), Fun FB1 md 69 [gatV D, .int .i64 k, .int .i64 k, .int .i64 k] (wayV (w k))) (hne : ∀ k, w k ≠ some [])
    (hk : K (bestV (roundP w (isort (D.map (·.k))))) h) : CallP FB1 md ro (.fn 66 []) [gatV D] h K := by
  have hkl : (D.map (·.k)).length ≤ 1000000 := by simpa using hn
  have hso := sorted_fun (vs := D.map PE.v) hkl
  have hmem : ∀ k ∈ isort (D.map (·.k)), k ∈ D.map (·.k) := fun k hk => (isort_perm _).mem_iff.1 hk
  have hlen : (isort (D.map (·.k))).length ≤ 1000000 := by rw [isort_len]; exact hkl
  generalize isort (D.map (·.k)) = S at *
  obtain ⟨c, hc⟩ := lw_sl S
  rw [hc] at hso
  refine call_one rfl rfl rfl ?_
  repeat' (first
 | (conv => whnf)
   first
   | refine fLen.mk ?_
   | refine fB.if0 ?_
   | refine call_fun rfl rfl hso (.inl rfl) ?_)
  refine LoopP.by (fun i : Nat => i ≤ S.length) (fun i => [(2, bestV (roundP w (S.take i))), (10, .int .i64 (i : Nat))]) (fun _ => h) (fun i => S.length - i) 0 (Nat.zero_le _) rfl ?_
  rintro i hi
  dsimp only
  have hbn : roundP w (S.take i) ≠ some [] := round_ne hne _ _ (by simp)
  have hT : ∀ tm, norm (maskOf tm) h.length ⟨tm, h⟩ = ⟨masked (maskOf tm) tm, h⟩ := fun tm => norm_same rfl
  by_cases hi' : i < S.length
  rotate_left
  · obtain rfl : i = S.length := by omega
    rw [List.take_length]
    rw [List.take_length] at hbn
    generalize hb : roundP w S = b at *
    cases b
    all_goals
      repeat' (first
 | (conv => whnf)
   first
   | (refine Br.decF ?_ ?_; (focus first | assumption | omega))
   | refine fLen.mk ?_
   | refine fB.if0 ?_
   | refine fB.mk ?_
   | refine Get.mk _ rfl ?_
   | refine Ends.of ?_)
    all_goals (show K _ (trunc h.length _ h); rw [trunc_same rfl]; exact hk)
  obtain ⟨k, hk', hc⟩ := ofInts_cell hi'
  have hwk := hw k (hmem k (List.mem_of_getElem? hk'))
  have hnk := hne k
  have hsn := round_snoc (w := w) hk'
  unfold rStep at hsn
  generalize hb : roundP w (S.take i) = b at *
  generalize hx : w k = x at *
  cases x with
  | none =>
    dsimp only at hsn
    repeat' (first
 | (conv => whnf)
   first
   | refine Br.f ?_
   | (refine Br.decT ?_ ?_; (focus first | assumption | omega))
   | (refine Bnd.i64 ?_ ?_ ?_; (focus omega); (focus omega))
   | refine fLen.mk ?_
   | refine fB.if0 ?_
   | refine fB.mk ?_
   | refine Get.mk _ hc ?_
   | refine call_fun rfl rfl hwk (.inl rfl) ?_
   | (refine Idx.nat ?_ ?_; (focus omega))
   | refine Get.mk _ rfl ?_
   | (refine Req.mk ?_ ?_; (focus first | rfl | decide | exact ⟨rfl, rfl⟩ | exact ⟨rfl, by decide⟩ | exact (fun _ => rfl) | exact (fun h => nomatch h) | (simp; done) | omega | (simp [big]; done) | exact le_big (by omega) | exact lt_big (by omega))))
    refine NextP.mk (i + 1) hi' (by omega) ?_
    rw [hsn]
    exact norm_same rfl
  | some l =>
    obtain ⟨y, r, rfl⟩ : ∃ y r, l = y :: r := by
      cases l with
      | nil => exact absurd rfl hnk
      | cons y r => exact ⟨y, r, rfl⟩
    cases b with
    | none =>
      dsimp only at hsn
      repeat' (first
 | (conv => whnf)
   first
   | refine Br.t ?_
   | (refine Br.decT ?_ ?_; (focus first | assumption | omega))
   | (refine Bnd.i64 ?_ ?_ ?_; (focus omega); (focus omega))
   | refine fLen.mk ?_
   | refine fB.if0 ?_
   | refine fB.mk ?_
   | refine Get.mk _ hc ?_
   | refine call_fun rfl rfl hwk (.inl rfl) ?_
   | (refine Idx.nat ?_ ?_; (focus omega))
   | refine Get.mk _ rfl ?_
   | (refine Req.mk ?_ ?_; (focus first | rfl | decide | exact ⟨rfl, rfl⟩ | exact ⟨rfl, by decide⟩ | exact (fun _ => rfl) | exact (fun h => nomatch h) | (simp; done) | omega | (simp [big]; done) | exact le_big (by omega) | exact lt_big (by omega))))
      refine NextP.mk (i + 1) hi' (by omega) ?_
      rw [hsn]
      exact norm_same rfl
    | some z =>
      obtain ⟨y', r', rfl⟩ : ∃ y r, z = y :: r := by
        cases z with
        | nil => exact absurd rfl hbn
        | cons y r => exact ⟨y, r, rfl⟩
      dsimp only at hsn
      by_cases hlt : (y :: r).length < (y' :: r').length
      · rw [if_pos hlt] at hsn
        repeat' (first
 | (conv => whnf)
   first
   | refine Br.t ?_
   | refine Br.f ?_
   | (refine Br.decT ?_ ?_; (focus first | assumption | omega))
   | (refine Bnd.i64 ?_ ?_ ?_; (focus omega); (focus omega))
   | refine fLen.mk ?_
   | refine fB.if0 ?_
   | refine fB.mk ?_
   | refine Get.mk _ hc ?_
   | refine call_fun rfl rfl hwk (.inl rfl) ?_
   | (refine Idx.nat ?_ ?_; (focus omega))
   | refine Get.mk _ rfl ?_
   | (refine Req.mk ?_ ?_; (focus first | rfl | decide | exact ⟨rfl, rfl⟩ | exact ⟨rfl, by decide⟩ | exact (fun _ => rfl) | exact (fun h => nomatch h) | (simp; done) | omega | (simp [big]; done) | exact le_big (by omega) | exact lt_big (by omega))))
        refine NextP.mk (i + 1) hi' (by omega) ?_
        rw [hsn]
        exact norm_same rfl
      · rw [if_neg hlt] at hsn
        repeat' (first
 | (conv => whnf)
   first
   | refine Br.t ?_
   | refine Br.f ?_
   | (refine Br.decT ?_ ?_; (focus first | assumption | omega))
   | (refine Br.decF ?_ ?_; (focus first | assumption | omega))
   | (refine Bnd.i64 ?_ ?_ ?_; (focus omega); (focus omega))
   | refine fLen.mk ?_
   | refine fB.if0 ?_
   | refine fB.mk ?_
   | refine Get.mk _ hc ?_
   | refine call_fun rfl rfl hwk (.inl rfl) ?_
   | (refine Idx.nat ?_ ?_; (focus omega))
   | refine Get.mk _ rfl ?_
   | (refine Req.mk ?_ ?_; (focus first | rfl | decide | exact ⟨rfl, rfl⟩ | exact ⟨rfl, by decide⟩ | exact (fun _ => rfl) | exact (fun h => nomatch h) | (simp; done) | omega | (simp [big]; done) | exact le_big (by omega) | exact lt_big (by omega))))
        refine NextP.mk (i + 1) hi' (by omega) ?_
        rw [hsn]
        exact norm_same rfl
end Go.Dr.T
