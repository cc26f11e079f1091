/- Chapter 06: sorted: the keys of a map, in order. -/
import Derived.Test.YtfhphjloaelgoaaGreatDoorR06Gf
namespace Go.Dr.T
def kAt (ks : List Int) (s : Nat) : Int := ks.getD s 0
def sKeys (ks : List Int) (seen : List Nat) : List Int := seen.map (kAt ks)
theorem kAt_get {ks : List Int} {s : Nat} (h : s < ks.length) : ks[s]? = some (kAt ks s) := by simp [kAt, List.getD, h]
theorem tg_key {ks : List Int} {s : Nat} (h : s < ks.length) : tg (ofInts ks) s = .int .i64 (kAt ks s) := tg_eq (by simp [ofInts, kAt_get h])
theorem cur1_of {ks : List Int} {vs : List V} {seen : List Nat} {s : Nat} (h : s < ks.length) : mcur1 [.ir (ofInts ks) vs (seen ++ [s])] = some (.tup [.int .i64 (kAt ks s), tg vs s], none) := by
  have hl : (ofInts ks).length = ks.length := by simp [ofInts]
  simp only [mcur1, lastO_snoc, hl, h, if_true, tg_key h]
theorem sKeys_snoc (ks : List Int) (seen : List Nat) (s : Nat) : sKeys ks (seen ++ [s]) = sKeys ks seen ++ [kAt ks s] := by simp [sKeys]
theorem isort_congr {a b : List Int} (h : a.Perm b) : isort a = isort b :=
  List.Perm.eq_of_pairwise (le := fun x y : Int => x ≤ y) (fun a b _ _ h1 h2 => by omega) (isort_sorted a) (isort_sorted b) ((isort_perm a).trans (h.trans (isort_perm b).symm))
theorem sKeys_all (ks : List Int) : sKeys ks (List.range ks.length) = ks := by
  apply List.ext_getElem?
  intro i
  simp only [sKeys, List.getElem?_map]
  by_cases h : i < ks.length
  · rw [List.getElem?_range h, Option.map_some, kAt_get h]
  · rw [List.getElem?_eq_none (by simp; omega), List.getElem?_eq_none (by omega)]; rfl
theorem seen_perm {n : Nat} {seen : List Nat} (h1 : seen.Nodup) (h2 : ∀ s ∈ seen, s < n) (h3 : ∀ s, s < n → s ∈ seen) : seen.Perm (List.range n) :=
  (List.perm_ext_iff_of_nodup h1 List.nodup_range).2 fun a => by rw [List.mem_range]; exact ⟨h2 a, h3 a⟩
theorem sKeys_perm {ks : List Int} {seen : List Nat} (h1 : seen.Nodup) (h2 : ∀ s ∈ seen, s < ks.length) (h3 : ∀ s, s < ks.length → s ∈ seen) : (sKeys ks seen).Perm ks := by
  have := (seen_perm h1 h2 h3).map (kAt ks)
  rwa [show (List.range ks.length).map (kAt ks) = ks from sKeys_all ks] at this
def acB : List Int → List B
  | [] => []
  | x :: l => [.blk (ofInts (x :: l)) true]
theorem acB_snoc (L : List Int) (x : Int) : acB (L ++ [x]) = [.blk (ofInts (L ++ [x])) true] := by cases L <;> rfl
theorem lv_snoc (id : Nat) (c : Bool) (L : List Int) (x : Int) : lv id c (L ++ [x]) = .ms 1 (id + 1) (L.length + 1) 0 (L.length + 1) c := by
  cases L with
  | nil => rfl
  | cons y l => simp [lv]
theorem acB_ne {L : List Int} (h : L ≠ []) : acB L = [.blk (ofInts L) true] := by
  cases L with
  | nil => exact absurd rfl h
  | cons y l => rfl
theorem sort_ac {x : B} {c : Bool} {L : List Int} {K : V → List B → Prop} (hl : L.length ≤ 140737488355328) (hk : K (.tup []) (x :: acB (isort L))) : CallP FB md 0 (.fn 98 []) [lv 0 c L] (x :: acB L) K := by
  have h := sort_at (x := x) (H := acB L) (G := []) (id := 0) (c := c) (L := L) (K := K) (fun hn => by rw [acB_ne hn]; rfl) hl (by
    rw [List.append_nil, hp_eq]
    by_cases hn : L = []
    · subst hn; simpa [isort, acB] using hk
    · rw [if_neg hn, acB_ne hn]
      rw [acB_ne (fun h => hn (isort_nil_iff.1 h))] at hk
      exact hk)
  rwa [List.append_nil, hp_eq] at h
theorem sort_ac1 {x : B} {c : Bool} {y : Int} {l : List Int} {K : V → List B → Prop} (hl : (y :: l).length ≤ 140737488355328) (hk : K (.tup []) [x, .blk (ofInts (isort (y :: l))) true]) : CallP FB md 0 (.fn 98 []) [lv 0 c (y :: l)] [x, .blk (ofInts (y :: l)) true] K :=
  sort_ac (L := y :: l) hl (by rw [acB_ne (fun h => by have := isort_nil_iff.1 h; cases this)]; exact hk)
set_option maxRecDepth 100000 in
set_option maxHeartbeats 20000000 in
theorem sorted_walk {ks : List Int} {vs : List V} (hn : ks.length ≤ 1000000) (fc : Fc) (hfc : F 67 = some fc) : wpm FB md 0 fc.body ⟨[.rm (ofInts ks) vs] ++ deads (fc.ntm - fc.np), []⟩ (Leaves fc.res (lw false (isort ks))) := by
  cases hfc
  refine (fV_eq (K := fun tm => wpm FB md 0 _ ⟨tm, []⟩ _)).1 ?_
  repeat' (first
 | (conv => whnf)
   first
   | refine Get.mk _ rfl ?_)
  refine LoopP.by (fun seen : List Nat => seen.Nodup ∧ ∀ s ∈ seen, s < ks.length) (fun seen => [(2, lv 0 false (sKeys ks seen))]) (fun seen => .ir (ofInts ks) vs seen :: acB (sKeys ks seen)) (fun seen => ks.length - seen.length) [] ⟨.nil, by simp⟩ rfl ?_
  rintro seen ⟨h1, h2⟩
  dsimp only
  have hkl : (ofInts ks).length = ks.length := by simp [ofInts]
  have hle : seen.length ≤ ks.length := nodup_le h1 h2
  have hsl : (sKeys ks seen).length = seen.length := by simp [sKeys]
  have hperm := sKeys_perm h1 h2
  have hnx : ∀ s, s < ks.length → s ∉ seen → ((seen ++ [s]).Nodup ∧ ∀ t ∈ seen ++ [s], t < ks.length) ∧ ks.length - (seen ++ [s]).length < ks.length - seen.length := fun s hs hn => by
    have hd : (seen ++ [s]).Nodup := by
      rw [List.nodup_append]
      exact ⟨h1, by simp, fun x hx y hy => by rw [List.mem_singleton] at hy; subst hy; rintro rfl; exact hn hx⟩
    have hb : ∀ t ∈ seen ++ [s], t < ks.length := fun t ht => by
      rcases List.mem_append.1 ht with ht | ht
      · exact h2 t ht
      · rw [List.mem_singleton] at ht; subst ht; exact hs
    have := nodup_le hd hb
    refine ⟨⟨hd, hb⟩, ?_⟩
    rw [List.length_append] at this ⊢
    simp at this ⊢; omega
  cases hL : sKeys ks seen with
  | nil =>
    repeat' (first
 | (conv => whnf)
   first
   | refine Get.mk _ rfl ?_)
    refine NextR.mk (fun hall => ?_) (fun s hs hn => ?_)
    · have e := isort_congr (hperm fun s hs => hall s (by rw [hkl]; exact hs))
      rw [hL] at e
      rw [← e]
      repeat' (first
 | (conv => whnf)
   first
   | refine Br.f ?_
   | (refine sort_ac (c := false) (L := []) ?_ ?_; (focus simp))
   | refine Get.mk _ rfl ?_
   | refine Leaves.of ?_
   | refine Vw.nil)
    · rw [hkl] at hs
      have hc := cur1_of (vs := vs) (seen := seen) hs
      repeat' (first
 | (conv => whnf)
   first
   | refine Br.t ?_
   | refine Get.mk _ hc ?_
   | (refine Ifz.pos ?_ ?_; (focus omega))
   | refine Get.mk _ rfl ?_
   | (refine Req.mk ?_ ?_; (focus first | rfl | decide | exact ⟨rfl, rfl⟩ | exact ⟨rfl, by decide⟩ | exact (fun _ => rfl) | exact (fun h => nomatch h) | (simp; done) | omega | (simp [big]; done) | exact le_big (by omega) | exact lt_big (by omega))))
      refine NextP.mk (seen ++ [s]) (hnx s hs hn).1 (hnx s hs hn).2 ?_
      rw [sKeys_snoc, hL]
      rfl
  | cons x r =>
    rw [hL] at hsl
    simp only [List.length_cons] at hsl
    repeat' (first
 | (conv => whnf)
   first
   | refine Get.mk _ rfl ?_)
    refine NextR.mk (fun hall => ?_) (fun s hs hn => ?_)
    · have e := isort_congr (hperm fun s hs => hall s (by rw [hkl]; exact hs))
      rw [hL] at e
      rw [← e]
      have hvw : Vw [B.ir (ofInts ks) vs seen, .blk (ofInts (isort (x :: r))) true] depth (.ms 1 (0 + 1) (r.length + 1) 0 (r.length + 1) false) (lw false (isort (x :: r))) := ⟨by have := view_lv (h := [B.ir (ofInts ks) vs seen, .blk (ofInts (isort (x :: r))) true]) (d := 62) (id := 0) (c := false) (L := isort (x :: r)) (fun _ => rfl); rwa [lv_len (isort_len _)] at this⟩
      repeat' (first
 | (conv => whnf)
   first
   | refine Br.f ?_
   | (refine sort_ac1 ?_ ?_; (focus simp only [List.length_cons]; omega))
   | exact hvw
   | refine Get.mk _ rfl ?_
   | refine Leaves.of ?_)
    · rw [hkl] at hs
      have hc := cur1_of (vs := vs) (seen := seen) hs
      have hol : (ofInts (x :: r)).length = r.length + 1 := by simp [ofInts]
      repeat' (first
 | (conv => whnf)
   first
   | refine Br.t ?_
   | refine Get.mk _ hc ?_
   | refine Req.mk hol ?_
   | refine Req.mk ⟨by omega, by rw [hol]; exact lt_big (by simp; omega)⟩ ?_
   | (refine Ifz.pos ?_ ?_; (focus omega))
   | refine Get.mk _ rfl ?_
   | (refine Req.mk ?_ ?_; (focus first | rfl | decide | exact ⟨rfl, rfl⟩ | exact ⟨rfl, by decide⟩ | exact (fun _ => rfl) | exact (fun h => nomatch h) | (simp; done) | omega | (simp [big]; done) | exact le_big (by omega) | exact lt_big (by omega))))
      refine NextP.mk (seen ++ [s]) (hnx s hs hn).1 (hnx s hs hn).2 ?_
      have e1 : ofInts (x :: r) ++ [V.int .i64 (kAt ks s)] = ofInts (x :: (r ++ [kAt ks s])) := by simp [ofInts]
      have e2 : (r ++ [kAt ks s]).length = r.length + 1 := by simp
      rw [sKeys_snoc, hL, List.cons_append]
      rw [e1]
      simp only [lv, e2, acB]
      rfl
end Go.Dr.T
