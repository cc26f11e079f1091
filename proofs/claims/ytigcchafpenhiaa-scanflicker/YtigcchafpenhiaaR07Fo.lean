/- Chapter 07: the painted frames as an argument of Flicker; what Flicker gives of them. -/
import Derived.Test.YtigcchafpenhiaaR07Fm
namespace Go.Dr.T

section
variable {l : List Fr} {L E : List Int} {W H A D nx ny : Nat}
abbrev pF_ (l : List Fr) (L E : List Int) (W H A D nx ny n : Nat) : List Fr := ((List.range (n + 1)).map (qq l L E W A D nx ny)).map fun x => ((W : Int), (H : Int), x)
theorem pF_length (n : Nat) : (pF_ l L E W H A D nx ny n).length = n + 1 := by simp
theorem pF_get {n k : Nat} (h : k < (pF_ l L E W H A D nx ny n).length) : (pF_ l L E W H A D nx ny n)[k] = ((W : Int), (H : Int), qq l L E W A D nx ny k) := by simp
theorem part_tail : ∀ {l : List Fr}, 0 < l.length → part (ofFr l) (1 * 3) ((l.length - 1) * 3) = some (ofFr l.tail)
  | f :: r, _ => by
    simp only [List.length_cons, Nat.add_sub_cancel, List.tail_cons]
    show part (ofFr r) 0 _ = _
    exact part_all (ofFr_length r)
theorem strL_zero {w h : Int} : ∀ {l : List Fr}, (∀ f ∈ l, checkL f.1 f.2.1 f.2.2.length = 0 ∧ f.1 = w ∧ f.2.1 = h) → strL w h l = 0
  | [], _ => rfl
  | f :: l, hf => by
    obtain ⟨h1, h2, h3⟩ := hf f (by simp)
    rw [strL, if_neg (fun hx => hx h1), if_neg (by simp [h2, h3])]
    exact strL_zero (l := l) fun g hg => hf g (List.mem_cons_of_mem _ hg)
theorem checkL_ok (hW1 : 1 ≤ W) (hW2 : W ≤ 48) (hH1 : 1 ≤ H) (hH2 : H ≤ 48) {n : Nat} (hn : n = W * H) : checkL W H n = 0 := by
  subst hn
  unfold checkL
  simp
  omega
theorem pF_strange {n : Nat} (hW1 : 1 ≤ W) (hW2 : W ≤ 48) (hH1 : 1 ≤ H) (hH2 : H ≤ 48) (hn : n + 1 ≤ 24) (hall : ∀ k < n + 1, (frAt l k).length = W * H) : strangeL (pF_ l L E W H A D nx ny n) = 0 := by
  have hf : ∀ f ∈ pF_ l L E W H A D nx ny n, checkL f.1 f.2.1 f.2.2.length = 0 ∧ f.1 = (W : Int) ∧ f.2.1 = (H : Int) := by
    intro f hf
    obtain ⟨k, hk, rfl⟩ := List.mem_iff_getElem.1 hf
    rw [pF_get hk]
    have hk' : k < n + 1 := by simpa using hk
    exact ⟨checkL_ok hW1 hW2 hH1 hH2 (by rw [qq_length]; exact hall k hk'), rfl, rfl⟩
  have hlen := pF_length (l := l) (L := L) (E := E) (W := W) (H := H) (A := A) (D := D) (nx := nx) (ny := ny) n
  generalize pF_ l L E W H A D nx ny n = q at *
  cases q with
  | nil => simp at hlen
  | cons f r =>
    obtain ⟨_, h2, h3⟩ := hf f (by simp)
    have : r.length + 1 = n + 1 := by simpa using hlen
    simp only [strangeL, show ¬ 24 < r.length + 1 by omega, if_false]
    rw [h2, h3]
    exact strL_zero hf
theorem pF_part {n k : Nat} (hk : k < n + 1) : part (ofFr (pF_ l L E W H A D nx ny n)) (k * 3) 3 = some [.int .i64 (W : Nat), .int .i64 (H : Nat), .sl false (qq l L E W A D nx ny k).length (ofBytes (qq l L E W A D nx ny k))] := by
  have h : k < (pF_ l L E W H A D nx ny n).length := by simpa using hk
  rw [ofFr_part h, pF_get h]
theorem pF_tail_part {n k : Nat} (hk : k < n) : part (ofFr (pF_ l L E W H A D nx ny n).tail) (k * 3) 3 = some [.int .i64 (W : Nat), .int .i64 (H : Nat), .sl false (qq l L E W A D nx ny (k + 1)).length (ofBytes (qq l L E W A D nx ny (k + 1)))] := by
  have h : k + 1 < (pF_ l L E W H A D nx ny n).length := by simpa using hk
  have h2 : k < (pF_ l L E W H A D nx ny n).tail.length := by simpa using hk
  rw [ofFr_part h2, List.getElem_tail, pF_get h]

theorem pix_q {i a b : Nat} (hl : (frAt l i).length = W * H) (hx : A + nx ≤ W) (hd : D + ny ≤ H) (hE : 1 ≤ eX E i ∧ eX E i ≤ 100000) (ha : a < nx) (hb : b < ny) : pixV W H (qq l L E W A D nx ny i) ((A + a : Nat) : Int) ((D + b : Nat) : Int) = lvL (cl9 (at9 L ((b * nx + a) % L.length))) (eX E i) := by
  unfold qq
  rw [pnt_pix hl hx hd ha hb, gF, gE_eq hE]
theorem flick_in {n k : Nat} (hE : ∀ x ∈ E, 0 ≤ x ∧ x ≤ 65535) (h4 : 0 < E.length) (hall : ∀ k < n + 1, (frAt l k).length = W * H) (hx : A + nx ≤ W) (hd : D + ny ≤ H) (hk : k < n) :
    (resF W H (qq l L E W A D nx ny 0) (fun k => qq l L E W A D nx ny (k + 1)) A D nx ny k).1 ≤ eX E (k + 1) ∧ eX E (k + 1) ≤ (resF W H (qq l L E W A D nx ny 0) (fun k => qq l L E W A D nx ny (k + 1)) A D nx ny k).2 ∧ wrF W H (qq l L E W A D nx ny 0) (fun k => qq l L E W A D nx ny (k + 1)) A D nx ny k = false := by
  refine res_in (eX_range hE h4 (k + 1)) fun i hi j hj => ?_
  unfold pxs
  rw [pix_q (hall 0 (by omega)) hx hd (eX_range hE h4 0) hi hj, pix_q (hall (k + 1) (by omega)) hx hd (eX_range hE h4 (k + 1)) hi hj]
  exact exp_in (cl9_range _) (eX_range hE h4 (k + 1))
theorem all_bound {n k : Nat} (hE : ∀ x ∈ E, 0 ≤ x ∧ x ≤ 65535) (h4 : 0 < E.length) (hall : ∀ k < n + 1, (frAt l k).length = W * H) (hx : A + nx ≤ W) (hd : D + ny ≤ H)
    (hk : k < (allF W H (qq l L E W A D nx ny 0) (fun k => qq l L E W A D nx ny (k + 1)) A D nx ny n).length) : (allF W H (qq l L E W A D nx ny 0) (fun k => qq l L E W A D nx ny (k + 1)) A D nx ny n)[k].1 ≤ eX E k ∧ eX E k ≤ (allF W H (qq l L E W A D nx ny 0) (fun k => qq l L E W A D nx ny (k + 1)) A D nx ny n)[k].2 := by
  rw [allF_length] at hk
  cases k with
  | zero => simp [allF, eX]
  | succ k =>
    have := flick_in (L := L) hE h4 hall hx hd (show k < n by omega)
    simp only [allF, List.getElem_cons_succ, List.getElem_map, List.getElem_range]
    exact ⟨this.1, this.2.1⟩

theorem flick_call {n : Nat} {a b d e : Int} (hE : ∀ x ∈ E, 0 ≤ x ∧ x ≤ 65535) (h4 : 0 < E.length) (hW1 : 1 ≤ W) (hW2 : W ≤ 48) (hH1 : 1 ≤ H) (hH2 : H ≤ 48) (hn : n + 1 ≤ 24) (hn0 : 0 < n) (hall : ∀ k < n + 1, (frAt l k).length = W * H)
    (hA : max 0 a = (A : Int)) (hD : max 0 d = (D : Int)) (hnx : (nx : Int) = max 0 (min ((W : Int) - 1) b + 1 - A)) (hny : (ny : Int) = max 0 (min ((H : Int) - 1) e + 1 - D)) (ho : outA W H a b d e = false) :
    ∃ al : List (Int × Int), al.length = n + 1 ∧ (∀ k (h : k < al.length), al[k].1 ≤ eX E k ∧ eX E k ≤ al[k].2) ∧ FunF F md 39 [.sl false (n + 1) (ofFr (pF_ l L E W H A D nx ny n)), ptV a b d e] (.tup [.sl false (n + 1) (ofSh al), .sl true 0 [], .int .i64 0]) := by
  have ho' : 0 ≤ a ∧ a ≤ b ∧ b < W ∧ 0 ≤ d ∧ d ≤ e ∧ e < H := by
    unfold outA at ho
    simp only [Bool.not_eq_false', Bool.and_eq_true, decide_eq_true_eq] at ho
    obtain ⟨⟨⟨⟨⟨q1, q2⟩, q3⟩, q4⟩, q5⟩, q6⟩ := ho
    exact ⟨q1, q2, q3, q4, q5, q6⟩
  obtain ⟨q1, q2, q3, q4, q5, q6⟩ := ho'
  obtain rfl : a = (A : Int) := by omega
  obtain rfl : d = (D : Int) := by omega
  obtain ⟨b, rfl⟩ := Int.eq_ofNat_of_zero_le (show 0 ≤ b by omega)
  obtain ⟨e, rfl⟩ := Int.eq_ofNat_of_zero_le (show 0 ≤ e by omega)
  have hx : A + nx ≤ W := by omega
  have hd : D + ny ≤ H := by omega
  refine ⟨_, allF_length n, fun k h => all_bound (L := L) hE h4 hall hx hd h, ?_⟩
  have := flicker_fresh (c0 := false) (l := pF_ l L E W H A D nx ny n) (r := (pF_ l L E W H A D nx ny n).tail) (b0 := qq l L E W A D nx ny 0) (rb := fun k => qq l L E W A D nx ny (k + 1)) (n := n) (nx := nx) (ny := ny) (a := A) (b := b) (d := D) (e := e) hW1 hW2 hH1 hH2 (pF_strange hW1 hW2 hH1 hH2 hn hall) (pF_length n) (by omega) (by simp)
    (pF_part (by omega)) (part_tail (by simp)) (fun k hk => pF_tail_part hk) (by rw [qq_length]; exact hall 0 (by omega)) (fun k hk => by rw [qq_length]; exact hall (k + 1) (by omega)) (by omega) (by omega) (by omega) (by omega) (by omega) (by omega) hn0 (fun k hk => (flick_in (L := L) hE h4 hall hx hd hk).2.2)
  rw [pF_length, allF_length] at this
  exact this
theorem flick_callO {n : Nat} {a b d e : Int} (hW1 : 1 ≤ W) (hW2 : W ≤ 48) (hH1 : 1 ≤ H) (hH2 : H ≤ 48) (hn : n + 1 ≤ 24) (hall : ∀ k < n + 1, (frAt l k).length = W * H) (ho : outA W H a b d e = true) :
    FunF F md 39 [.sl false (n + 1) (ofFr (pF_ l L E W H A D nx ny n)), ptV a b d e] (flV true true [] [] 2) := by
  have := flicker_outF (c := false) (l := pF_ l L E W H A D nx ny n) hW2 hH2 (pF_strange hW1 hW2 hH1 hH2 hn hall) (by simp) (pF_part (by omega)) ho
  rw [pF_length] at this
  exact this

theorem view_m {h : List B} {ids : List Nat} {n : Nat} {a b d e : Int} (h5 : bget h 5 = some (.blk (mC W H ids) false)) (hl : ids.length = n + 1) (hq : ∀ k (hk : k < ids.length), bget h ids[k] = some (.blk (ofBytes (qq l L E W A D nx ny k)) true)) (hall : ∀ k < n + 1, (frAt l k).length = W * H) :
    Vw h 64 (.ms 3 5 (3 * (n + 1)) 0 (n + 1) false) (.sl false (n + 1) (ofFr (pF_ l L E W H A D nx ny n))) := by
  have hm : (mC W H ids).length = 3 * (n + 1) := by rw [mC_length, hl]; omega
  refine Vw.ms h5 hm (part_all (by rw [hm]; omega)) ?_
  refine mC_view (d := 60) (by simp [hl]) fun k h1 h2 => ?_
  have hk : k < n + 1 := by omega
  simp only [List.getElem_map, List.getElem_range]
  exact ⟨hq k h1, by rw [qq_length]; exact hall k hk⟩
theorem views_m {h : List B} {ids : List Nat} {n : Nat} {a b d e : Int} (h5 : bget h 5 = some (.blk (mC W H ids) false)) (hl : ids.length = n + 1) (hq : ∀ k (hk : k < ids.length), bget h ids[k] = some (.blk (ofBytes (qq l L E W A D nx ny k)) true)) (hall : ∀ k < n + 1, (frAt l k).length = W * H) :
    views h depth ([.ms 3 5 (3 * (n + 1)) 0 (n + 1) false, ptV a b d e] ++ []) = some [.sl false (n + 1) (ofFr (pF_ l L E W H A D nx ny n)), ptV a b d e] :=
  (VwL.cons (view_m (a := a) (b := b) (d := d) (e := e) h5 hl hq hall) (VwL.cons (Vw.agg (VwL.cons (Vw.int rfl) (VwL.cons (Vw.int rfl) (VwL.cons (Vw.int rfl) (VwL.cons (Vw.int rfl) VwL.nil))))) VwL.nil) : VwL h 64 _ _).1
end

end Go.Dr.T
