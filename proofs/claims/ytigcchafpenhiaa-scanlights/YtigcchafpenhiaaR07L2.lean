/- Chapter 07: the law ScanLights. -/
import Derived.Test.YtigcchafpenhiaaR07Ll
import Derived.Test.YtigcchafpenhiaaR07Lj
import Derived.Test.YtigcchafpenhiaaR07Awk
import Derived.Test.YtigcchafpenhiaaR07Wr
namespace Go.Dr.T

set_option maxRecDepth 100000 in
set_option maxHeartbeats 20000000 in
theorem even_bad {w h : Int} {c : Bool} {l : List UInt8} (hck : ¬ checkL w h l.length = 0) (e : Int) :
    Fun F md 31 [frV w h c l, .int .i64 e] (.tup [frV 0 0 true [], .int .i64 (checkL w h l.length)]) := by
  refine fun_of c31_eq rfl ?_
  repeat' (first
      | refine Br.t ?_
      | refine Br.f ?_
      | refine Br.decT (by first | assumption | omega) ?_
      | refine Br.decF (by first | assumption | omega) ?_
      | refine Br.dec (fun _ => ?_) (fun _ => ?_)
      | refine Br.not ?_
      | refine Br.and ?_
      | refine Br.or ?_
      | refine Bnd.i64 (by omega) (by omega) ?_
      | refine call_fun rfl rfl (out_any _ _ _) (.inl rfl) ?_
      | refine call_fun rfl rfl (check_any _ _ _ _) (.inl rfl) ?_
      | refine Req.mk (by first | rfl | decide | exact ⟨rfl, rfl⟩ | exact ⟨rfl, by decide⟩ | exact (fun _ => rfl) | exact (fun h => nomatch h) | (simp; done) | omega | (simp [big]; done) | exact le_big (by omega) | exact lt_big (by omega)) ?_
      | refine Idx.nat (by omega) ?_
      | refine Idx.nat (le_big (by omega)) ?_
      | refine Idx.int (by omega) (by omega) ?_
      | refine Ifz.zero ?_
      | refine Ifz.pos (by omega) ?_
      | refine Get.mk _ rfl ?_
      | refine Leaves.of ?_
      | refine Ends.of ?_
      | refine Vw.bool ?_
      | refine Vw.int ?_
      | refine Vw.nil
      | refine Vw.sl
      | refine Vw.tup ?_
      | refine Vw.agg ?_
      | refine VwL.cons ?_ ?_
      | refine VwL.nil)
  all_goals rfl
set_option maxRecDepth 100000 in
set_option maxHeartbeats 20000000 in
theorem evenR_bad {w h : Int} {c : Bool} {l : List UInt8} (hck : ¬ checkL w h l.length = 0) (e : Int) :
    Fun F md 32 [frV w h c l, .int .i64 e] (.tup [frV 0 0 true [], .int .i64 (checkL w h l.length)]) := by
  refine fun_of rfl rfl ?_
  repeat' (first
      | refine Br.t ?_
      | refine Br.f ?_
      | refine Br.decT (by first | assumption | omega) ?_
      | refine Br.decF (by first | assumption | omega) ?_
      | refine Br.dec (fun _ => ?_) (fun _ => ?_)
      | refine Br.not ?_
      | refine Br.and ?_
      | refine Br.or ?_
      | refine Bnd.i64 (by omega) (by omega) ?_
      | refine call_fun rfl rfl (in_any _ _ _) (.inl rfl) ?_
      | refine call_fun rfl rfl (checkR_any _ _ _ _) (.inl rfl) ?_
      | refine Req.mk (by first | rfl | decide | exact ⟨rfl, rfl⟩ | exact ⟨rfl, by decide⟩ | exact (fun _ => rfl) | exact (fun h => nomatch h) | (simp; done) | omega | (simp [big]; done) | exact le_big (by omega) | exact lt_big (by omega)) ?_
      | refine Idx.nat (by omega) ?_
      | refine Idx.nat (le_big (by omega)) ?_
      | refine Idx.int (by omega) (by omega) ?_
      | refine Ifz.zero ?_
      | refine Ifz.pos (by omega) ?_
      | refine Get.mk _ rfl ?_
      | refine Leaves.of ?_
      | refine Ends.of ?_
      | refine Vw.bool ?_
      | refine Vw.int ?_
      | refine Vw.nil
      | refine Vw.sl
      | refine Vw.tup ?_
      | refine Vw.agg ?_
      | refine VwL.cons ?_ ?_
      | refine VwL.nil)
  all_goals rfl
set_option maxRecDepth 100000 in
set_option maxHeartbeats 20000000 in
theorem even_far {w h : Int} {c : Bool} {l : List UInt8} (hck : checkL w h l.length = 0) {e : Int} (he : ¬ (1 ≤ e ∧ e ≤ 100000)) :
    Fun F md 31 [frV w h c l, .int .i64 e] (.tup [frV 0 0 true [], .int .i64 7]) := by
  refine fun_of c31_eq rfl ?_
  repeat' (first
      | refine Br.t ?_
      | refine Br.f ?_
      | refine Br.decT (by first | assumption | omega) ?_
      | refine Br.decF (by first | assumption | omega) ?_
      | refine Br.dec (fun _ => ?_) (fun _ => ?_)
      | refine Br.not ?_
      | refine Br.and ?_
      | refine Br.or ?_
      | refine Bnd.i64 (by omega) (by omega) ?_
      | refine call_fun rfl rfl (out_any _ _ _) (.inl rfl) ?_
      | refine call_fun rfl rfl (check_any _ _ _ _) (.inl rfl) ?_
      | refine Req.mk (by first | rfl | decide | exact ⟨rfl, rfl⟩ | exact ⟨rfl, by decide⟩ | exact (fun _ => rfl) | exact (fun h => nomatch h) | (simp; done) | omega | (simp [big]; done) | exact le_big (by omega) | exact lt_big (by omega)) ?_
      | refine Idx.nat (by omega) ?_
      | refine Idx.nat (le_big (by omega)) ?_
      | refine Idx.int (by omega) (by omega) ?_
      | refine Ifz.zero ?_
      | refine Ifz.pos (by omega) ?_
      | refine Get.mk _ rfl ?_
      | refine Leaves.of ?_
      | refine Ends.of ?_
      | refine Vw.bool ?_
      | refine Vw.int ?_
      | refine Vw.nil
      | refine Vw.sl
      | refine Vw.tup ?_
      | refine Vw.agg ?_
      | refine VwL.cons ?_ ?_
      | refine VwL.nil)
  all_goals first | rfl | omega
set_option maxRecDepth 100000 in
set_option maxHeartbeats 20000000 in
theorem evenR_far {w h : Int} {c : Bool} {l : List UInt8} (hck : checkL w h l.length = 0) {e : Int} (he : ¬ (1 ≤ e ∧ e ≤ 100000)) :
    Fun F md 32 [frV w h c l, .int .i64 e] (.tup [frV 0 0 true [], .int .i64 7]) := by
  refine fun_of rfl rfl ?_
  repeat' (first
      | refine Br.t ?_
      | refine Br.f ?_
      | refine Br.decT (by first | assumption | omega) ?_
      | refine Br.decF (by first | assumption | omega) ?_
      | refine Br.dec (fun _ => ?_) (fun _ => ?_)
      | refine Br.not ?_
      | refine Br.and ?_
      | refine Br.or ?_
      | refine Bnd.i64 (by omega) (by omega) ?_
      | refine call_fun rfl rfl (in_any _ _ _) (.inl rfl) ?_
      | refine call_fun rfl rfl (checkR_any _ _ _ _) (.inl rfl) ?_
      | refine Req.mk (by first | rfl | decide | exact ⟨rfl, rfl⟩ | exact ⟨rfl, by decide⟩ | exact (fun _ => rfl) | exact (fun h => nomatch h) | (simp; done) | omega | (simp [big]; done) | exact le_big (by omega) | exact lt_big (by omega)) ?_
      | refine Idx.nat (by omega) ?_
      | refine Idx.nat (le_big (by omega)) ?_
      | refine Idx.int (by omega) (by omega) ?_
      | refine Ifz.zero ?_
      | refine Ifz.pos (by omega) ?_
      | refine Get.mk _ rfl ?_
      | refine Leaves.of ?_
      | refine Ends.of ?_
      | refine Vw.bool ?_
      | refine Vw.int ?_
      | refine Vw.nil
      | refine Vw.sl
      | refine Vw.tup ?_
      | refine Vw.agg ?_
      | refine VwL.cons ?_ ?_
      | refine VwL.nil)
  all_goals first | rfl | omega

theorem checkL_zero' {w h : Int} {n : Nat} (hc : checkL w h n = 0) : ∃ W H : Nat, w = W ∧ h = H ∧ 1 ≤ W ∧ W ≤ 48 ∧ 1 ≤ H ∧ H ≤ 48 ∧ n = W * H := by
  unfold checkL at hc
  split at hc
  · omega
  · rename_i hb
    split at hc
    · rename_i he
      obtain ⟨W, rfl⟩ := Int.eq_ofNat_of_zero_le (show 0 ≤ w by omega)
      obtain ⟨H, rfl⟩ := Int.eq_ofNat_of_zero_le (show 0 ≤ h by omega)
      refine ⟨W, H, rfl, rfl, by omega, by omega, by omega, by omega, ?_⟩
      have : ((n : Nat) : Int) = ((W * H : Nat) : Int) := by rw [he]; push_cast; rfl
      exact Int.ofNat.inj this
    · omega

theorem evens_any (w h : Int) (c : Bool) (l : List UInt8) (e : Int) : ∃ w' h' c' l' k,
    Fun F md 31 [frV w h c l, .int .i64 e] (.tup [frV w' h' c' l', .int .i64 k]) ∧ Fun F md 32 [frV w h c l, .int .i64 e] (.tup [frV w' h' c' l', .int .i64 k]) := by
  by_cases hck : checkL w h l.length = 0
  · by_cases he : 1 ≤ e ∧ e ≤ 100000
    · obtain ⟨W, H, rfl, rfl, h1, h2, h3, h4, hl⟩ := checkL_zero' hck
      exact ⟨_, _, _, _, _, even_ok h1 h2 h3 h4 hl he, evenR_ok h1 h2 h3 h4 hl he⟩
    · exact ⟨_, _, _, _, _, even_far hck he, evenR_far hck he⟩
  · exact ⟨_, _, _, _, _, even_bad hck _, evenR_bad hck _⟩

set_option maxRecDepth 100000 in
set_option maxHeartbeats 20000000 in
theorem law_lights (c : Bool) (s : List (Int × Int)) (w h : Int) (c1 : Bool) (l : List UInt8) (x : Int) :
    Fun F md 8 [shs c s, frV w h c1 l, .int .i64 x] (.bool true) := by
  obtain ⟨a, b, k, e, hm1, hm2⟩ := lights_both c s
  obtain ⟨w', h', c', l', k', he1, he2⟩ := evens_any w h c1 l x
  refine fun_of rfl rfl ?_
  repeat' (first
      | refine Br.t ?_
      | refine Br.f ?_
      | refine Br.decT (by first | assumption | omega) ?_
      | refine Br.decF (by first | assumption | omega) ?_
      | refine Br.dec (fun _ => ?_) (fun _ => ?_)
      | refine Br.not ?_
      | refine Br.and ?_
      | refine Br.or ?_
      | refine Bnd.i64 (by omega) (by omega) ?_
      | refine Br.yes (beq_self_eq_true _) ?_
      | refine call_fun rfl rfl hm1 (.inl rfl) ?_
      | refine call_fun rfl rfl hm2 (.inl rfl) ?_
      | refine call_fun rfl rfl he1 (.inl rfl) ?_
      | refine call_fun rfl rfl he2 (.inl rfl) ?_
      | refine call_fun rfl rfl (sameR_any _ _ _ _ _ _ _ _) (.inl rfl) ?_
      | refine call_fun rfl rfl awake (.inl rfl) ?_
      | refine Req.mk (by first | rfl | decide | exact ⟨rfl, rfl⟩ | exact ⟨rfl, by decide⟩ | exact (fun _ => rfl) | exact (fun h => nomatch h) | (simp; done) | omega | (simp [big]; done) | exact le_big (by omega) | exact lt_big (by omega)) ?_
      | refine Idx.nat (by omega) ?_
      | refine Idx.nat (le_big (by omega)) ?_
      | refine Idx.int (by omega) (by omega) ?_
      | refine Ifz.zero ?_
      | refine Ifz.pos (by omega) ?_
      | refine Get.mk _ rfl ?_
      | refine Leaves.of ?_
      | refine Ends.of ?_
      | refine Vw.bool ?_
      | refine Vw.int ?_
      | refine Vw.nil
      | refine Vw.sl
      | refine Vw.tup ?_
      | refine Vw.agg ?_
      | refine VwL.cons ?_ ?_
      | refine VwL.nil)
  all_goals first | rfl | omega | exact absurd rfl (by assumption)

/-! arguments as shots -/
theorem shots_cells : ∀ {xs : List (List V)}, (∀ x ∈ xs, x.length = 2 ∧ (Ty.agg [.int .i64, .int .i64]).has x) → ∃ l : List (Int × Int), xs.flatten = ofSh l ∧ xs.length = l.length
  | [], _ => ⟨[], rfl, rfl⟩
  | x :: xs, h => by
    obtain ⟨l, h1, h2⟩ := shots_cells (xs := xs) fun y hy => h y (by simp [hy])
    obtain ⟨_, hx⟩ := h x (by simp)
    simp only [Ty.has, Ty.hasAll] at hx
    obtain ⟨_, _, rfl, ⟨a, rfl, _⟩, _, _, rfl, ⟨b, rfl, _⟩, rfl⟩ := hx
    exact ⟨(a, b) :: l, by simp only [List.flatten_cons, h1]; rfl, by simp [h2]⟩
abbrev TySs : Ty := .slice 2 (.agg [.int .i64, .int .i64])
theorem shots_val {v : V} (h : TySs.val v) : ∃ l, v = shs false l := by
  simp only [Ty.val, Ty.has] at h
  obtain ⟨xs, e, hx⟩ := h
  obtain ⟨l, h1, h2⟩ := shots_cells (xs := xs) (fun x hx' => by
    obtain ⟨q1, q2⟩ := hx x hx'
    exact ⟨q1, by simp only [Ty.has]; exact q2⟩)
  simp only [List.cons.injEq, and_true] at e
  exact ⟨l, by rw [e, h1, h2]⟩
theorem int_val {v : V} (h : (Ty.int .i64).val v) : ∃ n, v = .int .i64 n := by
  simp only [Ty.val, Ty.has] at h
  obtain ⟨n, e, _⟩ := h
  simp only [List.cons.injEq, and_true] at e
  exact ⟨n, e⟩

end Go.Dr.T
