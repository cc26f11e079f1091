/- Chapter 06: lists of elements, and the first error of them. -/
import Derived.Test.YtfhphjloaelgoaaGreatDoorR06Cl
namespace Go.Dr.T
structure El where
  nm : List UInt8
  c : Bool
  l : List (Int × Int)
  g : Int
def El.v (e : El) : List V := [.str e.nm, .sl e.c e.l.length (shC e.l), .int .i64 e.g]
def elC : List El → List V
  | [] => []
  | e :: r => .str e.nm :: .sl e.c e.l.length (shC e.l) :: .int .i64 e.g :: elC r
theorem elC_length : ∀ l, (elC l).length = l.length * 3
  | [] => rfl
  | _ :: l => by simp only [elC, List.length_cons, elC_length l]; omega
def El.e (x : El) : Int := (ckE x.nm x.l x.g).2
def ckd : List El → Int
  | [] => 0
  | x :: l => if x.e ≠ 0 then x.e else ckd l
theorem drop'_eq : ∀ (n : Nat) (c : List V), drop' n c = c.drop n
  | 0, c => by cases c <;> rfl
  | n + 1, [] => rfl
  | n + 1, x :: c => by simpa only [drop', List.drop_succ_cons] using drop'_eq n c
theorem part3 {c : List V} {n : Nat} {x y z : V} {r : List V} (h : c.drop n = x :: y :: z :: r) : part c n 3 = some [x, y, z] := by
  unfold part
  rw [drop'_eq, h]; rfl
theorem elC_drop : ∀ {l : List El} {i : Nat} {p : El}, l[i]? = some p → (elC l).drop (i * 3) = .str p.nm :: .sl p.c p.l.length (shC p.l) :: .int .i64 p.g :: (elC l).drop (i * 3 + 3)
  | x :: l, 0, p, h => by
    simp only [List.getElem?_cons_zero, Option.some.injEq] at h
    subst h; rfl
  | x :: l, i + 1, p, h => by
    have := elC_drop (l := l) (i := i) (p := p) (by simpa using h)
    rw [show (i + 1) * 3 = i * 3 + 1 + 1 + 1 by omega]
    simpa only [elC, List.drop_succ_cons] using this
theorem elC_part {l : List El} {i : Nat} {p : El} (h : l[i]? = some p) : part (elC l) (i * 3) 3 = some [.str p.nm, .sl p.c p.l.length (shC p.l), .int .i64 p.g] := part3 (elC_drop h)
theorem ckd_drop {l : List El} {i : Nat} {p : El} (h : l[i]? = some p) : ckd (l.drop i) = if p.e ≠ 0 then p.e else ckd (l.drop (i + 1)) := by
  obtain ⟨hi, rfl⟩ := List.getElem?_eq_some_iff.1 h
  rw [List.drop_eq_getElem_cons hi]; rfl
abbrev elsV (c : Bool) (l : List El) : V := .sl c l.length (elC l)
set_option maxRecDepth 100000 in
set_option maxHeartbeats 20000000 in
theorem checked_ok {c : Bool} {l : List El} (hl : l.length ≤ 140737488355328) : Fun FB md 89 [elsV c l] (.int .i64 (ckd l)) := by
  refine fun_of rfl rfl ?_
  skip
  refine LoopP.by (fun i : Nat => i ≤ l.length ∧ ckd l = ckd (l.drop i)) (fun i => [(9, .int .i64 (i : Nat))]) (fun _ => []) (fun i => l.length - i) 0 ⟨Nat.zero_le _, rfl⟩ rfl ?_
  rintro i ⟨q1, q2⟩
  dsimp only
  by_cases hi : i < l.length
  rotate_left
  · have hres : ckd l = 0 := by rw [q2, show i = l.length by omega, List.drop_length]; rfl
    repeat' (first
 | (conv => whnf)
   first
   | (refine Br.decF ?_ ?_; (focus first | assumption | omega))
   | refine Get.mk _ rfl ?_
   | refine Leaves.of ?_
   | refine Vw.int ?_)
    exact hres.symm
  obtain ⟨p, hp⟩ : ∃ p, l[i]? = some p := ⟨_, List.getElem?_eq_getElem hi⟩
  have hpart := elC_part hp
  have hq := ckd_drop hp
  have hc := check_ok (nm := p.nm) (c := p.c) (l := p.l) (g := p.g)
  by_cases he : p.e = 0
  · rw [if_neg (by simp [he])] at hq
    rw [show (ckE p.nm p.l p.g).2 = 0 from he] at hc
    repeat' (first
 | (conv => whnf)
   first
   | refine Br.f ?_
   | (refine Br.decT ?_ ?_; (focus first | assumption | omega))
   | (refine Bnd.i64 ?_ ?_ ?_; (focus omega); (focus omega))
   | refine Get.mk _ hpart ?_
   | refine call_fun rfl rfl hc (.inl rfl) ?_
   | (refine Idx.nat ?_ ?_; (focus omega))
   | refine Get.mk _ rfl ?_
   | (refine Req.mk ?_ ?_; (focus first | rfl | decide | exact ⟨rfl, rfl⟩ | exact ⟨rfl, by decide⟩ | exact (fun _ => rfl) | exact (fun h => nomatch h) | (simp; done) | omega | (simp [big]; done) | exact le_big (by omega) | exact lt_big (by omega))))
    exact NextP.mk (i + 1) ⟨hi, by rw [q2, hq]⟩ (by omega) rfl
  · rw [if_pos he] at hq
    have he' : (ckE p.nm p.l p.g).2 ≠ 0 := he
    repeat' (first
 | (conv => whnf)
   first
   | (refine Br.decT ?_ ?_; (focus first | assumption | omega))
   | (refine Br.decF ?_ ?_; (focus first | assumption | omega))
   | refine Br.not ?_
   | refine Get.mk _ hpart ?_
   | refine call_fun rfl rfl hc (.inl rfl) ?_
   | (refine Idx.nat ?_ ?_; (focus omega))
   | refine Get.mk _ rfl ?_
   | refine Leaves.of ?_
   | refine Vw.int ?_
   | (refine Req.mk ?_ ?_; (focus first | rfl | decide | exact ⟨rfl, rfl⟩ | exact ⟨rfl, by decide⟩ | exact (fun _ => rfl) | exact (fun h => nomatch h) | (simp; done) | omega | (simp [big]; done) | exact le_big (by omega) | exact lt_big (by omega))))
    exact (q2.trans hq).symm
end Go.Dr.T
