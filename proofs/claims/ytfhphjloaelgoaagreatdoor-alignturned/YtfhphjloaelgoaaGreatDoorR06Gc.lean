/- Chapter 06: gather, walked. -/
import Derived.Test.YtfhphjloaelgoaaGreatDoorR06Gb
namespace Go.Dr.T
structure PE where
  k : Int
  c : Bool
  L : List Int
def Ent.p (e : Ent) : PE := ⟨e.k, e.c, e.L⟩
def pUp (F : List PE) (a m : Int) : List PE := F.map fun e => if e.k = a ∧ m ∉ e.L then ⟨e.k, false, e.L ++ [m]⟩ else e
def pCl (F : List PE) (m : Int) : List PE := if m ∈ F.map (·.k) then F.map fun e => if e.k = m then ⟨e.k, true, e.L⟩ else e else F ++ [⟨m, true, []⟩]
def pStep (s : List PE × Int) (p : Int × Int) : List PE × Int := if p.1 = 0 then s else (pCl (if 0 < s.2 then pUp s.1 s.2 p.1 else s.1) p.1, p.1)
def pEl (F : List PE) (x : El) : List PE := (x.l.foldl pStep (F, 0)).1
def pAll (l : List El) : List PE := l.foldl pEl []
def lw (c : Bool) : List Int → V
  | [] => .sl true 0 []
  | x :: r => .sl c (r.length + 1) (ofInts (x :: r))
def PE.v (e : PE) : V := lw e.c (isort e.L)
def gatV (F : List PE) : V := .rm (ofInts (F.map (·.k))) (F.map PE.v)
def dupF (pre : List El) : List El → Bool
  | [] => false
  | x :: r => nmE x.nm pre || dupF (pre ++ [x]) r
def vldE (l : List El) : Int := if 8 < l.length then 3 else if ckd l ≠ 0 then ckd l else if dupF [] l then 5 else 0
def gatherV (l : List El) : V := if vldE l ≠ 0 then .tup [.nilmap, .int .i64 (vldE l)] else .tup [gatV (pAll l), .int .i64 0]
theorem clip_ok {id : Nat} {c : Bool} {L : List Int} {h : List B} {ro : Nat} {K : V → List B → Prop} (hb : L ≠ [] → id + 1 < h.length) (hl : L.length ≤ 140737488355328) (hk : K (lv id true L) h) : CallP FB md ro (.fn 97 []) [lv id c L] h K := by
  cases L with
  | nil =>
    refine call_two rfl rfl rfl ?_
    repeat' (first
 | (conv => whnf)
   first
   | refine fLen.mk ?_
   | refine fB.mk ?_
   | (refine Idx.int ?_ ?_ ?_; (focus omega); (focus omega))
   | refine Get.mk _ rfl ?_
   | refine Ends.of ?_
   | (refine Req.mk ?_ ?_; (focus first | rfl | decide | exact ⟨rfl, rfl⟩ | exact ⟨rfl, by decide⟩ | exact (fun _ => rfl) | exact (fun h => nomatch h) | (simp; done) | omega | (simp [big]; done) | exact le_big (by omega) | exact lt_big (by omega))))
    exact hk
  | cons x r =>
    simp only [List.length_cons] at hl
    have hlt := hb (by simp)
    refine call_two rfl rfl rfl ?_
    have e1 : r.length + 1 - 0 = r.length + 1 := rfl
    repeat' (first
 | (conv => whnf)
   first
   | refine fLen.mk ?_
   | refine fB.mk ?_
   | refine Req.mk (decide_eq_true hlt) ?_
   | (refine Idx.nat ?_ ?_; (focus omega))
   | refine Get.mk _ rfl ?_
   | refine Ends.of ?_)
    simpa [lv] using hk
theorem views_ints {h : List B} {d : Nat} : ∀ l : List Int, mapO (V.view h (d + 1)) (ofInts l) = some (ofInts l)
  | [] => rfl
  | x :: l => by
    have := views_ints (h := h) (d := d) l
    simp only [ofInts, List.map_cons, mapO, V.view] at this ⊢
    rw [this]
theorem view_lv {h : List B} {d id : Nat} {c : Bool} {L : List Int} (hb : L ≠ [] → bget h (id + 1) = some (.blk (ofInts L) true)) : V.view h (d + 2) (lv id c L) = some (lw c L) := by
  cases L with
  | nil => rfl
  | cons x r =>
    have := hb (by simp)
    have hl : (ofInts (x :: r)).length = r.length + 1 := by simp [ofInts]
    have hp : part (ofInts (x :: r)) 0 ((r.length + 1) * 1) = some (ofInts (x :: r)) := part_all (by rw [hl, Nat.mul_one])
    exact (Vw.ms (clip := c) this hl hp ⟨views_ints _⟩).1
theorem views_lv {x : B} {H G : List B} {id : Nat} {c : Bool} {L : List Int} {m : Int} (hb : L ≠ [] → bget H id = some (.blk (ofInts L) true)) : views (hp x H ++ G) depth [lv id c L, .int .i64 m] = some [lw c L, .int .i64 m] := by
  have := view_lv (h := hp x H ++ G) (d := 62) (id := id) (c := c) (L := L) (fun hn => HP.bget_o (hb hn))
  exact (VwL.cons ⟨this⟩ (VwL.cons (Vw.int rfl) VwL.nil)).1
theorem clip_at {x : B} {H G : List B} {id : Nat} {c : Bool} {L : List Int} {ro : Nat} {K : V → List B → Prop} (hb : L ≠ [] → id < H.length) (hl : L.length ≤ 140737488355328) (hk : K (lv id true L) (hp x H ++ G)) : CallP FB md ro (.fn 97 []) [lv id c L] (hp x H ++ G) K :=
  clip_ok (fun hn => by have := hb hn; rw [List.length_append, hp_length]; omega) hl hk
theorem contains_lw {c : Bool} {L : List Int} {m : Int} (hl : L.length ≤ 140737488355328) : Fun FB md 68 [lw c L, .int .i64 m] (.bool (hasB m L)) := by
  cases L with
  | nil => exact contains_ok (l := []) (by simp)
  | cons x r => exact contains_ok (l := x :: r) hl
theorem ckF_zero : ∀ {l : List (Int × Int)} {k i : Nat}, (ckF l i k).2 = 0 → ∀ n, i ≤ n → n < i + k → eF l n = 0
  | l, 0, i, _, n, h1, h2 => by omega
  | l, k + 1, i, h, n, h1, h2 => by
    unfold ckF at h
    by_cases he : eF l i ≠ 0
    · rw [if_pos he] at h; exact absurd h he
    · rw [if_neg he] at h
      by_cases hn : n = i
      · subst hn; exact Classical.not_not.1 he
      · exact ckF_zero h n (by omega) (by omega)
theorem eF_zero {l : List (Int × Int)} {i : Nat} {p : Int × Int} (hp : l[i]? = some p) (h : eF l i = 0) : 0 ≤ p.1 ∧ p.1 ≤ 999 ∧ 1 ≤ p.2 ∧ p.2 ≤ 200000 ∧ (p.1 ≠ 0 → p.1 ∉ (l.take i).map (·.1)) := by
  unfold eF at h
  rw [hp] at h
  simp only at h
  split at h
  · cases h
  · rename_i h1
    split at h
    · cases h
    · rename_i h2
      simp only [outB, Bool.or_eq_true, decide_eq_true_eq, not_or] at h1
      obtain ⟨⟨a, b⟩, c, d⟩ := h1
      refine ⟨by omega, by omega, by omega, by omega, fun hn hm => h2 ⟨by omega, hm⟩⟩
theorem ck_good {nm : List UInt8} {l : List (Int × Int)} {g : Int} (h : (ckE nm l g).2 = 0) : nmOk nm = true ∧ 0 ≤ g ∧ g ≤ 9 ∧ l.length ≤ 40 ∧ ∀ i p, l[i]? = some p → 0 ≤ p.1 ∧ p.1 ≤ 999 ∧ 1 ≤ p.2 ∧ p.2 ≤ 200000 ∧ (p.1 ≠ 0 → p.1 ∉ (l.take i).map (·.1)) := by
  unfold ckE at h
  split at h
  · cases h
  · rename_i h1
    split at h
    · cases h
    · rename_i h2
      split at h
      · cases h
      · rename_i h3
        simp only [outB, Bool.or_eq_true, decide_eq_true_eq, not_or] at h2
        refine ⟨by simpa using h1, by omega, by omega, by omega, fun i p hp => eF_zero hp (ckF_zero h i (Nat.zero_le _) ?_)⟩
        rw [Nat.zero_add]; exact (List.getElem?_eq_some_iff.1 hp).1
theorem ckd_good {l : List El} (h : ckd l = 0) : ∀ x ∈ l, x.e = 0 := by
  induction l with
  | nil => simp
  | cons a l ih =>
    unfold ckd at h
    by_cases ha : a.e ≠ 0
    · rw [if_pos ha] at h; exact absurd h ha
    · rw [if_neg ha] at h
      intro x hx
      rcases List.mem_cons.1 hx with rfl | hx
      · exact Classical.not_not.1 ha
      · exact ih h x hx
theorem known_sub {l : List (Int × Int)} {i : Nat} {m : Int} (h : m ∈ known (l.take i)) : m ∈ (l.take i).map (·.1) := (List.mem_filter.1 h).1
end Go.Dr.T
