/- Chapter 06: Whole as a function of what it is given; the table with it. -/
import Derived.Test.YtfhphjloaelgoaaGreatDoorR06T4
namespace Go.Dr.T
def wayP (D : List PE) (a t ab : Int) : Option (List Int) := (wayGo D a t ab 1002 0 []).getD none
def keysOf (D : List PE) : List Int := D.map (·.k)
def wholeV (l : List El) : V :=
  if vldE l ≠ 0 then .tup [.sl true 0 [], .bool false, .int .i64 (vldE l)] else
  match roundP (fun k => wayP (pAll l) k k k) (isort (keysOf (pAll l))) with
  | some _ => .tup [.sl true 0 [], .bool false, .int .i64 161]
  | none => match wgo (pAll l) (pAll l).length (keysOf (pAll l)) [] with
    | some A => .tup [lw false A, .bool (onlyN (fun a b => wayP (pAll l) a b 0) A A.length), .int .i64 0]
    | none => .dead
def WholeOk (c : Bool) (l : List El) : Prop := wpm FB1 md 0 c33.body ⟨[elsV c l] ++ deads (c33.ntm - c33.np), []⟩ (Leaves c33.res (wholeV l))
open Classical in
noncomputable def whoG (as : List V) : Option V := if h : ∃ p : Bool × List El, as = [elsV p.1 p.2] ∧ WholeOk p.1 p.2 then some (wholeV (Classical.choose h).2) else none
theorem whoG_eq {c : Bool} {l : List El} (hw : WholeOk c l) : whoG [elsV c l] = some (wholeV l) := by
  have h : ∃ p : Bool × List El, [elsV c l] = [elsV p.1 p.2] ∧ WholeOk p.1 p.2 := ⟨(c, l), rfl, hw⟩
  have e := (Classical.choose_spec h).1
  unfold whoG
  rw [dif_pos h]
  generalize Classical.choose h = q at *
  simp only [elsV, List.cons.injEq, V.sl.injEq, and_true] at e
  rw [elC_inj e.2.2]
theorem whoG_some {as : List V} {v : V} (h : whoG as = some v) : ∃ c l, as = [elsV c l] ∧ WholeOk c l ∧ v = wholeV l := by
  unfold whoG at h
  split at h
  · rename_i hx
    cases h
    obtain ⟨h1, h2⟩ := Classical.choose_spec hx
    exact ⟨_, _, h1, h2, rfl⟩
  · cases h
noncomputable def FB2 : Nat → Option Fc
  | 33 => some (knFc 1 33 (plainKn whoG))
  | n => FB1 n
theorem sub2 : Sub' FB1 FB2 := by
  intro f fc h
  unfold FB2
  split
  · cases h
  · exact h
theorem view_none {h : List B} {d : Nat} (l : List El) (hw : wholeV l ≠ .dead) : V.view h (d + 2) (wholeV l) = some (wholeV l) := by
  have key : ∀ (A : List Int) (b : Bool), V.view h (d + 2) (.tup [lw false A, .bool b, .int .i64 0]) = some (.tup [lw false A, .bool b, .int .i64 0]) := fun A b =>
    (Vw.tup (VwL.cons ⟨view_lw _ _⟩ (VwL.cons (Vw.bool rfl) (VwL.cons (Vw.int rfl) VwL.nil)))).1
  unfold wholeV at hw ⊢
  split at hw
  · rename_i h1; rw [if_pos h1]; rfl
  · rename_i h1
    rw [if_neg h1]
    split at hw
    · rfl
    · split at hw
      · exact key _ _
      · exact absurd rfl hw
theorem whole_fun {c : Bool} {l : List El} (hw : WholeOk c l) (hd : wholeV l ≠ .dead) : Fun FB2 md 33 [elsV c l] (wholeV l) := fun_kn rfl rfl (whoG_eq hw) (view_none l hd)
theorem gatherV_view {l : List El} : V.view [] depth (gatherV l) = some (gatherV l) := by
  unfold gatherV
  split <;> rfl
theorem whole_all {c : Bool} {l : List El} {A : List Int} (hv : vldE l = 0) (hn : (pAll l).length ≤ 100000) (hL : ∀ e ∈ pAll l, e.L.length ≤ 100000) (nd : (keysOf (pAll l)).Nodup)
    (hw : ∀ k ∈ keysOf (pAll l), Fun FB1 md 69 [gatV (pAll l), .int .i64 k, .int .i64 k, .int .i64 k] (wayV (wayP (pAll l) k k k))) (hne : ∀ k, wayP (pAll l) k k k ≠ some [])
    (hr : roundP (fun k => wayP (pAll l) k k k) (isort (keysOf (pAll l))) = none) (hgo : wgo (pAll l) (pAll l).length (keysOf (pAll l)) [] = some A)
    (hw2 : ∀ i, 0 < i → i < A.length → Fun FB1 md 69 [gatV (pAll l), .int .i64 (kAt A (i - 1)), .int .i64 (kAt A i), .int .i64 0] (wayV (wayP (pAll l) (kAt A (i - 1)) (kAt A i) 0))) : WholeOk c l := by
  have hg := gather_fun (c := c) (l := l) gatherV_view
  unfold gatherV at hg
  rw [if_neg (fun h => h hv)] at hg
  unfold WholeOk wholeV
  rw [if_neg (fun h => h hv), hr, hgo]
  exact whole_walk hg hn hL nd hw hne hr hgo (w2 := fun a b => wayP (pAll l) a b 0) hw2 c33 rfl
end Go.Dr.T
