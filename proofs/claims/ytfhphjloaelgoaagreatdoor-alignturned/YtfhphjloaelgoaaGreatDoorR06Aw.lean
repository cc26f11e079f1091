/- Chapter 06: Awake: the calls of which the document says what they return. -/
import Derived.Test.YtfhphjloaelgoaaGreatDoorR06T5
import Derived.Test.YtfhphjloaelgoaaGreatDoorR06Wr
namespace Go.Dr.T
def elN : El := ⟨[110, 101, 103], true, [(1, 100), (2, 50), (3, 80), (4, 60)], 0⟩
def elP : El := ⟨[112, 114, 105, 110, 116, 45, 98], true, [(1, 96), (3, 80), (0, 58), (5, 40)], 2⟩
def elQ : El := ⟨[99, 117, 116], true, [(2, 48), (5, 44), (4, 60)], 1⟩
def elU : El := ⟨[117], true, [(0, 60)], 0⟩
def el3 : List El := [elN, elP, elQ]
def D3 : List PE := pAll el3
theorem vld3 : vldE el3 = 0 := by decide +kernel
theorem keys3 : keysOf (pAll el3) = [1, 2, 3, 4, 5] := by decide +kernel
theorem len3 : (pAll el3).length = 5 := by decide +kernel
theorem way3 {a t ab : Int} {r : Option (List Int)} (h : wayGo (pAll el3) a t ab 1002 0 [] = some r) : Fun FB1 md 69 [gatV (pAll el3), .int .i64 a, .int .i64 t, .int .i64 ab] (wayV (wayP (pAll el3) a t ab)) := by
  have e : wayP (pAll el3) a t ab = r := by unfold wayP; rw [h]; rfl
  rw [e]
  exact way_fun (by rw [len3]; decide) (by decide +kernel) (by decide +kernel) (by rw [show (pAll el3).map (·.k) = [1, 2, 3, 4, 5] from keys3]; decide) h
theorem wayGo_ne {D : List PE} {a t ab : Int} : ∀ {n p : Nat} {bf : List (Int × Int)}, wayGo D a t ab n p bf ≠ some (some [])
  | 0, _, _ => by unfold wayGo; simp
  | n + 1, p, bf => by
    unfold wayGo
    split
    · simp
    · split
      · intro h
        obtain ⟨cs, _, h2⟩ := map_some h
        simp at h2
      · exact wayGo_ne
theorem wayP_ne {D : List PE} {a t ab : Int} : wayP D a t ab ≠ some [] := by
  unfold wayP
  intro h
  cases hg : wayGo D a t ab 1002 0 [] with
  | none => rw [hg] at h; cases h
  | some r => rw [hg] at h; exact wayGo_ne (hg.trans (congrArg some h))
theorem whole3 {c : Bool} : WholeOk c el3 := by
  refine whole_all (A := [1, 2, 3, 5, 4]) vld3 (by rw [len3]; decide) (by decide +kernel) (by rw [keys3]; decide) (fun k hk => ?_) (fun k => wayP_ne) (by decide +kernel) (by decide +kernel) (fun i h0 hi => ?_)
  · rw [keys3] at hk
    simp only [List.mem_cons, List.not_mem_nil, or_false] at hk
    rcases hk with rfl | rfl | rfl | rfl | rfl <;> exact way3 (r := none) (by decide +kernel)
  · simp only [List.length_cons, List.length_nil] at hi
    obtain rfl | rfl | rfl | rfl : i = 1 ∨ i = 2 ∨ i = 3 ∨ i = 4 := by omega
    · exact way3 (r := some [1]) (by decide +kernel)
    · exact way3 (r := some [2]) (by decide +kernel)
    · exact way3 (r := some [3]) (by decide +kernel)
    · exact way3 (r := some [5]) (by decide +kernel)
theorem whole3_v : wholeV el3 = .tup [.sl false 5 (ofInts [1, 2, 3, 5, 4]), .bool true, .int .i64 0] := veq_eq (by decide +kernel)
theorem whole3_doc : Fun FB2 md 33 [elsV false el3] (wholeV el3) := whole_fun whole3 (by rw [whole3_v]; intro h; cases h)
theorem gather3_doc : Fun FB2 md 65 [elsV false el3] (gatherV el3) := (gather_fun gatherV_view).tab sub2
end Go.Dr.T
