/- Chapter 07: small functions as plain functions, for the kernel. -/
import Derived.Test.YtigcchafpenhiaaR07Sm
namespace Go.Dr.T

def gOut : List V → Option V
  | [.int .i64 n, .int .i64 lo, .int .i64 hi] => some (.bool (ltI n lo || ltI hi n))
  | _ => none
def sml (a : Int) : Bool := !ltI a 0 && !ltI 1000000 a
def gHas : List V → Option V
  | [.agg [.int .i64 w, .int .i64 h, .sl _ _ _], .int .i64 x, .int .i64 y] => match sml w && sml h with
    | true => some (.bool (!(ltI x 0 || ltI (w - 1) x) && !(ltI y 0 || ltI (h - 1) y)))
    | false => none
  | _ => none
noncomputable def gAt : List V → Option V
  | [.agg [.int .i64 w, .int .i64 _, .sl _ n px], .int .i64 x, .int .i64 y] => match sml w && sml x && sml y && sml (y * w) with
    | true => match y * w + x with
      | .ofNat i => match Nat.blt i n && Nat.ble n 1000000000 with
        | true => match getO px i with
          | some (.int .u8 b) => match !ltI b 0 && !ltI 255 b with
            | true => some (.int .i64 b)
            | false => none
          | _ => none
        | false => none
      | _ => none
    | false => none
  | _ => none
def gSize : List V → Option V
  | [.int .i64 n] => match !ltI n (-1000000000000) && !ltI 1000000000000 n with
    | true => match ltI n 0 with
      | true => some (.int .i64 (-n))
      | false => some (.int .i64 n)
    | false => none
  | _ => none
noncomputable def S1 (n : Nat) : Option (List V → Option V) :=
  match n with
  | 55 => some gOut
  | 60 => some gHas
  | 61 => some gAt
  | 64 => some gSize
  | _ => none

theorem sml_ok {a : Int} (h : sml a = true) : 0 ≤ a ∧ a ≤ 1000000 := by
  simp only [sml, ltI_eq, Bool.and_eq_true, Bool.not_eq_true', decide_eq_false_iff_not] at h
  omega
theorem getO_cellAt : ∀ (l : List V) (n : Nat), getO l n = cellAt l n
  | [], _ => rfl
  | _ :: _, 0 => rfl
  | _ :: l, n + 1 => getO_cellAt l n

theorem known1 : Known F md S1 := by
  intro f g hg as v h
  unfold S1 at hg
  split at hg <;> (try (cases hg; done)) <;> cases hg
  · unfold gOut at h
    split at h <;> (try (cases h; done))
    cases h
    simp only [ltI_eq]
    exact out_any _ _ _
  · unfold gHas at h
    split at h <;> (try (cases h; done))
    split at h <;> (try (cases h; done))
    rename_i hs
    cases h
    simp only [ltI_eq]
    rw [Bool.and_eq_true] at hs
    exact has_any _ _ _ _ _ _ _ (sml_ok hs.1) (sml_ok hs.2)
  · unfold gAt at h
    split at h <;> (try (cases h; done))
    rename_i w h' c n px x y
    split at h <;> (try (cases h; done))
    rename_i hs
    split at h <;> (try (cases h; done))
    rename_i i hi
    split at h <;> (try (cases h; done))
    rename_i hn
    split at h <;> (try (cases h; done))
    rename_i b hb
    split at h <;> (try (cases h; done))
    rename_i hr
    cases h
    simp only [Bool.and_eq_true] at hs hn hr
    obtain ⟨⟨⟨h1, h2⟩, h3⟩, h4⟩ := hs
    have := sml_ok h1; have := sml_ok h2; have := sml_ok h3; have := sml_ok h4
    simp only [ltI_eq, Bool.not_eq_true', decide_eq_false_iff_not, Nat.blt_eq, Nat.ble_eq] at hn hr
    refine at_any w h' x y c n px i b (by rw [hi]; rfl) hn.1 hn.2 (by omega) (by omega) (by rw [← getO_cellAt]; exact hb) (by omega)
  · unfold gSize at h
    split at h <;> (try (cases h; done))
    rename_i n
    split at h <;> (try (cases h; done))
    rename_i hs
    simp only [Bool.and_eq_true, ltI_eq, Bool.not_eq_true', decide_eq_false_iff_not] at hs
    have key := size_any n (by omega)
    split at h <;> cases h
    · rename_i h0
      simp only [ltI_eq, decide_eq_true_eq] at h0
      rw [show max n (-n) = -n by omega] at key; exact key
    · rename_i h0
      simp only [ltI_eq, decide_eq_false_iff_not] at h0
      rw [show max n (-n) = n by omega] at key; exact key

/-- the frame A -/
def frA : V := .agg [.int .i64 6, .int .i64 4, .sl true 24 (ofBytes [0, 0, 0, 0, 0, 0, 0, 9, 9, 5, 0, 0, 0, 9, 200, 5, 0, 0, 7, 7, 7, 7, 7, 7])]
/-- the frame B -/
def frB : V := .agg [.int .i64 6, .int .i64 4, .sl true 24 (ofBytes [3, 0, 9, 9, 5, 0, 3, 0, 9, 200, 5, 0, 3, 7, 7, 7, 7, 7, 3, 3, 3, 3, 3, 3])]
def frB' : V := .agg [.int .i64 6, .int .i64 4, .sl false 24 (ofBytes [3, 0, 9, 9, 5, 0, 3, 0, 9, 200, 5, 0, 3, 7, 7, 7, 7, 7, 3, 3, 3, 3, 3, 3])]
def bytesW : V := .sl false 25 (ofBytes [83, 78, 6, 4, 1, 134, 0, 6, 0, 9, 9, 5, 0, 0, 6, 0, 9, 200, 5, 0, 0, 134, 7, 108, 34])

end Go.Dr.T
