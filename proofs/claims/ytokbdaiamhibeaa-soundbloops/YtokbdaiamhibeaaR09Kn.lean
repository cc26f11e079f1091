/- Chapter 09: the samples of a frame as a plain function, for the kernel. -/
import Derived.Test.YtokbdaiamhibeaaR09Al
namespace Go.Dr.T

def natsOf : List V → Option (List Nat)
  | [] => some []
  | .int .i64 (.ofNat n) :: l => match natsOf l with
    | some r => some (n :: r)
    | none => none
  | _ => none
theorem natsOf_eq : ∀ {l : List V} {ks : List Nat}, natsOf l = some ks → l = tkC ks
  | [], ks, h => by cases h; rfl
  | v :: l, ks, h => by
    unfold natsOf at h
    split at h
    · rename_i e; cases e
    · rename_i n l' e
      cases e
      split at h <;> cases h
      rename_i r hr
      rw [natsOf_eq hr]; rfl
    · cases h
def mkAt (mk : List V) (k : Nat) : Option (Int × Int × Int) :=
  match part mk (k * 3) 3 with
  | some [.int .i64 a, .int .i64 s, .int .i64 e] => some (a, s, e)
  | _ => none
theorem mkAt_eq {mk : List V} {k : Nat} {a s e : Int} (h : mkAt mk k = some (a, s, e)) : part mk (k * 3) 3 = some [.int .i64 a, .int .i64 s, .int .i64 e] := by
  unfold mkAt at h
  split at h <;> cases h
  assumption
def btw (lo hi n : Int) : Bool := !ltI n lo && !ltI hi n
theorem btw_ok {lo hi n : Int} (h : btw lo hi n = true) : lo ≤ n ∧ n ≤ hi := by
  simp only [btw, ltI_eq, Bool.and_eq_true, Bool.not_eq_true', decide_eq_false_iff_not] at h
  omega
def mkOk (nm : Nat) (mk : List V) (f : Int) (k : Nat) : Bool := Nat.blt k nm && (match mkAt mk k with
  | some m => btw (-1000000000) 1000000000 (f - m.1) && btw (-1000000000000) 1000000000000 m.2.1 && btw (-1000000000000) 1000000000000 m.2.2
  | none => false)
def spAt (lo hi : Int) (mk : List V) (f : Int) (k : Nat) : Int × Int :=
  match mkAt mk k with
  | some m => (alLo lo hi m f, alHi lo hi m f)
  | none => (0, 0)
def g67 : List V → Option V
  | [.rp [.int .i64 _, .int .i64 lo, .int .i64 hi, .sl _ nm mk, _, .sl _ n tk, _] 0, .int .i64 f] => match natsOf tk with
    | some ks => match Nat.beq n ks.length && Nat.blt 0 n && Nat.ble n 1000 && btw 0 1000000 lo && btw 0 1000000 hi && ks.all (mkOk nm mk f) with
      | true => match atS (spAt lo hi mk f) ks with
        | (x, y) => some (.agg [.int .i64 x, .int .i64 y])
      | false => none
    | none => none
  | _ => none
noncomputable def S1 (n : Nat) : Option (List V → Option V) :=
  match n with
  | 67 => some g67
  | _ => none
theorem known1 : Known F md S1 := by
  intro fn g hg as v h
  unfold S1 at hg
  split at hg <;> (try (cases hg; done))
  cases hg
  unfold g67 at h
  split at h <;> (try (cases h; done))
  rename_i fr lo hi cm nm mk sp c n tk st f
  split at h <;> (try (cases h; done))
  rename_i ks hks
  split at h <;> (try (cases h; done))
  rename_i hc
  rw [natsOf_eq hks]
  simp only [Bool.and_eq_true, Nat.blt_eq, Nat.ble_eq, Nat.beq_eq] at hc
  obtain ⟨⟨⟨⟨⟨h1, h2⟩, h3⟩, h4⟩, h5⟩, h6⟩ := hc
  subst h1
  have hr := btw_ok h4
  have hr2 := btw_ok h5
  have key := at_any (fr := fr) (lo := lo) (hi := hi) (f := f) (cm := cm) (c := c) (nm := nm) (mk := mk) (sp := sp) (st := st) (ks := ks) (g := spAt lo hi mk f) h2 h3 (fun k hk => by
    have := List.all_eq_true.1 h6 k hk
    simp only [mkOk, Bool.and_eq_true, Nat.blt_eq] at this
    obtain ⟨q1, q2⟩ := this
    split at q2
    · rename_i m hm
      obtain ⟨a, s, e⟩ := m
      simp only [Bool.and_eq_true] at q2
      have e1 := btw_ok q2.1.1
      have e2 := btw_ok q2.1.2
      have e3 := btw_ok q2.2
      have es : spAt lo hi mk f k = (alLo lo hi (a, s, e) f, alHi lo hi (a, s, e) f) := by unfold spAt; rw [hm]
      rw [es]
      exact allowed_any ⟨hr.1, hr.2, hr2.1, hr2.2⟩ ⟨e1.1, e1.2, e2.1, e2.2, e3.1, e3.2⟩ q1 (mkAt_eq hm)
    · cases q2)
  split at h
  rename_i x y hxy
  cases h
  rw [hxy] at key
  exact key

end Go.Dr.T
