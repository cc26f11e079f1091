/- The door: runs that the kernel is to work out: calls of functions that are known are looked up. -/
import Derived.Test.YtigcchafpenhiaaDrMono
namespace Go.Dr

section
variable {α : Type}
noncomputable def getG (d : α) (l : List α) : Nat → α := List.rec (motive := fun _ => Nat → α) (fun _ => d) (fun x _ ih n => Nat.rec (motive := fun _ => α) x (fun k _ => ih k) n) l
noncomputable def getO (l : List α) : Nat → Option α := List.rec (motive := fun _ => Nat → Option α) (fun _ => none) (fun x _ ih n => Nat.rec (motive := fun _ => Option α) (some x) (fun k _ => ih k) n) l
noncomputable def setG (l : List α) : Nat → α → List α := List.rec (motive := fun _ => Nat → α → List α) (fun _ _ => []) (fun x r ih n v => Nat.rec (motive := fun _ => List α) (v :: r) (fun k _ => x :: ih k v) n) l
end
theorem getG_tg : ∀ (l : List V) (n : Nat), getG .dead l n = tg l n
  | [], _ => rfl
  | _ :: _, 0 => rfl
  | _ :: l, n + 1 => getG_tg l n
theorem setG_tset : ∀ (l : List V) (n : Nat) (v : V), setG l n v = tset l n v
  | [], _, _ => rfl
  | _ :: _, 0, _ => rfl
  | x :: l, n + 1, v => by show x :: setG l n v = x :: tset l n v; rw [setG_tset l n v]
theorem getO_bget : ∀ (l : List B) (n : Nat), getO l n = bget l n
  | [], _ => rfl
  | _ :: _, 0 => rfl
  | _ :: l, n + 1 => getO_bget l n
theorem setG_bset : ∀ (l : List B) (n : Nat) (v : B), setG l n v = bset l n v
  | [], _, _ => rfl
  | _ :: _, 0, _ => rfl
  | x :: l, n + 1, v => by show x :: setG l n v = x :: bset l n v; rw [setG_bset l n v]

noncomputable def xGet (tm : List V) (o : O) : V :=
  match o with
  | .t n => getG .dead tm n
  | .c v => v
theorem xGet_eq (tm : List V) (o : O) : xGet tm o = o.ev tm := by cases o <;> simp only [xGet, O.ev, getG_tg]

def ltI (x y : Int) : Bool :=
  match x with
  | .ofNat a => match y with
    | .ofNat b => Nat.blt a b
    | .negSucc _ => false
  | .negSucc a => match y with
    | .ofNat _ => true
    | .negSucc b => Nat.blt b a
theorem ltI_eq (x y : Int) : ltI x y = decide (x < y) := by
  cases x <;> cases y <;> simp only [ltI] <;> rw [Bool.eq_iff_iff] <;> simp only [decide_eq_true_eq, Nat.blt_eq, Bool.false_eq_true, false_iff, true_iff, Int.ofNat_eq_natCast, Int.negSucc_eq] <;> omega
def wrapX (k : IntKind) (n : Int) : Int :=
  match k with
  | .i64 => match n with
    | .ofNat m => match Nat.blt m 9223372036854775808 with
      | true => .ofNat m
      | false => k.wrap n
    | .negSucc m => match Nat.blt m 9223372036854775808 with
      | true => .negSucc m
      | false => k.wrap n
  | _ => k.wrap n
theorem wrapX_eq (k : IntKind) (n : Int) : wrapX k n = k.wrap n := by
  cases k <;> try rfl
  cases n with
  | ofNat m =>
    simp only [wrapX]
    split
    · rename_i h; rw [Nat.blt_eq] at h; simp only [Int.ofNat_eq_natCast, Int.negSucc_eq]; exact (wrap_i64 (by omega) (by omega)).symm
    · rfl
  | negSucc m =>
    simp only [wrapX]
    split
    · rename_i h; rw [Nat.blt_eq] at h; simp only [Int.ofNat_eq_natCast, Int.negSucc_eq]; exact (wrap_i64 (by omega) (by omega)).symm
    · rfl
def xInt (op : BinOp) (k : IntKind) (a b : Int) : Option V :=
  match op with
  | .add => some (.int k (wrapX k (a + b)))
  | .sub => some (.int k (wrapX k (a - b)))
  | .mul => some (.int k (wrapX k (a * b)))
  | .lss => some (.bool (ltI a b))
  | .gtr => some (.bool (ltI b a))
  | .leq => some (.bool (!ltI b a))
  | .geq => some (.bool (!ltI a b))
  | op => binop op (.int k a) (.int k b)
def sameK (k k' : IntKind) : Bool :=
  match k with
  | .i64 => match k' with
    | .i64 => true
    | _ => false
  | _ => decide (k = k')
def xBin (op : BinOp) (x y : V) : Option V :=
  match x with
  | .int k a => match y with
    | .int k' b => match sameK k k' with
      | true => xInt op k a b
      | false => binop op x y
    | _ => none
  | _ => binop op x y
theorem xBin_eq (op : BinOp) (x y : V) : xBin op x y = binop op x y := by
  cases x with
  | int k a =>
    cases y with
    | int k' b =>
      have hs : sameK k k' = decide (k = k') := by cases k <;> cases k' <;> rfl
      simp only [xBin, hs]
      by_cases h : k = k'
      · subst h
        have hn : ∀ x y : Int, (!decide (x < y)) = decide (y ≤ x) := by
          intro x y; rw [Bool.eq_iff_iff]; simp
        simp only [decide_true]
        cases op <;> simp only [xInt, wrapX_eq, ltI_eq, hn, binop, ari, if_true]
      · simp only [h, decide_false]
    | _ => rfl
  | _ => rfl

/-- Read of a block. -/
noncomputable def xLd (agg : Bool) (n : Nat) (x : V) (h : List B) : Option (V × List B) :=
  match x with
  | .rp cs off => match loadFrom agg n off cs with
    | some v => some (v, h)
    | none => none
  | .ref id g off => match getO h id with
    | some b => match b with
      | .blk c _ => if c.length = g then (match loadFrom agg n off c with
        | some v => some (v, h)
        | none => none) else none
      | _ => none
    | none => none
  | _ => none
def xOk (v : V) (h : List B) : Option (V × List B) := some (v, h)
def xV (o : Option V) (h : List B) : Option (V × List B) :=
  match o with
  | some v => some (v, h)
  | none => none
def xPk (c a b : V) (h : List B) : Option (V × List B) :=
  match c with
  | .bool t => match t with
    | true => some (a, h)
    | false => some (b, h)
  | _ => none
def xFa (off : Nat) (x : V) (h : List B) : Option (V × List B) :=
  match x with
  | .rp cs o => some (.rp cs (o + off), h)
  | .ref id g o => some (.ref id g (o + off), h)
  | _ => none
noncomputable def xRest (ro base : Nat) (tm : List V) (h : List B) (o : M) : Option (V × List B) :=
  match plan base tm o with
  | none => none
  | some p => p.go ro h
noncomputable def xEvs (tm : List V) (l : List O) : List V := List.rec (motive := fun _ => List V) [] (fun x _ ih => xGet tm x :: ih) l
theorem xEvs_eq (tm : List V) : ∀ (l : List O), xEvs tm l = evs tm l
  | [] => rfl
  | x :: l => by show xGet tm x :: xEvs tm l = _; rw [xEvs_eq tm l, xGet_eq]; rfl
noncomputable def xM (oc : Orc) (ro base : Nat) (tm : List V) (h : List B) (o : M) : Option (V × List B) :=
  match o with
  | .mv x => xOk (xGet tm x) h
  | .bo op x y => xV (xBin op (xGet tm x) (xGet tm y)) h
  | .pk c x y => xPk (xGet tm c) (xGet tm x) (xGet tm y) h
  | .fa off x => xFa off (xGet tm x) h
  | .ld agg n x => xLd agg n (xGet tm x) h
  | .call f args => oc (xGet tm f) (xEvs tm args) h
  | .mf f cs => xOk (.fn f (xEvs tm cs)) h
  | o => xRest ro base tm h o
theorem xM_eq (oc : Orc) (ro base : Nat) (tm : List V) (h : List B) (o : M) : xM oc ro base tm h o = resM oc ro base tm h o := by
  cases o with
  | mv x => simp only [xM, xOk, resM, plan, xGet_eq]; rfl
  | bo op x y =>
    simp only [xM, resM, plan, xGet_eq, xBin_eq]
    generalize binop op (x.ev tm) (y.ev tm) = z
    cases z <;> rfl
  | pk c x y =>
    simp only [xM, resM, plan, xGet_eq]
    generalize c.ev tm = z
    cases z <;> try rfl
    rename_i t; cases t <;> rfl
  | fa off x =>
    simp only [xM, resM, plan, xGet_eq]
    generalize x.ev tm = z
    cases z <;> rfl
  | ld agg n x =>
    simp only [xM, resM, plan, xGet_eq]
    generalize x.ev tm = z
    cases z <;> try rfl
    · rename_i cs off
      simp only [xLd, val?]
      generalize loadFrom agg n off cs = w
      cases w <;> rfl
    · rename_i id g off
      simp only [xLd, getO_bget, Pl.go, Pl.rd, bgets]
      cases hb : bget h id with
      | none => rfl
      | some b =>
        cases b <;> try rfl
        rename_i c dat
        simp only
        by_cases hc : c.length = g
        · simp only [hc, if_true]
          generalize loadFrom agg n off c = w
          cases w <;> rfl
        · simp only [hc, if_false]
  | call f args => simp only [xM, resM, xGet_eq, xEvs_eq]
  | mf f cs => simp only [xM, xOk, resM, plan, xEvs_eq]; rfl
  | _ => rfl

noncomputable def xPut (d : Option Nat) (tm : List V) (v : V) : List V :=
  match d with
  | some d => setG tm d v
  | none => tm
theorem xPut_eq (d : Option Nat) (tm : List V) (v : V) : xPut d tm v = putD d tm v := by cases d <;> simp only [xPut, putD, setG_tset]
def xRes (res : Option (V × List B)) (K : V → List B → Option (List V × List B)) : Option (List V × List B) :=
  match res with
  | none => none
  | some p => match p with
    | (v, h) => K v h
noncomputable def xGd (g : Option (Nat × Bool)) (tm : List V) (a b : Option (List V × List B)) : Option (List V × List B) :=
  match g with
  | none => a
  | some p => match p with
    | (s, w) => match getG .dead tm s with
      | .bool c => match w with
        | true => match c with
          | true => a
          | false => b
        | false => match c with
          | true => b
          | false => a
      | .tup l => match l with
        | [] => b
        | _ => none
      | _ => none
noncomputable def xG (oc : Orc) (ro base : Nat) (d : Option Nat) (g : Option (Nat × Bool)) (o : M) (tm : List V) (h : List B) (ih : List V → List B → Option (List V × List B)) : Option (List V × List B) :=
  xGd g tm (xRes (xM oc ro base tm h o) fun v h => ih (xPut d tm v) h) (ih (xPut d tm (.tup [])) h)
theorem xG_eq (oc : Orc) (ro base : Nat) (d : Option Nat) (g : Option (Nat × Bool)) (b : Nat) (o : M) (tm : List V) (h : List B) (ih : List V → List B → Option (List V × List B)) :
    xG oc ro base d g o tm h ih = (match evG oc ro base tm h ⟨d, g, b, o⟩ with | none => none | some (tm', h') => ih tm' h') := by
  have key : ∀ (P : V → List V) , (∀ v, xPut d tm v = P v) → xG oc ro base d g o tm h ih = (match (match g with
      | none => (match resM oc ro base tm h o with | none => none | some (v, h') => some (P v, h'))
      | some (s, want) => match tg tm s with
        | .bool b => if b = want then (match resM oc ro base tm h o with | none => none | some (v, h') => some (P v, h')) else some (P (.tup []), h)
        | .tup [] => some (P (.tup []), h)
        | _ => none) with | none => none | some (tm', h') => ih tm' h') := by
    intro P hP
    unfold xG
    simp only [hP, xM_eq]
    cases g with
    | none =>
      simp only [xGd]
      cases resM oc ro base tm h o <;> rfl
    | some p =>
      obtain ⟨s, w⟩ := p
      simp only [xGd, getG_tg]
      cases tg tm s with
      | bool c => cases c <;> cases w <;> simp only [Bool.false_eq_true, if_true, if_false, reduceCtorEq] <;> cases resM oc ro base tm h o <;> rfl
      | tup l => cases l <;> rfl
      | _ => rfl
  cases d with
  | none => exact key (fun _ => tm) (fun _ => rfl)
  | some d => exact key (fun v => tset tm d v) (fun v => setG_tset _ _ _)

noncomputable def xOps (oc : Orc) (ro base : Nat) (l : List G) : List V → List B → Option (List V × List B) :=
  List.rec (motive := fun _ => List V → List B → Option (List V × List B)) (fun tm h => some (tm, h)) (fun r _ ih tm h => match r with
    | ⟨d, g, _, o⟩ => xG oc ro base d g o tm h ih) l
theorem xOps_eq (oc : Orc) (ro base : Nat) : ∀ (l : List G) (tm : List V) (h : List B), xOps oc ro base l tm h = evOps oc ro base l tm h
  | [], _, _ => rfl
  | ⟨d, g, b, o⟩ :: l, tm, h => by
    show xG oc ro base d g o tm h (xOps oc ro base l) = _
    rw [xG_eq (b := b), evOps]
    cases evG oc ro base tm h ⟨d, g, b, o⟩ with
    | none => rfl
    | some q => exact xOps_eq oc ro base l _ _

noncomputable def xDraw (md : Nat → Nat) (oc : Orc) (ro base : Nat) (l : List G) : Nat → List (Nat × Fp) → List V → List B → Option (List V × List B) :=
  List.rec (motive := fun _ => Nat → List (Nat × Fp) → List V → List B → Option (List V × List B)) (fun _ _ tm h => some (tm, h)) (fun r _ ih i seen tm h => match freeOf (fpOf md base tm r) r.b seen with
    | true => match r with
      | ⟨d, g, _, o⟩ => xG oc ro base d g o tm h (ih (i + 1) ((i, fpOf md base tm r) :: seen))
    | false => none) l
theorem xDraw_eq (md : Nat → Nat) (oc : Orc) (ro base : Nat) : ∀ (l : List G) (i : Nat) (seen : List (Nat × Fp)) (tm : List V) (h : List B), xDraw md oc ro base l i seen tm h = evDraw md oc ro base i seen l tm h
  | [], _, _, _, _ => rfl
  | ⟨d, g, b, o⟩ :: l, i, seen, tm, h => by
    show (match freeOf (fpOf md base tm ⟨d, g, b, o⟩) b seen with
      | true => xG oc ro base d g o tm h (xDraw md oc ro base l (i + 1) ((i, fpOf md base tm ⟨d, g, b, o⟩) :: seen))
      | false => none) = _
    rw [xG_eq (b := b), evDraw]
    cases hf : freeOf (fpOf md base tm ⟨d, g, b, o⟩) b seen with
    | false => simp only [hf, Bool.false_eq_true, if_false]
    | true =>
      simp only [hf, if_true]
      cases evG oc ro base tm h ⟨d, g, b, o⟩ with
      | none => rfl
      | some q => exact xDraw_eq md oc ro base l _ _ _ _

/-! ### runs, from runs with some fuel -/
variable {F : Nat → Option Fc} {md : Nat → Nat}

def Sub (F : Nat → Option Fc) (md : Nat → Nat) (rn : Nat → MC → St → Option (X × St)) : Prop := ∀ ro c st r, rn ro c st = some r → ∃ n, run F md n ro c st = some r
def SubO (F : Nat → Option Fc) (md : Nat → Nat) (ro : Nat) (oc : Orc) : Prop := ∀ f as h r, oc f as h = some r → ∃ n, doCall F md ro (run F md n) f as h = some r

theorem doCall_sub {rn : Nat → MC → St → Option (X × St)} (hs : Sub F md rn) (ro : Nat) : SubO F md ro (doCall F md ro rn) := by
  intro fv as h r e
  cases fv with
  | fn f caps =>
    obtain ⟨fc, hF, hl, hc⟩ := doCall_fn e
    rcases hc with ⟨hm, as', x, st, v, v', h1, h2, hx, h3, h4, h5, rfl⟩ | ⟨hm, x, st, v, h2, hx, h3, rfl⟩ | ⟨hm0, hm1, x, st, v, h2, hx, h3, h4, rfl⟩
    · obtain ⟨n, hn⟩ := hs _ _ _ _ h2
      have hcd : (blos 0 (as ++ caps) || v'.scalar) = true := by rcases h5 with h | h <;> simp [h]
      refine ⟨n, ?_⟩
      simp only [doCall, hF, hl, if_true, hm, h1]
      rcases hx with rfl | rfl <;> simp only [hn, h3, h4, hcd, if_true]
    · obtain ⟨n, hn⟩ := hs _ _ _ _ h2
      refine ⟨n, ?_⟩
      simp only [doCall, hF, hl, if_true, hm]
      rcases hx with rfl | rfl <;> simp only [hn, h3]
    · obtain ⟨n, hn⟩ := hs _ _ _ _ h2
      refine ⟨n, ?_⟩
      cases hmm : mode md (.fn f caps) as with
      | zero => exact absurd hmm hm0
      | succ k =>
        cases k with
        | zero => exact absurd hmm hm1
        | succ k =>
          simp only [doCall, hF, hl, if_true, hmm]
          rcases hx with rfl | rfl <;> simp only [hn, h3, h4, if_true]
  | yld id =>
    obtain ⟨p, tm, ps, asg, body, tm', st, p', tm2, ps2, a2, b2, x, st', h1, h2, h3, h4, h5, h6, rfl⟩ := doCall_yld e
    obtain ⟨n1, hn1⟩ := hs _ _ _ _ h4
    obtain ⟨n2, hn2⟩ := hs _ _ _ _ h6
    refine ⟨max n1 n2, ?_⟩
    simp only [doCall, h1, h2, if_true, h3, run_more (Nat.le_max_left n1 n2) _ _ _ _ hn1, h5, run_more (Nat.le_max_right n1 n2) _ _ _ _ hn2]
    cases x <;> rfl
  | _ => simp [doCall] at e

theorem evG_at {oc oc' : Orc} {ro base : Nat} {tm : List V} {h : List B} {r : G} (he : ∀ f as, r.o = .call f as → oc (f.ev tm) (evs tm as) h = oc' (f.ev tm) (evs tm as) h) : evG oc ro base tm h r = evG oc' ro base tm h r := by
  obtain ⟨d, g, b, o⟩ := r
  cases o with
  | call f as => simp only [evG, he f as rfl]
  | _ => rfl

theorem evG_sub {oc : Orc} {ro base : Nat} (hs : SubO F md ro oc) {tm : List V} {h : List B} {r : G} {t : List V × List B} (e : evG oc ro base tm h r = some t) : ∃ n, ∀ m, n ≤ m → evG (doCall F md ro (run F md m)) ro base tm h r = some t := by
  have up : (∃ n, evG (doCall F md ro (run F md n)) ro base tm h r = some t) → ∃ n, ∀ m, n ≤ m → evG (doCall F md ro (run F md m)) ro base tm h r = some t :=
    fun ⟨n, hn⟩ => ⟨n, fun m hm => evG_le (doCall_le (run_more hm) ro) hn⟩
  refine up ?_
  by_cases hc : ∃ f as, r.o = .call f as
  · obtain ⟨f, as, hr⟩ := hc
    cases hq : oc (f.ev tm) (evs tm as) h with
    | some q =>
      obtain ⟨n, hn⟩ := hs _ _ _ _ hq
      refine ⟨n, ?_⟩
      rw [← e]
      exact (evG_at fun f' as' hr' => by rw [hr] at hr'; cases hr'; rw [hq, hn]).symm
    | none =>
      refine ⟨0, evG_le (oc := fun _ _ _ => none) (fun _ _ _ _ h => by cases h) ?_⟩
      rw [← e]
      exact (evG_at fun f' as' hr' => by rw [hr] at hr'; cases hr'; rw [hq]).symm
  · refine ⟨0, ?_⟩
    rw [← e]
    exact evG_at fun f as hr => absurd ⟨f, as, hr⟩ hc

theorem evOps_sub {oc : Orc} {ro base : Nat} (hs : SubO F md ro oc) : ∀ {l : List G} {tm : List V} {h : List B} {t : List V × List B}, evOps oc ro base l tm h = some t → ∃ n, ∀ m, n ≤ m → evOps (doCall F md ro (run F md m)) ro base l tm h = some t
  | [], tm, h, t, e => ⟨0, fun _ _ => e⟩
  | r :: l, tm, h, t, e => by
    simp only [evOps] at e
    split at e
    · cases e
    · rename_i hq
      obtain ⟨n1, h1⟩ := evG_sub hs hq
      obtain ⟨n2, h2⟩ := evOps_sub hs e
      exact ⟨max n1 n2, fun m hm => by simp only [evOps, h1 m (by omega)]; exact h2 m (by omega)⟩
theorem evDraw_sub {oc : Orc} {ro base : Nat} (hs : SubO F md ro oc) : ∀ {l : List G} {i : Nat} {seen : List (Nat × Fp)} {tm : List V} {h : List B} {t : List V × List B}, evDraw md oc ro base i seen l tm h = some t →
    ∃ n, ∀ m, n ≤ m → evDraw md (doCall F md ro (run F md m)) ro base i seen l tm h = some t
  | [], i, seen, tm, h, t, e => ⟨0, fun _ _ => e⟩
  | r :: l, i, seen, tm, h, t, e => by
    simp only [evDraw] at e
    split at e
    · rename_i hf
      split at e
      · cases e
      · rename_i hq
        obtain ⟨n1, h1⟩ := evG_sub hs hq
        obtain ⟨n2, h2⟩ := evDraw_sub hs e
        exact ⟨max n1 n2, fun m hm => by simp only [evDraw, hf, if_true, h1 m (by omega)]; exact h2 m (by omega)⟩
    · cases e

/-- Functions that are known, by plain functions. -/
def Known (F : Nat → Option Fc) (md : Nat → Nat) (S : Nat → Option (List V → Option V)) : Prop := ∀ f g, S f = some g → ∀ as v, g as = some v → Fun F md f as v

def xCall (S : Nat → Option (List V → Option V)) (F : Nat → Option Fc) (md : Nat → Nat) (ro : Nat) (rn : Nat → MC → St → Option (X × St)) (fv : V) (args : List V) (h : List B) : Option (V × List B) :=
  match fv with
  | .fn f caps => match S f with
    | some g => match mode md (.fn f caps) args with
      | 0 => match views h depth (args ++ caps) with
        | some as => match g as with
          | some v => match blos 0 (args ++ caps) || v.scalar with
            | true => some (v, h)
            | false => none
          | none => none
        | none => none
      | _ => doCall F md ro rn fv args h
    | none => doCall F md ro rn fv args h
  | _ => doCall F md ro rn fv args h
theorem xCall_sub {S : Nat → Option (List V → Option V)} (hS : Known F md S) {rn : Nat → MC → St → Option (X × St)} (hs : Sub F md rn) (ro : Nat) : SubO F md ro (xCall S F md ro rn) := by
  intro fv as h r e
  unfold xCall at e
  split at e
  · rename_i f caps
    split at e
    · rename_i g hg
      split at e
      · rename_i hm
        split at e
        · rename_i as' hv
          split at e
          · rename_i v hgv
            split at e
            · rename_i hb
              cases e
              obtain ⟨v', h', ⟨n, hn⟩, hk⟩ := call_fun (ro := ro) (K := fun v' h' => v' = v ∧ h' = h) hm hv (hS f g hg _ _ hgv) (by simpa using hb) ⟨rfl, rfl⟩
              obtain ⟨rfl, rfl⟩ := hk
              exact ⟨n, hn n (Nat.le_refl _)⟩
            · cases e
          · cases e
        · cases e
      · exact doCall_sub hs ro _ _ _ _ e
    · exact doCall_sub hs ro _ _ _ _ e
  · exact doCall_sub hs ro _ _ _ _ e

noncomputable def xRun (S : Nat → Option (List V → Option V)) (F : Nat → Option Fc) (md : Nat → Nat) (ih : Nat → MC → St → Option (X × St)) (ro : Nat) (c : MC) (st : St) : Option (X × St) :=
  match st with
  | ⟨tm, h⟩ => match c with
    | .skip => some (.nrm, ⟨tm, h⟩)
    | .exit id => some (.exit id, ⟨tm, h⟩)
    | .ret => some (.ret, ⟨tm, h⟩)
    | .reg draw na ops => match (match draw with
        | true => xDraw md (xCall S F md ro ih) ro h.length ops 0 [] tm (if na = 0 then h else h ++ unborns na)
        | false => xOps (xCall S F md ro ih) ro h.length ops tm (if na = 0 then h else h ++ unborns na)) with
      | none => none
      | some (tm, h) => some (.nrm, ⟨tm, h⟩)
    | .seq a b => match ih ro a ⟨tm, h⟩ with
      | some (.nrm, st') => ih ro b st'
      | r => r
    | .cond x a b => match xGet tm x with
      | .bool t => match t with
        | true => ih ro a ⟨tm, h⟩
        | false => ih ro b ⟨tm, h⟩
      | _ => none
    | .block id c => match ih ro c ⟨tm, h⟩ with
      | some (.exit i, st') => if i = id then some (.nrm, st') else some (.exit i, st')
      | r => r
    | .loop c => ih ro (.lp (maskOf tm) h.length c) ⟨tm, h⟩
    | .lp m hl c => match ih ro c ⟨tm, h⟩ with
      | some (.nrm, st') => ih ro (.lp m hl c) (norm m hl st')
      | r => r
    | .rf x ps asg body =>
      match isFn (x.ev tm) (xCall S F md ro ih (x.ev tm) [.yld h.length] (h ++ [.lop true .nrm tm ps asg body])) with
      | none => none
      | some (_, h') => match bget h' h.length with
        | some (.lop r x _ _ _ _) => match pendOf r x with
          | none => none
          | some x => some (x, ⟨tm, bset h' h.length (.lop false .nrm tm ps asg body)⟩)
        | _ => none
noncomputable def runX (S : Nat → Option (List V → Option V)) (F : Nat → Option Fc) (md : Nat → Nat) (n : Nat) : Nat → MC → St → Option (X × St) :=
  Nat.rec (motive := fun _ => Nat → MC → St → Option (X × St)) (fun _ _ _ => none) (fun _ ih => xRun S F md ih) n

theorem runX_sub {S : Nat → Option (List V → Option V)} (hS : Known F md S) : ∀ n, Sub F md (runX S F md n)
  | 0, ro, c, st, r, e => by cases e
  | n + 1, ro, c, st, r, e => by
    have ih := runX_sub hS n
    have ihc := fun ro => xCall_sub hS ih ro
    replace e : xRun S F md (runX S F md n) ro c st = some r := e
    obtain ⟨tm, h⟩ := st
    cases c with
    | skip => exact ⟨1, by rw [run]; exact e⟩
    | exit id => exact ⟨1, by rw [run]; exact e⟩
    | ret => exact ⟨1, by rw [run]; exact e⟩
    | reg draw na ops =>
      cases draw with
      | true =>
        simp only [xRun] at e
        split at e
        · cases e
        · rename_i hq
          obtain ⟨k, hk⟩ := evDraw_sub (ihc ro) ((xDraw_eq _ _ _ _ _ _ _ _ _).symm.trans hq)
          exact ⟨k + 1, by rw [run]; simp only [if_true]; rw [show evDraw md (doCall F md ro (run F md k)) ro h.length 0 [] ops tm (if na = 0 then h else h ++ unborns na) = _ from hk k (Nat.le_refl _)]; exact e⟩
      | false =>
        simp only [xRun] at e
        split at e
        · cases e
        · rename_i hq
          obtain ⟨k, hk⟩ := evOps_sub (ihc ro) ((xOps_eq _ _ _ _ _ _).symm.trans hq)
          exact ⟨k + 1, by rw [run]; simp only [Bool.false_eq_true, if_false]; rw [show evOps (doCall F md ro (run F md k)) ro h.length ops tm (if na = 0 then h else h ++ unborns na) = _ from hk k (Nat.le_refl _)]; exact e⟩
    | seq a b =>
      simp only [xRun] at e
      split at e
      · rename_i st1 h1
        obtain ⟨n1, q1⟩ := ih _ _ _ _ h1
        obtain ⟨n2, q2⟩ := ih _ _ _ _ e
        exact ⟨max n1 n2 + 1, by rw [run]; rw [run_more (Nat.le_max_left n1 n2) _ _ _ _ q1]; exact run_more (Nat.le_max_right n1 n2) _ _ _ _ q2⟩
      · rename_i hne
        obtain ⟨n1, q1⟩ := ih _ _ _ _ e
        refine ⟨n1 + 1, ?_⟩
        rw [run, q1]
        obtain ⟨x, s⟩ := r
        cases x with
        | nrm => exact absurd e (hne _)
        | _ => rfl
    | cond x a b =>
      simp only [xRun, xGet_eq] at e
      split at e
      · rename_i t ht
        cases t with
        | true =>
          obtain ⟨n1, q1⟩ := ih _ _ _ _ e
          exact ⟨n1 + 1, by rw [run]; simp only [ht, if_true]; exact q1⟩
        | false =>
          obtain ⟨n1, q1⟩ := ih _ _ _ _ e
          exact ⟨n1 + 1, by rw [run]; simp only [ht, Bool.false_eq_true, if_false]; exact q1⟩
      · cases e
    | block id c =>
      simp only [xRun] at e
      split at e
      · rename_i i st1 h1
        obtain ⟨n1, q1⟩ := ih _ _ _ _ h1
        exact ⟨n1 + 1, by rw [run, q1]; exact e⟩
      · rename_i hne
        obtain ⟨n1, q1⟩ := ih _ _ _ _ e
        refine ⟨n1 + 1, ?_⟩
        rw [run, q1]
        obtain ⟨x, s⟩ := r
        cases x with
        | exit i => exact absurd e (hne _ _)
        | _ => rfl
    | loop c =>
      obtain ⟨n1, q1⟩ := ih _ _ _ _ e
      exact ⟨n1 + 1, by rw [run]; exact q1⟩
    | lp m hl c =>
      simp only [xRun] at e
      split at e
      · rename_i st1 h1
        obtain ⟨n1, q1⟩ := ih _ _ _ _ h1
        obtain ⟨n2, q2⟩ := ih _ _ _ _ e
        exact ⟨max n1 n2 + 1, by rw [run]; rw [run_more (Nat.le_max_left n1 n2) _ _ _ _ q1]; exact run_more (Nat.le_max_right n1 n2) _ _ _ _ q2⟩
      · rename_i hne
        obtain ⟨n1, q1⟩ := ih _ _ _ _ e
        refine ⟨n1 + 1, ?_⟩
        rw [run, q1]
        obtain ⟨x, s⟩ := r
        cases x with
        | nrm => exact absurd e (hne _)
        | _ => rfl
    | rf x ps asg body =>
      simp only [xRun] at e
      split at e
      · cases e
      · rename_i v h' hq
        unfold isFn at hq
        split at hq
        · rename_i f cs hx
          obtain ⟨n1, q1⟩ := ihc ro _ _ _ _ hq
          refine ⟨n1 + 1, ?_⟩
          rw [run]
          rw [hx] at q1
          simp only [hx, isFn]
          rw [show doCall F md ro (run F md n1) (V.fn f cs) [V.yld h.length] (h ++ [B.lop true X.nrm tm ps asg body]) = _ from q1]
          exact e
        · cases hq

noncomputable def fastX (S : Nat → Option (List V → Option V)) (F : Nat → Option Fc) (md : Nat → Nat) (n f : Nat) (as : List V) : Option V :=
  match F f with
  | none => none
  | some fc => if as.length = fc.np then (match runX S F md n 0 fc.body ⟨as ++ deads (fc.ntm - fc.np), []⟩ with
    | some (.nrm, st) | some (.ret, st) => match result st fc.res with
      | none => none
      | some v => V.view st.h depth v
    | _ => none) else none
theorem fun_x {S : Nat → Option (List V → Option V)} (hS : Known F md S) {n f : Nat} {as : List V} {v : V} (h : fastX S F md n f as = some v) : Fun F md f as v := by
  unfold fastX at h
  split at h
  · cases h
  · rename_i fc hF
    split at h
    · rename_i hl
      split at h
      · rename_i st hr
        split at h
        · cases h
        · rename_i v0 hv
          obtain ⟨k, hk⟩ := runX_sub hS _ _ _ _ _ hr
          exact ⟨fc, hF, hl, k, .nrm, st, v0, fun m hm => run_more hm _ _ _ _ hk, .inl rfl, hv, h⟩
      · rename_i st hr
        split at h
        · cases h
        · rename_i v0 hv
          obtain ⟨k, hk⟩ := runX_sub hS _ _ _ _ _ hr
          exact ⟨fc, hF, hl, k, .ret, st, v0, fun m hm => run_more hm _ _ _ _ hk, .inr rfl, hv, h⟩
      · cases h
    · cases h

mutual
/-- The same value. -/
def veq : V → V → Bool
  | .bool a, .bool b => a == b
  | .int k a, .int k' b => decide (k = k') && decide (a = b)
  | .str a, .str b => a == b
  | .nilp, .nilp | .nilsl, .nilsl | .nilmap, .nilmap | .nilfn, .nilfn | .nilif, .nilif => true
  | .sl c n l, .sl c' n' l' => c == c' && n == n' && veqs l l'
  | .agg l, .agg l' => veqs l l'
  | .tup l, .tup l' => veqs l l'
  | .iface t v, .iface t' v' => t == t' && veq v v'
  | .fn f l, .fn f' l' => f == f' && veqs l l'
  | _, _ => false
def veqs : List V → List V → Bool
  | [], [] => true
  | v :: l, w :: m => veq v w && veqs l m
  | _, _ => false
end
mutual
theorem veq_eq : ∀ {v w : V}, veq v w = true → v = w
  | .bool a, w, h => by cases w <;> simp_all [veq]
  | .int k a, w, h => by cases w <;> simp_all [veq]
  | .str a, w, h => by cases w <;> simp_all [veq]
  | .nilp, w, h => by cases w <;> simp_all [veq]
  | .nilsl, w, h => by cases w <;> simp_all [veq]
  | .nilmap, w, h => by cases w <;> simp_all [veq]
  | .nilfn, w, h => by cases w <;> simp_all [veq]
  | .nilif, w, h => by cases w <;> simp_all [veq]
  | .sl c n l, w, h => by
    cases w <;> simp only [veq, Bool.and_eq_true, beq_iff_eq, Bool.false_eq_true] at h
    rw [h.1.1, h.1.2, veqs_eq h.2]
  | .agg l, w, h => by
    cases w <;> simp only [veq, Bool.false_eq_true] at h
    rw [veqs_eq h]
  | .tup l, w, h => by
    cases w <;> simp only [veq, Bool.false_eq_true] at h
    rw [veqs_eq h]
  | .iface t v, w, h => by
    cases w <;> simp only [veq, Bool.and_eq_true, beq_iff_eq, Bool.false_eq_true] at h
    rw [h.1, veq_eq h.2]
  | .fn f l, w, h => by
    cases w <;> simp only [veq, Bool.and_eq_true, beq_iff_eq, Bool.false_eq_true] at h
    rw [h.1, veqs_eq h.2]
  | .rp _ _, w, h => by cases w <;> simp [veq] at h
  | .ref _ _ _, w, h => by cases w <;> simp [veq] at h
  | .ms _ _ _ _ _ _, w, h => by cases w <;> simp [veq] at h
  | .yld _, w, h => by cases w <;> simp [veq] at h
  | .dead, w, h => by cases w <;> simp [veq] at h
theorem veqs_eq : ∀ {l m : List V}, veqs l m = true → l = m
  | [], [], _ => rfl
  | [], _ :: _, h => by simp [veqs] at h
  | _ :: _, [], h => by simp [veqs] at h
  | v :: l, w :: m, h => by
    simp only [veqs, Bool.and_eq_true] at h
    rw [veq_eq h.1, veqs_eq h.2]
end

noncomputable def isX (S : Nat → Option (List V → Option V)) (F : Nat → Option Fc) (md : Nat → Nat) (n f : Nat) (as : List V) (v : V) : Bool :=
  match fastX S F md n f as with
  | some w => veq w v
  | none => false
/-- What the kernel works out. -/
theorem fun_is {S : Nat → Option (List V → Option V)} (hS : Known F md S) {n f : Nat} {as : List V} {v : V} (h : isX S F md n f as v = true) : Fun F md f as v := by
  unfold isX at h
  split at h
  · rename_i w hw
    rw [← veq_eq h]; exact fun_x hS hw
  · cases h

end Go.Dr
