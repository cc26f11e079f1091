/- The door: the conditions are right. -/
import Derived.Test.YtigcchafpenhiaaDrWp
namespace Go.Dr

def fpP (p : Pl) : Fp :=
  match p.rs, p.w with
  | [], none => .no
  | rs, w => .some rs w
def Done1 (ro : Nat) (h : List B) (op : Option Pl) (K : V → List B → Prop) (fp : Fp) : Prop :=
  ∃ p v h', op = some p ∧ p.go ro h = some (v, h') ∧ K v h' ∧ fpP p = fp

variable {ro : Nat} {h : List B} {K : V → List B → Prop}

theorem RoOk_ok {id : Nat} {P : Prop} (hw : RoOk ro id P) : ro ≤ id ∧ P := by
  unfold RoOk at hw
  split at hw
  · exact ⟨Nat.zero_le _, hw⟩
  · obtain ⟨h1, h2⟩ := hw; exact ⟨h1, h2⟩
theorem wNew_ok {id : Nat} {b : B} {P : List B → Prop} (hw : wNew ro h id b P) : bget h id = some .unborn ∧ ro ≤ id ∧ P (bset h id b) := by
  obtain ⟨h1, ⟨b0, h2, h3⟩⟩ := RoOk_ok hw
  split at h3
  · exact ⟨h2, h1, fB_eq.1 h3⟩
  · exact h3.elim
theorem wRd_ok {id g : Nat} {P : List V → Prop} (hw : wRd h id g P) : ∃ c dat, bget h id = some (.blk c dat) ∧ c.length = g ∧ P c := by
  obtain ⟨b0, h2, h3⟩ := hw
  split at h3
  · obtain ⟨h4, h5⟩ := h3; exact ⟨_, _, h2, h4, h5⟩
  · exact h3.elim
theorem part_one : ∀ {c : List V} {off : Nat} {v : V}, cellAt c off = some v → part c off 1 = some [v]
  | [], _, _, e => by simp [cellAt] at e
  | x :: c, 0, v, e => by simp only [cellAt, Option.some.injEq] at e; subst e; simp [part, take', drop']
  | x :: c, n + 1, v, e => by
    have := part_one (c := c) (off := n) (v := v) (by simpa [cellAt] using e)
    simp only [part, drop'] at this ⊢; exact this
theorem wLoad_ok {agg : Bool} {n off : Nat} {c : List V} {P : V → Prop} (hw : wLoad agg n off c P) : ∃ v, loadFrom agg n off c = some v ∧ P v := by
  unfold wLoad at hw
  split at hw
  · obtain ⟨r, h1, h2⟩ := hw
    exact ⟨.agg r, by simp [loadFrom, h1], fV_eq.1 h2⟩
  · split at hw
    · rename_i hn
      obtain ⟨r, h1, h2⟩ := hw
      exact ⟨r, by simp [loadFrom, hn, part_one h1], h2⟩
    · exact hw.elim
theorem wSrc_ok {es : Nat} {v : V} {P : Nat → List V → Prop} (hw : wSrc es h v P) : ∃ n f bs ys, src es v = some (srcR v, n, f) ∧ bgets h (srcR v) = some bs ∧ f bs = some ys ∧ P n ys := by
  unfold wSrc at hw
  split at hw
  · exact ⟨0, _, [], [], rfl, rfl, rfl, hw⟩
  · obtain ⟨h1, h2⟩ := hw
    exact ⟨_, fun _ => some _, [], _, by simp [src, h1, srcR], rfl, rfl, h2⟩
  · split at hw
    · rename_i hes
      exact ⟨_, fun _ => some _, [], _, by simp [src, hes, srcR], rfl, rfl, hw⟩
    · exact hw.elim
  · split at hw
    · rename_i hes
      obtain ⟨c, dat, h1, h2, ⟨r, h3, h4⟩⟩ := wRd_ok hw
      exact ⟨_, _, [.blk c dat], r, by simp only [src, hes, if_true, srcR]; rfl, by simp [srcR, bgets, h1], by simp [h2, h3], h4⟩
    · exact hw.elim
  · exact hw.elim
theorem wArith_ok {op : BinOp} {k : IntKind} {a b : Int} {P : V → Prop} (hw : wArith op k a b P) : ∃ v, ari op k a b = some v ∧ P v := by
  unfold wArith at hw
  split at hw
  · obtain ⟨h1⟩ := hw; exact ⟨_, rfl, h1 _ rfl⟩
  · obtain ⟨h1⟩ := hw; exact ⟨_, rfl, h1 _ rfl⟩
  · obtain ⟨h1⟩ := hw; exact ⟨_, rfl, h1 _ rfl⟩
  · obtain ⟨h0, ⟨h1⟩⟩ := hw; exact ⟨_, by simp only [ari, h0, if_false], h1 _ rfl⟩
  · obtain ⟨h0, ⟨h1⟩⟩ := hw; exact ⟨_, by simp only [ari, h0, if_false], h1 _ rfl⟩
  · obtain ⟨h1⟩ := hw; exact ⟨_, rfl, h1 _ rfl⟩
  · obtain ⟨h1⟩ := hw; exact ⟨_, rfl, h1 _ rfl⟩
  · obtain ⟨h1⟩ := hw; exact ⟨_, rfl, h1 _ rfl⟩
  · obtain ⟨h1⟩ := hw; exact ⟨_, rfl, h1 _ rfl⟩
  · exact ⟨_, rfl, hw⟩
  · exact ⟨_, rfl, hw⟩
  · exact ⟨_, rfl, hw⟩
  · exact ⟨_, rfl, hw⟩
  · exact ⟨_, rfl, hw⟩
  · exact ⟨_, rfl, hw⟩
  · exact hw.elim
theorem wBin_ok {op : BinOp} {x y : V} {P : V → Prop} (hw : wBin op x y P) : ∃ v, binop op x y = some v ∧ P v := by
  unfold wBin at hw
  split at hw
  · split at hw
    · obtain ⟨h0, ⟨h1⟩⟩ := hw; exact ⟨_, by simp only [binop, shf, Int.not_lt.2 h0, if_false], h1 _ rfl⟩
    · obtain ⟨h0, ⟨h1⟩⟩ := hw; exact ⟨_, by simp only [binop, shf, Int.not_lt.2 h0, if_false], h1 _ rfl⟩
    · rename_i hn1 hn2
      split at hw
      · rename_i hk
        obtain ⟨v, h1, h2⟩ := wArith_ok hw
        refine ⟨v, ?_, h2⟩
        cases op <;> first | (exfalso; exact hn1 rfl) | (exfalso; exact hn2 rfl) | (simp only [binop, hk, if_true]; rw [← hk]; exact h1)
      · exact hw.elim
  · obtain ⟨v, h1, h2⟩ := hw; exact ⟨v, h1, h2⟩
  · exact hw.elim
theorem wMM_ok {mx : Bool} : ∀ {l : List V} {v : V} {P : V → Prop}, wMM mx v l P → ∃ r, maxs mx v l = some r ∧ P r
  | [], v, P, hw => ⟨v, by simp [maxs], by cases v <;> exact hw⟩
  | y :: l, v, P, hw => by
    cases v with
    | int k x => cases y with
      | int k' y =>
        cases mx with
        | true =>
          simp only [wMM] at hw
          split at hw
          · rename_i hk
            subst hk
            obtain ⟨h1⟩ := hw
            obtain ⟨r, h2, h3⟩ := wMM_ok (h1 _ rfl)
            refine ⟨r, ?_, h3⟩
            simp only [maxs, if_true]
            rw [← h2]
            congr 2
            split <;> omega
          · exact hw.elim
        | false =>
          simp only [wMM] at hw
          split at hw
          · rename_i hk
            subst hk
            obtain ⟨h1⟩ := hw
            obtain ⟨r, h2, h3⟩ := wMM_ok (h1 _ rfl)
            refine ⟨r, ?_, h3⟩
            simp only [maxs, if_true, Bool.false_eq_true, if_false]
            rw [← h2]
            congr 2
            split <;> omega
          · exact hw.elim
      | _ => simp [wMM] at hw
    | _ => simp [wMM] at hw
theorem wIdxO_ok {m d : Nat} {v : Option V} {P : Nat → Prop} (hw : wIdxO m d v P) : ∃ j, nato m d v = some j ∧ P j := by
  unfold wIdxO at hw
  split at hw
  · exact ⟨_, rfl, hw⟩
  · obtain ⟨j, h1, h2⟩ := hw; exact ⟨j, h1, h2⟩

theorem D_val {v : V} (hk : K v h) : Done1 ro h (some (.val v)) K .no := ⟨_, v, h, rfl, rfl, hk, rfl⟩
theorem D_new {id : Nat} {v : V} {b : B} (hw : wNew ro h id b fun h => K v h) : Done1 ro h (some (.new id v b)) K (.some [id] (some id)) := by
  obtain ⟨h1, h2, h3⟩ := wNew_ok hw
  exact ⟨_, v, _, rfl, by simp [Pl.go, Pl.new, bgets, h1, h2], h3, rfl⟩
theorem D_rd {id g : Nat} {k : List V → Option V} (hw : wRd h id g fun c => ∃ v, k c = some v ∧ K v h) : Done1 ro h (some (.rd id g k)) K (.some [id] none) := by
  obtain ⟨c, dat, h1, h2, v, h3, h4⟩ := wRd_ok hw
  exact ⟨_, v, h, rfl, by simp [Pl.go, Pl.rd, bgets, h1, h2, h3], h4, rfl⟩
theorem D_val' {o : Option V} {v : V} (ho : o = some v) (hk : K v h) : Done1 ro h (val? o) K .no := by subst ho; exact D_val hk

theorem wRd_mono {id g : Nat} {P Q : List V → Prop} (hw : wRd h id g P) (hpq : ∀ c, P c → Q c) : wRd h id g Q := by
  obtain ⟨b, h1, h2⟩ := hw
  refine ⟨b, h1, ?_⟩
  split at h2
  · obtain ⟨h3, h4⟩ := h2; exact ⟨h3, hpq _ h4⟩
  · exact h2.elim

theorem appNew_ok {id es bytes len n : Nat} {dat : Bool} {cs ys : List V} (hw : wAppNew ro id es bytes dat len n cs ys h K) :
    bget h id = some .unborn ∧ ro ≤ id ∧ ∃ v b, appNew id es bytes dat len n cs ys = some (v, some b) ∧ K v (bset h id b) := by
  obtain ⟨h1, ⟨h2, h3⟩⟩ := hw
  obtain ⟨q1, q2, q3⟩ := wNew_ok h3
  refine ⟨q1, q2, _, _, ?_, q3⟩
  unfold appNew
  rw [if_pos]
  have : (!dat || scalars (cs ++ ys)) = true := by
    cases dat with
    | false => rfl
    | true => simpa using h2 rfl
  rw [this]; simpa using h1

theorem bgets_cons_mk {i : Nat} {l : List Nat} {b : B} {bs : List B} (h1 : bget h i = some b) (h2 : bgets h l = some bs) : bgets h (i :: l) = some (b :: bs) := by simp [bgets, h1, h2]

theorem wop_app {base k es bytes : Nat} {dat : Bool} {x y : V} (hes : ¬ es = 0) (hw : wSrc es h y fun n ys => match x with
    | .nilsl => Req (bget h (base + k) = some .unborn) (Ifz n (K .nilsl h) (wAppNew ro (base + k) es bytes dat 0 n [] ys h K))
    | .sl true len cs => Req (cs.length = len * es ∧ bget h (base + k) = some .unborn) (Ifz n (K (.sl true len cs) h) (wAppNew ro (base + k) es bytes dat len n cs ys h K))
    | .sl false len cs => Req (n = 0) (K (.sl false len cs) h)
    | .ms es' i g off len true => if es' = es then Req (bget h (base + k) = some .unborn) (wRd h i g fun c => Ifz n (K (.ms es i g off len true) h) (Get (part c off (len * es)) fun cs => wAppNew ro (base + k) es bytes dat len n cs ys h K)) else False
    | .ms es' i g off len false => if es' = es then Get (bget h i) fun
      | .blk c dt => Req (c.length = g) (Ifz n (K (.ms es i g off len false) h) (Req (off + len * es = g ∧ (c.length + ys.length) * (bytes + 1) < big) (Req (dt = true → scalars ys = true)
          (RoOk ro i (fB (bset h i (.blk (c ++ ys) dt)) fun h => K (.ms es i (g + ys.length) off (len + n) false) h)))))
      | _ => False else False
    | _ => False) : Done1 ro h (planApp (base + k) es bytes dat x y) K (fpApp (base + k) x y) := by
  obtain ⟨n, f, bs, ys, s1, s2, s3, hw⟩ := wSrc_ok hw
  unfold planApp
  simp only [s1]
  split at hw
  · obtain ⟨hu, hi⟩ := hw
    obtain ⟨h1, h2⟩ := hi
    by_cases hn : n = 0
    · exact ⟨_, .nilsl, h, rfl, by simp only [Pl.go, bgets_cons_mk hu s2, s3, hn, if_true], h1 hn, rfl⟩
    · obtain ⟨q1, q2, v, b, q3, q4⟩ := appNew_ok (h2 hn)
      exact ⟨_, v, _, rfl, by simp only [Pl.go, bgets_cons_mk hu s2, s3, hn, if_false, q3, q2, if_true], q4, rfl⟩
  · obtain ⟨⟨hc, hu⟩, hi⟩ := hw
    obtain ⟨h1, h2⟩ := hi
    simp only [hc, if_true]
    by_cases hn : n = 0
    · exact ⟨_, _, h, rfl, by simp only [Pl.go, bgets_cons_mk hu s2, s3, hn, if_true], h1 hn, rfl⟩
    · obtain ⟨q1, q2, v, b, q3, q4⟩ := appNew_ok (h2 hn)
      exact ⟨_, v, _, rfl, by simp only [Pl.go, bgets_cons_mk hu s2, s3, hn, if_false, q3, q2, if_true], q4, rfl⟩
  · obtain ⟨hn, h1⟩ := hw
    simp only [hn, if_true]
    refine ⟨_, _, h, rfl, by simp only [Pl.go, s2, s3], h1, ?_⟩
    cases y <;> rfl
  · rename_i es' i g off len
    split at hw
    · rename_i he
      obtain ⟨hu, hw⟩ := hw
      obtain ⟨c, dt, h1, h2, ⟨h3, h4⟩⟩ := wRd_ok hw
      simp only [he, if_true]
      by_cases hn : n = 0
      · exact ⟨_, _, h, rfl, by simp only [Pl.go, bgets_cons_mk hu (bgets_cons_mk h1 s2), s3, h2, if_true, hn], h3 hn, rfl⟩
      · obtain ⟨cs, hcs, h5⟩ := h4 hn
        obtain ⟨q1, q2, v, b, q3, q4⟩ := appNew_ok h5
        exact ⟨_, v, _, rfl, by simp only [Pl.go, bgets_cons_mk hu (bgets_cons_mk h1 s2), s3, h2, if_true, hn, if_false, hcs, q3, q2], q4, rfl⟩
    · exact hw.elim
  · rename_i es' i g off len
    split at hw
    · rename_i he
      obtain ⟨b, h1, h2⟩ := hw
      simp only [he, if_true]
      split at h2
      · obtain ⟨h3, ⟨h4, h5⟩⟩ := h2
        by_cases hn : n = 0
        · exact ⟨_, _, h, rfl, by simp only [Pl.go, bgets_cons_mk h1 s2, s3, h3, if_true, hn], h4 hn, rfl⟩
        · obtain ⟨⟨h6, h7⟩, ⟨h8, h9⟩⟩ := h5 hn
          obtain ⟨h10, h11⟩ := RoOk_ok h9
          refine ⟨_, _, _, rfl, ?_, fB_eq.1 h11, rfl⟩
          rename_i c dt
          have hd : (!dt || scalars ys) = true := by
            cases dt with
            | false => rfl
            | true => simpa using h8 rfl
          simp only [Pl.go, bgets_cons_mk h1 s2, s3, h3, if_true, hn, if_false]
          rw [if_pos (by rw [hd]; simp only [Bool.and_true, decide_eq_true_eq, Bool.and_eq_true, beq_iff_eq]; rw [← h3]; exact ⟨by omega, h7⟩)]
          simp only [h10, if_true]
      · exact h2.elim
    · exact hw.elim
  · exact hw.elim

theorem take'_take (n : Nat) (l : List V) : take' n l = l.take n := by
  induction n generalizing l with
  | zero => simp [take']
  | succ n ih => cases l <;> simp [take', ih]

theorem wop_cpy {es : Nat} {x y : V} (hw : wSrc es h y fun n ys => match x with
    | .nilsl => K (.int .i64 0) h
    | .ms es' i g off len _ => if es' = es then Get (bget h i) fun
      | .blk c dt => Req (c.length = g ∧ off + len * es ≤ g) (Req ((dt = true → scalars (ys.take (min n len * es)) = true) ∧ ones (ys.take (min n len * es)) = true)
          (RoOk ro i (fB (bset h i (.blk (over c off (ys.take (min n len * es))) dt)) fun h => K (.int .i64 (min n len : Nat)) h)))
      | _ => False else False
    | _ => False) : Done1 ro h (planCpy es x y) K (fpCpy x y) := by
  obtain ⟨n, f, bs, ys, s1, s2, s3, hw⟩ := wSrc_ok hw
  unfold planCpy
  simp only [s1]
  split at hw
  · refine ⟨_, _, h, rfl, by simp only [Pl.go, s2, s3], hw, ?_⟩
    cases y <;> rfl
  · rename_i es' i g off len clip _
    split at hw
    · rename_i he
      obtain ⟨b, h1, h2⟩ := hw
      simp only [he, if_true]
      split at h2
      · obtain ⟨⟨h3, h4⟩, ⟨⟨h5, h6⟩, h7⟩⟩ := h2
        obtain ⟨h10, h11⟩ := RoOk_ok h7
        refine ⟨_, _, _, rfl, ?_, fB_eq.1 h11, rfl⟩
        rename_i c dt
        simp only [Pl.go, bgets_cons_mk h1 s2, s3, take'_take]
        have hd : (!dt || scalars (ys.take (min n len * es))) = true := by
          cases dt with
          | false => rfl
          | true => simpa using h5 rfl
        rw [if_pos (by rw [hd, h6, h3]; simpa using h4)]
        simp only [h10, if_true]
      · exact h2.elim
    · exact hw.elim
  · exact hw.elim

theorem nat?_lt {m j : Nat} {v : V} (h : nat? m v = some j) : j ≤ m := by
  unfold nat? at h
  split at h
  · split at h
    · rename_i h1; simp only [Option.some.injEq] at h; omega
    · cases h
  · cases h

theorem cellAt_tg : ∀ {l : List V} {i : Nat} {v : V}, cellAt l i = some v → i < l.length ∧ tg l i = v
  | [], _, _, e => by simp [cellAt] at e
  | x :: l, 0, v, e => by simp only [cellAt, Option.some.injEq] at e; subst e; exact ⟨by simp, rfl⟩
  | x :: l, n + 1, v, e => by
    obtain ⟨h1, h2⟩ := cellAt_tg (l := l) (i := n) (by simpa [cellAt] using e)
    exact ⟨by simp; omega, by simpa [tg] using h2⟩

variable {F : Nat → Option Fc} {md : Nat → Nat} {base : Nat} {tm : List V}

theorem wop_ok : ∀ (o : M), (∀ f as, o ≠ .call f as) → wop F md ro base tm h o K → Done1 ro h (plan base tm o) K (fpM base tm o) := by
  intro o hn hw
  cases o with
  | call f as => exact absurd rfl (hn f as)
  | mv x => exact D_val hw
  | pk c a b =>
    simp only [wop] at hw
    simp only [plan, fpM]
    generalize c.ev tm = vc at hw ⊢
    cases vc <;> try exact hw.elim
    obtain ⟨h1, h2⟩ := hw
    rename_i t
    cases t with
    | true => exact D_val (h1 rfl)
    | false => exact D_val (h2 rfl)
  | al k z => exact D_new hw
  | bx k x =>
    have hw := fLv_eq.1 (fC_eq.1 hw)
    obtain ⟨h1, h2⟩ := hw
    simp only [Nat.zero_add] at h2
    simp only [plan, h1, if_true]
    exact D_new h2
  | bd z ps =>
    obtain ⟨cs, h1, h2⟩ := hw
    exact D_val' (by simp [h1]) (fC_eq.1 h2)
  | bs len z ps =>
    obtain ⟨cs, h1, ⟨h2, h3⟩⟩ := hw
    simp only [plan, h1, h2, if_true]
    exact D_val (fC_eq.1 h3)
  | ld agg n x =>
    simp only [wop] at hw
    simp only [plan, fpM]
    generalize x.ev tm = vx at hw ⊢
    cases vx <;> try exact hw.elim
    · obtain ⟨v, h1, h2⟩ := wLoad_ok hw
      exact D_val' h1 h2
    · exact D_rd (wRd_mono hw fun c hc => wLoad_ok hc)
  | st n a x =>
    simp only [wop] at hw
    simp only [plan, fpM]
    generalize a.ev tm = va at hw ⊢
    cases va <;> try exact hw.elim
    rename_i id g off
    obtain ⟨⟨h1, h2⟩, h3⟩ := fC_eq.1 hw
    obtain ⟨h4, ⟨b, h5, h6⟩⟩ := RoOk_ok h3
    cases b <;> try exact h6.elim
    rename_i c dat
    obtain ⟨⟨h7, h8⟩, ⟨h9, h10⟩⟩ := h6
    have h11 := fB_eq.1 (fV_eq.1 h10)
    have hd : (!dat || scalars (x.ev tm).cells) = true := by
      cases dat with
      | false => rfl
      | true => simpa using h9 rfl
    simp only [h1, h2, decide_true, Bool.and_self, if_true]
    refine ⟨Pl.wr id g (x.ev tm).cells fun c => if off + n ≤ c.length then some (.dead, over c off (x.ev tm).cells) else none, _, _, rfl, ?_, h11, rfl⟩
    simp only [Pl.go, Pl.wr, bgets, h5, h7, hd, decide_true, Bool.and_self, if_true]
    rw [h7] at h8
    simp only [h8, if_true, Option.map_some, h4]
  | nc x =>
    simp only [wop] at hw
    simp only [plan, fpM]
    generalize x.ev tm = vx at hw ⊢
    cases vx <;> first | exact hw.elim | exact D_val hw
  | bo op x y =>
    simp only [wop] at hw
    obtain ⟨v, h1, h2⟩ := wBin_ok hw
    exact D_val' h1 h2
  | eqv neg kd x y =>
    obtain ⟨e, h1, h2⟩ := hw
    simp only [plan, h1, fpM]
    cases neg <;> exact D_val h2
  | eqs neg ks x y =>
    simp only [wop] at hw
    simp only [plan, fpM]
    generalize x.ev tm = vx at hw ⊢
    generalize y.ev tm = vy at hw ⊢
    cases vx <;> try exact hw.elim
    cases vy <;> try exact hw.elim
    obtain ⟨e, h1, h2⟩ := hw
    simp only [h1]
    cases neg <;> exact D_val h2
  | un op x =>
    simp only [wop] at hw
    simp only [plan, fpM]
    generalize x.ev tm = vx at hw ⊢
    split at hw
    · obtain ⟨h1⟩ := hw
      exact D_val' rfl (h1 _ rfl)
    · exact D_val' rfl hw
    · obtain ⟨v, h1, h2⟩ := hw
      exact D_val' h1 h2
  | ci k x =>
    simp only [wop] at hw
    simp only [plan, fpM]
    generalize x.ev tm = vx at hw ⊢
    cases vx <;> try exact hw.elim
    obtain ⟨h1⟩ := hw
    exact D_val (h1 _ rfl)
  | cs x =>
    simp only [wop] at hw
    simp only [plan, fpM]
    generalize x.ev tm = vx at hw ⊢
    cases vx <;> try exact hw.elim
    exact D_val hw
  | bts x =>
    simp only [wop] at hw
    simp only [plan, fpM]
    generalize x.ev tm = vx at hw ⊢
    have key : wSrc 1 h vx (fun _ cs => Get (bytesOf cs) fun s => K (.str s) h) → (∀ s, vx ≠ .str s) → Done1 ro h (match src 1 vx with
        | some (rs, _, f) => match vx with
          | .str _ => none
          | _ => some ⟨rs, none, fun bs => match f bs with
            | none => none
            | some cs => match bytesOf cs with
              | none => none
              | some s => some (.str s, none)⟩
        | none => none) K (match vx with
        | .ms _ id _ _ _ _ => .some [id] none
        | _ => .no) := by
      intro hw hns
      obtain ⟨n, f, bs, ys, s1, s2, s3, ⟨s, h1, h2⟩⟩ := wSrc_ok hw
      simp only [s1]
      have : Done1 ro h (some ⟨srcR vx, none, fun bs => match f bs with
          | none => none
          | some cs => match bytesOf cs with
            | none => none
            | some s => some (.str s, none)⟩) K (match vx with
        | .ms _ id _ _ _ _ => .some [id] none
        | _ => .no) := by
        refine ⟨_, _, h, rfl, by simp only [Pl.go, s2, s3, h1], h2, ?_⟩
        cases vx <;> rfl
      cases vx <;> first | exact absurd rfl (hns _) | exact this
    cases vx <;> first | exact hw.elim | exact key hw (by simp)
  | stb x =>
    simp only [wop] at hw
    simp only [plan, fpM]
    generalize x.ev tm = vx at hw ⊢
    cases vx <;> try exact hw.elim
    obtain ⟨h1, h2⟩ := hw
    simp only [h1, if_true]
    exact D_val h2
  | mi t x =>
    simp only [wop] at hw
    exact D_val (fW_eq.1 hw)
  | mf f cs =>
    simp only [wop] at hw
    exact D_val (fEvs_eq.1 hw)
  | mk k es bytes dat z len cap =>
    obtain ⟨c, h1, ⟨l, h2, ⟨h3, ⟨⟨h4, h5⟩, h6⟩⟩⟩⟩ := hw
    simp only [plan, h1, h2, fpM]
    have hd : (!dat || scalars z) = true := by
      cases dat with
      | false => rfl
      | true => simpa using h5 rfl
    rw [if_pos (by rw [hd]; simp [h3, h4])]
    exact D_new h6
  | ss es x lo hi mx =>
    simp only [wop] at hw
    simp only [plan, fpM]
    generalize x.ev tm = vx at hw ⊢
    cases vx <;> try exact hw.elim
    · obtain ⟨a, h1, hw⟩ := wIdxO_ok hw
      obtain ⟨b, h2, hw⟩ := wIdxO_ok hw
      obtain ⟨c, h3, hw⟩ := wIdxO_ok hw
      simp only [h1, h2, h3]
      exact D_val hw
    · obtain ⟨a, h1, hw⟩ := wIdxO_ok hw
      obtain ⟨b, h2, hw⟩ := wIdxO_ok hw
      obtain ⟨c, h3, hw⟩ := wIdxO_ok hw
      obtain ⟨r, h4, hw⟩ := hw
      simp only [h1, h2, h3, h4]
      exact D_val hw
    · simp only at hw
      split at hw
      · rename_i he
        obtain ⟨a, h1, hw⟩ := wIdxO_ok hw
        obtain ⟨b, h2, hw⟩ := wIdxO_ok hw
        obtain ⟨c, h3, hw⟩ := wIdxO_ok hw
        simp only [he, if_true, h1, h2, h3]
        exact D_val hw
      · exact hw.elim
  | sst x lo hi =>
    simp only [wop] at hw
    simp only [plan, fpM]
    generalize x.ev tm = vx at hw ⊢
    cases vx <;> try exact hw.elim
    obtain ⟨b, h2, hw⟩ := wIdxO_ok hw
    obtain ⟨c, h3, hw⟩ := wIdxO_ok hw
    simp only [h2, h3]
    exact D_val hw
  | sa es n x lo hi mx =>
    simp only [wop] at hw
    obtain ⟨a, h1, hw⟩ := wIdxO_ok hw
    obtain ⟨b, h2, hw⟩ := wIdxO_ok hw
    obtain ⟨c, h3, hw⟩ := wIdxO_ok hw
    simp only [plan, fpM, h1, h2, h3]
    generalize x.ev tm = vx at hw ⊢
    cases vx <;> try exact hw.elim
    · obtain ⟨r, h4, hw⟩ := hw
      simp only [h4]
      exact D_val hw
    · obtain ⟨cc, dat, h4, h5, ⟨h6, h7⟩⟩ := wRd_ok hw
      refine ⟨_, _, h, rfl, ?_, h7, rfl⟩
      simp [Pl.go, bgets, h4, h5, h6]
  | fa off x =>
    simp only [wop] at hw
    simp only [plan, fpM]
    generalize x.ev tm = vx at hw ⊢
    cases vx <;> first | exact hw.elim | exact D_val hw
  | fd off agg n x =>
    simp only [wop] at hw
    simp only [plan, fpM]
    generalize x.ev tm = vx at hw ⊢
    cases vx <;> try exact hw.elim
    obtain ⟨v, h1, h2⟩ := wLoad_ok hw
    exact D_val' h1 h2
  | ia es x i =>
    simp only [wop] at hw
    simp only [plan, fpM]
    generalize x.ev tm = vx at hw ⊢
    cases vx <;> try exact hw.elim
    · rename_i clip len cs
      obtain ⟨h0, ⟨j, h1, h2⟩⟩ := hw
      cases len with
      | zero => omega
      | succ m =>
        simp only [Nat.add_sub_cancel] at h1
        simp only [h1]
        exact D_val h2
    · rename_i es' id g off len clip
      obtain ⟨h0, ⟨j, h1, h2⟩⟩ := hw
      cases len with
      | zero => omega
      | succ m =>
        simp only [Nat.add_sub_cancel] at h1
        simp only [h1]
        exact D_val h2
  | iaa es n x i =>
    simp only [wop] at hw
    simp only [plan, fpM]
    cases n with
    | zero => exact hw.elim
    | succ m =>
      obtain ⟨j, h1, h2⟩ := hw
      simp only [h1]
      generalize x.ev tm = vx at h2 ⊢
      cases vx <;> first | exact h2.elim | exact D_val h2
  | ixs x i =>
    simp only [wop] at hw
    simp only [plan, fpM]
    generalize x.ev tm = vx at hw ⊢
    cases vx <;> try exact hw.elim
    obtain ⟨j, h1, ⟨b, h2, h3⟩⟩ := hw
    simp only [h1, h2]
    exact D_val h3
  | ixa es n agg x i =>
    simp only [wop] at hw
    simp only [plan, fpM]
    cases n with
    | zero => exact hw.elim
    | succ m =>
      obtain ⟨j, h1, h2⟩ := hw
      simp only [h1]
      generalize x.ev tm = vx at h2 ⊢
      cases vx <;> try exact h2.elim
      obtain ⟨v, h3, h4⟩ := wLoad_ok h2
      exact D_val' h3 h4
  | ta t ok z x =>
    simp only [wop] at hw
    simp only [plan, fpM]
    generalize x.ev tm = vx at hw ⊢
    cases vx <;> try exact hw.elim
    · cases ok with
      | true => exact D_val hw
      | false => exact hw.elim
    · simp only at hw ⊢
      split at hw
      · rename_i hu
        simp only [hu, if_true]
        cases ok <;> exact D_val hw
      · rename_i hu
        simp only [hu, if_false]
        cases ok with
        | true => exact D_val hw
        | false => exact hw.elim
  | ex x i =>
    simp only [wop] at hw
    simp only [plan, fpM]
    generalize x.ev tm = vx at hw ⊢
    cases vx <;> try exact hw.elim
    obtain ⟨v, h1, h2⟩ := hw
    obtain ⟨h3, h4⟩ := cellAt_tg h1
    simp only [h3, if_true, h4]
    exact D_val h2
  | len st x =>
    simp only [wop] at hw
    simp only [plan, fpM]
    generalize x.ev tm = vx at hw ⊢
    cases st <;> cases vx <;> first | exact hw.elim | exact D_val hw
  | app k es bytes dat x y =>
    simp only [wop] at hw
    simp only [plan, fpM]
    split at hw
    · exact hw.elim
    · rename_i hes
      simp only [hes, if_false]
      exact wop_app hes hw
  | cpy es x y =>
    simp only [wop] at hw
    simp only [plan, fpM]
    split at hw
    · exact hw.elim
    · rename_i hes
      simp only [hes, if_false]
      exact wop_cpy hw
  | mm mx xs =>
    simp only [wop] at hw
    simp only [plan, fpM]
    generalize evs tm xs = vs at hw ⊢
    cases vs with
    | nil => exact hw.elim
    | cons v l =>
      obtain ⟨r, h1, h2⟩ := wMM_ok hw
      exact D_val' h1 h2
  | pn => exact hw.elim

end Go.Dr
