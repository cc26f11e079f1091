/- The door: single operations, twelfth part: the builtins. -/
import Derived.Test.YtigcchafpenhiaaDrOpB
namespace Go.Dr
open Go.RowKit (Below)

variable {P : Program} {k : K} {tm : List V} {ρ : Operand → Value} {o : Oper} {j base ro : Nat} {m : M} {p : Pl} {v : V} {h' : List B}

theorem exec_builtin {b : Builtin} {args : Array Operand} {ts : Array TypeId} (ho : o.op = .call ⟨.builtin b, args, ts⟩) (w : World) :
    (execOp ρ o).run P w = (Go.builtin b ts o.type (args.map fun | .const _ => true | _ => false) (args.map ρ)).run P w := by
  simp only [execOp, ho, resolve, Sem.run_bind, Sem.run_pure, Result.andThen_ok, invoke]
  rfl

theorem put_new (g : Good P k) {id : Nat} {es bytes len n : Nat} {dat : Bool} {cs ys : List V} {r : V × Option B} {xs zs : List Value} (hid : bget k.h id = some .unborn) (hro : ro ≤ id) (hes : es ≠ 0)
    (ha : appNew id es bytes dat len n cs ys = some r) (hcs : RL k cs xs) (hys : RL k ys zs) (h1 : ones cs = true) (h2 : ones ys = true) (hlc : cs.length = len * es) (hly : ys.length = n * es)
    {rest : List Value} {T : TypeId} {nc : Nat} (hnc : len + n ≤ nc) (hrest : rest.length = (nc - (len + n)) * es) {w' : World} (hw : w'.heap = k.w.heap.push (.cells ⟨xs ++ zs ++ rest⟩ T (0, 0))) (hos : w'.os = k.w.os) (hta : w'.tape = k.w.tape) (hou : w'.output = k.w.output) :
    ∃ vv b, r = (vv, some b) ∧ ∃ k', k'.h = bset k.h id b ∧ k'.w = w' ∧ Good P k' ∧ Ev ro k.h.length k k' ∧ R k' vv (.slice (some ⟨k.w.heap.size, 0, none⟩) (len + n) nc) := by
  unfold appNew at ha
  split at ha <;> (try (cases ha; done))
  rename_i hcond
  simp only [Bool.and_eq_true, decide_eq_true_eq, Bool.or_eq_true, Bool.not_eq_true'] at hcond
  cases ha
  obtain ⟨g1, e1⟩ := born (ro := ro) (dat := dat) (rest := rest) (T := T) g hid hro (RL.append hcs hys) (by rw [ones_append, h1, h2]; rfl) (fun hd => by rcases hcond.2 with h | h; (rw [hd] at h; cases h); exact h) hw hos hta hou
  refine ⟨_, _, rfl, _, rfl, rfl, g1, e1, ?_⟩
  simp only [R]
  have hsz : (⟨xs ++ zs ++ rest⟩ : Array Value).size = nc * es := by
    have a1 := RL.len hcs
    have a2 := RL.len hys
    simp only [List.size_toArray, List.length_append, a1, a2, hlc, hly, hrest]
    rw [← Nat.add_mul, ← Nat.add_mul]; congr 1; omega
  refine ⟨k.w.heap.size, 0, nc, cs ++ ys, dat, rfl, by simp only [K.set, bget_bset, bget_lt hid, and_self, if_true], by simp, hnc, by simp, fun _ => ⟨by rw [hlc, hly, ← Nat.add_mul]; omega, by simp [K.set], fun _ => ⟨by simp [K.set], by simp [K.set], fun _ _ _ => ?_⟩⟩⟩
  have hnew : w'.heap[k.w.heap.size]? = some (.cells ⟨xs ++ zs ++ rest⟩ T (0, 0)) := by rw [hw]; simp
  simp only [rowSize, K.set, hnew, hsz, Nat.zero_add]

theorem storeCells_nil (a : Addr) (w : World) : (storeCells a []).run P w = .ok () w := by simp [storeCells]

theorem src_ones (g : Good P k) {es : Nat} {x : V} {x' : Value} (hx : R k x x') {rs : List Nat} {n : Nat} {f : List B → Option (List V)} (hs : src es x = some (rs, n, f)) {bs : List B} (hb : bgets k.h rs = some bs) {ys : List V} (hf : f bs = some ys) : ones ys = true := by
  unfold src at hs
  split at hs
  · cases hs; cases hf; rfl
  · split at hs <;> (try (cases hs; done))
    cases hs; cases hf
    simp only [R] at hx
    rcases hx with ⟨a, rfl, rfl, rfl⟩ | ⟨b, off, cap, vs, rfl, h1, h3, h4, h5, h6, h7⟩
    · rfl
    exact h5.1
  · split at hs <;> (try (cases hs; done))
    cases hs; cases hf; exact (ofBytes_pure _).1
  · split at hs <;> (try (cases hs; done))
    cases hs
    simp only [R] at hx
    obtain ⟨b, o', cap, c, dat, rfl, hbk, _⟩ := hx
    simp only [bgets, hbk] at hb
    cases hb
    simp only at hf
    split at hf <;> (try (cases hf; done))
    obtain ⟨rfl, _⟩ := part_some hf
    exact ones_take (ones_drop (g.blk _ _ _ hbk).2.2.1 _) _
  · cases hs

/-- What is known of every slice that is only read. -/
theorem sl_shape {clip : Bool} {len : Nat} {cs : List V} {x : Value} (h : R k (.sl clip len cs) x) : ∃ a cap, x = .slice a len cap ∧ V.pure cs ∧ len ≤ cap ∧ (clip = true → cap = len) := by
  simp only [R] at h
  rcases h with ⟨a, rfl, rfl, rfl⟩ | ⟨b, off, cap, vs, rfl, h1, h3, h4, h5, h6, h7⟩
  · exact ⟨a, 0, rfl, ⟨rfl, rfl⟩, Nat.le_refl _, fun _ => rfl⟩
  · exact ⟨_, cap, rfl, h5, h6, h7⟩

/-- The plan of an append that reads 'rs', and writes at most one block. -/
theorem Pl.go_cases {ro : Nat} {h : List B} {p : Pl} (e : p.go ro h = some (v, h')) : ∃ bs, bgets h p.rs = some bs ∧ ((p.f bs = some (v, none) ∧ h' = h) ∨ ∃ b id, p.f bs = some (v, some b) ∧ p.w = some id ∧ ro ≤ id ∧ h' = bset h id b) := by
  unfold Pl.go at e
  split at e <;> (try (cases e; done))
  rename_i bs hbs
  split at e <;> (try (cases e; done))
  · cases e; exact ⟨bs, hbs, .inl ⟨by assumption, rfl⟩⟩
  · rename_i v1 b1 hf
    split at e <;> (try (cases e; done))
    rename_i id hw
    split at e <;> (try (cases e; done))
    rename_i hro
    cases e
    exact ⟨bs, hbs, .inr ⟨b1, id, hf, hw, hro, rfl⟩⟩

theorem bgets_cons {h : List B} {i : Nat} {l : List Nat} {bs : List B} (e : bgets h (i :: l) = some bs) : ∃ b r, bs = b :: r ∧ bget h i = some b ∧ bgets h l = some r := by
  unfold bgets at e
  split at e <;> (try (cases e; done))
  rename_i b hb
  split at e <;> (try (cases e; done))
  rename_i r hr
  cases e; exact ⟨b, r, rfl, hb, hr⟩

theorem args2 (ht : Ops k tm ρ) {args : Array Operand} {x y : O} (h : cOs args.toList = some [x, y]) : ∃ a b, args.map ρ = #[ρ a, ρ b] ∧ R k (x.ev tm) (ρ a) ∧ R k (y.ev tm) (ρ b) := by
  obtain ⟨l⟩ := args
  match l, h with
  | [], h => simp [cOs] at h
  | [a], h => simp only [cOs] at h; split at h <;> simp at h
  | [a, b], h =>
    simp only [cOs] at h
    split at h <;> (try (cases h; done))
    rename_i x' hx
    split at h <;> (try (cases h; done))
    rename_i r hr
    split at hr <;> (try (cases hr; done))
    rename_i y' hy
    cases hr; cases h
    exact ⟨a, b, by simp, ht.1 _ _ hx, ht.1 _ _ hy⟩
  | a :: b :: c :: l, h =>
    simp only [cOs] at h
    split at h <;> (try (cases h; done))
    split at h <;> (try (cases h; done))
    rename_i r hr
    split at hr <;> (try (cases hr; done))
    split at hr <;> (try (cases hr; done))
    rename_i r2 hr2
    split at hr2 <;> (try (cases hr2; done))
    split at hr2 <;> (try (cases hr2; done))
    cases hr2; cases hr; cases h

theorem args1 (ht : Ops k tm ρ) {args : Array Operand} {x : O} (h : cOs args.toList = some [x]) : ∃ a, args.map ρ = #[ρ a] ∧ R k (x.ev tm) (ρ a) := by
  obtain ⟨l⟩ := args
  match l, h with
  | [], h => simp [cOs] at h
  | [a], h =>
    simp only [cOs] at h
    split at h <;> (try (cases h; done))
    rename_i x' hx
    cases h
    exact ⟨a, by simp, ht.1 _ _ hx⟩
  | a :: b :: l, h =>
    simp only [cOs] at h
    split at h <;> (try (cases h; done))
    split at h <;> (try (cases h; done))
    rename_i r hr
    split at hr <;> (try (cases hr; done))
    split at hr <;> (try (cases hr; done))
    cases hr; cases h

theorem appNew_w {id es bytes len n : Nat} {dat : Bool} {cs ys : List V} {v : V} (h : appNew id es bytes dat len n cs ys = some (v, none)) : False := by
  unfold appNew at h; split at h <;> simp at h

theorem appNew_bound {id es bytes len n : Nat} {dat : Bool} {cs ys : List V} {r : V × Option B} (h : appNew id es bytes dat len n cs ys = some r) : (cs.length + ys.length) * (bytes + 1) < big := by
  unfold appNew at h
  split at h <;> (try (cases h; done))
  rename_i hcond
  simp only [Bool.and_eq_true, decide_eq_true_eq] at hcond
  exact hcond.1

theorem src_ms {es i gg off len : Nat} {clip dat : Bool} {c cs : List V} (hg : c.length = gg) (hp : part c off (len * es) = some cs) : ∃ f, src es (.ms es i gg off len clip) = some ([i], len, f) ∧ f [.blk c dat] = some cs :=
  ⟨_, by simp only [src, if_true]; rfl, by simp only [hg, if_true]; exact hp⟩

theorem did_append (g : Good P k) (ht : Ops k tm ρ) {args : Array Operand} {ts : Array TypeId} {as : List O} (hb : ∀ (w : World), (execOp ρ o).run P w = ((do pure (Next.value (← Builtin.append_ ts o.type (args.map ρ)))) : Sem Next).run P w)
    (ha : cOs args.toList = some as) (hc : cApp P j as ts.toList = some m) (hp : plan base tm m = some p) (hg : p.go ro k.h = some (v, h')) :
    Did P ro k (execOp ρ o) v h' := by
  unfold cApp at hc
  split at hc <;> (try (cases hc; done))
  rename_i x y t u tl hts
  split at hc <;> (try (cases hc; done))
  rename_i e d hu hd
  split at hc <;> (try (cases hc; done))
  rename_i hsos
  split at hc <;> (try (cases hc; done))
  rename_i n by_ z hn hby hz
  cases hc
  obtain ⟨ax, ay, hargs, hx, hy⟩ := args2 (ht := ht) ha
  have hd2 : ∀ kk, d ≠ .int kk := by rintro kk rfl; simp [sliceOrStr] at hsos
  have htsa : ts = (t :: u :: tl).toArray := by rw [← hts]
  have hrun := fun (bs len cap nx w) => app_run (P := P) (w := w) hu hd hd2 hn o.type bs len cap (ρ ay) (ts := tl) (nx := nx)
  rw [← htsa] at hrun
  simp only [plan] at hp
  split at hp <;> (try (cases hp; done))
  rename_i hn0
  unfold planApp at hp
  split at hp <;> (try (cases hp; done))
  rename_i rs nn f hsrc
  -- nothing is appended
  have noop : ∀ bs b len cap, bgets k.h rs = some bs → (∃ ys, f bs = some ys) → nn = 0 → ρ ax = .slice b len cap → len ≤ cap → R k (x.ev tm) (.slice b len cap) → Did P ro k (execOp ρ o) (x.ev tm) k.h := by
    rintro bs b len cap hbs ⟨ys, hys⟩ rfl hax hle hR
    obtain ⟨r1, r2, vs, r3, r4, r5⟩ := src_run (P := P) g hy hsrc hbs hys
    have := (hrun b len cap 0 k.w (r2 k.w)).1 (by omega) [] (by have := r4 0 (Nat.le_refl _) k.w rfl; simpa using this) k.w (by cases b <;> simp [storeCells])
    refine .val g ?_ hR
    rw [hb, hargs, hax]
    exact exec_v (by simpa using this)
  -- a new row
  have room : ∀ bs ys b len cap (cs : List V) (xs : List Value), bgets k.h rs = some bs → f bs = some ys → ρ ax = .slice b len cap → cap < len + nn → RL k cs xs → cs.length = len * n → (cs.length + ys.length) * (by_ + 1) < big →
      (∀ w' : World, w'.heap = k.w.heap → (Builtin.firstCells n len (.slice b len cap)).run P w' = .ok ⟨xs⟩ w') →
      ∃ (vs : List Value) (nc : Nat) (rest : List Value) (w' : World), RL k ys vs ∧ ys.length = nn * n ∧ ones ys = true ∧ len + nn ≤ nc ∧ rest.length = (nc - (len + nn)) * n ∧ w'.heap = k.w.heap.push (.cells ⟨xs ++ vs ++ rest⟩ e (0, 0)) ∧ w'.os = k.w.os ∧ w'.tape = k.w.tape ∧ w'.output = k.w.output ∧
        (execOp ρ o).run P k.w = .ok (.value (.slice (some ⟨k.w.heap.size, 0, none⟩) (len + nn) nc)) w' := by
    intro bs ys b len cap cs xs hbs hys hax hlt hcs hlc hbd hold
    obtain ⟨r1, r2, vs, r3, r4, r5⟩ := src_run (P := P) g hy hsrc hbs hys
    have h2 := src_ones (P := P) g hy hsrc hbs hys
    have hlv : vs.length = nn * n := by rw [RL.len r3, r1]
    have hbound : (len + nn) * (by_ + 1) < big := by
      refine Nat.lt_of_le_of_lt (Nat.mul_le_mul_right _ ?_) hbd
      rw [hlc, r1, ← Nat.add_mul]
      exact Nat.le_mul_of_pos_right _ (by omega)
    obtain ⟨nc, rest, w', e1, e2, e3, e4, e5, e6, e7⟩ := (hrun b len cap nn k.w (r2 k.w)).2 hlt by_ hby hbound xs vs hold (fun w hw => by
      have := r4 nn (Nat.le_refl _) w hw; rw [this, List.take_of_length_le (by omega)]) z hz
    exact ⟨vs, nc, rest, w', r3, r1, h2, e1, e2, e3, e4, e5, e6, by rw [hb, hargs, hax]; exact exec_v e7⟩
  have grow : ∀ bs ys b len cap (cs : List V) (xs : List Value) id dat bb, bgets k.h rs = some bs → f bs = some ys → bget k.h id = some .unborn → ro ≤ id → ρ ax = .slice b len cap → cap < len + nn → RL k cs xs → ones cs = true → cs.length = len * n →
      (∀ w' : World, w'.heap = k.w.heap → (Builtin.firstCells n len (.slice b len cap)).run P w' = .ok ⟨xs⟩ w') → appNew id n by_ dat len nn cs ys = some (v, some bb) →
      Did P ro k (execOp ρ o) v (bset k.h id bb) := by
    intro bs ys b len cap cs xs id dat bb hbs hys hid hro hax hlt hcs h1 hlc hold hap
    obtain ⟨vs, nc, rest, w', r3, r1, h2, e1, e2, e3, e4, e5, e6, e7⟩ := room bs ys b len cap cs xs hbs hys hax hlt hcs hlc (appNew_bound hap) hold
    obtain ⟨vv, b2, hrr, k', k1, k2, k3, k4, k5⟩ := put_new (ro := ro) g hid hro hn0 hap hcs r3 h1 h2 hlc r1 e1 e2 e3 e4 e5 e6
    cases hrr
    exact ⟨_, k', .inl (by rw [k2]; exact e7), k1, k3, k4, k5⟩
  split at hp <;> (try (cases hp; done))
  · -- nil
    rename_i ex
    have hx' := hx
    rw [ex] at hx; simp only [R] at hx
    cases hp
    obtain ⟨bs, hbs, hcase⟩ := Pl.go_cases hg
    obtain ⟨b0, br, rfl, hb0, hbr⟩ := bgets_cons hbs
    simp only at hcase
    rcases hcase with ⟨hf, rfl⟩ | ⟨bb, id, hf, hw, hro, rfl⟩
    · split at hf <;> (try (cases hf; done))
      rename_i heq; cases heq
      split at hf <;> (try (cases hf; done))
      rename_i ys hys
      split at hf
      · rename_i hz0
        cases hf
        have := noop br none 0 0 hbr ⟨ys, hys⟩ hz0 hx (Nat.le_refl _) (hx ▸ hx')
        rw [ex] at this; exact this
      · exact (appNew_w hf).elim
    · cases hw
      split at hf <;> (try (cases hf; done))
      rename_i heq; cases heq
      split at hf <;> (try (cases hf; done))
      rename_i ys hys
      split at hf
      · cases hf
      · exact grow br ys none 0 0 [] [] _ _ _ hbr hys hb0 hro hx (by omega) RL.nil rfl (by simp) (fun w _ => by simp [Builtin.firstCells]) hf
  · -- a snapshot that is clipped
    rename_i len cs ex
    have hx' := hx
    rw [ex] at hx
    obtain ⟨a, cap, hax, h5, h6, h7⟩ := sl_shape hx
    split at hp <;> (try (cases hp; done))
    rename_i hlc
    cases hp
    obtain ⟨bs, hbs, hcase⟩ := Pl.go_cases hg
    obtain ⟨b0, br, rfl, hb0, hbr⟩ := bgets_cons hbs
    simp only at hcase
    rcases hcase with ⟨hf, rfl⟩ | ⟨bb, id, hf, hw, hro, rfl⟩
    · split at hf <;> (try (cases hf; done))
      rename_i heq; cases heq
      split at hf <;> (try (cases hf; done))
      rename_i ys hys
      split at hf
      · rename_i hz0
        cases hf
        have := noop br _ len cap hbr ⟨ys, hys⟩ hz0 hax h6 (hax ▸ hx')
        rw [ex] at this; exact this
      · exact (appNew_w hf).elim
    · cases hw
      split at hf <;> (try (cases hf; done))
      rename_i heq; cases heq
      split at hf <;> (try (cases hf; done))
      rename_i ys hys
      split at hf
      · cases hf
      · obtain ⟨s1, s2, xs', s3, s4, s5⟩ := src_run (P := P) (es := n) g hx (rs := []) (n := len) (f := fun _ => some cs) (by simp [src, hlc]) (bs := []) rfl (ys := cs) rfl
        have hl' := RL.len s3
        refine grow br ys _ len cap cs xs' _ _ _ hbr hys hb0 hro hax (by have := h7 rfl; omega) s3 h5.1 hlc (fun w hw => ?_) hf
        have := s4 len (Nat.le_refl _) w hw
        rw [hax, List.take_of_length_le (by omega)] at this; exact this
  · -- a snapshot with unknown room
    rename_i len cs ex
    have hx' := hx
    rw [ex] at hx
    obtain ⟨a, cap, hax, h5, h6, h7⟩ := sl_shape hx
    split at hp <;> (try (cases hp; done))
    rename_i hz0
    cases hp
    obtain ⟨bs, hbs, hf, rfl⟩ := Pl.go_rd rfl hg
    simp only at hf hbs
    split at hf <;> (try (cases hf; done))
    rename_i ys hys
    cases hf
    have := noop bs _ len cap hbs ⟨ys, hys⟩ hz0 hax h6 (hax ▸ hx')
    rw [ex] at this; exact this
  · -- an own slice that is clipped
    rename_i es' i gg off len ex
    have hx' := hx
    rw [ex] at hx
    obtain ⟨b, o', cap, c0, dat0, hax, h1, h2, h3, h4, h5⟩ := (by simpa only [R] using hx : ∃ b o' cap c dat, ρ ax = .slice (some ⟨b, o', none⟩) len cap ∧ bget k.h i = some (.blk c dat) ∧ gg ≤ c.length ∧ len ≤ cap ∧ (true = true → cap = len) ∧
      (gg = c.length → off + len * es' ≤ gg ∧ (k.β i).1 = b ∧ (cap ≠ 0 → (k.β i).1 = b ∧ off = o' + (k.β i).2 ∧ (true = false → 0 < es' → off + len * es' = gg → rowSize k.w b = some (o' + cap * es')))))
    split at hp <;> (try (cases hp; done))
    rename_i hes
    subst hes
    cases hp
    obtain ⟨bs, hbs, hcase⟩ := Pl.go_cases hg
    obtain ⟨b0, bt, rfl, hb0, hbt⟩ := bgets_cons hbs
    obtain ⟨b1, br, rfl, hb1, hbr⟩ := bgets_cons hbt
    rw [h1] at hb1; cases hb1
    simp only at hcase
    rcases hcase with ⟨hf, rfl⟩ | ⟨bb, id, hf, hw, hro, rfl⟩
    · split at hf <;> (try (cases hf; done))
      rename_i heq; cases heq
      split at hf <;> (try (cases hf; done))
      rename_i ys hys
      split at hf <;> (try (cases hf; done))
      split at hf
      · rename_i hz0
        cases hf
        have := noop br _ len cap hbr ⟨ys, hys⟩ hz0 hax h3 (hax ▸ hx')
        rw [ex] at this; exact this
      · split at hf <;> (try (cases hf; done))
        exact (appNew_w hf).elim
    · cases hw
      split at hf <;> (try (cases hf; done))
      rename_i heq; cases heq
      split at hf <;> (try (cases hf; done))
      rename_i ys hys
      split at hf <;> (try (cases hf; done))
      rename_i hgl
      split at hf
      · cases hf
      · split at hf <;> (try (cases hf; done))
        rename_i cs hcs
        obtain ⟨fx, hfx, hfy⟩ := src_ms (i := i) (clip := true) (dat := dat0) hgl hcs
        obtain ⟨s1, s2, xs', s3, s4, s5⟩ := src_run (P := P) g hx hfx (by simp [bgets, h1]) hfy
        have hl' := RL.len s3
        have hpart := part_some hcs
        have h1c := (g.blk _ _ _ h1).2.2.1
        refine grow br ys _ len cap cs xs' _ _ _ hbr hys hb0 hro hax (by have := h4 rfl; omega) s3 (by rw [hpart.1]; exact ones_take (ones_drop h1c _) _) hpart.2 (fun w hw => ?_) hf
        have := s4 len (Nat.le_refl _) w hw
        rw [hax, List.take_of_length_le (by omega)] at this; exact this
  · -- an own slice up to its block's end
    rename_i es' i gg off len ex
    have hx' := hx
    rw [ex] at hx
    obtain ⟨b, o', cap, c0, dat0, hax, h1, h2, h3, h4, h5⟩ := (by simpa only [R] using hx : ∃ b o' cap c dat, ρ ax = .slice (some ⟨b, o', none⟩) len cap ∧ bget k.h i = some (.blk c dat) ∧ gg ≤ c.length ∧ len ≤ cap ∧ (false = true → cap = len) ∧
      (gg = c.length → off + len * es' ≤ gg ∧ (k.β i).1 = b ∧ (cap ≠ 0 → (k.β i).1 = b ∧ off = o' + (k.β i).2 ∧ (false = false → 0 < es' → off + len * es' = gg → rowSize k.w b = some (o' + cap * es')))))
    split at hp <;> (try (cases hp; done))
    rename_i hes
    subst hes
    cases hp
    obtain ⟨bs, hbs, hcase⟩ := Pl.go_cases hg
    obtain ⟨b1, br, rfl, hb1, hbr⟩ := bgets_cons hbs
    rw [h1] at hb1; cases hb1
    simp only at hcase
    rcases hcase with ⟨hf, rfl⟩ | ⟨bb, id, hf, hw, hro, rfl⟩
    · split at hf <;> (try (cases hf; done))
      rename_i ys hys
      split at hf <;> (try (cases hf; done))
      split at hf
      · rename_i hz0
        cases hf
        have := noop br _ len cap hbr ⟨ys, hys⟩ hz0 hax h3 (hax ▸ hx')
        rw [ex] at this; exact this
      · split at hf <;> cases hf
    · cases hw
      split at hf <;> (try (cases hf; done))
      rename_i ys hys
      split at hf <;> (try (cases hf; done))
      rename_i hgl
      split at hf
      · cases hf
      rename_i hnz
      split at hf <;> (try (cases hf; done))
      rename_i hcond
      simp only [Bool.and_eq_true, decide_eq_true_eq, Bool.or_eq_true, Bool.not_eq_true'] at hcond
      obtain ⟨⟨hoff, hbd⟩, hdat⟩ := hcond
      cases hf
      obtain ⟨-, h5⟩ := h5 hgl.symm
      obtain ⟨r1, r2, vs, r3, r4, r5⟩ := src_run (P := P) g hy hsrc hbr hys
      have hones := src_ones (P := P) g hy hsrc hbr hys
      have hlv := RL.len r3
      have hpos : 0 < nn * es' := Nat.mul_pos (by omega) (by omega)
      obtain ⟨q1, q2, q3, q4, xs, rest, T, q5, q6⟩ := g.blk i c0 dat0 h1
      have hlx := RL.len q6
      simp only [List.length_drop] at hlx
      have hd2 : dat0 = true → scalars (c0 ++ ys) = true := fun hd => by
        rw [scalars_append, q4 hd]
        rcases hdat with h | h
        · rw [hd] at h; cases h
        · simpa using h
      have h1' : ones (c0 ++ ys) = true := by rw [ones_append, q3, hones]; rfl
      by_cases hcap : len + nn ≤ cap
      · -- in place
        obtain ⟨p1, p2, p3⟩ := h5.2 (by omega)
        have p3 := p3 rfl (by omega) hoff
        subst p1
        simp only [rowSize, q5, Option.some.injEq] at p3
        simp only [List.size_toArray, List.length_append] at p3
        have hxl : xs.length = o' + len * es' := by omega
        have hcl : cap * es' = len * es' + (cap - len) * es' := by rw [← Nat.add_mul]; congr 1; omega
        have hrl : nn * es' ≤ rest.length := by
          have : nn * es' ≤ (cap - len) * es' := Nat.mul_le_mul_right _ (by omega)
          omega
        have hst := run_storeCells_at P (k.β i).1 (o' + len * es') T vs 0 ⟨xs ++ rest⟩ k.w q5 (by simp; omega) (R.ones' r3 hones)
        have hnew := setRow_heap k.w (k.β i).1 ⟨xs ++ rest⟩ ⟨xs ++ vs ++ rest.drop vs.length⟩ T (0, 0) q5
        have hother : ∀ b, b ≠ (k.β i).1 → (k.w.setRow (k.β i).1 ⟨xs ++ vs ++ rest.drop vs.length⟩).heap[b]? = k.w.heap[b]? := fun b hne => setRow_other k.w _ b _ hne
        have hlow : Below k.n0 k.w (k.w.setRow (k.β i).1 ⟨xs ++ vs ++ rest.drop vs.length⟩) := ⟨rfl, rfl, rfl, by simp, fun b (hb' : b < k.n0) => hother b (by omega)⟩
        obtain ⟨g1, e1⟩ := g.upd (c' := c0 ++ ys) (dat := dat0) (p := k.β i) (ro := ro) (xs := xs ++ vs) (rest := rest.drop vs.length) (T := T) (bget_lt h1) hro
          (.inr ⟨c0, h1, by simp, fun hl => by rw [List.length_append] at hl; omega⟩) hlow (fun b _ hne => hother b (hne (live_blk h1))) q1 (.inr ⟨live_blk h1, rfl⟩) hnew
          (by simp; omega) (by rw [List.drop_append_of_le_length q2]; exact RL.append q6 r3) h1' hd2
        refine ⟨.slice (some ⟨(k.β i).1, o', none⟩) (len + nn) cap, _, .inl ?_, rfl, g1, e1, ?_⟩
        · rw [hb, hargs, hax]
          refine exec_v ((hrun _ len cap nn k.w (r2 k.w)).1 hcap vs ?_ _ ?_)
          · have := r4 nn (Nat.le_refl _) k.w rfl
            rw [List.take_of_length_le (by omega)] at this; exact this
          · simp only [Addr.add_lit]
            rw [hst]
            simp only [K.set]
            congr 3
            simp only [Nat.add_zero] 
            have e2 : (xs ++ rest).take (o' + len * es') = xs := by rw [← hxl]; simp
            have e3 : (xs ++ rest).drop (o' + len * es' + vs.length) = rest.drop vs.length := by rw [← hxl]; simp
            rw [e2, e3]
        · simp only [R]
          refine ⟨(k.β i).1, o', cap, c0 ++ ys, dat0, rfl, by simp only [K.set, bget_bset, bget_lt h1, and_self, if_true], by simp [hgl], by omega, by simp, fun _ => ⟨by rw [Nat.add_mul]; omega, by simp [K.set], fun _ => ⟨by simp [K.set], by simp [K.set]; omega, fun _ _ _ => ?_⟩⟩⟩
          simp only [rowSize, K.set, hnew, Option.some.injEq]
          simp; omega
      · -- a new block
        have hlen_old : (c0.drop off).length = len * es' := by simp; omega
        have hbd' : ((c0.drop off).length + ys.length) * (by_ + 1) < big := Nat.lt_of_le_of_lt (Nat.mul_le_mul_right _ (by simp)) hbd
        have hpt : part c0 off (len * es') = some (c0.drop off) := by rw [part_mk (by omega), List.take_of_length_le (by omega)]
        obtain ⟨fx, hfx, hfy⟩ := src_ms (i := i) (clip := false) (dat := dat0) hgl hpt
        obtain ⟨s1, s2, xs', s3, s4, s5⟩ := src_run (P := P) g hx hfx (by simp [bgets, h1]) hfy
        have hl' := RL.len s3
        obtain ⟨vs', nc, rest', w', t3, t1, t2, e1, e2, e3, e4, e5, e6, e7⟩ := room br ys _ len cap (c0.drop off) xs' hbr hys hax (by omega) s3 hlen_old hbd' (fun w hw => by
          have := s4 len (Nat.le_refl _) w hw
          rw [hax, List.take_of_length_le (by omega)] at this; exact this)
        have hnew : w'.heap[k.w.heap.size]? = some (.cells ⟨xs' ++ vs' ++ rest'⟩ e (0, 0)) := by rw [e3]; simp
        have hold : ∀ b, b < k.w.heap.size → w'.heap[b]? = k.w.heap[b]? := by
          intro b hb'; rw [e3, Array.getElem?_push, if_neg (by omega)]
        have hlv' := RL.len t3
        obtain ⟨g1, ev1⟩ := g.upd (c' := c0 ++ ys) (dat := dat0) (p := (k.w.heap.size, off)) (ro := ro) (xs := xs' ++ vs') (rest := rest') (T := e) (bget_lt h1) hro
          (.inr ⟨c0, h1, by simp, fun hl => by rw [List.length_append] at hl; omega⟩) ⟨e4, e5, e6, by rw [e3]; simp, fun b hb' => hold b (by have := g.size; omega)⟩ (fun b hb' _ => hold b hb') g.size (.inl (Nat.le_refl _)) hnew
          (by simp; omega) (by simp only; rw [List.drop_append_of_le_length (by omega)]; exact RL.append s3 t3) h1' hd2
        refine ⟨_, _, .inl e7, rfl, g1, ev1, ?_⟩
        simp only [R]
        refine ⟨k.w.heap.size, 0, nc, c0 ++ ys, dat0, rfl, by simp only [K.set, bget_bset, bget_lt h1, and_self, if_true], by simp [hgl], by omega, by simp, fun _ => ⟨by rw [Nat.add_mul]; omega, by simp [K.set], fun _ => ⟨by simp [K.set], by simp [K.set], fun _ _ _ => ?_⟩⟩⟩
        simp only [rowSize, K.set, hnew, Option.some.injEq]
        have hnc : nc * es' = (len + nn) * es' + (nc - (len + nn)) * es' := by rw [← Nat.add_mul]; congr 1; omega
        have : (len + nn) * es' = len * es' + nn * es' := Nat.add_mul _ _ _
        simp; omega

theorem bset_same {h : List B} {id : Nat} {b : B} (e : bget h id = some b) : bset h id b = h := by
  induction h generalizing id with
  | nil => simp [bset]
  | cons c l ih => cases id with
    | zero => simp only [bget, Option.some.injEq] at e; simp [bset, e]
    | succ id => simp only [bget] at e; simp [bset, ih e]

theorem did_copy (g : Good P k) (ht : Ops k tm ρ) {args : Array Operand} {ts : Array TypeId} {as : List O} (hb : ∀ (w : World), (execOp ρ o).run P w = ((do pure (Next.value (← Builtin.copy_ ts o.type (args.map ρ)))) : Sem Next).run P w)
    (ha : cOs args.toList = some as) (hc : cCpy P as ts.toList = some m) (hp : plan base tm m = some p) (hg : p.go ro k.h = some (v, h')) :
    Did P ro k (execOp ρ o) v h' := by
  unfold cCpy at hc
  split at hc <;> (try (cases hc; done))
  rename_i x y t tl hts
  split at hc <;> (try (cases hc; done))
  rename_i e hu
  obtain ⟨n, hn, rfl⟩ := map_some hc
  obtain ⟨ax, ay, hargs, hx, hy⟩ := args2 (ht := ht) ha
  have htsa : ts[0]? = some t := by
    rw [← Array.getElem?_toList, hts]; rfl
  simp only [plan] at hp
  split at hp <;> (try (cases hp; done))
  rename_i hn0
  unfold planCpy at hp
  split at hp <;> (try (cases hp; done))
  rename_i rs nn f hsrc
  have a1 : (#[ρ ax, ρ ay] : Array Value)[0]? = some (ρ ax) := rfl
  have a2 : (#[ρ ax, ρ ay] : Array Value)[1]? = some (ρ ay) := rfl
  split at hp <;> (try (cases hp; done))
  · rename_i ex
    rw [ex] at hx; simp only [R] at hx
    cases hp
    obtain ⟨bs, hbs, hf, rfl⟩ := Pl.go_rd rfl hg
    simp only at hf hbs
    split at hf <;> (try (cases hf; done))
    rename_i ys hys
    cases hf
    obtain ⟨r1, r2, vs, r3, r4, r5⟩ := src_run (P := P) g hy hsrc hbs hys
    refine .val g (x := .int .i64 0) ?_ (by simp [R])
    rw [hb, hargs]
    refine exec_v ?_
    have := r4 0 (Nat.zero_le _) k.w rfl
    rw [hx] at a1 a2 ⊢
    simp only [Builtin.copy_, htsa, a1, a2, Sem.run_bind, run_underlying hu, Result.andThen_ok, r2, szOf_run hn]
    have h0 : Nat.min nn 0 = 0 := Nat.min_zero _
    rw [h0, this]
    simp [goInt]
  · rename_i es' i gg off len clip ex
    rw [ex] at hx
    obtain ⟨b, o', cap, c0, dat0, hax, h1, h2, h3, h4, h5⟩ := (by simpa only [R] using hx : ∃ b o' cap c dat, ρ ax = .slice (some ⟨b, o', none⟩) len cap ∧ bget k.h i = some (.blk c dat) ∧ gg ≤ c.length ∧ len ≤ cap ∧ (clip = true → cap = len) ∧
      (gg = c.length → off + len * es' ≤ gg ∧ (k.β i).1 = b ∧ (cap ≠ 0 → (k.β i).1 = b ∧ off = o' + (k.β i).2 ∧ (clip = false → 0 < es' → off + len * es' = gg → rowSize k.w b = some (o' + cap * es')))))
    split at hp <;> (try (cases hp; done))
    rename_i hes
    subst hes
    cases hp
    obtain ⟨bs, hbs, hcase⟩ := Pl.go_cases hg
    obtain ⟨b1, br, rfl, hb1, hbr⟩ := bgets_cons hbs
    rw [h1] at hb1; cases hb1
    simp only at hcase
    rcases hcase with ⟨hf, rfl⟩ | ⟨bb, id, hf, hw, hro, rfl⟩
    · split at hf <;> (try (cases hf; done))
      split at hf <;> cases hf
    · cases hw
      split at hf <;> (try (cases hf; done))
      rename_i ys hys
      split at hf <;> (try (cases hf; done))
      rename_i hcond
      simp only [Bool.and_eq_true, decide_eq_true_eq, Bool.or_eq_true, Bool.not_eq_true'] at hcond
      obtain ⟨⟨⟨hgl, hoff⟩, hdat⟩, hones⟩ := hcond
      cases hf
      obtain ⟨-, h5⟩ := h5 hgl.symm
      obtain ⟨r1, r2, vs, r3, r4, r5⟩ := src_run (P := P) g hy hsrc hbr hys
      have hlv := RL.len r3
      simp only [take'_eq] at hdat hones ⊢
      have hR := RL.take (min nn len * es') r3
      have hmn : min nn len * es' ≤ nn * es' := Nat.mul_le_mul_right _ (Nat.min_le_left _ _)
      have hml : min nn len * es' ≤ len * es' := Nat.mul_le_mul_right _ (Nat.min_le_right _ _)
      have hzl : (ys.take (min nn len * es')).length = min nn len * es' := by simp; omega
      have hvl : (vs.take (min nn len * es')).length = min nn len * es' := by simp; omega
      have hrd := r4 (min nn len) (Nat.min_le_left _ _) k.w rfl
      have hexec : ∀ w', (storeCells ⟨b, o', none⟩ (vs.take (min nn len * es'))).run P k.w = .ok () w' → (execOp ρ o).run P k.w = .ok (.value (.int .i64 (min nn len : Nat))) w' := by
        intro w' hst
        rw [hb, hargs]
        refine exec_v ?_
        rw [hax] at a1 a2 ⊢
        simp only [Builtin.copy_, htsa, a1, a2, Sem.run_bind, run_underlying hu, Result.andThen_ok, r2, szOf_run hn]
        have : Nat.min nn len = min nn len := rfl
        rw [this, hrd]
        simp only [Result.andThen_ok, hst, Sem.run_pure, goInt]
      by_cases hcap : cap = 0
      · have hl0 : len = 0 := by omega
        subst hl0
        simp only [Nat.min_zero, Nat.zero_mul, List.take_zero] at hexec ⊢
        have hov : over c0 off [] = c0 := by rw [over_eq _ _ _ (by simp at hoff ⊢; omega)]; simp
        rw [hov, bset_same h1]
        exact .val g (hexec k.w (storeCells_nil _ _)) (by simp [R])
      · obtain ⟨p1, p2, -⟩ := h5.2 hcap
        obtain ⟨xs, rest, T, w1, w2, g1, e1⟩ := wrote (ro := ro) g h1 hro hR hones (fun hd => by
          rcases hdat with h | h
          · rw [hd] at h; cases h
          · exact h) (by rw [hzl]; omega) p2
        have hst := run_storeCells_at P (k.β i).1 o' T (vs.take (min nn len * es')) 0 ⟨xs ++ rest⟩ k.w w1 (by simp only [List.size_toArray, List.length_append]; omega) (R.ones' hR hones)
        refine ⟨.int .i64 (min nn len : Nat), _, .inl (hexec _ ?_), rfl, g1, e1, by simp [R]⟩
        subst p1
        rw [hst]
        simp only [K.set]
        congr 3
        simp only [Nat.add_zero]
        have e2 : (xs ++ rest).take o' = xs.take o' := List.take_append_of_le_length (by omega)
        have e3 : (xs ++ rest).drop (o' + (vs.take (min nn len * es')).length) = xs.drop (o' + (vs.take (min nn len * es')).length) ++ rest := List.drop_append_of_le_length (by omega)
        rw [e2, e3]; simp

theorem did_len (g : Good P k) (ht : Ops k tm ρ) {args : Array Operand} {ts : Array TypeId} {as : List O} (hb : ∀ (w : World), (execOp ρ o).run P w = ((do pure (Next.value (← Builtin.len_ ts o.type (args.map ρ)))) : Sem Next).run P w)
    (ha : cOs args.toList = some as) (hc : cLen P as ts.toList = some m) (hp : plan base tm m = some p) (hg : p.go ro k.h = some (v, h')) :
    Did P ro k (execOp ρ o) v h' := by
  unfold cLen at hc
  split at hc <;> (try (cases hc; done))
  rename_i x t tl hts
  have htsa : ts[0]? = some t := by
    rw [← Array.getElem?_toList, hts]; rfl
  obtain ⟨ax, hargs, hx⟩ := args1 (ht := ht) ha
  have a1 : (#[ρ ax] : Array Value)[0]? = some (ρ ax) := rfl
  split at hc <;> (try (cases hc; done))
  · rename_i hu
    cases hc
    simp only [plan] at hp
    split at hp <;> (try (cases hp; done))
    rename_i s ex
    rw [ex] at hx; simp only [R] at hx
    simp only [if_true] at hp
    cases hp
    obtain ⟨rfl, rfl⟩ := Pl.go_val hg
    refine .val g (x := .int .i64 s.length) ?_ (by simp [R])
    rw [hb, hargs]
    rw [hx] at a1 ⊢
    exact exec_v (by simp only [Builtin.len_, htsa, a1, Sem.run_bind, run_underlying hu, Result.andThen_ok, Sem.run_pure, goInt, ByteArray.size, List.size_toArray]; try rfl)
  · rename_i e hu
    cases hc
    simp only [plan] at hp
    split at hp <;> (try (cases hp; done)) <;> rename_i ex <;> simp only [Bool.false_eq_true, if_false] at hp <;> cases hp <;> rw [ex] at hx <;> obtain ⟨rfl, rfl⟩ := Pl.go_val hg
    · simp only [R] at hx
      refine .val g (x := .int .i64 0) ?_ (by simp [R])
      rw [hb, hargs]
      rw [hx] at a1 ⊢
      exact exec_v (by simp only [Builtin.len_, htsa, a1, Sem.run_bind, run_underlying hu, Result.andThen_ok, Sem.run_pure, goInt, ByteArray.size, List.size_toArray]; try rfl)
    · obtain ⟨a, cap, hax, _⟩ := sl_shape hx
      refine Did.val g ?_ (by simp only [R]; rfl)
      rw [hb, hargs]
      rw [hax] at a1 ⊢
      exact exec_v (by simp only [Builtin.len_, htsa, a1, Sem.run_bind, run_underlying hu, Result.andThen_ok, Sem.run_pure, goInt, ByteArray.size, List.size_toArray]; try rfl)
    · simp only [R] at hx
      obtain ⟨b, off, cap, c, d, hax, _⟩ := hx
      refine Did.val g ?_ (by simp only [R]; rfl)
      rw [hb, hargs]
      rw [hax] at a1 ⊢
      exact exec_v (by simp only [Builtin.len_, htsa, a1, Sem.run_bind, run_underlying hu, Result.andThen_ok, Sem.run_pure, goInt, ByteArray.size, List.size_toArray]; try rfl)

theorem maxs_run (mx : Bool) : ∀ (l : List V) (v r : V) (x : Value) (xs : List Value), maxs mx v l = some r → R k v x → RL k l xs → ∃ y, (∀ w, (xs.foldlM (if mx then Builtin.max2 else Builtin.min2) x).run P w = .ok y w) ∧ R k r y
  | [], v, r, x, xs, h, hx, hl => by
    simp only [maxs] at h; cases h
    have := RL.len hl
    cases xs <;> simp at this
    exact ⟨x, by simp, hx⟩
  | v' :: l, v, r, x, xs, h, hx, hl => by
    obtain ⟨x', xr, rfl, hx', hl'⟩ := (by simpa [RL] using hl : ∃ x r, xs = x :: r ∧ R k v' x ∧ RL k l r)
    unfold maxs at h
    split at h <;> (try (cases h; done))
    · rename_i he; cases he
    rename_i kk a kk' b l2 he
    cases he
    split at h <;> (try (cases h; done))
    rename_i hk; subst hk
    simp only [R] at hx hx'
    subst hx; subst hx'
    cases mx
    · obtain ⟨y, h1, h2⟩ := maxs_run false l _ r (.int kk (if b < a then b else a)) xr h (by simp [R]) hl'
      refine ⟨y, fun w => ?_, h2⟩
      simp only [List.foldlM_cons, Sem.run_bind, Bool.false_eq_true, if_false, Builtin.min2, Sem.run_pure, Result.andThen_ok]
      simpa using h1 w
    · obtain ⟨y, h1, h2⟩ := maxs_run true l _ r (.int kk (if a < b then b else a)) xr h (by simp [R]) hl'
      refine ⟨y, fun w => ?_, h2⟩
      simp only [List.foldlM_cons, Sem.run_bind, if_true, Builtin.max2, Sem.run_pure, Result.andThen_ok]
      simpa using h1 w

theorem did_mm (g : Good P k) (ht : Ops k tm ρ) {mx : Bool} {args : Array Operand} {ts : Array TypeId} {as : List O}
    (hb : ∀ (w : World), (execOp ρ o).run P w = ((do pure (Next.value (← (if mx then Builtin.max_ else Builtin.min_) ts o.type (args.map ρ)))) : Sem Next).run P w)
    (ha : cOs args.toList = some as) (hp : plan base tm (.mm mx as) = some p) (hg : p.go ro k.h = some (v, h')) :
    Did P ro k (execOp ρ o) v h' := by
  simp only [plan] at hp
  have hl := ht.2 _ _ ha
  split at hp <;> (try (cases hp; done))
  rename_i v0 l ev
  rw [ev] at hl
  obtain ⟨x0, xs, hxs, h0, hr⟩ := (by simpa [RL] using hl : ∃ x r, args.toList.map ρ = x :: r ∧ R k v0 x ∧ RL k l r)
  obtain ⟨r, hr1, rfl⟩ := map_some hp
  obtain ⟨rfl, rfl⟩ := Pl.go_val hg
  obtain ⟨y, y1, y2⟩ := maxs_run (P := P) mx l v0 _ x0 xs hr1 h0 hr
  refine .val g (x := y) ?_ y2
  rw [hb]
  refine exec_v ?_
  cases mx
  · simp only [Bool.false_eq_true, if_false, Builtin.min_, Array.toList_map, hxs]
    simpa using y1 k.w
  · simp only [if_true, Builtin.max_, Array.toList_map, hxs]
    simpa using y1 k.w

theorem did_builtin (g : Good P k) (ht : Ops k tm ρ) {b : Builtin} {args : Array Operand} {ts : Array TypeId} {as : List O} (ho : o.op = .call ⟨.builtin b, args, ts⟩)
    (ha : cOs args.toList = some as) (hc : cBuiltin P j b as ts.toList = some m) (hp : plan base tm m = some p) (hg : p.go ro k.h = some (v, h')) :
    Did P ro k (execOp ρ o) v h' := by
  have hrun := exec_builtin (P := P) (ρ := ρ) ho
  unfold cBuiltin at hc
  split at hc <;> (try (cases hc; done))
  · exact did_len g ht (fun w => hrun w) ha hc hp hg
  · exact did_append g ht (fun w => hrun w) ha hc hp hg
  · exact did_copy g ht (fun w => hrun w) ha hc hp hg
  · cases hc; exact did_mm (mx := true) (ts := ts) g ht (fun w => hrun w) ha hp hg
  · cases hc; exact did_mm (mx := false) (ts := ts) g ht (fun w => hrun w) ha hp hg

end Go.Dr
