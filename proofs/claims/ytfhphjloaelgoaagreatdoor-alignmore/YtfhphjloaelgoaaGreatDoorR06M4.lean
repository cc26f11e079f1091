/- Chapter 06: the law AlignMore. -/
import Derived.Test.YtfhphjloaelgoaaGreatDoorR06M3
import Derived.Test.YtfhphjloaelgoaaGreatDoorR06B5
import Derived.Test.YtfhphjloaelgoaaGreatDoorR06Ax
import Derived.Test.YtfhphjloaelgoaaGreatDoorR06Wr
namespace Go.Dr.T
theorem bestV2_err {x y : El} {s : Int} (h : openE x y s ≠ 0) : bestV2 x y s = .tup [.int .i64 0, .int .i64 0, .int .i64 (openE x y s)] := by unfold bestV2; rw [if_pos h]
theorem bestV2_ok {x y : El} {s : Int} (h : openE x y s = 0) : ∃ c : Int, bestV2 x y s = .tup [.int .i64 (openT x y s 0 0), .int .i64 c, .int .i64 0] := by unfold bestV2; rw [if_neg (fun q => q h)]; exact ⟨_, rfl⟩
theorem view_elms {h : List B} {d id g n : Nat} {clip dat : Bool} {nm : List UInt8} {l : List (Int × Int)} {gr : Int} (hb : bget h id = some (.blk (shC l) dat)) (hg : g = l.length * 2) (hn : n = l.length) :
    Vw h (d + 3) (.agg [.str nm, .ms 2 id g 0 n clip, .int .i64 gr]) (elA' ⟨nm, clip, l, gr⟩) := by
  subst hn
  refine Vw.agg (VwL.cons ⟨rfl⟩ (VwL.cons (Vw.ms (d := d + 1) hb ?_ (part_all ?_) (views_sh (d := d) l)) (VwL.cons (Vw.int rfl) VwL.nil)))
  · rw [shC_length, hg]
  · rw [shC_length]
theorem view_elsl {h : List B} {d : Nat} {x : El} : Vw h (d + 3) (elA' x) (elA' x) := Vw.agg (VwL.cons ⟨rfl⟩ (VwL.cons ⟨rfl⟩ (VwL.cons (Vw.int rfl) VwL.nil)))
theorem views_two {h : List B} {u v : V} {x y : El} {s : Int} (h1 : Vw h depth u (elA' x)) (h2 : Vw h depth v (elA' y)) : views h depth [u, v, .int .i64 s] = some [elA' x, elA' y, .int .i64 s] :=
  (VwL.cons h1 (VwL.cons h2 (VwL.cons (Vw.int (d := 63) rfl) VwL.nil))).1
theorem u16s_val {v : V} (h : (Ty.agg [.int .u16, .int .u16]).val v) : ∃ a b : Int, v = .agg [.int .u16 a, .int .u16 b] ∧ (0 ≤ a ∧ a ≤ 65535) ∧ (0 ≤ b ∧ b ≤ 65535) := by
  simp only [Ty.val, Ty.hasAll, Ty.has] at h
  obtain ⟨l, rfl, a, b, rfl, ⟨n, rfl, h1, h2⟩, c, d, rfl, ⟨m, rfl, h3, h4⟩, rfl⟩ := h
  exact ⟨n, m, rfl, ⟨h1, Int.le_trans h2 (by decide)⟩, ⟨h3, Int.le_trans h4 (by decide)⟩⟩
theorem shot_val {v : V} (h : (Ty.agg [.int .i64, .int .i64]).val v) : ∃ a b : Int, v = .agg [.int .i64 a, .int .i64 b] := by
  simp only [Ty.val, Ty.hasAll, Ty.has] at h
  obtain ⟨l, rfl, a, b, rfl, ⟨n, rfl, _⟩, c, d, rfl, ⟨m, rfl, _⟩, rfl⟩ := h
  exact ⟨n, m, rfl⟩
theorem more_low {x y : El} {a b : Int} (h : openE x y a = 0) (hb : 0 ≤ b) : (0 ≤ openT x y a 0 0 ∧ openT x y a 0 0 ≤ 8000000) ∧ openT x y a 0 0 ≤ openT x y (a + b) 0 0 ∧ openT x y (a + b) 0 0 ≤ frS x.l ∧ openT x y (a + b) 0 0 ≤ frS y.l := by
  obtain ⟨ha, hb', hs⟩ := open_good h
  refine ⟨openT_rng ha hb' 0 0, ?_, ?_, ?_⟩
  · rw [openT_00, openT_00]; exact wN_slack (by omega) ha.fr hb'.fr _ _ (Nat.le_refl _) (Nat.le_refl _)
  · rw [openT_00]
    have := wN_left (s := a + b) ha.fr hb'.fr x.l.length y.l.length (Nat.le_refl _) (Nat.le_refl _)
    rw [Nat.sub_self] at this
    exact this
  · rw [openT_00]
    have := wN_right (s := a + b) ha.fr hb'.fr x.l.length y.l.length (Nat.le_refl _) (Nat.le_refl _)
    rw [Nat.sub_self] at this
    exact this
theorem more_high {x y : El} {a : Int} {p : Int × Int} {c c' : Bool} (h : openE x y a = 0) (hp : 1 ≤ p.2 ∧ p.2 ≤ 200000) : (openT x y a 0 0 ≤ openT ⟨x.nm, c, p :: x.l, x.g⟩ y a 0 0 ∧ openT ⟨x.nm, c, p :: x.l, x.g⟩ y a 0 0 ≤ openT x y a 0 0 + p.2) ∧ (openT x y a 0 0 ≤ openT ⟨x.nm, c', x.l ++ [p], x.g⟩ y a 0 0 ∧ openT ⟨x.nm, c', x.l ++ [p], x.g⟩ y a 0 0 ≤ openT x y a 0 0 + p.2) := by
  obtain ⟨ha, hb', hs⟩ := open_good h
  rw [openT_00, openT_00, openT_00]
  refine ⟨wN_front hp hb'.fr _ (Nat.le_refl _), ?_⟩
  have := wN_end (s := a) hp ha.fr hb'.fr x.l.length y.l.length (Nat.le_refl _) (Nat.le_refl _)
  dsimp only
  rw [show (x.l ++ [p]).length = x.l.length + 1 by simp]
  exact this
set_option maxRecDepth 100000 in
set_option maxHeartbeats 20000000 in
theorem law_more {x y : El} {a b m f : Int} (hra : 0 ≤ a ∧ a ≤ 65535) (hrb : 0 ≤ b ∧ b ≤ 65535) : Fun FB2 md 7 [.agg (x.v ++ y.v), .agg [.int .u16 a, .int .u16 b], .agg [.int .i64 m, .int .i64 f]] (.bool true) := by
  have hAw := awake
  have h1 := ((best_ok (x := x) (y := y) (s := a)).tab sub1).tab sub2
  by_cases he : openE x y a = 0
  rotate_left
  · rw [bestV2_err he] at h1
    generalize openE x y a = e at *
    refine fun_of rfl rfl ?_
    repeat' (first
 | (conv => whnf)
   first
   | refine Br.t ?_
   | (refine Br.decF ?_ ?_; (focus first | assumption | omega))
   | refine Br.not ?_
   | (refine Bnd.i64 ?_ ?_ ?_; (focus omega); (focus omega))
   | refine call_fun rfl rfl h1 (.inl rfl) ?_
   | refine call_fun rfl rfl hAw (.inl rfl) ?_
   | (refine Idx.int ?_ ?_ ?_; (focus omega); (focus omega))
   | refine Get.mk _ rfl ?_
   | refine Leaves.of ?_
   | refine Vw.bool ?_
   | (refine Req.mk ?_ ?_; (focus first | rfl | decide | exact ⟨rfl, rfl⟩ | exact ⟨rfl, by decide⟩ | exact (fun _ => rfl) | exact (fun h => nomatch h) | (simp; done) | omega | (simp [big]; done) | exact le_big (by omega) | exact lt_big (by omega))))
    all_goals first | rfl | (exfalso; omega) | simp
  obtain ⟨c0, hv0⟩ := bestV2_ok he
  rw [hv0] at h1
  obtain ⟨hx, hy, hsl⟩ := open_good he
  obtain ⟨ex0, ey0, _⟩ := openE_0 he
  obtain ⟨l1, l2, l3, l4⟩ := more_low (b := b) he hrb.1
  have he2 : openE x y (a + b) = 0 := by rw [openE_of ey0 (by omega)]; exact ex0
  obtain ⟨c1, hv1⟩ := bestV2_ok he2
  have h2 := ((best_ok (x := x) (y := y) (s := a + b)).tab sub1).tab sub2
  rw [hv1] at h2
  have hfx := ((frames_ok hx).tab sub1).tab sub2
  have hfy := ((frames_ok hy).tab sub1).tab sub2
  have hbig : x.l.length ≤ 40 := hx.1
  have hlen := shC_length x.l
  have hscal := scalars_sh x.l
  have hR1 : ([V.int .i64 m, .int .i64 f].length + (shC x.l).length) * (16 + 1) < big := by rw [hlen]; simp [big]; omega
  have hR2 : (([] : List V).length + (shC x.l).length) * (16 + 1) < big := by rw [hlen]; simp [big]; omega
  have hR3 : 0 + (0 + x.l.length) * 2 = ([] : List V).length + (shC x.l).length ∧ (([] ++ shC x.l).length + [V.int .i64 m, .int .i64 f].length) * (16 + 1) < big := by rw [List.nil_append, hlen]; simp [big]; omega
  have hS1 : true = true → scalars ([V.int .i64 m, .int .i64 f] ++ shC x.l) = true := fun _ => hscal
  have hS2 : true = true → scalars ([] ++ shC x.l) = true := fun _ => hscal
  have hfr : ∀ c, openE ⟨x.nm, c, (m, f) :: x.l, x.g⟩ y a = (ckE x.nm ((m, f) :: x.l) x.g).2 := fun c => openE_of ey0 (by omega)
  have hen : ∀ c, openE ⟨x.nm, c, x.l ++ [(m, f)], x.g⟩ y a = (ckE x.nm ((m, f) :: x.l) x.g).2 := fun c => by rw [openE_of ey0 (by omega)]; exact (ck_both ex0).symm
  have b1 : ∀ c, Fun FB2 md 21 [elA' ⟨x.nm, c, (m, f) :: x.l, x.g⟩, elA' y, .int .i64 a] _ := fun c => ((best_ok (x := ⟨x.nm, c, (m, f) :: x.l, x.g⟩) (y := y) (s := a)).tab sub1).tab sub2
  have b2 : ∀ c, Fun FB2 md 21 [elA' ⟨x.nm, c, x.l ++ [(m, f)], x.g⟩, elA' y, .int .i64 a] _ := fun c => ((best_ok (x := ⟨x.nm, c, x.l ++ [(m, f)], x.g⟩) (y := y) (s := a)).tab sub1).tab sub2
  by_cases hE : (ckE x.nm ((m, f) :: x.l) x.g).2 = 0
  · have ef : openE ⟨x.nm, false, (m, f) :: x.l, x.g⟩ y a = 0 := by rw [hfr]; exact hE
    have ee : openE ⟨x.nm, false, x.l ++ [(m, f)], x.g⟩ y a = 0 := by rw [hen]; exact hE
    have hp := (shOk_of (x := ⟨x.nm, false, (m, f) :: x.l, x.g⟩) (openE_0 ef).1).fr (m, f) (by simp)
    obtain ⟨⟨g1, g2⟩, g3, g4⟩ := more_high (p := (m, f)) (c := false) (c' := false) he hp
    obtain ⟨c2, hv2⟩ := bestV2_ok ef
    obtain ⟨c3, hv3⟩ := bestV2_ok ee
    have q1 : ∀ c, Fun FB2 md 21 [elA' ⟨x.nm, c, (m, f) :: x.l, x.g⟩, elA' y, .int .i64 a] (.tup [.int .i64 (openT ⟨x.nm, false, (m, f) :: x.l, x.g⟩ y a 0 0), .int .i64 c2, .int .i64 0]) := fun c => by
      have := b1 c
      rw [show bestV2 ⟨x.nm, c, (m, f) :: x.l, x.g⟩ y a = bestV2 ⟨x.nm, false, (m, f) :: x.l, x.g⟩ y a from rfl, hv2] at this
      exact this
    have q2 : ∀ c, Fun FB2 md 21 [elA' ⟨x.nm, c, x.l ++ [(m, f)], x.g⟩, elA' y, .int .i64 a] (.tup [.int .i64 (openT ⟨x.nm, false, x.l ++ [(m, f)], x.g⟩ y a 0 0), .int .i64 c3, .int .i64 0]) := fun c => by
      have := b2 c
      rw [show bestV2 ⟨x.nm, c, x.l ++ [(m, f)], x.g⟩ y a = bestV2 ⟨x.nm, false, x.l ++ [(m, f)], x.g⟩ y a from rfl, hv3] at this
      exact this
    clear b1 b2 hv2 hv3 hv1 hv0
    dsimp only at hp
    generalize openT x y a 0 0 = n at *
    generalize openT x y (a + b) 0 0 = n2 at *
    generalize openT ⟨x.nm, false, (m, f) :: x.l, x.g⟩ y a 0 0 = w1 at *
    generalize openT ⟨x.nm, false, x.l ++ [(m, f)], x.g⟩ y a 0 0 = w2 at *
    dsimp only at g2 g4
    by_cases hz : x.l.length = 0
    · obtain ⟨nm, cl, l, gr⟩ := x
      have hzl : l = [] := List.length_eq_zero_iff.1 hz
      subst hzl
      have hv4 : ∀ h g k, bget h 7 = some (.blk (shC [(m, f)]) true) → g = 2 → k = 1 → views h depth [.agg [.str nm, .ms 2 7 g 0 k false, .int .i64 gr], elA' y, .int .i64 a] = some [elA' ⟨nm, false, [(m, f)], gr⟩, elA' y, .int .i64 a] := fun h g k h1 h2 h3 => views_two (view_elms h1 (by rw [h2]; rfl) (by rw [h3]; rfl)) view_elsl
      refine fun_of rfl rfl ?_
      repeat' (first
 | (conv => whnf)
   first
   | refine Br.f ?_
   | (refine Br.decT ?_ ?_; (focus first | assumption | omega))
   | (refine Br.decF ?_ ?_; (focus first | assumption | omega))
   | (refine Bnd.i64 ?_ ?_ ?_; (focus omega); (focus omega))
   | refine call_fun rfl rfl h1 (.inl rfl) ?_
   | refine call_fun rfl rfl h2 (.inl rfl) ?_
   | refine call_fun rfl rfl hfx (.inl rfl) ?_
   | refine call_fun rfl rfl hfy (.inl rfl) ?_
   | refine call_fun rfl rfl hAw (.inl rfl) ?_
   | refine call_fun rfl rfl (q1 true) (.inr rfl) ?_
   | refine call_fun rfl (hv4 _ _ _ rfl rfl rfl) (q2 _) (.inr rfl) ?_
   | (refine Idx.nat ?_ ?_; (focus omega))
   | (refine Idx.int ?_ ?_ ?_; (focus omega); (focus omega))
   | refine Ifz.zero ?_
   | (refine Ifz.pos ?_ ?_; (focus omega))
   | refine Get.mk _ rfl ?_
   | refine Leaves.of ?_
   | refine Vw.bool ?_
   | (refine Req.mk ?_ ?_; (focus first | rfl | decide | exact ⟨rfl, rfl⟩ | exact ⟨rfl, by decide⟩ | exact (fun _ => rfl) | exact (fun h => nomatch h) | (simp; done) | omega | (simp [big]; done) | exact le_big (by omega) | exact lt_big (by omega))))
      all_goals first | rfl | (exfalso; omega; done) | simp
    · have hv3 : ∀ h g k, bget h 5 = some (.blk (shC ((m, f) :: x.l)) true) → g = (x.l.length + 1) * 2 → k = x.l.length + 1 → views h depth [.agg [.str x.nm, .ms 2 5 g 0 k false, .int .i64 x.g], elA' y, .int .i64 a] = some [elA' ⟨x.nm, false, (m, f) :: x.l, x.g⟩, elA' y, .int .i64 a] := fun h g k h1 h2 h3 => views_two (view_elms h1 h2 h3) view_elsl
      have hv4 : ∀ h g k, bget h 6 = some (.blk (shC (x.l ++ [(m, f)])) true) → g = (x.l.length + 1) * 2 → k = x.l.length + 1 → views h depth [.agg [.str x.nm, .ms 2 6 g 0 k false, .int .i64 x.g], elA' y, .int .i64 a] = some [elA' ⟨x.nm, false, x.l ++ [(m, f)], x.g⟩, elA' y, .int .i64 a] := fun h g k h1 h2 h3 => views_two (view_elms h1 (by rw [h2]; simp) (by rw [h3]; simp)) view_elsl
      refine fun_of rfl rfl ?_
      have hb5 : ∀ r : List B, bget r 5 = some (.blk ([.int .i64 m, .int .i64 f] ++ shC x.l) true) → bget r 5 = some (.blk (shC ((m, f) :: x.l)) true) := fun r h => h
      have hb6 : ∀ r : List B, bget r 6 = some (.blk (([] ++ shC x.l) ++ [.int .i64 m, .int .i64 f]) true) → bget r 6 = some (.blk (shC (x.l ++ [(m, f)])) true) := fun r h => by rw [shC_append]; exact h
      have hg5 : [V.int .i64 m, .int .i64 f].length + (shC x.l).length = (x.l.length + 1) * 2 := by rw [hlen]; simp; omega
      have hg6 : (([] : List V).length + (shC x.l).length) + [V.int .i64 m, .int .i64 f].length = (x.l.length + 1) * 2 := by rw [hlen]; simp; omega
      have hk5 : 1 + x.l.length = x.l.length + 1 := by omega
      have hk6 : 0 + x.l.length + 1 = x.l.length + 1 := by omega
      repeat' (first
 | (conv => whnf)
   first
   | refine Br.f ?_
   | (refine Br.decT ?_ ?_; (focus first | assumption | omega))
   | (refine Br.decF ?_ ?_; (focus first | assumption | omega))
   | (refine Bnd.i64 ?_ ?_ ?_; (focus omega); (focus omega))
   | refine Req.mk hR1 ?_
   | refine Req.mk hR2 ?_
   | refine Req.mk hR3 ?_
   | refine Req.mk hS1 ?_
   | refine call_fun rfl rfl h1 (.inl rfl) ?_
   | refine call_fun rfl rfl h2 (.inl rfl) ?_
   | refine call_fun rfl rfl hfx (.inl rfl) ?_
   | refine call_fun rfl rfl hfy (.inl rfl) ?_
   | refine call_fun rfl rfl hAw (.inl rfl) ?_
   | refine call_fun rfl (hv3 _ _ _ (hb5 _ rfl) hg5 hk5) (q1 _) (.inr rfl) ?_
   | refine call_fun rfl (hv4 _ _ _ (hb6 _ rfl) hg6 hk6) (q2 _) (.inr rfl) ?_
   | (refine Idx.nat ?_ ?_; (focus omega))
   | (refine Idx.int ?_ ?_ ?_; (focus omega); (focus omega))
   | (refine Ifz.pos ?_ ?_; (focus omega))
   | refine Get.mk _ rfl ?_
   | refine Leaves.of ?_
   | refine Vw.bool ?_
   | (refine Req.mk ?_ ?_; (focus first | rfl | decide | exact ⟨rfl, rfl⟩ | exact ⟨rfl, by decide⟩ | exact (fun _ => rfl) | exact (fun h => nomatch h) | (simp; done) | omega | (simp [big]; done) | exact le_big (by omega) | exact lt_big (by omega))))
      all_goals first | rfl | (exfalso; omega; done) | simp
  · have q1 : ∀ c, Fun FB2 md 21 [elA' ⟨x.nm, c, (m, f) :: x.l, x.g⟩, elA' y, .int .i64 a] (.tup [.int .i64 0, .int .i64 0, .int .i64 (ckE x.nm ((m, f) :: x.l) x.g).2]) := fun c => by
      have := b1 c; rw [bestV2_err (by rw [hfr]; exact hE), hfr] at this; exact this
    have q2 : ∀ c, Fun FB2 md 21 [elA' ⟨x.nm, c, x.l ++ [(m, f)], x.g⟩, elA' y, .int .i64 a] (.tup [.int .i64 0, .int .i64 0, .int .i64 (ckE x.nm ((m, f) :: x.l) x.g).2]) := fun c => by
      have := b2 c; rw [bestV2_err (by rw [hen]; exact hE), hen] at this; exact this
    clear b1 b2 hv1 hv0
    generalize (ckE x.nm ((m, f) :: x.l) x.g).2 = E at *
    generalize openT x y a 0 0 = n at *
    generalize openT x y (a + b) 0 0 = n2 at *
    by_cases hz : x.l.length = 0
    · obtain ⟨nm, cl, l, gr⟩ := x
      have hzl : l = [] := List.length_eq_zero_iff.1 hz
      subst hzl
      have hv4 : ∀ h g k, bget h 7 = some (.blk (shC [(m, f)]) true) → g = 2 → k = 1 → views h depth [.agg [.str nm, .ms 2 7 g 0 k false, .int .i64 gr], elA' y, .int .i64 a] = some [elA' ⟨nm, false, [(m, f)], gr⟩, elA' y, .int .i64 a] := fun h g k h1 h2 h3 => views_two (view_elms h1 (by rw [h2]; rfl) (by rw [h3]; rfl)) view_elsl
      refine fun_of rfl rfl ?_
      repeat' (first
 | (conv => whnf)
   first
   | refine Br.t ?_
   | refine Br.f ?_
   | (refine Br.decT ?_ ?_; (focus first | assumption | omega))
   | (refine Br.decF ?_ ?_; (focus first | assumption | omega))
   | refine Br.not ?_
   | (refine Bnd.i64 ?_ ?_ ?_; (focus omega); (focus omega))
   | refine call_fun rfl rfl h1 (.inl rfl) ?_
   | refine call_fun rfl rfl h2 (.inl rfl) ?_
   | refine call_fun rfl rfl hfx (.inl rfl) ?_
   | refine call_fun rfl rfl hfy (.inl rfl) ?_
   | refine call_fun rfl rfl hAw (.inl rfl) ?_
   | refine call_fun rfl rfl (q1 true) (.inr rfl) ?_
   | refine call_fun rfl (hv4 _ _ _ rfl rfl rfl) (q2 _) (.inr rfl) ?_
   | (refine Idx.nat ?_ ?_; (focus omega))
   | (refine Idx.int ?_ ?_ ?_; (focus omega); (focus omega))
   | refine Ifz.zero ?_
   | (refine Ifz.pos ?_ ?_; (focus omega))
   | refine Get.mk _ rfl ?_
   | refine Leaves.of ?_
   | refine Vw.bool ?_
   | (refine Req.mk ?_ ?_; (focus first | rfl | decide | exact ⟨rfl, rfl⟩ | exact ⟨rfl, by decide⟩ | exact (fun _ => rfl) | exact (fun h => nomatch h) | (simp; done) | omega | (simp [big]; done) | exact le_big (by omega) | exact lt_big (by omega))))
      all_goals first | rfl | (exfalso; omega; done) | simp
    · have hv3 : ∀ h g k, bget h 5 = some (.blk (shC ((m, f) :: x.l)) true) → g = (x.l.length + 1) * 2 → k = x.l.length + 1 → views h depth [.agg [.str x.nm, .ms 2 5 g 0 k false, .int .i64 x.g], elA' y, .int .i64 a] = some [elA' ⟨x.nm, false, (m, f) :: x.l, x.g⟩, elA' y, .int .i64 a] := fun h g k h1 h2 h3 => views_two (view_elms h1 h2 h3) view_elsl
      have hv4 : ∀ h g k, bget h 6 = some (.blk (shC (x.l ++ [(m, f)])) true) → g = (x.l.length + 1) * 2 → k = x.l.length + 1 → views h depth [.agg [.str x.nm, .ms 2 6 g 0 k false, .int .i64 x.g], elA' y, .int .i64 a] = some [elA' ⟨x.nm, false, x.l ++ [(m, f)], x.g⟩, elA' y, .int .i64 a] := fun h g k h1 h2 h3 => views_two (view_elms h1 (by rw [h2]; simp) (by rw [h3]; simp)) view_elsl
      refine fun_of rfl rfl ?_
      have hb5 : ∀ r : List B, bget r 5 = some (.blk ([.int .i64 m, .int .i64 f] ++ shC x.l) true) → bget r 5 = some (.blk (shC ((m, f) :: x.l)) true) := fun r h => h
      have hb6 : ∀ r : List B, bget r 6 = some (.blk (([] ++ shC x.l) ++ [.int .i64 m, .int .i64 f]) true) → bget r 6 = some (.blk (shC (x.l ++ [(m, f)])) true) := fun r h => by rw [shC_append]; exact h
      have hg5 : [V.int .i64 m, .int .i64 f].length + (shC x.l).length = (x.l.length + 1) * 2 := by rw [hlen]; simp; omega
      have hg6 : (([] : List V).length + (shC x.l).length) + [V.int .i64 m, .int .i64 f].length = (x.l.length + 1) * 2 := by rw [hlen]; simp; omega
      have hk5 : 1 + x.l.length = x.l.length + 1 := by omega
      have hk6 : 0 + x.l.length + 1 = x.l.length + 1 := by omega
      repeat' (first
 | (conv => whnf)
   first
   | refine Br.t ?_
   | refine Br.f ?_
   | (refine Br.decT ?_ ?_; (focus first | assumption | omega))
   | (refine Br.decF ?_ ?_; (focus first | assumption | omega))
   | refine Br.not ?_
   | (refine Bnd.i64 ?_ ?_ ?_; (focus omega); (focus omega))
   | refine Req.mk hR1 ?_
   | refine Req.mk hR2 ?_
   | refine Req.mk hR3 ?_
   | refine Req.mk hS1 ?_
   | refine call_fun rfl rfl h1 (.inl rfl) ?_
   | refine call_fun rfl rfl h2 (.inl rfl) ?_
   | refine call_fun rfl rfl hfx (.inl rfl) ?_
   | refine call_fun rfl rfl hfy (.inl rfl) ?_
   | refine call_fun rfl rfl hAw (.inl rfl) ?_
   | refine call_fun rfl (hv3 _ _ _ (hb5 _ rfl) hg5 hk5) (q1 _) (.inr rfl) ?_
   | refine call_fun rfl (hv4 _ _ _ (hb6 _ rfl) hg6 hk6) (q2 _) (.inr rfl) ?_
   | (refine Idx.nat ?_ ?_; (focus omega))
   | (refine Idx.int ?_ ?_ ?_; (focus omega); (focus omega))
   | (refine Ifz.pos ?_ ?_; (focus omega))
   | refine Get.mk _ rfl ?_
   | refine Leaves.of ?_
   | refine Vw.bool ?_
   | (refine Req.mk ?_ ?_; (focus first | rfl | decide | exact ⟨rfl, rfl⟩ | exact ⟨rfl, by decide⟩ | exact (fun _ => rfl) | exact (fun h => nomatch h) | (simp; done) | omega | (simp [big]; done) | exact le_big (by omega) | exact lt_big (by omega))))
      all_goals first | rfl | (exfalso; omega; done) | simp
end Go.Dr.T
