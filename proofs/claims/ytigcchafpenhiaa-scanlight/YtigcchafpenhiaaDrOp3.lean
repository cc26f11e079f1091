/- The door: single operations, third part: tests, numbers, conversions, fields, places, bounds. -/
import Derived.Test.YtigcchafpenhiaaDrOp2
namespace Go.Dr
open Go.RowKit (Below)

variable {P : Program} {k : K} {tm : List V} {ρ : Operand → Value} {o : Oper} {j base ro : Nat} {m : M} {p : Pl} {v : V} {h' : List B}

theorem exec_v {s : Sem Value} {y : Value} {w w' : World} (h : s.run P w = .ok y w') : (do pure (Next.value (← s)) : Sem Next).run P w = .ok (.value y) w' := by simp [h]

theorem did_unop (g : Good P k) (ht : Ops k tm ρ) {x : Operand} {uo : UnOp} {t : TypeId} (ho : o.op = .unOp uo t x) (hc : cOp P j o.op = some m) (hp : plan base tm m = some p) (hg : p.go ro k.h = some (v, h')) :
    Did P ro k (execOp ρ o) v h' := by
  rw [ho] at hc; simp only [cOp] at hc; obtain ⟨y, hy, rfl⟩ := map_some hc
  simp only [plan] at hp
  obtain ⟨z, hz, rfl⟩ := val?_some hp
  have h1 := ht.1 _ _ hy
  generalize y.ev tm = yv at h1 hz
  unfold unop at hz
  split at hz <;> (try (cases hz; done)) <;> cases hz <;> simp only [R] at h1
  · exact fin_val g rfl hg (by simp only [execOp, ho, h1]; exact exec_v (by simp only [Op.unary, Op.intArith, Sem.run_pure]; rfl)) (by simp only [R])
  · exact fin_val g rfl hg (by simp only [execOp, ho, h1]; exact exec_v (by simp only [Op.unary, Op.intBits, Sem.run_pure]; rfl)) (by simp only [R, bitsOf])
  · exact fin_val g rfl hg (by simp only [execOp, ho, h1]; exact exec_v (by simp only [Op.unary, Sem.run_pure]; rfl)) (by simp only [R])

theorem did_iface (g : Good P k) (ht : Ops k tm ρ) {x : Operand} {t : TypeId} (ho : o.op = .makeInterface t x) (hc : cOp P j o.op = some m) (hp : plan base tm m = some p) (hg : p.go ro k.h = some (v, h')) :
    Did P ro k (execOp ρ o) v h' := by
  rw [ho] at hc; simp only [cOp] at hc
  split at hc
  · cases hc
  · rename_i d hn hd
    obtain ⟨y, hy, rfl⟩ := map_some hc
    have h1 := ht.1 _ _ hy
    refine fin_val g hp hg (y := .iface t (ρ x)) ?_ (by simp only [R]; exact ⟨_, rfl, h1⟩)
    simp only [execOp, ho, Instr.makeInterface, Sem.run_bind, run_underlying hd, Result.andThen_ok]
    cases d with
    | interface ms => exact absurd rfl (hn ms)
    | _ => simp
  · cases hc

theorem did_func (g : Good P k) (ht : Ops k tm ρ) {f : Fn} {first caps : Array Operand} (ho : o.op = .makeFunc f first caps) (hc : cOp P j o.op = some m) (hp : plan base tm m = some p) (hg : p.go ro k.h = some (v, h')) :
    Did P ro k (execOp ρ o) v h' := by
  rw [ho] at hc
  unfold cOp at hc
  split at hc <;> (try (rename_i e; cases e; done)) <;> (try (cases hc; done))
  rename_i f' caps' e
  cases e
  obtain ⟨ys, hys, rfl⟩ := map_some hc
  have h1 := ht.2 _ _ hys
  refine fin_val g hp hg (y := .func (.func f') #[] (caps.map ρ)) (by simp [execOp, ho, Instr.makeFunc]) ?_
  simp only [R]
  exact ⟨caps.toList.map ρ, by congr 1; apply Array.ext'; simp, h1⟩

theorem did_field_addr (g : Good P k) (ht : Ops k tm ρ) {x : Operand} {t : TypeId} {f : Nat} (ho : o.op = .fieldAddr t x f) (hc : cOp P j o.op = some m) (hp : plan base tm m = some p) (hg : p.go ro k.h = some (v, h')) :
    Did P ro k (execOp ρ o) v h' := by
  rw [ho] at hc; simp only [cOp] at hc
  split at hc <;> (try (cases hc; done))
  rename_i fs y hu hy
  split at hc <;> (try (cases hc; done))
  rename_i fd hf
  split at hc <;> (try (cases hc; done))
  rename_i n hn
  cases hc
  have h1 := ht.1 _ _ hy
  have hrun : ∀ b o' w, ((Instr.fieldAt t (.pointer (some ⟨b, o', none⟩)) f)).run P w = .ok (.pointer (some ⟨b, o' + fd.offset, none⟩)) w := by
    intro b o' w
    simp [Instr.fieldAt, run_underlying hu, hf, Instr.sureAddr, fieldPlace, szOf_run hn, Addr.add_lit]
  simp only [plan] at hp
  split at hp <;> (try (cases hp; done)) <;> (rename_i e; rw [e] at h1) <;> simp only [R] at h1
  · obtain ⟨b, o', vs, hx, h2⟩ := h1
    refine fin_val g hp hg (y := .pointer (some ⟨b, _, none⟩)) (by simp [execOp, ho, hx, hrun]; rfl) ?_
    simp only [R]; exact ⟨b, o', vs, by simp [Nat.add_assoc], h2⟩
  · obtain ⟨b, o', c, dat, hx, h2, h3, h4⟩ := h1
    refine fin_val g hp hg (y := .pointer (some ⟨b, _, none⟩)) (by simp [execOp, ho, hx, hrun]; rfl) ?_
    simp only [R]; exact ⟨b, o' + fd.offset, c, dat, rfl, h2, h3, fun e => ⟨(h4 e).1, by rw [(h4 e).2]; omega⟩⟩

theorem nat?_some {m n : Nat} {v : V} (h : nat? m v = some n) : ∃ kk i, v = .int kk i ∧ 0 ≤ i ∧ i ≤ (m : Int) ∧ n = i.toNat := by
  unfold nat? at h
  split at h
  · split at h
    · rename_i hi; cases h; exact ⟨_, _, rfl, hi.1, hi.2, rfl⟩
    · cases h
  · cases h

theorem did_index_addr (g : Good P k) (ht : Ops k tm ρ) {x i : Operand} {t : TypeId} (ho : o.op = .indexAddr t x i) (hc : cOp P j o.op = some m) (hp : plan base tm m = some p) (hg : p.go ro k.h = some (v, h')) :
    Did P ro k (execOp ρ o) v h' := by
  rw [ho] at hc; simp only [cOp] at hc
  split at hc <;> (try (cases hc; done))
  rename_i y iy hy hiy
  have h1 := ht.1 _ _ hy
  have h2 := ht.1 _ _ hiy
  split at hc <;> (try (cases hc; done)) <;> rename_i hu
  · rename_i e
    obtain ⟨n, hn, rfl⟩ := map_some hc
    have hrun : ∀ (b o' len cap : Nat) (kk : IntKind) (q : Int) (w : World), 0 ≤ q → q < (len : Int) → ((Instr.indexAt t (.slice (some ⟨b, o', none⟩) len cap) (.int kk q))).run P w = .ok (.pointer (some ⟨b, o' + q.toNat * n, none⟩)) w := by
      intro b o' len cap kk q w h0 hl
      simp [Instr.indexAt, run_underlying hu, asIntOf, szOf_run hn, Addr.add_lit, h0, hl]
    simp only [plan] at hp
    split at hp <;> (try (cases hp; done)) <;> (rename_i ey; rw [ey] at h1; simp only [R] at h1)
    · split at hp
      · cases hp
      · rename_i mm
        split at hp <;> (try (cases hp; done))
        rename_i jj hj
        obtain ⟨kk, q, hq, h0, hm, rfl⟩ := nat?_some hj
        rw [hq] at h2; simp only [R] at h2
        rcases h1 with ⟨_, _, h0', _⟩ | ⟨b, off, cap, vs, hx, h3, h4, h5, h6, h7, _⟩
        · cases h0'
        refine fin_val g hp hg (y := .pointer (some ⟨b, off + q.toNat * n, none⟩)) (by simp only [execOp, ho, hx, h2]; exact exec_v (hrun _ _ _ _ _ _ _ h0 (by omega))) ?_
        simp only [R]; exact ⟨b, off, vs, rfl, h3, h4, h5, h6⟩
    · rename_i es id gg off len clip
      split at hp
      · cases hp
      · rename_i mm
        split at hp <;> (try (cases hp; done))
        rename_i jj hj
        obtain ⟨kk, q, hq, h0, hm, rfl⟩ := nat?_some hj
        rw [hq] at h2; simp only [R] at h2
        obtain ⟨b, o', cap, c, dat, hx, h3, h4, h5, h6, h7⟩ := h1
        refine fin_val g hp hg (y := .pointer (some ⟨b, o' + q.toNat * n, none⟩)) (by simp only [execOp, ho, hx, h2]; exact exec_v (hrun _ _ _ _ _ _ _ h0 (by omega))) ?_
        simp only [R]
        refine ⟨b, o' + q.toNat * n, c, dat, rfl, h3, h4, fun e => ?_⟩
        obtain ⟨h8, h9⟩ := h7 e
        obtain ⟨h10, h11, _⟩ := h9.2 (by omega)
        exact ⟨h10, by omega⟩
  · rename_i len e
    obtain ⟨n, hn, rfl⟩ := map_some hc
    have hrun : ∀ (b o' : Nat) (kk : IntKind) (q : Int) (w : World), 0 ≤ q → q < (len : Int) → ((Instr.indexAt t (.pointer (some ⟨b, o', none⟩)) (.int kk q))).run P w = .ok (.pointer (some ⟨b, o' + q.toNat * n, none⟩)) w := by
      intro b o' kk q w h0 hl
      simp [Instr.indexAt, run_underlying hu, asIntOf, szOf_run hn, Addr.add_lit, h0, hl, Instr.sureAddr]
    simp only [plan] at hp
    split at hp <;> (try (cases hp; done))
    rename_i mm
    split at hp <;> (try (cases hp; done))
    rename_i jj hj
    obtain ⟨kk, q, hq, h0, hm, rfl⟩ := nat?_some hj
    rw [hq] at h2; simp only [R] at h2
    split at hp <;> (try (cases hp; done)) <;> (rename_i ey; rw [ey] at h1; simp only [R] at h1)
    · obtain ⟨b, o', vs, hx, h3⟩ := h1
      refine fin_val g hp hg (y := .pointer (some ⟨b, o' + _ + q.toNat * n, none⟩)) (by simp only [execOp, ho, hx, h2]; exact exec_v (hrun _ _ _ _ _ h0 (by omega))) ?_
      simp only [R]; exact ⟨b, o', vs, by simp [Nat.add_assoc], h3⟩
    · obtain ⟨b, o', c, dat, hx, h3, h4, h5⟩ := h1
      refine fin_val g hp hg (y := .pointer (some ⟨b, o' + q.toNat * n, none⟩)) (by simp only [execOp, ho, hx, h2]; exact exec_v (hrun _ _ _ _ _ h0 (by omega))) ?_
      simp only [R]; exact ⟨b, o' + q.toNat * n, c, dat, rfl, h3, h4, fun e => ⟨(h5 e).1, by rw [(h5 e).2]; omega⟩⟩

end Go.Dr
