/- The door: small steps of conditions. -/
import Derived.Test.YtigcchafpenhiaaDrWpc
namespace Go.Dr

theorem Br.t {P Q : Prop} (h : P) : Br true P Q := ⟨fun _ => h, fun e => (by cases e)⟩
theorem Br.f {P Q : Prop} (h : Q) : Br false P Q := ⟨fun e => (by cases e), fun _ => h⟩
theorem Br.dec {p : Prop} [i : Decidable p] {P Q : Prop} (h1 : p → P) (h2 : ¬ p → Q) : Br (@decide p i) P Q := ⟨fun e => h1 (by simpa using e), fun e => h2 (by simpa using e)⟩
theorem Br.decT {p : Prop} [i : Decidable p] {P Q : Prop} (hp : p) (h1 : P) : Br (@decide p i) P Q := Br.dec (fun _ => h1) fun h => absurd hp h
theorem Br.decF {p : Prop} [i : Decidable p] {P Q : Prop} (hp : ¬ p) (h1 : Q) : Br (@decide p i) P Q := Br.dec (fun h => absurd h hp) fun _ => h1
theorem Br.not {b : Bool} {P Q : Prop} (h : Br b Q P) : Br (!b) P Q := ⟨fun e => h.2 (by simpa using e), fun e => h.1 (by simpa using e)⟩
theorem Br.and {a b : Bool} {P Q : Prop} (h : Br a (Br b P Q) Q) : Br (a && b) P Q := by
  cases a with
  | true => exact h.1 rfl
  | false => exact Br.f (h.2 rfl)
theorem Br.or {a b : Bool} {P Q : Prop} (h : Br a P (Br b P Q)) : Br (a || b) P Q := by
  cases a with
  | true => exact Br.t (h.1 rfl)
  | false => exact h.2 rfl
theorem Br.yes {b : Bool} {P Q : Prop} (e : b = true) (h : P) : Br b P Q := e ▸ Br.t h
theorem Br.no {b : Bool} {P Q : Prop} (e : b = false) (h : Q) : Br b P Q := e ▸ Br.f h
theorem Br.both {b : Bool} {P : Prop} (h : P) : Br b P P := ⟨fun _ => h, fun _ => h⟩

theorem wrap_i64 {e : Int} (h1 : -9223372036854775808 ≤ e) (h2 : e ≤ 9223372036854775807) : IntKind.i64.wrap e = e := by
  unfold IntKind.wrap
  simp only [IntKind.bits, IntKind.signed, IntKind.max, IntKind.min, if_true]
  first | omega | (split <;> omega) | (simp; omega)
theorem Bnd.any {e : Int} {P : Int → Prop} (h : P e) : Bnd e P := ⟨fun _ hr => hr ▸ h⟩
theorem Bnd.eq {e e' : Int} {P : Int → Prop} (he : e = e') (h : P e') : Bnd e P := ⟨fun _ hr => hr ▸ he ▸ h⟩
theorem Bnd.i64 {e : Int} {P : Int → Prop} (h1 : -9223372036854775808 ≤ e) (h2 : e ≤ 9223372036854775807) (h : P e) : Bnd (IntKind.i64.wrap e) P := Bnd.eq (wrap_i64 h1 h2) h

theorem Idx.int {m : Nat} {k : IntKind} {n : Int} {P : Nat → Prop} (h0 : 0 ≤ n) (h1 : n ≤ m) (h : P n.toNat) : Idx m (.int k n) P := ⟨_, by simp [nat?, h0, h1], h⟩
theorem Idx.nat {m : Nat} {k : IntKind} {n : Nat} {P : Nat → Prop} (h1 : n ≤ m) (h : P n) : Idx m (.int k (n : Int)) P := ⟨n, by simp [nat?, h1], h⟩
theorem Ifz.pos {n : Nat} {P Q : Prop} (hn : n ≠ 0) (h : Q) : Ifz n P Q := ⟨fun e => absurd e hn, fun _ => h⟩
theorem Ifz.zero {P Q : Prop} (h : P) : Ifz 0 P Q := ⟨fun _ => h, fun e => absurd rfl e⟩
theorem fV.mk {l : List V} {K : List V → Prop} (h : K l) : fV l K := fV_eq.2 h
theorem fB.mk {l : List B} {K : List B → Prop} (h : K l) : fB l K := fB_eq.2 h

theorem cellAt_bytes : ∀ {l : List UInt8} {i : Nat} (h : i < l.length), cellAt (ofBytes l) i = some (.int .u8 l[i].toNat)
  | [], _, h => absurd h (by simp)
  | b :: l, 0, _ => rfl
  | b :: l, i + 1, h => by
    have := cellAt_bytes (l := l) (i := i) (by simpa using h)
    simpa [ofBytes, cellAt] using this
theorem ofBytes_length (l : List UInt8) : (ofBytes l).length = l.length := by
  induction l with
  | nil => rfl
  | cons b l ih => simp [ofBytes, ih]

/-! ### leaving -/
inductive Vw (h : List B) (d : Nat) (v0 v : V) : Prop where
  | mk : V.view h d v0 = some v → Vw h d v0 v
inductive VwL (h : List B) (d : Nat) (l l' : List V) : Prop where
  | mk : mapO (V.view h d) l = some l' → VwL h d l l'
def wLeave (res : List RV) (v : V) (x : X) (s : St) : Prop :=
  match x with
  | .exit _ => False
  | _ => Get (result s res) fun v0 => fW v0 fun v0 => Vw s.h depth v0 v
theorem Leaves.of {res : List RV} {v : V} {x : X} {s : St} (h : wLeave res v x s) : Leaves res v x s := by
  cases x with
  | exit i => exact h.elim
  | nrm =>
    obtain ⟨v0, h1, h2⟩ := h
    exact ⟨v0, .inl rfl, h1, (fW_eq.1 h2).1⟩
  | ret =>
    obtain ⟨v0, h1, h2⟩ := h
    exact ⟨v0, .inr rfl, h1, (fW_eq.1 h2).1⟩
section
variable {h : List B} {d : Nat}
theorem Vw.bool {a b : Bool} (e : a = b) : Vw h (d + 1) (.bool a) (.bool b) := ⟨by rw [e]; rfl⟩
theorem Vw.int {k : IntKind} {a b : Int} (e : a = b) : Vw h (d + 1) (.int k a) (.int k b) := ⟨by rw [e]; rfl⟩
theorem Vw.str {a b : List UInt8} (e : a = b) : Vw h (d + 1) (.str a) (.str b) := ⟨by rw [e]; rfl⟩
theorem Vw.nil : Vw h (d + 1) .nilsl (.sl true 0 []) := ⟨rfl⟩
theorem Vw.sl {c : Bool} {n : Nat} {l : List V} : Vw h (d + 1) (.sl c n l) (.sl c n l) := ⟨rfl⟩
theorem Vw.tup {l m : List V} (e : VwL h d l m) : Vw h (d + 1) (.tup l) (.tup m) := ⟨by simp only [V.view]; rw [e.1]; rfl⟩
theorem Vw.agg {l m : List V} (e : VwL h d l m) : Vw h (d + 1) (.agg l) (.agg m) := ⟨by simp only [V.view]; rw [e.1]; rfl⟩
theorem Vw.ms {es id g off len : Nat} {clip dat : Bool} {c cs r : List V} (h1 : bget h id = some (.blk c dat)) (h2 : c.length = g) (h3 : part c off (len * es) = some cs) (h4 : VwL h d cs r) : Vw h (d + 1) (.ms es id g off len clip) (.sl clip len r) :=
  ⟨by simp only [V.view, h1, h2, if_true, h3, h4.1]⟩
theorem VwL.nil : VwL h d [] [] := ⟨rfl⟩
theorem VwL.cons {v w : V} {l m : List V} (e : Vw h d v w) (el : VwL h d l m) : VwL h d (v :: l) (w :: m) := ⟨by simp only [mapO, e.1, el.1]⟩
theorem VwL.append {l m l' m' : List V} (e : VwL h d l m) (el : VwL h d l' m') : VwL h d (l ++ l') (m ++ m') := by
  induction l generalizing m with
  | nil =>
    have := e.1
    simp only [mapO, Option.some.injEq] at this
    subst this; exact el
  | cons v l ih =>
    have h1 := e.1
    simp only [mapO] at h1
    split at h1 <;> (try (cases h1; done))
    rename_i x hx
    split at h1 <;> (try (cases h1; done))
    rename_i r hr
    cases h1
    exact VwL.cons ⟨hx⟩ (ih ⟨hr⟩)
theorem VwL.bytes (l : List UInt8) : VwL h (d + 1) (ofBytes l) (ofBytes l) := by
  induction l with
  | nil => exact VwL.nil
  | cons b l ih => exact VwL.cons (Vw.int rfl) ih
end
theorem part_all {c : List V} {n : Nat} (h : c.length = n) : part c 0 n = some c := by
  unfold part
  have e1 : ∀ (l : List V) (n : Nat), l.length = n → take' n l = l := by
    intro l
    induction l with
    | nil => intro n h; cases n <;> rfl
    | cons v l ih =>
      intro n h
      cases n with
      | zero => simp at h
      | succ n => simp only [take']; rw [ih n (by simpa using h)]
  simp only [drop', e1 c n h, h, if_true]

/-! ### loops -/
def upds : List V → List (Nat × V) → List V
  | tm, [] => tm
  | tm, (n, v) :: l => upds (tset tm n v) l
def bupds : List B → List (Nat × B) → List B
  | h, [] => h
  | h, (n, b) :: l => bupds (bset h n b) l
theorem bytesOf_ofBytes (l : List UInt8) : bytesOf (ofBytes l) = some l := by
  induction l with
  | nil => rfl
  | cons b l ih =>
    have : byteOf (.int .u8 b.toNat) = some b := by simp [byteOf]
    simp only [ofBytes, bytesOf, this, ih]
theorem scalars_ofBytes (l : List UInt8) : scalars (ofBytes l) = true := by
  induction l with
  | nil => rfl
  | cons b l ih => simp [ofBytes, scalars, V.scalar, ih]
theorem ofBytes_append (a b : List UInt8) : ofBytes (a ++ b) = ofBytes a ++ ofBytes b := by
  induction a with
  | nil => rfl
  | cons x l ih => simp [ofBytes, ih]
theorem fW.mk {v : V} {K : V → Prop} (h : K v) : fW v K := fW_eq.2 h

theorem LoopP.by {w : St → (X → St → Prop) → Prop} {m : List Bool} {hl : Nat} {tm : List V} {h : List B} {Q : X → St → Prop} {α : Type} (P : α → Prop) (us : α → List (Nat × V)) (hs : α → List B) (μ : α → Nat) (a0 : α) (p0 : P a0)
    (h0 : (⟨tm, h⟩ : St) = ⟨upds tm (us a0), hs a0⟩)
    (step : ∀ a, P a → fV (upds tm (us a)) fun tm' => fB (hs a) fun h' => w ⟨tm', h'⟩ fun x s => match x with
      | .nrm => NextP P (fun a => (⟨upds tm (us a), hs a⟩ : St)) μ a (norm m hl s)
      | x => Q x s) : LoopP w m hl ⟨tm, h⟩ Q :=
  ⟨α, P, fun a => ⟨upds tm (us a), hs a⟩, μ, a0, p0, h0, fun a pa => fB_eq.1 (fV_eq.1 (step a pa))⟩

theorem Vw.bytes {h : List B} {d id g len n : Nat} {clip dat : Bool} {l l' : List UInt8} (h1 : bget h id = some (.blk (ofBytes l) dat)) (h2 : g = l.length) (h3 : len = l.length) (e : l = l') (hn : n = l'.length) :
    Vw h (d + 1 + 1) (.ms 1 id g 0 len clip) (.sl clip n (ofBytes l')) := by
  subst e hn h2 h3
  exact Vw.ms h1 (ofBytes_length l) (part_all (by rw [ofBytes_length, Nat.mul_one])) (VwL.bytes l)

theorem le_big {n : Nat} (h : n ≤ 68719476736) : n ≤ big := h
theorem lt_big {n : Nat} (h : n < 68719476736) : n < big := h

def wEnd (res : List RV) (P : V → Prop) (x : X) (s : St) : Prop :=
  match x with
  | .exit _ => False
  | _ => Get (result s res) fun v => fW v P
theorem Ends.of {res : List RV} {P : V → Prop} {x : X} {s : St} (h : wEnd res P x s) : Ends res x s P := by
  cases x with
  | exit i => exact h.elim
  | nrm =>
    obtain ⟨v0, h1, h2⟩ := h
    exact ⟨v0, .inl rfl, h1, fW_eq.1 h2⟩
  | ret =>
    obtain ⟨v0, h1, h2⟩ := h
    exact ⟨v0, .inr rfl, h1, fW_eq.1 h2⟩

end Go.Dr
