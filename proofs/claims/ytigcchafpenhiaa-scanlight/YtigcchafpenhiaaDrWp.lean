/- The door: conditions under which code runs as wished: a function from code to a proposition, and that it is right. -/
import Derived.Test.YtigcchafpenhiaaDrCore
namespace Go.Dr

inductive Req (A P : Prop) : Prop where
  | mk : A → P → Req A P
inductive Bnd (e : Int) (P : Int → Prop) : Prop where
  | mk : (∀ r, r = e → P r) → Bnd e P
inductive Br (b : Bool) (P Q : Prop) : Prop where
  | mk : (b = true → P) → (b = false → Q) → Br b P Q
inductive Ifz (n : Nat) (P Q : Prop) : Prop where
  | mk : (n = 0 → P) → (n ≠ 0 → Q) → Ifz n P Q
inductive Get {α : Type} (o : Option α) (P : α → Prop) : Prop where
  | mk (a : α) : o = some a → P a → Get o P
inductive Idx (m : Nat) (v : V) (P : Nat → Prop) : Prop where
  | mk (j : Nat) : nat? m v = some j → P j → Idx m v P
inductive NextP {α : Type} (P : α → Prop) (I : α → St) (μ : α → Nat) (a : α) (s : St) : Prop where
  | mk (a' : α) : P a' → μ a' < μ a → s = I a' → NextP P I μ a s
inductive LoopP (w : St → (X → St → Prop) → Prop) (m : List Bool) (hl : Nat) (st : St) (Q : X → St → Prop) : Prop where
  | mk (α : Type) (P : α → Prop) (I : α → St) (μ : α → Nat) (a0 : α) (p0 : P a0) (h0 : st = I a0) (hs : ∀ a, P a → w (I a) (fun x s => match x with
      | .nrm => NextP P I μ a (norm m hl s)
      | x => Q x s)) : LoopP w m hl st Q

/-- A list is written out. -/
def fV : List V → (List V → Prop) → Prop
  | [], K => K []
  | v :: l, K => fV l fun r => K (v :: r)
def fB : List B → (List B → Prop) → Prop
  | [], K => K []
  | b :: l, K => fB l fun r => K (b :: r)
theorem fV_eq : ∀ {l : List V} {K : List V → Prop}, fV l K ↔ K l
  | [], K => Iff.rfl
  | v :: l, K => by simp only [fV]; exact fV_eq (l := l) (K := fun r => K (v :: r))
theorem fB_eq : ∀ {l : List B} {K : List B → Prop}, fB l K ↔ K l
  | [], K => Iff.rfl
  | v :: l, K => by simp only [fB]; exact fB_eq (l := l) (K := fun r => K (v :: r))

/-- A value is worked out. -/
def fW (v : V) (K : V → Prop) : Prop :=
  match v with
  | .bool b => K (.bool b)
  | .int k n => K (.int k n)
  | .str s => K (.str s)
  | .nilp => K .nilp
  | .nilsl => K .nilsl
  | .nilmap => K .nilmap
  | .nilfn => K .nilfn
  | .nilif => K .nilif
  | .sl c n l => K (.sl c n l)
  | .rp l n => K (.rp l n)
  | .agg l => K (.agg l)
  | .tup l => K (.tup l)
  | .iface t v => K (.iface t v)
  | .fn f l => K (.fn f l)
  | .ref i g o => K (.ref i g o)
  | .ms e i g o n c => K (.ms e i g o n c)
  | .yld i => K (.yld i)
  | .dead => K .dead
theorem fW_eq {v : V} {K : V → Prop} : fW v K ↔ K v := by cases v <;> exact Iff.rfl
def fC : List V → (List V → Prop) → Prop
  | [], K => K []
  | v :: l, K => fW v fun v => fC l fun r => K (v :: r)
theorem fC_eq : ∀ {l : List V} {K : List V → Prop}, fC l K ↔ K l
  | [], K => Iff.rfl
  | v :: l, K => by simp only [fC, fW_eq]; exact fC_eq (l := l) (K := fun r => K (v :: r))
def fEvs (tm : List V) : List O → (List V → Prop) → Prop
  | [], K => K []
  | x :: l, K => fW (x.ev tm) fun v => fEvs tm l fun r => K (v :: r)
theorem fEvs_eq {tm : List V} : ∀ {l : List O} {K : List V → Prop}, fEvs tm l K ↔ K (evs tm l)
  | [], K => Iff.rfl
  | x :: l, K => by simp only [fEvs, fW_eq]; exact fEvs_eq (l := l) (K := fun r => K (x.ev tm :: r))
def fLen : List B → Nat → (Nat → Prop) → Prop
  | [], n, K => K n
  | _ :: l, n, K => fLen l (n + 1) K
theorem fLen_eq : ∀ {l : List B} {n : Nat} {K : Nat → Prop}, fLen l n K ↔ K (n + l.length)
  | [], n, K => Iff.rfl
  | _ :: l, n, K => by simp only [fLen]; rw [fLen_eq (l := l)]; rw [List.length_cons, Nat.add_assoc, Nat.add_comm 1]

def fLv : List V → Nat → (Nat → Prop) → Prop
  | [], n, K => K n
  | _ :: l, n, K => fLv l (n + 1) K
theorem fLv_eq : ∀ {l : List V} {n : Nat} {K : Nat → Prop}, fLv l n K ↔ K (n + l.length)
  | [], n, K => Iff.rfl
  | _ :: l, n, K => by simp only [fLv]; rw [fLv_eq (l := l)]; rw [List.length_cons, Nat.add_assoc, Nat.add_comm 1]

def cellAt : List V → Nat → Option V
  | [], _ => none
  | v :: _, 0 => some v
  | _ :: l, n + 1 => cellAt l n
def bitsI (k : IntKind) (op : BinOp) (x y : Int) : Int :=
  let a := BitVec.ofInt k.bits x
  let b := BitVec.ofInt k.bits y
  k.wrap (match op with
    | .and => a &&& b
    | .or => a ||| b
    | .xor => a ^^^ b
    | _ => a &&& ~~~b).toNat

section
variable (F : Nat → Option Fc) (md : Nat → Nat)

/-- What a call gives. -/
def Gives (ro : Nat) (fv : V) (args : List V) (h : List B) (v : V) (h' : List B) : Prop := ∃ n, ∀ m, n ≤ m → doCall F md ro (run F md m) fv args h = some (v, h')
inductive CallP (ro : Nat) (fv : V) (args : List V) (h : List B) (K : V → List B → Prop) : Prop where
  | mk (v : V) (h' : List B) : Gives F md ro fv args h v h' → K v h' → CallP ro fv args h K

def RoOk (ro id : Nat) (P : Prop) : Prop :=
  match ro with
  | 0 => P
  | n + 1 => Req (n + 1 ≤ id) P
def wNew (ro : Nat) (h : List B) (id : Nat) (b : B) (K : List B → Prop) : Prop :=
  RoOk ro id (Get (bget h id) fun
    | .unborn => fB (bset h id b) K
    | _ => False)
def wRd (h : List B) (id g : Nat) (P : List V → Prop) : Prop :=
  Get (bget h id) fun
    | .blk c _ => Req (c.length = g) (P c)
    | _ => False
def wLoad (agg : Bool) (n off : Nat) (c : List V) (K : V → Prop) : Prop :=
  match agg with
  | true => Get (part c off n) fun r => fV r fun r => K (.agg r)
  | false => if n = 1 then Get (cellAt c off) K else False
def wSrc (es : Nat) (h : List B) (v : V) (P : Nat → List V → Prop) : Prop :=
  match v with
  | .nilsl => P 0 []
  | .sl _ len cs => Req (cs.length = len * es) (P len cs)
  | .str s => if es = 1 then P s.length (ofBytes s) else False
  | .ms es' id g off len _ => if es' = es then wRd h id g fun c => Get (part c off (len * es)) fun r => P len r else False
  | _ => False
def wArith (op : BinOp) (k : IntKind) (a b : Int) (K : V → Prop) : Prop :=
  match op with
  | .add => Bnd (k.wrap (a + b)) fun r => K (.int k r)
  | .sub => Bnd (k.wrap (a - b)) fun r => K (.int k r)
  | .mul => Bnd (k.wrap (a * b)) fun r => K (.int k r)
  | .quo => Req (b ≠ 0) (Bnd (k.wrap (a.tdiv b)) fun r => K (.int k r))
  | .rem => Req (b ≠ 0) (Bnd (a.tmod b) fun r => K (.int k r))
  | .and => Bnd (bitsI k .and a b) fun r => K (.int k r)
  | .or => Bnd (bitsI k .or a b) fun r => K (.int k r)
  | .xor => Bnd (bitsI k .xor a b) fun r => K (.int k r)
  | .andNot => Bnd (bitsI k .andNot a b) fun r => K (.int k r)
  | .eql => K (.bool (decide (a = b)))
  | .neq => K (.bool (!decide (a = b)))
  | .lss => K (.bool (decide (a < b)))
  | .leq => K (.bool (decide (a ≤ b)))
  | .gtr => K (.bool (decide (b < a)))
  | .geq => K (.bool (decide (b ≤ a)))
  | _ => False
def wBin (op : BinOp) (x y : V) (K : V → Prop) : Prop :=
  match x, y with
  | .int k a, .int k' b => match op with
    | .shl => Req (0 ≤ b) (Bnd (k.wrap (a * 2 ^ (min b.toNat k.bits))) fun r => K (.int k r))
    | .shr => Req (0 ≤ b) (Bnd (a.fdiv (2 ^ (min b.toNat k.bits))) fun r => K (.int k r))
    | op => if k = k' then wArith op k a b K else False
  | .str a, .str b => Get (sop op a b) K
  | _, _ => False
def wMM (mx : Bool) : V → List V → (V → Prop) → Prop
  | v, [], K => K v
  | .int k x, .int k' y :: l, K => if k = k' then (match mx with
      | true => Bnd (max x y) fun r => wMM mx (.int k r) l K
      | false => Bnd (min x y) fun r => wMM mx (.int k r) l K) else False
  | _, _ :: _, _ => False
def wIdxO (m d : Nat) (v : Option V) (P : Nat → Prop) : Prop :=
  match v with
  | none => P d
  | some v => Idx m v P
def wAppNew (ro id es bytes : Nat) (dat : Bool) (len n : Nat) (cs ys : List V) (h : List B) (K : V → List B → Prop) : Prop :=
  Req ((cs.length + ys.length) * (bytes + 1) < big) (Req (dat = true → scalars (cs ++ ys) = true)
    (wNew ro h id (.blk (cs ++ ys) dat) fun h => K (.ms es id (cs.length + ys.length) 0 (len + n) false) h))

/-- An operation. -/
def wop (ro base : Nat) (tm : List V) (h : List B) (o : M) (K : V → List B → Prop) : Prop :=
  match o with
  | .mv x => K (x.ev tm) h
  | .pk c a b => match c.ev tm with
    | .bool t => Br t (K (a.ev tm) h) (K (b.ev tm) h)
    | _ => False
  | .al k z => wNew ro h (base + k) (.blk z false) fun h => K (.ref (base + k) z.length 0) h
  | .bx k x => fC (x.ev tm).cells fun cs => fLv cs 0 fun n => Req (ones cs = true) (wNew ro h (base + k) (.blk cs false) fun h => K (.ref (base + k) n 0) h)
  | .bd z ps => Get (fills tm z ps) fun cs => fC cs fun cs => K (.agg cs) h
  | .bs len z ps => Get (fills tm (reps len z) ps) fun cs => Req (blos 0 cs = true) (fC cs fun cs => K (.sl true len cs) h)
  | .ld agg n x => match x.ev tm with
    | .rp cs off => wLoad agg n off cs fun v => K v h
    | .ref id g off => wRd h id g fun c => wLoad agg n off c fun v => K v h
    | _ => False
  | .st n a x => match a.ev tm with
    | .ref id g off => fC (x.ev tm).cells fun vs => Req (vs.length = n ∧ ones vs = true) (RoOk ro id (Get (bget h id) fun
      | .blk c dat => Req (c.length = g ∧ off + n ≤ c.length) (Req (dat = true → scalars vs = true) (fV (over c off vs) fun c' => fB (bset h id (.blk c' dat)) fun h => K .dead h))
      | _ => False))
    | _ => False
  | .nc x => match x.ev tm with
    | .rp cs off => K (.rp cs off) h
    | .ref id g off => K (.ref id g off) h
    | .fn f cs => K (.fn f cs) h
    | .iface t v => K (.iface t v) h
    | _ => False
  | .bo op x y => wBin op (x.ev tm) (y.ev tm) fun v => K v h
  | .eqv neg kd x y => Get (eqv2 kd (x.ev tm) (y.ev tm)) fun e => match neg with
    | true => K (.bool (!e)) h
    | false => K (.bool e) h
  | .eqs neg ks x y => match x.ev tm, y.ev tm with
    | .agg xs, .agg ys => Get (eqc ks xs ys) fun e => match neg with
      | true => K (.bool (!e)) h
      | false => K (.bool e) h
    | _, _ => False
  | .un op x => match op, x.ev tm with
    | .neg, .int k n => Bnd (k.wrap (0 - n)) fun r => K (.int k r) h
    | .not, .bool b => K (.bool (!b)) h
    | op, v => Get (unop op v) fun v => K v h
  | .ci k x => match x.ev tm with
    | .int _ n => Bnd (k.wrap n) fun r => K (.int k r) h
    | _ => False
  | .cs x => match x.ev tm with
    | .str s => K (.str s) h
    | _ => False
  | .bts x => match x.ev tm with
    | .str _ => False
    | v => wSrc 1 h v fun _ cs => Get (bytesOf cs) fun s => K (.str s) h
  | .stb x => match x.ev tm with
    | .str s => Req (s.length < big) (K (.sl false s.length (ofBytes s)) h)
    | _ => False
  | .mi t x => fW (x.ev tm) fun v => K (.iface t v) h
  | .mf f cs => fEvs tm cs fun cs => K (.fn f cs) h
  | .mk k es bytes dat z len cap => Idx big (cap.ev tm) fun c => Idx c (len.ev tm) fun l => Req (c * (bytes + 1) ≤ big) (Req (z.length = es ∧ (dat = true → scalars z = true))
      (wNew ro h (base + k) (.blk (reps l z) dat) fun h => K (.ms es (base + k) (l * es) 0 l (decide (l = c))) h))
  | .ss es x lo hi mx => match x.ev tm with
    | .nilsl => wIdxO 0 0 (evo tm mx) fun _ => wIdxO 0 0 (evo tm hi) fun _ => wIdxO 0 0 (evo tm lo) fun _ => K .nilsl h
    | .sl clip len cs => wIdxO len len (evo tm mx) fun m => wIdxO m len (evo tm hi) fun hi => wIdxO hi 0 (evo tm lo) fun l => Get (part cs (l * es) ((hi - l) * es)) fun r =>
        K (.sl (if mx.isSome then decide (hi = m) else clip && decide (hi = len)) (hi - l) r) h
    | .ms es' id g off len clip => if es' = es then wIdxO len len (evo tm mx) fun m => wIdxO m len (evo tm hi) fun hi => wIdxO hi 0 (evo tm lo) fun l =>
        K (.ms es id g (off + l * es) (hi - l) (if mx.isSome then decide (hi = m) else clip && decide (hi = len))) h else False
    | _ => False
  | .sst x lo hi => match x.ev tm with
    | .str s => wIdxO s.length s.length (evo tm hi) fun hi => wIdxO hi 0 (evo tm lo) fun l => K (.str ((s.drop l).take (hi - l))) h
    | _ => False
  | .sa es n x lo hi mx => wIdxO n n (evo tm mx) fun m => wIdxO m n (evo tm hi) fun hi => wIdxO hi 0 (evo tm lo) fun l => match x.ev tm with
    | .ref id g off => wRd h id g fun _ => Req (off + n * es ≤ g) (K (.ms es id g (off + l * es) (hi - l) (decide (hi = m))) h)
    | .rp cs off => Get (part cs (off + l * es) ((hi - l) * es)) fun r => K (.sl (decide (hi = m)) (hi - l) r) h
    | _ => False
  | .fa off x => match x.ev tm with
    | .rp cs o => K (.rp cs (o + off)) h
    | .ref id g o => K (.ref id g (o + off)) h
    | _ => False
  | .fd off agg n x => match x.ev tm with
    | .agg cs => wLoad agg n off cs fun v => K v h
    | _ => False
  | .ia es x i => match x.ev tm with
    | .sl _ len cs => Req (0 < len) (Idx (len - 1) (i.ev tm) fun j => K (.rp cs (j * es)) h)
    | .ms _ id g off len _ => Req (0 < len) (Idx (len - 1) (i.ev tm) fun j => K (.ref id g (off + j * es)) h)
    | _ => False
  | .iaa es n x i => match n with
    | 0 => False
    | m + 1 => Idx m (i.ev tm) fun j => match x.ev tm with
      | .rp cs o => K (.rp cs (o + j * es)) h
      | .ref id g o => K (.ref id g (o + j * es)) h
      | _ => False
  | .ixs x i => match x.ev tm with
    | .str s => Idx s.length (i.ev tm) fun j => Get s[j]? fun b => K (.int .u8 b.toNat) h
    | _ => False
  | .ixa es n agg x i => match n with
    | 0 => False
    | m + 1 => Idx m (i.ev tm) fun j => match x.ev tm with
      | .agg cs => wLoad agg es (j * es) cs fun v => K v h
      | _ => False
  | .ta t ok z x => match x.ev tm with
    | .iface u v => if u = t then (match ok with
        | true => K (.tup [v, .bool true]) h
        | false => K v h) else (match ok with
        | true => K (.tup [z, .bool false]) h
        | false => False)
    | .nilif => match ok with
      | true => K (.tup [z, .bool false]) h
      | false => False
    | _ => False
  | .ex x i => match x.ev tm with
    | .tup vs => Get (cellAt vs i) fun v => K v h
    | _ => False
  | .len st x => match st, x.ev tm with
    | true, .str s => K (.int .i64 s.length) h
    | false, .nilsl => K (.int .i64 0) h
    | false, .sl _ n _ => K (.int .i64 n) h
    | false, .ms _ _ _ _ n _ => K (.int .i64 n) h
    | _, _ => False
  | .app k es bytes dat x y => if es = 0 then False else wSrc es h (y.ev tm) fun n ys => match x.ev tm with
    | .nilsl => Req (bget h (base + k) = some .unborn) (Ifz n (K .nilsl h) (wAppNew ro (base + k) es bytes dat 0 n [] ys h K))
    | .sl true len cs => Req (cs.length = len * es ∧ bget h (base + k) = some .unborn) (Ifz n (K (.sl true len cs) h) (wAppNew ro (base + k) es bytes dat len n cs ys h K))
    | .sl false len cs => Req (n = 0) (K (.sl false len cs) h)
    | .ms es' i g off len true => if es' = es then Req (bget h (base + k) = some .unborn) (wRd h i g fun c => Ifz n (K (.ms es i g off len true) h) (Get (part c off (len * es)) fun cs => wAppNew ro (base + k) es bytes dat len n cs ys h K)) else False
    | .ms es' i g off len false => if es' = es then Get (bget h i) fun
      | .blk c dt => Req (c.length = g) (Ifz n (K (.ms es i g off len false) h) (Req (off + len * es = g ∧ (c.length + ys.length) * (bytes + 1) < big) (Req (dt = true → scalars ys = true)
          (RoOk ro i (fB (bset h i (.blk (c ++ ys) dt)) fun h => K (.ms es i (g + ys.length) off (len + n) false) h)))))
      | _ => False else False
    | _ => False
  | .cpy es x y => if es = 0 then False else wSrc es h (y.ev tm) fun n ys => match x.ev tm with
    | .nilsl => K (.int .i64 0) h
    | .ms es' i g off len _ => if es' = es then Get (bget h i) fun
      | .blk c dt => Req (c.length = g ∧ off + len * es ≤ g) (Req ((dt = true → scalars (ys.take (min n len * es)) = true) ∧ ones (ys.take (min n len * es)) = true)
          (RoOk ro i (fB (bset h i (.blk (over c off (ys.take (min n len * es))) dt)) fun h => K (.int .i64 (min n len : Nat)) h)))
      | _ => False else False
    | _ => False
  | .mm mx xs => match evs tm xs with
    | [] => False
    | v :: l => wMM mx v l fun v => K v h
  | .pn => False
  | .call f args => fW (f.ev tm) fun fv => fEvs tm args fun as => CallP F md ro fv as h K

/-! what an operation touches -/
def srcR : V → List Nat
  | .ms _ id _ _ _ _ => [id]
  | _ => []
def fpRd : V → Fp
  | .ms _ id _ _ _ _ => .some [id] none
  | _ => .no
def fpApp (new : Nat) (x y : V) : Fp :=
  match x with
  | .nilsl | .sl true _ _ => .some (new :: srcR y) (some new)
  | .ms _ i _ _ _ true => .some (new :: i :: srcR y) (some new)
  | .ms _ i _ _ _ false => .some (i :: srcR y) (some i)
  | _ => fpRd y
def fpCpy (x y : V) : Fp :=
  match x with
  | .ms _ i _ _ _ _ => .some (i :: srcR y) (some i)
  | _ => fpRd y
def fpM (base : Nat) (tm : List V) : M → Fp
  | .al k _ | .bx k _ | .mk k _ _ _ _ _ _ => .some [base + k] (some (base + k))
  | .ld _ _ x => match x.ev tm with
    | .ref id _ _ => .some [id] none
    | _ => .no
  | .st _ a _ => match a.ev tm with
    | .ref id _ _ => .some [id] (some id)
    | _ => .no
  | .bts x => match x.ev tm with
    | .ms _ id _ _ _ _ => .some [id] none
    | _ => .no
  | .sa _ _ x _ _ _ => match x.ev tm with
    | .ref id _ _ => .some [id] none
    | _ => .no
  | .app k _ _ _ x y => fpApp (base + k) (x.ev tm) (y.ev tm)
  | .cpy _ x y => fpCpy (x.ev tm) (y.ev tm)
  | _ => .no
def fpS (base : Nat) (tm : List V) (o : M) : Fp :=
  match o with
  | .call f args => match mode md (f.ev tm) (evs tm args) with
    | 0 => if blos 0 (f.ev tm :: evs tm args) then .no else .vws
    | 2 => .rds
    | _ => .all
  | o => match newOf base o with
    | some i => .new i
    | none => fpM base tm o

def wPut (d : Option Nat) (tm : List V) (v : V) (K : List V → Prop) : Prop :=
  match d with
  | some d => fW v fun v => fV (tset tm d v) K
  | none => K tm
def wG (ro base : Nat) (tm : List V) (h : List B) (d : Option Nat) (g : Option (Nat × Bool)) (o : M) (K : List V → List B → Fp → Prop) : Prop :=
  match g with
  | none => wop F md ro base tm h o fun v h' => wPut d tm v fun tm' => K tm' h' (fpS md base tm o)
  | some (s, want) => match tg tm s with
    | .bool b => match want with
      | true => Br b (wop F md ro base tm h o fun v h' => wPut d tm v fun tm' => K tm' h' (fpS md base tm o)) (wPut d tm (.tup []) fun tm' => K tm' h .no)
      | false => Br b (wPut d tm (.tup []) fun tm' => K tm' h .no) (wop F md ro base tm h o fun v h' => wPut d tm v fun tm' => K tm' h' (fpS md base tm o))
    | .tup [] => wPut d tm (.tup []) fun tm' => K tm' h .no
    | _ => False
def wOps (ro base : Nat) : List G → List V → List B → (List V → List B → Prop) → Prop
  | [], tm, h, K => K tm h
  | ⟨d, g, _, o⟩ :: l, tm, h, K => wG F md ro base tm h d g o fun tm' h' _ => wOps ro base l tm' h' K
def wDraw (ro base : Nat) : Nat → List (Nat × Fp) → List G → List V → List B → (List V → List B → Prop) → Prop
  | _, _, [], tm, h, K => K tm h
  | i, seen, ⟨d, g, b, o⟩ :: l, tm, h, K => wG F md ro base tm h d g o fun tm' h' fp => match freeOf fp b seen with
    | true => wDraw ro base (i + 1) ((i, fp) :: seen) l tm' h' K
    | false => False

/-- Code. -/
def wp (ro : Nat) : MC → St → (X → St → Prop) → Prop
  | .skip, st, Q => Q .nrm st
  | .exit id, st, Q => Q (.exit id) st
  | .ret, st, Q => Q .ret st
  | .seq a b, st, Q => wp ro a st fun x s => match x with
    | .nrm => wp ro b s Q
    | x => Q x s
  | .cond x a b, ⟨tm, h⟩, Q => match x.ev tm with
    | .bool t => Br t (wp ro a ⟨tm, h⟩ Q) (wp ro b ⟨tm, h⟩ Q)
    | _ => False
  | .block id c, st, Q => wp ro c st fun x s => match x with
    | .exit i => if i = id then Q .nrm s else Q (.exit i) s
    | x => Q x s
  | .loop c, ⟨tm, h⟩, Q => LoopP (wp ro c) (maskOf tm) h.length ⟨tm, h⟩ Q
  | .lp _ _ _, _, _ => False
  | .reg draw na ops, ⟨tm, h⟩, Q => fLen h 0 fun base => fB (if na = 0 then h else h ++ unborns na) fun h => match draw with
    | true => wDraw F md ro base 0 [] ops tm h fun tm h => Q .nrm ⟨tm, h⟩
    | false => wOps F md ro base ops tm h fun tm h => Q .nrm ⟨tm, h⟩
  | .rf x ps asg body, ⟨tm, h⟩, Q => match x.ev tm with
    | .fn f cs => fLen h 0 fun base => CallP F md ro (.fn f cs) [.yld base] (h ++ [.lop true .nrm tm ps asg body]) fun _ h' => match bget h' base with
      | some (.lop r x _ _ _ _) => match pendOf r x with
        | some x => fB (bset h' base (.lop false .nrm tm ps asg body)) fun h => Q x ⟨tm, h⟩
        | none => False
      | _ => False
    | _ => False
end

end Go.Dr
