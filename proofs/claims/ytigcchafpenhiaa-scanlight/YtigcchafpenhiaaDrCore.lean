/- The door: an abstract machine for Go functions over data. Definitions only: values, blocks, small code, the compiler from the model's code, and the evaluator. -/
import GoSem.Step
namespace Go.Dr

/-- Abstract values. 'sl': a slice that is only read, with its cells; 'ref', 'ms': into a block of the activation's own. -/
inductive V where
  | bool (b : Bool)
  | int (k : IntKind) (n : Int)
  | str (s : List UInt8)
  | nilp | nilsl | nilmap | nilfn | nilif
  | sl (clip : Bool) (len : Nat) (cells : List V)
  | rp (cells : List V) (off : Nat)
  | agg (cells : List V)
  | tup (vs : List V)
  | iface (t : Nat) (v : V)
  | fn (f : Nat) (caps : List V)
  | ref (id g off : Nat)
  | ms (es id g off len : Nat) (clip : Bool)
  | yld (id : Nat)
  | dead
  deriving Inhabited

inductive O where
  | t (n : Nat)
  | c (v : V)
  deriving Inhabited

inductive M where
  | mv (x : O)
  | pk (c a b : O)
  | al (k : Nat) (zero : List V)
  | bx (k : Nat) (x : O)
  | bd (zero : List V) (parts : List (Nat × Nat × O))
  | bs (len : Nat) (zero : List V) (parts : List (Nat × Nat × O))
  | ld (agg : Bool) (n : Nat) (x : O)
  | st (n : Nat) (a x : O)
  | nc (x : O)
  | bo (op : BinOp) (x y : O)
  | eqv (neg : Bool) (kd : Nat) (x y : O)
  | eqs (neg : Bool) (ks : List Nat) (x y : O)
  | un (op : UnOp) (x : O)
  | ci (k : IntKind) (x : O)
  | cs (x : O)
  | bts (x : O)
  | stb (x : O)
  | mi (t : Nat) (x : O)
  | mf (f : Nat) (caps : List O)
  | mk (k : Nat) (es bytes : Nat) (dat : Bool) (zero : List V) (len cap : O)
  | ss (es : Nat) (x : O) (lo hi mx : Option O)
  | sst (x : O) (lo hi : Option O)
  | sa (es n : Nat) (x : O) (lo hi mx : Option O)
  | fa (off : Nat) (x : O)
  | fd (off : Nat) (agg : Bool) (n : Nat) (x : O)
  | ia (es : Nat) (x i : O)
  | iaa (es n : Nat) (x i : O)
  | ixs (x i : O)
  | ixa (es n : Nat) (agg : Bool) (x i : O)
  | ta (t : Nat) (ok : Bool) (zero : V) (x : O)
  | ex (x : O) (i : Nat)
  | len (st : Bool) (x : O)
  | app (k : Nat) (es bytes : Nat) (dat : Bool) (x y : O)
  | cpy (es : Nat) (x y : O)
  | mm (mx : Bool) (xs : List O)
  | pn
  | call (f : O) (args : List O)
  deriving Inhabited

/-- A row of a region: the slot, the guard (a slot and what it must hold), those that come before it (bits), the operation. -/
structure G where
  d : Option Nat
  g : Option (Nat × Bool)
  b : Nat
  o : M
  deriving Inhabited

inductive MC where
  | skip
  | reg (draw : Bool) (na : Nat) (ops : List G)
  | seq (a b : MC)
  | cond (x : O) (a b : MC)
  | block (id : Nat) (c : MC)
  | loop (c : MC)
  | lp (mask : List Bool) (hl : Nat) (c : MC)
  | rf (x : O) (params : List Nat) (assign body : MC)
  | exit (id : Nat)
  | ret
  deriving Inhabited

/-- The way in which code is left. -/
inductive X where
  | nrm | exit (id : Nat) | ret
  deriving Inhabited

/-- A block of the activation's own. 'dat': its cells hold no references. -/
inductive B where
  | blk (c : List V) (dat : Bool)
  | unborn
  | lop (ready : Bool) (pend : X) (tm : List V) (ps : List Nat) (assign body : MC)
  deriving Inhabited

structure St where
  tm : List V
  h : List B
  deriving Inhabited

inductive RV where
  | tmp (t : Nat)
  | cell (a : Nat) (agg : Bool) (n : Nat)
  deriving Inhabited

structure Fc where
  ntm : Nat
  np : Nat
  res : List RV
  body : MC
  deriving Inhabited

/-! ### small functions -/
def tg : List V → Nat → V
  | [], _ => .dead
  | v :: _, 0 => v
  | _ :: l, n + 1 => tg l n
def tset : List V → Nat → V → List V
  | [], _, _ => []
  | _ :: l, 0, v => v :: l
  | x :: l, n + 1, v => x :: tset l n v
def bget : List B → Nat → Option B
  | [], _ => none
  | b :: _, 0 => some b
  | _ :: l, n + 1 => bget l n
def bset : List B → Nat → B → List B
  | [], _, _ => []
  | _ :: l, 0, b => b :: l
  | x :: l, n + 1, b => x :: bset l n b
def bgets (h : List B) : List Nat → Option (List B)
  | [] => some []
  | i :: l => match bget h i with
    | none => none
    | some b => match bgets h l with
      | none => none
      | some r => some (b :: r)

def O.ev (tm : List V) : O → V
  | .t n => tg tm n
  | .c v => v
def evs (tm : List V) : List O → List V
  | [] => []
  | x :: l => x.ev tm :: evs tm l
def evo (tm : List V) : Option O → Option V
  | none => none
  | some x => some (x.ev tm)

def V.cells : V → List V
  | .agg cs => cs
  | v => [v]

/-- One cell that can be stored. -/
def V.one : V → Bool
  | .agg _ | .tup _ | .dead => false
  | _ => true
def ones : List V → Bool
  | [] => true
  | v :: l => v.one && ones l

mutual
/-- No reference into a block from n on ('sl', 'rp' hold none). -/
def V.blo (n : Nat) : V → Bool
  | .agg cs => blos n cs
  | .tup cs => blos n cs
  | .iface _ v => v.blo n
  | .fn _ cs => blos n cs
  | .ref id _ _ => decide (id < n)
  | .ms _ id _ _ _ _ => decide (id < n)
  | .yld id => decide (id < n)
  | _ => true
def blos (n : Nat) : List V → Bool
  | [] => true
  | v :: l => v.blo n && blos n l
end

mutual
/-- No pointer into a block of the own (slices may be). -/
def V.lean : V → Bool
  | .agg cs => leans cs
  | .tup cs => leans cs
  | .iface _ v => v.lean
  | .fn _ cs => leans cs
  | .ref _ _ _ => false
  | .yld _ => false
  | _ => true
def leans : List V → Bool
  | [] => true
  | v :: l => v.lean && leans l
end

mutual
/-- Neither slice nor pointer within. -/
def V.scalar : V → Bool
  | .agg cs => scalars cs
  | .tup cs => scalars cs
  | .iface _ v => v.scalar
  | .fn _ cs => scalars cs
  | .ref _ _ _ | .ms _ _ _ _ _ _ | .yld _ | .sl _ _ _ | .rp _ _ | .dead => false
  | _ => true
def scalars : List V → Bool
  | [] => true
  | v :: l => v.scalar && scalars l
end

def take' : Nat → List V → List V
  | 0, _ => []
  | _ + 1, [] => []
  | n + 1, v :: l => v :: take' n l
def drop' : Nat → List V → List V
  | 0, l => l
  | _ + 1, [] => []
  | n + 1, _ :: l => drop' n l
/-- n cells from off on, if they are there. -/
def part (cs : List V) (off n : Nat) : Option (List V) :=
  let r := take' n (drop' off cs)
  if r.length = n then some r else none
/-- what is written from off on. -/
def over : List V → Nat → List V → List V
  | cs, 0, [] => cs
  | _ :: cs, 0, v :: l => v :: over cs 0 l
  | [], _, _ => []
  | c :: cs, n + 1, l => c :: over cs n l

def mapO (f : V → Option V) : List V → Option (List V)
  | [] => some []
  | v :: l => match f v with
    | none => none
    | some x => match mapO f l with
      | none => none
      | some r => some (x :: r)
/-- A value without slices of blocks of the own: these are read now. (A nil slice becomes an empty one of which is not known whether it is nil.) -/
def V.view (h : List B) : Nat → V → Option V
  | 0, _ => none
  | n + 1, v => match v with
    | .ms es id g off len clip => match bget h id with
      | some (.blk c _) => if c.length = g then
          match part c off (len * es) with
          | some cs => match mapO (V.view h n) cs with
            | some r => some (.sl clip len r)
            | none => none
          | none => none
        else none
      | _ => none
    | .agg cs => (mapO (V.view h n) cs).map .agg
    | .tup cs => (mapO (V.view h n) cs).map .tup
    | .iface t v => (V.view h n v).map (.iface t)
    | .fn f cs => (mapO (V.view h n) cs).map (.fn f)
    | .ref _ _ _ | .yld _ | .dead => none
    | .nilsl => some (.sl true 0 [])
    | v => some v
def views (h : List B) (n : Nat) (l : List V) : Option (List V) := mapO (V.view h n) l

/-! ### pure operations on values -/
def bitsOf (k : IntKind) (op : BinOp) (x y : Int) : V :=
  let a := BitVec.ofInt k.bits x
  let b := BitVec.ofInt k.bits y
  .int k (k.wrap (match op with
    | .and => a &&& b
    | .or => a ||| b
    | .xor => a ^^^ b
    | _ => a &&& ~~~b).toNat)

def ari (op : BinOp) (k : IntKind) (x y : Int) : Option V :=
  match op with
  | .add => some (.int k (k.wrap (x + y)))
  | .sub => some (.int k (k.wrap (x - y)))
  | .mul => some (.int k (k.wrap (x * y)))
  | .quo => if y = 0 then none else some (.int k (k.wrap (x.tdiv y)))
  | .rem => if y = 0 then none else some (.int k (x.tmod y))
  | .and | .or | .xor | .andNot => some (bitsOf k op x y)
  | .eql => some (.bool (decide (x = y)))
  | .neq => some (.bool (!decide (x = y)))
  | .lss => some (.bool (decide (x < y)))
  | .leq => some (.bool (decide (x ≤ y)))
  | .gtr => some (.bool (decide (y < x)))
  | .geq => some (.bool (decide (y ≤ x)))
  | _ => none

def shf (op : BinOp) (k : IntKind) (x y : Int) : Option V :=
  if y < 0 then none else
  match op with
  | .shl => some (.int k (k.wrap (x * 2 ^ (min y.toNat k.bits))))
  | .shr => some (.int k (x.fdiv (2 ^ (min y.toNat k.bits))))
  | _ => none

def sop (op : BinOp) (x y : List UInt8) : Option V :=
  match op with
  | .add => if x.length + y.length < 2 ^ 62 then some (.str (x ++ y)) else none
  | .eql => some (.bool (x == y))
  | .neq => some (.bool (!(x == y)))
  | .lss => some (.bool (Op.bytesLess x y))
  | .leq => some (.bool (Op.bytesLess x y || x == y))
  | .gtr => some (.bool (!(Op.bytesLess x y || x == y)))
  | .geq => some (.bool (!Op.bytesLess x y))
  | _ => none

def binop (op : BinOp) (x y : V) : Option V :=
  match x, y with
  | .int k a, .int k' b => match op with
    | .shl | .shr => shf op k a b
    | _ => if k = k' then ari op k a b else none
  | .str a, .str b => sop op a b
  | _, _ => none

/-- Equality of single cells: numbers, bools, strings. -/
def eq1 : Nat → V → V → Option Bool
  | 1, .bool a, .bool b => some (a == b)
  | 0, .int k a, .int k' b => if k = k' then some (decide (a = b)) else none
  | 2, .str a, .str b => some (a == b)
  | _, _, _ => none
def eqc : List Nat → List V → List V → Option Bool
  | [], [], [] => some true
  | k :: ks, x :: l, y :: r => match eq1 k x y with
    | none => none
    | some e => match eqc ks l r with
      | none => none
      | some f => some (e && f)
  | _, _, _ => none
/-- Equality of whole values: 1: bools; 3: slices, 4: pointers, 6: functions, 7: interface values, one of them nil. -/
def eqv2 : Nat → V → V → Option Bool
  | 1, .bool a, .bool b => some (a == b)
  | 3, .nilsl, .nilsl => some true
  | 3, .nilsl, .sl _ n _ => if n = 0 then none else some false
  | 3, .sl _ n _, .nilsl => if n = 0 then none else some false
  | 3, .nilsl, .ms _ _ _ _ _ _ | 3, .ms _ _ _ _ _ _, .nilsl => some false
  | 4, .nilp, .nilp => some true
  | 4, .nilp, .ref _ _ _ | 4, .ref _ _ _, .nilp | 4, .nilp, .rp _ _ | 4, .rp _ _, .nilp => some false
  | 6, .nilfn, .nilfn => some true
  | 6, .nilfn, .fn _ _ | 6, .fn _ _, .nilfn => some false
  | 7, .nilif, .nilif => some true
  | 7, .nilif, .iface _ _ | 7, .iface _ _, .nilif => some false
  | _, _, _ => none

def unop (op : UnOp) (x : V) : Option V :=
  match op, x with
  | .neg, .int k n => some (.int k (k.wrap (0 - n)))
  | .xor, .int k n => some (bitsOf k .xor (if k.signed then -1 else k.max) n)
  | .not, .bool b => some (.bool (!b))
  | _, _ => none

def byteOf : V → Option UInt8
  | .int .u8 n => some (UInt8.ofNat n.toNat)
  | _ => none
def bytesOf : List V → Option (List UInt8)
  | [] => some []
  | v :: l => match byteOf v with
    | none => none
    | some b => match bytesOf l with
      | none => none
      | some r => some (b :: r)
def ofBytes : List UInt8 → List V
  | [] => []
  | b :: l => .int .u8 b.toNat :: ofBytes l

def maxs (mx : Bool) : V → List V → Option V
  | v, [] => some v
  | .int k x, .int k' y :: l => if k = k' then maxs mx (.int k (if mx then (if x < y then y else x) else (if y < x then y else x))) l else none
  | _, _ => none

/-- the parts of a struct, an array or a slice literal. -/
def fills (tm : List V) : List V → List (Nat × Nat × O) → Option (List V)
  | cs, [] => some cs
  | cs, (off, n, x) :: l =>
    let v := (x.ev tm).cells
    if v.length = n && decide (off + n ≤ cs.length) && ones v then fills tm (over cs off v) l else none
def reps : Nat → List V → List V
  | 0, _ => []
  | n + 1, z => z ++ reps n z

/-- An index or a bound: a number from 0 to m. -/
def nat? (m : Nat) : V → Option Nat
  | .int _ n => if 0 ≤ n ∧ n ≤ (m : Int) then some n.toNat else none
  | _ => none
def nato (m d : Nat) : Option V → Option Nat
  | none => some d
  | some v => nat? m v

/-! ### plans: which blocks an operation reads, which one it writes, and what it gives -/
structure Pl where
  rs : List Nat
  w : Option Nat
  f : List B → Option (V × Option B)

def Pl.val (v : V) : Pl := ⟨[], none, fun _ => some (v, none)⟩
def Pl.new (id : Nat) (v : V) (b : B) : Pl := ⟨[id], some id, fun
  | [.unborn] => some (v, some b)
  | _ => none⟩
def Pl.rd (id g : Nat) (k : List V → Option V) : Pl := ⟨[id], none, fun
  | [.blk c _] => if c.length = g then (k c).map (·, none) else none
  | _ => none⟩
def Pl.wr (id g : Nat) (cells : List V) (k : List V → Option (V × List V)) : Pl := ⟨[id], some id, fun
  | [.blk c dat] => if c.length = g && (!dat || scalars cells) then (k c).map (fun r => (r.1, some (.blk r.2 dat))) else none
  | _ => none⟩

def val? (v : Option V) : Option Pl := v.map .val

def loadFrom (agg : Bool) (n off : Nat) (c : List V) : Option V :=
  match part c off n with
  | none => none
  | some cs => if agg then some (.agg cs) else match cs with
    | [v] => some v
    | _ => none

/-- what a slice or a string holds: the blocks that are read, how many elements, the cells. -/
def src (es : Nat) (x : V) : Option (List Nat × Nat × (List B → Option (List V))) :=
  match x with
  | .nilsl => some ([], 0, fun _ => some [])
  | .sl _ len cs => if cs.length = len * es then some ([], len, fun _ => some cs) else none
  | .str s => if es = 1 then some ([], s.length, fun _ => some (ofBytes s)) else none
  | .ms es' id g off len _ => if es' = es then some ([id], len, fun
    | .blk c _ :: _ => if c.length = g then part c off (len * es) else none
    | _ => none) else none
  | _ => none

/-- 2^36: no slice is longer. -/
def big : Nat := 68719476736

/-- append, into a new block: the slice's own cells, and n elements more. -/
def appNew (id es bytes : Nat) (dat : Bool) (len n : Nat) (cs ys : List V) : Option (V × Option B) :=
  if decide ((cs.length + ys.length) * (bytes + 1) < big) && (!dat || scalars (cs ++ ys)) then
    some (.ms es id (cs.length + ys.length) 0 (len + n) false, some (.blk (cs ++ ys) dat)) else none

def planApp (id es bytes : Nat) (dat : Bool) (x y : V) : Option Pl :=
  match src es y with
  | none => none
  | some (rs, n, f) =>
    match x with
    | .nilsl => some ⟨id :: rs, some id, fun
        | .unborn :: bs => match f bs with
          | none => none
          | some ys => if n = 0 then some (.nilsl, none) else appNew id es bytes dat 0 n [] ys
        | _ => none⟩
    | .sl true len cs => if cs.length = len * es then some ⟨id :: rs, some id, fun
        | .unborn :: bs => match f bs with
          | none => none
          | some ys => if n = 0 then some (.sl true len cs, none) else appNew id es bytes dat len n cs ys
        | _ => none⟩ else none
    | .sl false len cs => if n = 0 then some ⟨rs, none, fun bs => match f bs with
        | some _ => some (.sl false len cs, none)
        | none => none⟩ else none
    | .ms es' i g off len true => if es' = es then some ⟨id :: i :: rs, some id, fun
        | .unborn :: .blk c _ :: bs => match f bs with
          | none => none
          | some ys => if c.length = g then
              if n = 0 then some (.ms es i g off len true, none) else
              match part c off (len * es) with
              | none => none
              | some cs => appNew id es bytes dat len n cs ys
            else none
        | _ => none⟩ else none
    | .ms es' i g off len false => if es' = es then some ⟨i :: rs, some i, fun
        | .blk c dt :: bs => match f bs with
          | none => none
          | some ys => if c.length = g then
              if n = 0 then some (.ms es i g off len false, none) else
              if off + len * es = g && decide ((c.length + ys.length) * (bytes + 1) < big) && (!dt || scalars ys) then
                some (.ms es i (g + ys.length) off (len + n) false, some (.blk (c ++ ys) dt))
              else none
            else none
        | _ => none⟩ else none
    | _ => none

def planCpy (es : Nat) (x y : V) : Option Pl :=
  match src es y with
  | none => none
  | some (rs, n, f) => match x with
    | .nilsl => some ⟨rs, none, fun bs => match f bs with
        | some _ => some (.int .i64 0, none)
        | none => none⟩
    | .ms es' i g off len _ => if es' = es then some ⟨i :: rs, some i, fun
        | .blk c dt :: bs => match f bs with
          | none => none
          | some ys =>
            let m := min n len
            let zs := take' (m * es) ys
            if c.length = g && decide (off + len * es ≤ g) && (!dt || scalars zs) && ones zs then some (.int .i64 m, some (.blk (over c off zs) dt))
            else none
        | _ => none⟩ else none
    | _ => none

def plan (base : Nat) (tm : List V) : M → Option Pl
  | .mv x => some (.val (x.ev tm))
  | .pk c a b => match c.ev tm with
    | .bool t => some (.val (if t then a.ev tm else b.ev tm))
    | _ => none
  | .al k z => some (.new (base + k) (.ref (base + k) z.length 0) (.blk z false))
  | .bx k x => let cs := (x.ev tm).cells
    if ones cs then some (.new (base + k) (.ref (base + k) cs.length 0) (.blk cs false)) else none
  | .bd z ps => val? ((fills tm z ps).map .agg)
  | .bs len z ps => match fills tm (reps len z) ps with
    | none => none
    | some cs => if blos 0 cs then some (.val (.sl true len cs)) else none
  | .ld agg n x => match x.ev tm with
    | .rp cs off => val? (loadFrom agg n off cs)
    | .ref id g off => some (.rd id g (loadFrom agg n off))
    | _ => none
  | .st n a x => match a.ev tm with
    | .ref id g off =>
      let v := (x.ev tm).cells
      if v.length = n && ones v then some (.wr id g v fun c => if off + n ≤ c.length then some (.dead, over c off v) else none) else none
    | _ => none
  | .nc x => match x.ev tm with
    | .rp cs off => some (.val (.rp cs off))
    | .ref id g off => some (.val (.ref id g off))
    | .fn f cs => some (.val (.fn f cs))
    | .iface t v => some (.val (.iface t v))
    | _ => none
  | .bo op x y => val? (binop op (x.ev tm) (y.ev tm))
  | .eqv neg kd x y => match eqv2 kd (x.ev tm) (y.ev tm) with
    | none => none
    | some e => some (.val (.bool (if neg then !e else e)))
  | .eqs neg ks x y => match x.ev tm, y.ev tm with
    | .agg xs, .agg ys => match eqc ks xs ys with
        | none => none
        | some e => some (.val (.bool (if neg then !e else e)))
    | _, _ => none
  | .un op x => val? (unop op (x.ev tm))
  | .ci k x => match x.ev tm with
    | .int _ n => some (.val (.int k (k.wrap n)))
    | _ => none
  | .cs x => match x.ev tm with
    | .str s => some (.val (.str s))
    | _ => none
  | .bts x => match src 1 (x.ev tm) with
    | some (rs, _, f) => match x.ev tm with
      | .str _ => none
      | _ => some ⟨rs, none, fun bs => match f bs with
        | none => none
        | some cs => match bytesOf cs with
          | none => none
          | some s => some (.str s, none)⟩
    | none => none
  | .stb x => match x.ev tm with
    | .str s => if s.length < big then some (.val (.sl false s.length (ofBytes s))) else none
    | _ => none
  | .mi t x => some (.val (.iface t (x.ev tm)))
  | .mf f cs => some (.val (.fn f (evs tm cs)))
  | .mk k es bytes dat z len cap => match nat? big (cap.ev tm) with
    | none => none
    | some c => match nat? c (len.ev tm) with
      | none => none
      | some l => if c * (bytes + 1) ≤ big && z.length = es && (!dat || scalars z) then
          some (.new (base + k) (.ms es (base + k) (l * es) 0 l (decide (l = c))) (.blk (reps l z) dat)) else none
  | .ss es x lo hi mx => match x.ev tm with
    | .nilsl => match nato 0 0 (evo tm mx), nato 0 0 (evo tm hi), nato 0 0 (evo tm lo) with
      | some _, some _, some _ => some (.val .nilsl)
      | _, _, _ => none
    | .sl clip len cs => match nato len len (evo tm mx) with
      | none => none
      | some m => match nato m len (evo tm hi) with
        | none => none
        | some h => match nato h 0 (evo tm lo) with
          | none => none
          | some l => match part cs (l * es) ((h - l) * es) with
            | none => none
            | some r => some (.val (.sl (if mx.isSome then decide (h = m) else clip && decide (h = len)) (h - l) r))
    | .ms es' id g off len clip => if es' = es then match nato len len (evo tm mx) with
      | none => none
      | some m => match nato m len (evo tm hi) with
        | none => none
        | some h => match nato h 0 (evo tm lo) with
          | none => none
          | some l => some (.val (.ms es id g (off + l * es) (h - l) (if mx.isSome then decide (h = m) else clip && decide (h = len)))) else none
    | _ => none
  | .sst x lo hi => match x.ev tm with
    | .str s => match nato s.length s.length (evo tm hi) with
      | none => none
      | some h => match nato h 0 (evo tm lo) with
        | none => none
        | some l => some (.val (.str ((s.drop l).take (h - l))))
    | _ => none
  | .sa es n x lo hi mx => match nato n n (evo tm mx) with
    | none => none
    | some m => match nato m n (evo tm hi) with
      | none => none
      | some h => match nato h 0 (evo tm lo) with
        | none => none
        | some l => match x.ev tm with
          | .ref id g off => some ⟨[id], none, fun
            | [.blk c _] => if c.length = g && decide (off + n * es ≤ g) then some (.ms es id g (off + l * es) (h - l) (decide (h = m)), none) else none
            | _ => none⟩
          | .rp cs off => match part cs (off + l * es) ((h - l) * es) with
            | none => none
            | some r => some (.val (.sl (decide (h = m)) (h - l) r))
          | _ => none
  | .fa off x => match x.ev tm with
    | .rp cs o => some (.val (.rp cs (o + off)))
    | .ref id g o => some (.val (.ref id g (o + off)))
    | _ => none
  | .fd off agg n x => match x.ev tm with
    | .agg cs => val? (loadFrom agg n off cs)
    | _ => none
  | .ia es x i => match x.ev tm with
    | .sl _ len cs => match len with
      | 0 => none
      | m + 1 => match nat? m (i.ev tm) with
        | none => none
        | some j => some (.val (.rp cs (j * es)))
    | .ms _ id g off len _ => match len with
      | 0 => none
      | m + 1 => match nat? m (i.ev tm) with
        | none => none
        | some j => some (.val (.ref id g (off + j * es)))
    | _ => none
  | .iaa es n x i => match n with
    | 0 => none
    | m + 1 => match nat? m (i.ev tm) with
      | none => none
      | some j => match x.ev tm with
        | .rp cs o => some (.val (.rp cs (o + j * es)))
        | .ref id g o => some (.val (.ref id g (o + j * es)))
        | _ => none
  | .ixs x i => match x.ev tm with
    | .str s => match nat? s.length (i.ev tm) with
      | none => none
      | some j => match s[j]? with
        | none => none
        | some b => some (.val (.int .u8 b.toNat))
    | _ => none
  | .ixa es n agg x i => match n with
    | 0 => none
    | m + 1 => match nat? m (i.ev tm) with
      | none => none
      | some j => match x.ev tm with
        | .agg cs => val? (loadFrom agg es (j * es) cs)
        | _ => none
  | .ta t ok z x => match x.ev tm with
    | .iface u v => if u = t then some (.val (if ok then .tup [v, .bool true] else v)) else if ok then some (.val (.tup [z, .bool false])) else none
    | .nilif => if ok then some (.val (.tup [z, .bool false])) else none
    | _ => none
  | .ex x i => match x.ev tm with
    | .tup vs => if i < vs.length then some (.val (tg vs i)) else none
    | _ => none
  | .len st x => match x.ev tm with
    | .str s => if st then some (.val (.int .i64 s.length)) else none
    | .nilsl => if st then none else some (.val (.int .i64 0))
    | .sl _ n _ => if st then none else some (.val (.int .i64 n))
    | .ms _ _ _ _ n _ => if st then none else some (.val (.int .i64 n))
    | _ => none
  | .app k es bytes dat x y => if es = 0 then none else planApp (base + k) es bytes dat (x.ev tm) (y.ev tm)
  | .cpy es x y => if es = 0 then none else planCpy es (x.ev tm) (y.ev tm)
  | .mm mx xs => match evs tm xs with
    | [] => none
    | v :: l => val? (maxs mx v l)
  | .pn => none
  | .call _ _ => none

/-- 'ro': no block before this one may be written. -/
def Pl.go (ro : Nat) (p : Pl) (h : List B) : Option (V × List B) :=
  match bgets h p.rs with
  | none => none
  | some bs => match p.f bs with
    | none => none
    | some (v, none) => some (v, h)
    | some (v, some b) => match p.w with
      | none => none
      | some id => if ro ≤ id then some (v, bset h id b) else none

/-! ### the evaluator -/
/-- What calls do: the function value, the arguments, the blocks. -/
def Orc := V → List V → List B → Option (V × List B)

/-- One row. -/
def evG (oc : Orc) (ro base : Nat) (tm : List V) (h : List B) (r : G) : Option (List V × List B) :=
  let go : Option (List V × List B) :=
    let res := match r.o with
      | .call f args => oc (f.ev tm) (evs tm args) h
      | o => match plan base tm o with
        | none => none
        | some p => p.go ro h
    match res with
    | none => none
    | some (v, h') => some (match r.d with | some d => tset tm d v | none => tm, h')
  match r.g with
  | none => go
  | some (s, want) => match tg tm s with
    | .bool b => if b = want then go else some (match r.d with | some d => tset tm d (.tup []) | none => tm, h)
    | .tup [] => some (match r.d with | some d => tset tm d (.tup []) | none => tm, h)
    | _ => none

def evOps (oc : Orc) (ro base : Nat) : List G → List V → List B → Option (List V × List B)
  | [], tm, h => some (tm, h)
  | r :: l, tm, h => match evG oc ro base tm h r with
    | none => none
    | some (tm', h') => evOps oc ro base l tm' h'

/-! what a row touches: for regions that draw their order -/
inductive Fp where
  | no
  | some (rs : List Nat) (w : Option Nat)
  | new (id : Nat)
  | vws
  | rds
  | all

/-- An operation that makes a block, and does nothing else. -/
def newOf (base : Nat) : M → Option Nat
  | .al k _ | .bx k _ | .mk k _ _ _ _ _ _ => some (base + k)
  | _ => none

/-- How a function is called: 0: over no blocks where the arguments allow it; 1: over the blocks that are there; 2: likewise, but it writes none of them. -/
def mode (md : Nat → Nat) (f : V) (args : List V) : Nat :=
  match f with
  | .fn i caps => match md i with
    | 0 => if leans caps && leans args then 0 else 1
    | m => m
  | _ => 1

def fpOf (md : Nat → Nat) (base : Nat) (tm : List V) (r : G) : Fp :=
  let go : Fp := match r.o with
    | .call f args => match mode md (f.ev tm) (evs tm args) with
      | 0 => if blos 0 (f.ev tm :: evs tm args) then .no else .vws
      | 2 => .rds
      | _ => .all
    | o => match newOf base o with
      | some i => .new i
      | none => match plan base tm o with
        | none => .all
        | some p => match p.rs, p.w with
          | [], none => .no
          | rs, w => .some rs w
  match r.g with
  | none => go
  | some (s, want) => match tg tm s with
    | .bool b => if b = want then go else .no
    | _ => .no

def hits (w : Option Nat) (rs : List Nat) (w' : Option Nat) : Bool :=
  match w with
  | none => false
  | some i => rs.contains i || w' == some i
/-- the later one, the earlier one. (A block that is new was not read before.) -/
def Fp.free : Fp → Fp → Bool
  | .no, _ | _, .no => true
  | .all, _ | _, .all => false
  | .new _, .vws => true
  | .vws, .new _ | .new _, .rds | .rds, .new _ => false
  | .new i, .new j => i != j
  | .new i, .some rs w | .some rs w, .new i => !hits (Option.some i) rs w
  | .rds, .rds | .rds, .vws | .vws, .rds | .vws, .vws => true
  | .rds, .some _ w | .some _ w, .rds | .vws, .some _ w | .some _ w, .vws => w.isNone
  | .some rs w, .some rs' w' => !hits w rs' w' && !hits w' rs w

/-- rows that no order parts: each pair is ordered, or they touch nothing in common. 'seen': the rows before, with their places. -/
def freeOf (fp : Fp) (b : Nat) : List (Nat × Fp) → Bool
  | [] => true
  | (i, q) :: l => (b.testBit i || fp.free q) && freeOf fp b l

def evDraw (md : Nat → Nat) (oc : Orc) (ro base : Nat) : Nat → List (Nat × Fp) → List G → List V → List B → Option (List V × List B)
  | _, _, [], tm, h => some (tm, h)
  | i, seen, r :: l, tm, h =>
    let fp := fpOf md base tm r
    if freeOf fp r.b seen then
      match evG oc ro base tm h r with
      | none => none
      | some (tm', h') => evDraw md oc ro base (i + 1) ((i, fp) :: seen) l tm' h'
    else none

def unborns : Nat → List B
  | 0 => []
  | n + 1 => .unborn :: unborns n

def B.blo (n : Nat) : B → Bool
  | .blk c dat => dat || blos n c
  | .unborn => true
  | .lop _ _ tm _ _ _ => blos n tm
def hbelow (n : Nat) : List B → Bool
  | [] => true
  | b :: l => b.blo n && hbelow n l

def maskOf : List V → List Bool
  | [] => []
  | .dead :: l => true :: maskOf l
  | _ :: l => false :: maskOf l
def masked : List Bool → List V → List V
  | true :: m, _ :: l => .dead :: masked m l
  | false :: m, v :: l => v :: masked m l
  | _, l => l

/-- The last blocks that nothing speaks of are dropped, down to n. -/
def strip (n : Nat) (tm : List V) : Nat → List B → List B
  | 0, h => h
  | k + 1, h => if blos (n + k) tm && hbelow (n + k) (h.take (n + k)) then strip n tm k (h.take (n + k)) else h
def trunc (n : Nat) (tm : List V) (h : List B) : List B := strip n tm (h.length - n) h

def norm (m : List Bool) (n : Nat) (st : St) : St :=
  let tm := masked m st.tm
  ⟨tm, trunc n tm st.h⟩

def deads : Nat → List V
  | 0 => []
  | n + 1 => .dead :: deads n

def results (st : St) : List RV → Option (List V)
  | [] => some []
  | r :: l =>
    let v : Option V := match r with
      | .tmp t => some (tg st.tm t)
      | .cell a agg n => match tg st.tm a with
        | .ref id g off => match bget st.h id with
          | some (.blk c _) => if c.length = g then loadFrom agg n off c else none
          | _ => none
        | _ => none
    match v, results st l with
    | some v, some r => some (v :: r)
    | _, _ => none
def result (st : St) (l : List RV) : Option V :=
  match results st l with
  | none => none
  | some [v] => some v
  | some vs => some (.tup vs)

def depth : Nat := 64

def setPs : List V → List Nat → List V → Option (List V)
  | tm, [], [] => some tm
  | tm, p :: ps, v :: vs => setPs (tset tm p v) ps vs
  | _, _, _ => none

/-- A call. 'F': the functions; 'md': how they are called; 'rn': runs code ('ro': no block before this one is written). -/
def doCall (F : Nat → Option Fc) (md : Nat → Nat) (ro : Nat) (rn : Nat → MC → St → Option (X × St)) (fv : V) (args : List V) (h : List B) : Option (V × List B) :=
  match fv with
  | .fn f caps =>
    match F f with
    | none => none
    | some fc =>
      let as := args ++ caps
      if as.length = fc.np then
        match mode md (.fn f caps) args with
        | 0 =>
          match views h depth as with
          | none => none
          | some as' =>
            match rn 0 fc.body ⟨as' ++ deads (fc.ntm - fc.np), []⟩ with
            | some (.nrm, st) | some (.ret, st) => match result st fc.res with
              | none => none
              | some v => match V.view st.h depth v with
                | none => none
                | some v' => if blos 0 as || v'.scalar then some (v', h) else none
            | _ => none
        | 1 =>
          match rn ro fc.body ⟨as ++ deads (fc.ntm - fc.np), h⟩ with
          | some (.nrm, st) | some (.ret, st) => match result st fc.res with
            | none => none
            | some v => some (v, trunc h.length [v] st.h)
          | _ => none
        | _ =>
          match rn (max ro h.length) fc.body ⟨as ++ deads (fc.ntm - fc.np), h⟩ with
          | some (.nrm, st) | some (.ret, st) => match result st fc.res with
            | none => none
            | some v => if v.blo h.length then some (v, h) else none
          | _ => none
      else none
  | .yld id =>
    match bget h id with
    | some (.lop true _ tm ps asg body) =>
      if ro ≤ id then
        match setPs tm ps args with
        | none => none
        | some tm' =>
          match rn ro asg ⟨tm', h⟩ with
          | some (.nrm, st) =>
            match bget st.h id with
            | some (.lop true _ _ _ _ _) =>
              match rn ro body ⟨st.tm, bset st.h id (.lop false .nrm tm ps asg body)⟩ with
              | some (x, st') =>
                some (.bool (match x with | .nrm => true | _ => false), bset (trunc h.length [] st'.h) id (.lop (match x with | .nrm => true | _ => false) x tm ps asg body))
              | none => none
            | _ => none
          | _ => none
      else none
    | _ => none
  | _ => none

def isFn (v : V) (r : Option (V × List B)) : Option (V × List B) :=
  match v with
  | .fn _ _ => r
  | _ => none

/-- A range's end: its rounds are over. -/
def pendOf : Bool → X → Option X
  | true, .nrm => some .nrm
  | false, .exit i => some (.exit i)
  | false, .ret => some .ret
  | _, _ => none

def run (F : Nat → Option Fc) (md : Nat → Nat) : Nat → Nat → MC → St → Option (X × St)
  | 0, _, _, _ => none
  | n + 1, ro, c, st =>
    match c with
    | .skip => some (.nrm, st)
    | .exit id => some (.exit id, st)
    | .ret => some (.ret, st)
    | .reg draw na ops =>
      let base := st.h.length
      let h := if na = 0 then st.h else st.h ++ unborns na
      match (if draw then evDraw md (doCall F md ro (run F md n)) ro base 0 [] ops st.tm h else evOps (doCall F md ro (run F md n)) ro base ops st.tm h) with
      | none => none
      | some (tm, h) => some (.nrm, ⟨tm, h⟩)
    | .seq a b => match run F md n ro a st with
      | some (.nrm, st') => run F md n ro b st'
      | r => r
    | .cond x a b => match x.ev st.tm with
      | .bool t => if t then run F md n ro a st else run F md n ro b st
      | _ => none
    | .block id c => match run F md n ro c st with
      | some (.exit i, st') => if i = id then some (.nrm, st') else some (.exit i, st')
      | r => r
    | .loop c => run F md n ro (.lp (maskOf st.tm) st.h.length c) st
    | .lp m hl c => match run F md n ro c st with
      | some (.nrm, st') => run F md n ro (.lp m hl c) (norm m hl st')
      | r => r
    | .rf x ps asg body =>
      let id := st.h.length
      match isFn (x.ev st.tm) (doCall F md ro (run F md n) (x.ev st.tm) [.yld id] (st.h ++ [.lop true .nrm st.tm ps asg body])) with
      | none => none
      | some (_, h) => match bget h id with
        | some (.lop r x _ _ _ _) => match pendOf r x with
          | none => none
          | some x => some (x, ⟨st.tm, bset h id (.lop false .nrm st.tm ps asg body)⟩)
        | _ => none

/-- A call over no blocks: arguments that are data. -/
def call0 (F : Nat → Option Fc) (md : Nat → Nat) (n : Nat) (f : Nat) (args : List V) : Option V :=
  match doCall F md 0 (run F md n) (.fn f []) args [] with
  | some (v, _) => some v
  | none => none

end Go.Dr
