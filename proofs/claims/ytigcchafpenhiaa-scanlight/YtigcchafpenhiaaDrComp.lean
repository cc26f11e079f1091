/- The compiler: the model's code, with the program's types, to the door's small code. Definitions only. -/
import Derived.Test.YtigcchafpenhiaaDrCore
namespace Go.Dr

mutual
def ofVal : Nat → Value → Option V
  | 0, _ => none
  | n + 1, v => match v with
    | .bool b => some (.bool b)
    | .int k i => some (.int k i)
    | .string s => some (.str s.data.toList)
    | .pointer none => some .nilp
    | .slice none 0 0 => some .nilsl
    | .map none => some .nilmap
    | .nilFunc => some .nilfn
    | .nilIface => some .nilif
    | .agg cs => (ofVals n cs.toList).map .agg
    | .iface t v => (ofVal n v).map (.iface t)
    | .func (.func f) ⟨[]⟩ ⟨[]⟩ => some (.fn f [])
    | _ => none
def ofVals : Nat → List Value → Option (List V)
  | 0, _ => none
  | _ + 1, [] => some []
  | n + 1, v :: l => match ofVal n v with
    | none => none
    | some x => match ofVals n l with
      | none => none
      | some r => some (x :: r)
end

def cO : Operand → Option O
  | .tmp n => some (.t n)
  | .const v => (ofVal 4096 v).map .c
  | .global _ => none
  | .func f => some (.c (.fn f []))
def cOs : List Operand → Option (List O)
  | [] => some []
  | x :: l => match cO x with
    | none => none
    | some y => match cOs l with
      | none => none
      | some r => some (y :: r)
def cOo : Option Operand → Option (Option O)
  | none => some none
  | some x => (cO x).map some

def zeroOf (P : Program) (t : Nat) : Option (List V) :=
  match P.info? t with
  | some i => match i.zero with
    | some z => match ofVal 4096 z with
      | some v => if v.cells.length = i.size && ones v.cells then some v.cells else none
      | none => none
    | none => none
  | none => none
def zeroV (P : Program) (t : Nat) : Option V :=
  match P.info? t with
  | some i => match i.zero with
    | some z => ofVal 4096 z
    | none => none
  | none => none
def szOf (P : Program) (t : Nat) : Option Nat := (P.info? t).map (·.size)
def byOf (P : Program) (t : Nat) : Option Nat := (P.info? t).map (·.bytes)
def datOf (P : Program) (t : Nat) : Bool := ((P.info? t).map (!·.hasPointers)).getD false
def aggOf (P : Program) (t : Nat) : Option Bool := (P.underlying t).map fun
  | .struct _ | .array _ _ => true
  | _ => false

/-- Types whose values are compared cell by cell: the cells' kinds (0: a number, 1: a bool, 2: a string). -/
def flatFs (P : Program) (sz : Nat → Option (List Nat)) : Nat → List Field → Option (List Nat)
  | _, [] => some []
  | acc, f :: fs => if f.name ≠ "_" ∧ f.offset = acc then
      match sz f.type with
      | some s => if szOf P f.type = some s.length then
          match flatFs P sz (acc + s.length) fs with
          | some r => some (s ++ r)
          | none => none
        else none
      | none => none
    else none
def flatSz (P : Program) : Nat → Nat → Option (List Nat)
  | 0, _ => none
  | n + 1, t => match P.underlying t with
    | some (.int _) => some [0]
    | some .bool => some [1]
    | some .string => some [2]
    | some (.struct fs) => if P.stoodInHeld t then none else flatFs P (flatSz P n) 0 fs.toList
    | _ => none

def cParts (P : Program) (place : Nat → Option (Nat × Nat)) : List (Nat × Operand) → Option (List (Nat × Nat × O))
  | [] => some []
  | (i, x) :: l => match place i, cO x with
    | some (off, n), some y => match cParts P place l with
      | none => none
      | some r => some ((off, n, y) :: r)
    | _, _ => none
def fieldsAt (P : Program) (fs : Array Field) (i : Nat) : Option (Nat × Nat) :=
  match fs[i]? with
  | none => none
  | some f => (szOf P f.type).map (f.offset, ·)
/-- all fields' sizes are known. -/
def fieldsOk (P : Program) (fs : Array Field) : Bool := fs.toList.all fun f => (szOf P f.type).isSome

def eqOp : BinOp → Option Bool
  | .eql => some false
  | .neq => some true
  | _ => none
def isConst : Operand → Bool
  | .const _ => true
  | _ => false

def sliceOrStr : TypeDesc → Bool
  | .slice _ | .string => true
  | _ => false
def cLen (P : Program) : List O → List Nat → Option M
  | [x], t :: _ => match P.underlying t with
    | some .string => some (.len true x)
    | some (.slice _) => some (.len false x)
    | _ => none
  | _, _ => none
def cApp (P : Program) (k : Nat) : List O → List Nat → Option M
  | [x, y], t :: u :: _ => match P.underlying t, P.underlying u with
    | some (.slice e), some d => if sliceOrStr d then match szOf P e, byOf P e, zeroOf P e with
        | some n, some by_, some _ => some (.app k n by_ (datOf P e) x y)
        | _, _, _ => none
      else none
    | _, _ => none
  | _, _ => none
def cCpy (P : Program) : List O → List Nat → Option M
  | [x, y], t :: _ => match P.underlying t with
    | some (.slice e) => (szOf P e).map fun n => .cpy n x y
    | _ => none
  | _, _ => none
def cBuiltin (P : Program) (k : Nat) (b : Builtin) (as : List O) (ts : List Nat) : Option M :=
  match b with
  | .len => cLen P as ts
  | .append => cApp P k as ts
  | .copy => cCpy P as ts
  | .max => some (.mm true as)
  | .min => some (.mm false as)
  | _ => none

/-- k: how many blocks the rows before take. -/
def cOp (P : Program) (k : Nat) (op : Op) : Option M :=
  match op with
  | .move x | .assign x => (cO x).map .mv
  | .pick c a b => match cO c, cO a, cO b with
    | some c, some a, some b => some (.pk c a b)
    | _, _, _ => none
  | .alloc t => (zeroOf P t).map (.al k)
  | .box _ x => (cO x).map (.bx k)
  | .build t ps => match zeroOf P t, P.underlying t with
    | some z, some (.struct fs) => if fieldsOk P fs then (cParts P (fieldsAt P fs) ps.toList).map (.bd z) else none
    | some z, some (.array _ e) => match szOf P e with
      | some n => (cParts P (fun i => some (i * n, n)) ps.toList).map (.bd z)
      | none => none
    | _, _ => none
  | .buildSlice t len ps => match P.underlying t with
    | some (.slice e) => match szOf P e, zeroOf P e with
      | some n, some z => if len * n ≤ 65536 then (cParts P (fun i => some (i * n, n)) ps.toList).map (.bs len z) else none
      | _, _ => none
    | _ => none
  | .load t x => match aggOf P t, szOf P t, cO x with
    | some a, some n, some x => if a || n = 1 then some (.ld a n x) else none
    | _, _, _ => none
  | .store t a x => match szOf P t, cO a, cO x with
    | some n, some a, some x => some (.st n a x)
    | _, _, _ => none
  | .nilCheck x => (cO x).map .nc
  | .binOp op t x y _ => match cO x, cO y with
    | some x', some y' => match eqOp op with
      | some neg => match P.underlying t with
        | some (.int _) | some .string => some (.bo op x' y')
        | some .bool => some (.eqv neg 1 x' y')
        | some (.slice _) => some (.eqv neg 3 x' y')
        | some (.pointer _) => some (.eqv neg 4 x' y')
        | some (.func _ _ _) => some (.eqv neg 6 x' y')
        | some (.interface _) => if isConst x || isConst y then some (.eqv neg 7 x' y') else none
        | some (.struct _) => match flatSz P 16 t with
          | some n => if P.eqGuardType P.depth t then none else some (.eqs neg n x' y')
          | none => none
        | _ => none
      | none => some (.bo op x' y')
    | _, _ => none
  | .unOp op _ x => (cO x).map (.un op)
  | .convert s d x => match cO x with
    | none => none
    | some y => match P.underlying s, P.underlying d with
      | some (.int _), some (.int k) => some (.ci k y)
      | some .string, some .string => some (.cs y)
      | some (.slice e), some .string => match P.underlying e with
        | some (.int .u8) => some (.bts y)
        | _ => none
      | some .string, some (.slice e) => match P.underlying e with
        | some (.int .u8) => some (.stb y)
        | _ => none
      | _, _ => none
  | .makeInterface t x => match P.underlying t with
    | some (.interface _) => none
    | some _ => (cO x).map (.mi t)
    | none => none
  | .makeFunc (.func f) ⟨[]⟩ caps => (cOs caps.toList).map (.mf f)
  | .makeSlice t l c => match P.underlying t with
    | some (.slice e) => match szOf P e, byOf P e, zeroOf P e, cO l, cO c with
      | some n, some by_, some z, some l, some c => some (.mk k n by_ (datOf P e) z l c)
      | _, _, _, _, _ => none
    | _ => none
  | .slice t x lo hi mx => if mx.isSome && hi.isNone then none else match cO x, cOo lo, cOo hi, cOo mx with
    | some x, some lo, some hi, some mx => match P.underlying t with
      | some (.slice e) => (szOf P e).map fun n => .ss n x lo hi mx
      | some .string => if mx.isNone then some (.sst x lo hi) else none
      | some (.array m e) => (szOf P e).map fun n => .sa n m x lo hi mx
      | _ => none
    | _, _, _, _ => none
  | .fieldAddr s x f => match P.underlying s, cO x with
    | some (.struct fs), some x => match fs[f]? with
      | some fd => match szOf P fd.type with
        | some (_ + 1) => some (.fa fd.offset x)
        | _ => none
      | none => none
    | _, _ => none
  | .field s x f => match P.underlying s, cO x with
    | some (.struct fs), some x => match fs[f]? with
      | some fd => match aggOf P fd.type, szOf P fd.type with
        | some a, some n => if a || n = 1 then some (.fd fd.offset a n x) else none
        | _, _ => none
      | none => none
    | _, _ => none
  | .indexAddr t x i => match cO x, cO i with
    | some x, some i => match P.underlying t with
      | some (.slice e) => (szOf P e).map fun n => .ia n x i
      | some (.array m e) => (szOf P e).map fun n => .iaa n m x i
      | _ => none
    | _, _ => none
  | .index t x i => match cO x, cO i with
    | some x, some i => match P.underlying t with
      | some .string => some (.ixs x i)
      | some (.array m e) => match aggOf P e, szOf P e with
        | some a, some n => if a || n = 1 then some (.ixa n m a x i) else none
        | _, _ => none
      | _ => none
    | _, _ => none
  | .typeAssert x _ t ok => match cO x, zeroV P t with
    | some x, some z => match P.underlying t with
      | some (.interface _) | none => none
      | _ => some (.ta t ok z x)
    | _, _ => none
  | .extract x i => (cO x).map fun x => .ex x i
  | .panic _ => some .pn
  | .call ⟨.value f, args, _⟩ => match cO f, cOs args.toList with
    | some f, some as => some (.call f as)
    | _, _ => none
  | .call ⟨.builtin b, args, ts⟩ => match cOs args.toList with
    | none => none
    | some as => cBuiltin P k b as ts.toList
  | _ => none

def takes : M → Nat
  | .al _ _ | .bx _ _ | .mk .. | .app .. => 1
  | _ => 0

def oSlots : List O → List Nat
  | [] => []
  | .t n :: l => n :: oSlots l
  | .c _ :: l => oSlots l
def M.ops : M → List O
  | .mv x | .bx _ x | .ld _ _ x | .nc x | .un _ x | .ci _ x | .cs x | .bts x | .stb x | .mi _ x | .fa _ x | .fd _ _ _ x | .ta _ _ _ x | .ex x _ | .len _ x => [x]
  | .pk a b c => [a, b, c]
  | .al _ _ | .pn => []
  | .bd _ ps | .bs _ _ ps => ps.map (·.2.2)
  | .st _ a x | .bo _ a x | .eqv _ _ a x | .eqs _ _ a x | .mk _ _ _ _ _ a x | .ia _ a x | .iaa _ _ a x | .ixs a x | .ixa _ _ _ a x | .app _ _ _ _ a x | .cpy _ a x => [a, x]
  | .mf _ xs | .mm _ xs => xs
  | .ss _ x lo hi mx | .sa _ _ x lo hi mx => x :: (lo.toList ++ hi.toList ++ mx.toList)
  | .sst x lo hi => x :: (lo.toList ++ hi.toList)
  | .call f xs => f :: xs
def G.reads (r : G) : List Nat := (match r.g with | some (s, _) => [s] | none => []) ++ oSlots r.o.ops
def G.names (r : G) : List Nat := r.d.toList ++ r.reads

/-- Unordered rows do not name what the other one writes. -/
def apart (a b : G) : Bool :=
  (match a.d with | some d => !b.names.contains d | none => true) && (match b.d with | some d => !a.names.contains d | none => true)
def statRow (r : G) : Nat → List G → Bool
  | _, [] => true
  | i, a :: l => (r.b.testBit i || apart a r) && statRow r (i + 1) l
def statOk : List G → List G → Bool
  | _, [] => true
  | seen, r :: l => statRow r 0 seen && statOk (seen ++ [r]) l

def maskBits (acc : List Nat) : List Edge → Nat
  | [] => 0
  | e :: l => if Region.binds .any e then maskBits acc l ||| 2 ^ e.on ||| acc.getD e.on 0 else maskBits acc l
def edgesOk (i : Nat) (es : List Edge) : Bool := es.all fun e => !Region.binds .any e || decide (e.on < i)

/-- An order in which the rows can be taken, at a mode: rows whose edges are met, again and again. -/
def pass (m : Region.Mode) : Nat → List Oper → List Nat → List Nat
  | _, [], done => done
  | i, o :: l, done => pass m (i + 1) l (if !done.contains i && o.after.toList.all (fun e => !Region.binds m e || done.contains e.on) then done ++ [i] else done)
def topo (m : Region.Mode) (ops : List Oper) : Nat → List Nat → List Nat
  | 0, done => done
  | k + 1, done => let d := pass m 0 ops done; if d.length = done.length then d else topo m ops k d
def rankRow (m : Region.Mode) (n : Nat) (ord : List Nat) (i : Nat) (o : Oper) : Bool := o.after.toList.all fun e => !Region.binds m e || (decide (e.on < n) && decide (ord.idxOf e.on < ord.idxOf i))
def rankRows (m : Region.Mode) (n : Nat) (ord : List Nat) : Nat → List Oper → Bool
  | _, [] => true
  | i, o :: l => rankRow m n ord i o && rankRows m n ord (i + 1) l
def rankOk (ops : Array Oper) (m : Region.Mode) : Bool := rankRows m ops.size (topo m ops.toList (ops.size + 1) []) 0 ops.toList
def ranksOk (ops : Array Oper) : Bool := rankOk ops .text && rankOk ops .gc && rankOk ops .any

def cRows (P : Program) (all : Array Oper) : Nat → Nat → List Nat → List Oper → Option (Nat × List G)
  | _, k, _, [] => some (k, [])
  | i, k, acc, o :: l =>
    if edgesOk i o.after.toList then
      match cOp P k o.op with
      | none => none
      | some m =>
        let b := maskBits acc o.after.toList
        let g : Option (Option (Nat × Bool)) := match o.guard with
          | none => some none
          | some (j, want) => match all[j]? with
            | some oj => match oj.dst with
              | some s => if j < i && b.testBit j then some (some (s, want)) else none
              | none => none
            | none => none
        match g with
        | none => none
        | some g => match cRows P all (i + 1) (k + takes m) (acc ++ [b]) l with
          | none => none
          | some (n, r) => some (n, ⟨o.dst, g, b, m⟩ :: r)
    else none

def cCode (P : Program) : Code → Option MC
  | .skip => some .skip
  | .region _ ops draw => match cRows P ops 0 0 [] ops.toList with
    | some (n, l) => if !draw || (statOk [] l && ranksOk ops) then some (.reg draw n l) else none
    | none => none
  | .seq a b => match cCode P a, cCode P b with
    | some a, some b => some (.seq a b)
    | _, _ => none
  | .cond c a b => match cO c, cCode P a, cCode P b with
    | some c, some a, some b => some (.cond c a b)
    | _, _, _ => none
  | .block id c => (cCode P c).map (.block id)
  | .loop c => (cCode P c).map .loop
  | .rangeFunc f ps asg body => match cO f, cCode P asg, cCode P body with
    | some f, some asg, some body => some (.rf f ps.toList asg body)
    | _, _, _ => none
  | .exit id => some (.exit id)
  | .scope c => cCode P c
  | .label _ => some .skip
  | .goto _ => none
  | .ret => some .ret
  | .refuse _ => none

def cRes (P : Program) : List ResultVar → Option (List RV)
  | [] => some []
  | .tmp t :: l => (cRes P l).map (.tmp t :: ·)
  | .cell a t :: l => match aggOf P t, szOf P t, cRes P l with
    | some g, some n, some r => if g || n = 1 then some (.cell a g n :: r) else none
    | _, _, _ => none

def cFunc (P : Program) (fn : Func) : Option Fc :=
  match fn.body with
  | none => none
  | some c => match cCode P c, cRes P fn.results.toList with
    | some c, some r => some { ntm := fn.ntmps, np := fn.params.size + fn.nfree, res := r, body := c }
    | _, _ => none

end Go.Dr
