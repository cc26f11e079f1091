/- The door: an abstract machine for Go functions over data. Definitions only: values, blocks, small code, the compiler from the model's code, and the evaluator. -/
import GoSem.Step
import Derived.Below
import Derived.CallsIn
namespace Go.Dr
abbrev jA.{u}:=@Option.some.injEq.{u}
abbrev jB.{u}:=@List.getElem?_eq_some_iff.{u}
abbrev jC.{u}:=@List.getElem?_eq_getElem.{u}
abbrev jD.{u}:=@List.length_append.{u}
abbrev jE.{u}:=@List.mem_of_getElem?.{u}
abbrev jF:=@Bool.and_eq_true
abbrev jG:=@decide_eq_true_eq
abbrev jH.{u,v}:=@List.getElem?_map.{u,v}
abbrev jI:=@decide_eq_false_iff_not
abbrev jJ.{u}:=@List.mem_singleton.{u}
abbrev jK.{u}:=@List.mem_append.{u}
abbrev jL:=@Bool.or_eq_false_iff
abbrev jM.{u}:=@List.getD_eq_getElem?_getD.{u}
abbrev jN.{u,v}:=@Prod.mk.injEq.{u,v}
abbrev jO.{u}:=@List.append_assoc.{u}
abbrev jP.{u}:=@Array.getElem?_eq_some_iff.{u}
abbrev jQ.{u}:=@List.length_take.{u}
end Go.Dr
namespace Go.Dr
inductive V where
 | bool (b:Bool)
 | int (k:IntKind) (n:Int)
 | str (s:List UInt8)
 | nilp|nilsl|nilmap|nilfn|nilif
 | sl (clip:Bool) (len:Nat) (cells:List V)
 | rp (cells:List V) (off:Nat)
 | agg (cells:List V)
 | tup (vs:List V)
 | iface (t:Nat) (v:V)
 | fn (f:Nat) (caps:List V)
 | ref (id g off:Nat)
 | ms (es id g off len:Nat) (clip:Bool)
 | yld (id:Nat)
 | dead
 | mr (id:Nat)
 | esl
 | itr (id m:Nat)
 | bf (f:Nat) (v:V)
 | rm (ks vs:List V)
 | irr (id:Nat)
 deriving Inhabited
inductive O where
 | t (n:Nat)
 | c (v:V)
 | mt (tb:List (Nat × Nat)) (n:Nat)
 | rv (tb:List (Nat × Nat)) (n:Nat)
 deriving Inhabited
inductive M where
 | mv (x:O)
 | pk (c a b:O)
 | al (k:Nat) (zero:List V)
 | bx (k:Nat) (x:O)
 | bd (zero:List V) (parts:List (Nat × Nat × O))
 | bs (len:Nat) (zero:List V) (parts:List (Nat × Nat × O))
 | bl (k es len:Nat) (zero:List V) (parts:List (Nat × Nat × O))
 | ld (agg:Bool) (n:Nat) (x:O)
 | st (n:Nat) (a x:O)
 | nc (x:O)
 | bo (op:BinOp) (x y:O)
 | eqv (neg:Bool) (kd:Nat) (x y:O)
 | eqs (neg:Bool) (ks:List Nat) (x y:O)
 | un (op:UnOp) (x:O)
 | ci (k:IntKind) (x:O)
 | cs (x:O)
 | bts (x:O)
 | stb (x:O)
 | mi (t:Nat) (x:O)
 | mb (f:Nat) (x:O)
 | mf (f:Nat) (caps:List O)
 | mk (k:Nat) (es bytes:Nat) (dat:Bool) (zero:List V) (len cap:O)
 | ss (es:Nat) (x:O) (lo hi mx:Option O)
 | sst (x:O) (lo hi:Option O)
 | sa (es n:Nat) (x:O) (lo hi mx:Option O)
 | fa (off:Nat) (x:O)
 | fd (off:Nat) (agg:Bool) (n:Nat) (x:O)
 | ia (es:Nat) (x i:O)
 | iaa (es n:Nat) (x i:O)
 | ixs (x i:O)
 | ixa (es n:Nat) (agg:Bool) (x i:O)
 | ta (t:Nat) (ok:Bool) (zero:V) (x:O)
 | ex (x:O) (i:Nat)
 | len (st:Bool) (x:O)
 | app (k:Nat) (es bytes:Nat) (dat:Bool) (x y:O)
 | cpy (es:Nat) (x y:O)
 | mm (mx:Bool) (xs:List O)
 | pn
 | call (f:O) (args:List O)
 | nm (k:Nat)
 | mu (kd:Nat) (x key v:O)
 | lu (kd:Nat) (ok:Bool) (zero:V) (x i:O)
 | ml (x:O)
 | me (kd:Nat) (zero:V) (x key:O)
 | ez (x stamp v:O)
 | nq (k:Nat)
 | rg (k:Nat) (x:O)
 | nx (x:O)
 | en (x:O)
 | dl (kd:Nat) (x key:O)
 deriving Inhabited
structure G where
 d:Option Nat
 g:Option (Nat × Bool)
 b:Nat
 o:M
 deriving Inhabited
inductive MC where
 | skip
 | reg (draw:Bool) (na:Nat) (ops:List G)
 | seq (a b:MC)
 | cond (x:O) (a b:MC)
 | block (id:Nat) (c:MC)
 | loop (c:MC)
 | lp (mask:List Bool) (hl:Nat) (c:MC)
 | rf (x:O) (params:List Nat) (assign body:MC)
 | exit (id:Nat)
 | ret
 | kn (n f:Nat)
 deriving Inhabited
inductive X where
 | nrm|exit (id:Nat)|ret
 deriving Inhabited
inductive B where
 | blk (c:List V) (dat:Bool)
 | unborn
 | lop (ready:Bool) (pend:X) (tm:List V) (ps:List Nat) (assign body:MC)
 | mp (ks vs:List V)
 | mq (st:List Nat) (ck:Nat) (ks vs:List V)
 | it (m since stepped:Nat) (seen:List Nat)
 | ir (ks vs:List V) (seen:List Nat)
 deriving Inhabited
structure St where
 tm:List V
 h:List B
 deriving Inhabited
inductive RV where
 | tmp (t:Nat)
 | cell (a:Nat) (agg:Bool) (n:Nat)
 deriving Inhabited
structure Fc where
 ntm:Nat
 np:Nat
 res:List RV
 body:MC
 kn:Option (Nat→List V→List B→Option (V × List B))
 deriving Inhabited
def tg:List V→Nat→V
 | [],_=>.dead
 | v::_,0=>v
 | _::l,n+1=>tg l n
def tset:List V→Nat→V→List V
 | [],_,_=>[]
 | _::l,0,v=>v::l
 | x::l,n+1,v=>x::tset l n v
def bget:List B→Nat→Option B
 | [],_=>none
 | b::_,0=>some b
 | _::l,n+1=>bget l n
def bset:List B→Nat→B→List B
 | [],_,_=>[]
 | _::l,0,b=>b::l
 | x::l,n+1,b=>x::bset l n b
def Q0n (h:List B):List Nat→Option (List B)
 | []=>some []
 | i::l=>match bget h i with
  | none=>none
  | some b=>match Q0n h l with
   | none=>none
   | some r=>some (b::r)
def Q7q:List (Nat × Nat)→Nat→Option Nat
 | [],_=>none
 | (t,f)::l,n=>if t=n then some f else Q7q l n
def O.ev (tm:List V):O→V
 | .t n=>tg tm n
 | .c v=>v
 | .mt tb n=>match tg tm n with
  | .iface ty _=>(match Q7q tb ty with
   | some f=>.fn f []
   | none=>.dead)
  | _=>.dead
 | .rv tb n=>match tg tm n with
  | .iface ty v=>(match Q7q tb ty with
   | some _=>v
   | none=>.dead)
  | _=>.dead
def evs (tm:List V):List O→List V
 | []=>[]
 | x::l=>x.ev tm::evs tm l
def evo (tm:List V):Option O→Option V
 | none=>none
 | some x=>some (x.ev tm)
def V.cells:V→List V
 | .agg cs=>cs
 | v=>[v]
def V.one:V→Bool
 | .agg _|.tup _|.dead=>false
 | _=>true
def ones:List V→Bool
 | []=>true
 | v::l=>v.one&&ones l
mutual
def V.blo (n:Nat):V→Bool
 | .agg cs=>blos n cs
 | .tup cs=>blos n cs
 | .iface _ v=>v.blo n
 | .bf _ v=>v.blo n
 | .fn _ cs=>blos n cs
 | .ref id _ _=>decide (id<n)
 | .ms _ id _ _ _ _=>decide (id<n)
 | .yld id=>decide (id<n)
 | .mr id=>decide (id<n)
 | .itr id _=>decide (id<n)
 | .irr id=>decide (id<n)
 | _=>true
def blos (n:Nat):List V→Bool
 | []=>true
 | v::l=>v.blo n&&blos n l
end
mutual
def V.lean:V→Bool
 | .agg cs=>Q6e cs
 | .tup cs=>Q6e cs
 | .iface _ v=>v.lean
 | .bf _ v=>v.lean
 | .fn _ cs=>Q6e cs
 | .ref _ _ _=>false
 | .yld _|.mr _|.itr _ _|.irr _=>false
 | _=>true
def Q6e:List V→Bool
 | []=>true
 | v::l=>v.lean&&Q6e l
end
mutual
def V.scalar:V→Bool
 | .agg cs=>scalars cs
 | .tup cs=>scalars cs
 | .iface _ v=>v.scalar
 | .bf _ v=>v.scalar
 | .fn _ cs=>scalars cs
 | .ref _ _ _|.ms _ _ _ _ _ _|.yld _|.sl _ _ _|.rp _ _|.dead|.mr _|.itr _ _|.irr _|.rm _ _=>false
 | _=>true
def scalars:List V→Bool
 | []=>true
 | v::l=>v.scalar&&scalars l
end
def Q5a:Nat→List V→List V
 | 0,_=>[]
 | _+1,[]=>[]
 | n+1,v::l=>v::Q5a n l
def Q6j:Nat→List V→List V
 | 0,l=>l
 | _+1,[]=>[]
 | n+1,_::l=>Q6j n l
def part (cs:List V) (off n:Nat):Option (List V) :=
 let r:=Q5a n (Q6j off cs)
 if r.length=n then some r else none
def over:List V→Nat→List V→List V
 | cs,0,[]=>cs
 | _::cs,0,v::l=>v::over cs 0 l
 | [],_,_=>[]
 | c::cs,n+1,l=>c::over cs n l
def mapO (f:V→Option V):List V→Option (List V)
 | []=>some []
 | v::l=>match f v with
  | none=>none
  | some x=>match mapO f l with
   | none=>none
   | some r=>some (x::r)
def V.view (h:List B):Nat→V→Option V
 | 0,_=>none
 | n+1,v=>match v with
  | .ms es id g off len clip=>match bget h id with
   | some (.blk c _)=>if c.length=g then
     match part c off (len*es) with
     | some cs=>match mapO (V.view h n) cs with
      | some r=>some (.sl clip len r)
      | none=>none
     | none=>none
    else none
   | _=>none
  | .agg cs=>(mapO (V.view h n) cs).map .agg
  | .tup cs=>(mapO (V.view h n) cs).map .tup
  | .iface t v=>(V.view h n v).map (.iface t)
  | .bf t v=>(V.view h n v).map (.bf t)
  | .fn f cs=>(mapO (V.view h n) cs).map (.fn f)
  | .ref id g off=>match bget h id with
   | some (.blk c _)=>if c.length=g then
     match part c off (g-off) with
     | some cs=>match mapO (V.view h n) cs with
      | some r=>some (.rp r 0)
      | none=>none
     | none=>none
    else none
   | _=>none
  | .mr id=>match bget h id with
   | some (.mp ks vs)=>match mapO (V.view h n) ks with
    | some a=>match mapO (V.view h n) vs with
     | some b=>some (.rm a b)
     | none=>none
    | none=>none
   | _=>none
  | .yld _|.dead|.itr _ _|.irr _=>none
  | .nilsl=>some (.sl true 0 [])
  | .esl=>some (.sl false 0 [])
  | v=>some v
def Q1o (h:List B) (n:Nat) (l:List V):Option (List V):=mapO (V.view h n) l
def allB (f:V→Bool):List V→Bool
 | []=>true
 | v::l=>f v&&allB f l
def V.fresh (h:List B):Nat→V→Bool
 | 0,_=>false
 | n+1,v=>match v with
  | .ms es id g off len _=>match bget h id with
   | some (.blk c _)=>if c.length=g then
     match part c off (len*es) with
     | some cs=>allB (V.fresh h n) cs
     | none=>false
    else false
   | _=>false
  | .agg cs=>allB (V.fresh h n) cs
  | .tup cs=>allB (V.fresh h n) cs
  | .iface _ v=>V.fresh h n v
  | .bf _ v=>V.fresh h n v
  | .fn _ cs=>allB (V.fresh h n) cs
  | .sl _ _ cs=>cs.isEmpty
  | .ref _ _ _|.yld _|.dead|.rp _ _|.mr _|.itr _ _|.irr _|.rm _ _=>false
  | _=>true
def Qhz (k:IntKind) (op:BinOp) (x y:Int):V :=
 let a:=BitVec.ofInt k.bits x
 let b:=BitVec.ofInt k.bits y
 .int k (k.wrap (match op with
  | .and=>a &&& b
  | .or=>a ||| b
  | .xor=>a ^^^ b
  | _=>a &&& ~~~b).toNat)
def ari (op:BinOp) (k:IntKind) (x y:Int):Option V :=
 match op with
 | .add=>some (.int k (k.wrap (x+y)))
 | .sub=>some (.int k (k.wrap (x-y)))
 | .mul=>some (.int k (k.wrap (x*y)))
 | .quo=>if y=0 then none else some (.int k (k.wrap (x.tdiv y)))
 | .rem=>if y=0 then none else some (.int k (x.tmod y))
 | .and|.or|.xor|.andNot=>some (Qhz k op x y)
 | .eql=>some (.bool (decide (x=y)))
 | .neq=>some (.bool (!decide (x=y)))
 | .lss=>some (.bool (decide (x<y)))
 | .leq=>some (.bool (decide (x≤y)))
 | .gtr=>some (.bool (decide (y<x)))
 | .geq=>some (.bool (decide (y≤x)))
 | _=>none
def shf (op:BinOp) (k:IntKind) (x y:Int):Option V :=
 if y<0 then none else
 match op with
 | .shl=>some (.int k (k.wrap (x*2 ^ (min y.toNat k.bits))))
 | .shr=>some (.int k (x.fdiv (2 ^ (min y.toNat k.bits))))
 | _=>none
def sop (op:BinOp) (x y:List UInt8):Option V :=
 match op with
 | .add=>if x.length+y.length<2 ^ 62 then some (.str (x++y)) else none
 | .eql=>some (.bool (x==y))
 | .neq=>some (.bool (!(x==y)))
 | .lss=>some (.bool (Op.bytesLess x y))
 | .leq=>some (.bool (Op.bytesLess x y||x==y))
 | .gtr=>some (.bool (!(Op.bytesLess x y||x==y)))
 | .geq=>some (.bool (!Op.bytesLess x y))
 | _=>none
def Q6q (op:BinOp) (x y:V):Option V :=
 match x,y with
 | .int k a,.int k' b=>match op with
  | .shl|.shr=>shf op k a b
  | _=>if k=k' then ari op k a b else none
 | .str a,.str b=>sop op a b
 | _,_=>none
def eq0:Nat→V→V→Option Bool
 | 1,.bool a,.bool b=>some (a==b)
 | 0,.int k a,.int k' b=>if k=k' then some (decide (a=b)) else none
 | 2,.str a,.str b=>some (a==b)
 | _,_,_=>none
def eqc0:List Nat→List V→List V→Option Bool
 | [],[],[]=>some true
 | k::ks,x::l,y::r=>match eq0 k x y with
  | none=>none
  | some e=>match eqc0 ks l r with
   | none=>none
   | some f=>some (e&&f)
 | _,_,_=>none
def kdOf:List Nat→Nat
 | []=>1
 | k::ks=>3*kdOf ks+k
def kdF:Nat→Nat→List Nat
 | 0,_=>[]
 | f+1,n=>if n<3 then [] else n%3::kdF f (n/3)
def kdks (n:Nat):List Nat:=kdF 32 n
def eq1:Nat→V→V→Option Bool
 | 1,.bool a,.bool b=>some (a==b)
 | 0,.int k a,.int k' b=>if k=k' then some (decide (a=b)) else none
 | 2,.str a,.str b=>some (a==b)
 | n+3,.agg a,.agg b=>eqc0 (kdks (n+3)) a b
 | _,_,_=>none
def eqc:List Nat→List V→List V→Option Bool
 | [],[],[]=>some true
 | k::ks,x::l,y::r=>match eq1 k x y with
  | none=>none
  | some e=>match eqc ks l r with
   | none=>none
   | some f=>some (e&&f)
 | _,_,_=>none
def kinds:List Nat→List V→Bool
 | [],[]=>true
 | 0::ks,.int _ _::l|1::ks,.bool _::l|2::ks,.str _::l=>kinds ks l
 | _,_=>false
def Q53:Nat→V→Bool
 | 0,.int _ _|1,.bool _|2,.str _=>true
 | n+3,.agg a=>kinds (kdks (n+3)) a
 | _,_=>false
def Q0w (kd:Nat) (key:V):List V→Nat→Option (Option Nat)
 | [],_=>if Q53 kd key then some none else none
 | x::l,i=>match eq1 kd key x with
  | none=>none
  | some true=>some (some i)
  | some false=>Q0w kd key l (i+1)
def eqv2:Nat→V→V→Option Bool
 | 1,.bool a,.bool b=>some (a==b)
 | 3,.nilsl,.nilsl=>some true
 | 3,.nilsl,.sl _ n _=>if n=0 then none else some false
 | 3,.sl _ n _,.nilsl=>if n=0 then none else some false
 | 3,.nilsl,.esl|3,.esl,.nilsl=>some false
 | 3,.nilsl,.ms _ _ _ _ _ _|3,.ms _ _ _ _ _ _,.nilsl=>some false
 | 4,.nilp,.nilp=>some true
 | 4,.nilp,.ref _ _ _|4,.ref _ _ _,.nilp|4,.nilp,.rp _ _|4,.rp _ _,.nilp=>some false
 | 6,.nilfn,.nilfn=>some true
 | 6,.nilfn,.fn _ _|6,.fn _ _,.nilfn=>some false
 | 7,.nilif,.nilif=>some true
 | 7,.nilif,.iface _ _|7,.iface _ _,.nilif=>some false
 | _,_,_=>none
def unop (op:UnOp) (x:V):Option V :=
 match op,x with
 | .neg,.int k n=>some (.int k (k.wrap (0-n)))
 | .xor,.int k n=>some (Qhz k .xor (if k.signed then -1 else k.max) n)
 | .not,.bool b=>some (.bool (!b))
 | _,_=>none
def Qhu:V→Option UInt8
 | .int .u8 n=>some (UInt8.ofNat n.toNat)
 | _=>none
def Q32:List V→Option (List UInt8)
 | []=>some []
 | v::l=>match Qhu v with
  | none=>none
  | some b=>match Q32 l with
   | none=>none
   | some r=>some (b::r)
def ofBytes:List UInt8→List V
 | []=>[]
 | b::l=>.int .u8 b.toNat::ofBytes l
def maxs (mx:Bool):V→List V→Option V
 | v,[]=>some v
 | .int k x,.int k' y::l=>if k=k' then maxs mx (.int k (if mx then (if x<y then y else x) else (if y<x then y else x))) l else none
 | _,_=>none
def Q4r (tm:List V):List V→List (Nat × Nat × O)→Option (List V)
 | cs,[]=>some cs
 | cs,(off,n,x)::l =>
  let v:=(x.ev tm).cells
  if v.length=n&&decide (off+n≤cs.length)&&ones v then Q4r tm (over cs off v) l else none
def reps:Nat→List V→List V
 | 0,_=>[]
 | n+1,z=>z++reps n z
def nat? (m:Nat):V→Option Nat
 | .int _ n=>if 0≤n∧n≤(m:Int) then some n.toNat else none
 | _=>none
def nato (m d:Nat):Option V→Option Nat
 | none=>some d
 | some v=>nat? m v
structure Pl where
 rs:List Nat
 w:Option Nat
 f:List B→Option (V × Option B)
def Pl.val (v:V):Pl:=⟨[],none,fun _=>some (v,none)⟩
def Pl.new (id:Nat) (v:V) (b:B):Pl:=⟨[id],some id,fun
 | [.unborn]=>some (v,some b)
 | _=>none⟩
def Pl.rd (id g:Nat) (k:List V→Option V):Pl:=⟨[id],none,fun
 | [.blk c _]=>if c.length=g then (k c).map (·,none) else none
 | _=>none⟩
def Pl.wr (id g:Nat) (cells:List V) (k:List V→Option (V × List V)):Pl:=⟨[id],some id,fun
 | [.blk c dat]=>if c.length=g&&(!dat||scalars cells) then (k c).map (fun r=>(r.1,some (.blk r.2 dat))) else none
 | _=>none⟩
def val? (v:Option V):Option Pl:=v.map .val
def Q10 (agg:Bool) (n off:Nat) (c:List V):Option V :=
 match part c off n with
 | none=>none
 | some cs=>if agg then some (.agg cs) else match cs with
  | [v]=>some v
  | _=>none
def src (es:Nat) (x:V):Option (List Nat × Nat × (List B→Option (List V))) :=
 match x with
 | .nilsl|.esl=>some ([],0,fun _=>some [])
 | .sl _ len cs=>if cs.length=len*es then some ([],len,fun _=>some cs) else none
 | .str s=>if es=1 then some ([],s.length,fun _=>some (ofBytes s)) else none
 | .ms es' id g off len _=>if es'=es then some ([id],len,fun
  | .blk c _::_=>if c.length=g then part c off (len*es) else none
  | _=>none) else none
 | _=>none
def big:Nat:=68719476736
def Q3z (id es bytes:Nat) (dat:Bool) (len n:Nat) (cs ys:List V):Option (V × Option B) :=
 if decide ((cs.length+ys.length)*(bytes+1)<big)&&(!dat||scalars (cs++ys)) then
  some (.ms es id (cs.length+ys.length) 0 (len+n) false,some (.blk (cs++ys) dat)) else none
def Qay (id es bytes:Nat) (dat:Bool) (x y:V):Option Pl :=
 match src es y with
 | none=>none
 | some (rs,n,f) =>
  match x with
  | .nilsl=>some ⟨id::rs,some id,fun
    | .unborn::bs=>match f bs with
     | none=>none
     | some ys=>if n=0 then some (.nilsl,none) else Q3z id es bytes dat 0 n [] ys
    | _=>none⟩
  | .sl true len cs=>if cs.length=len*es then some ⟨id::rs,some id,fun
    | .unborn::bs=>match f bs with
     | none=>none
     | some ys=>if n=0 then some (.sl true len cs,none) else Q3z id es bytes dat len n cs ys
    | _=>none⟩ else none
  | .sl false len cs=>if n=0 then some ⟨rs,none,fun bs=>match f bs with
    | some _=>some (.sl false len cs,none)
    | none=>none⟩ else none
  | .ms es' i g off len true=>if es'=es then some ⟨id::i::rs,some id,fun
    | .unborn::.blk c _::bs=>match f bs with
     | none=>none
     | some ys=>if c.length=g then
       if n=0 then some (.ms es i g off len true,none) else
       match part c off (len*es) with
       | none=>none
       | some cs=>Q3z id es bytes dat len n cs ys
      else none
    | _=>none⟩ else none
  | .ms es' i g off len false=>if es'=es then some ⟨i::rs,some i,fun
    | .blk c dt::bs=>match f bs with
     | none=>none
     | some ys=>if c.length=g then
       if n=0 then some (.ms es i g off len false,none) else
       if off+len*es=g&&decide ((c.length+ys.length)*(bytes+1)<big)&&(!dt||scalars ys) then
        some (.ms es i (g+ys.length) off (len+n) false,some (.blk (c++ys) dt))
       else none
      else none
    | _=>none⟩ else none
  | _=>none
def Qax (es:Nat) (x y:V):Option Pl :=
 match src es y with
 | none=>none
 | some (rs,n,f)=>match x with
  | .nilsl=>some ⟨rs,none,fun bs=>match f bs with
    | some _=>some (.int .i64 0,none)
    | none=>none⟩
  | .ms es' i g off len _=>if es'=es then some ⟨i::rs,some i,fun
    | .blk c dt::bs=>match f bs with
     | none=>none
     | some ys =>
      let m:=min n len
      let zs:=Q5a (m*es) ys
      if c.length=g&&decide (off+len*es≤g)&&(!dt||scalars zs)&&ones zs then some (.int .i64 m,some (.blk (over c off zs) dt))
      else none
    | _=>none⟩ else none
  | _=>none
def mput (kd:Nat) (key v:V):List B→Option (V × Option B)
 | [.mp ks vs]=>match Q0w kd key ks 0 with
  | none=>none
  | some (some i)=>some (.dead,some (.mp ks (tset vs i v)))
  | some none=>some (.dead,some (.mp (ks++[key]) (vs++[v])))
 | [.mq st ck ks vs]=>match Q0w kd key ks 0 with
  | none=>none
  | some (some i)=>some (.dead,some (.mq st ck ks (tset vs i v)))
  | some none=>some (.dead,some (.mq (st++[ck]) (ck+1) (ks++[key]) (vs++[v])))
 | _=>none
def mget (kd:Nat) (ok:Bool) (zero key:V):List B→Option (V × Option B)
 | [.mp ks vs]=>match Q0w kd key ks 0 with
  | none=>none
  | some (some i)=>some (if ok then .tup [tg vs i,.bool true] else tg vs i,none)
  | some none=>some (if ok then .tup [zero,.bool false] else zero,none)
 | [.mq _ _ ks vs]=>match Q0w kd key ks 0 with
  | none=>none
  | some (some i)=>some (if ok then .tup [tg vs i,.bool true] else tg vs i,none)
  | some none=>some (if ok then .tup [zero,.bool false] else zero,none)
 | _=>none
def ment (kd:Nat) (zero key:V):List B→Option (V × Option B)
 | [.mp ks vs]=>match Q0w kd key ks 0 with
  | none=>none
  | some (some i)=>some (.tup [tg vs i,.int .i64 (i:Nat)],none)
  | some none=>some (.tup [zero,.int .i64 (ks.length:Nat)],some (.mp (ks++[key]) (vs++[zero])))
 | _=>none
def msto (stamp v:V):List B→Option (V × Option B)
 | [.mp ks vs]=>match stamp with
  | .int .i64 n=>if 0≤n∧n<(ks.length:Int) then some (.dead,some (.mp ks (tset vs n.toNat v))) else none
  | _=>none
 | _=>none
def mlen:List B→Option (V × Option B)
 | [.mp ks _]=>some (.int .i64 ks.length,none)
 | [.mq _ _ ks _]=>some (.int .i64 ks.length,none)
 | _=>none
def mdel (kd:Nat) (key:V):List B→Option (V × Option B)
 | [.mq st ck ks vs]=>match Q0w kd key ks 0 with
  | none=>none
  | some (some i)=>some (.tup [],some (.mq (st.eraseIdx i) ck (ks.eraseIdx i) (vs.eraseIdx i)))
  | some none=>some (.tup [],some (.mq st ck ks vs))
 | _=>none
def B.ents:B→Option (List Nat × Nat × List V × List V)
 | .mp ks vs=>some (List.range ks.length,ks.length,ks,vs)
 | .mq st ck ks vs=>some (st,ck,ks,vs)
 | _=>none
def B.isMap:B→Bool
 | .mp _ _|.mq _ _ _ _=>true
 | _=>false
def B.odd:B→Bool
 | .mp _ _|.mq _ _ _ _|.it _ _ _ _|.ir _ _ _=>true
 | _=>false
def mrng (id m:Nat):List B→Option (V × Option B)
 | [.unborn,b]=>match b.ents with
  | some (_,ck,_,_)=>some (.itr id m,some (.it m ck ck []))
  | none=>none
 | _=>none
def Qei (id:Nat) (ks vs:List V):List B→Option (V × Option B)
 | [.unborn]=>some (.irr id,some (.ir ks vs []))
 | _=>none
def lastO:List Nat→Option Nat
 | []=>none
 | [s]=>some s
 | _::l=>lastO l
def Qcr:List B→Option (V × Option B)
 | [.ir ks vs seen]=>match lastO seen with
  | some s=>if s<ks.length then some (.tup [tg ks s,tg vs s],none) else none
  | none=>none
 | _=>none
def mcur (m:Nat):List B→Option (V × Option B)
 | [.it m' _ stepped seen,b]=>if m'=m then match lastO seen,b.ents with
  | some s,some (st,ck,ks,vs)=>if ck=stepped&&decide (st.idxOf s<st.length) then some (.tup [tg ks (st.idxOf s),tg vs (st.idxOf s)],none) else none
  | _,_=>none else none
 | _=>none
def plan (base:Nat) (tm:List V):M→Option Pl
 | .mv x=>some (.val (x.ev tm))
 | .pk c a b=>match c.ev tm with
  | .bool t=>some (.val (if t then a.ev tm else b.ev tm))
  | _=>none
 | .al k z=>some (.new (base+k) (.ref (base+k) z.length 0) (.blk z false))
 | .bx k x=>let cs:=(x.ev tm).cells
  if ones cs then some (.new (base+k) (.ref (base+k) cs.length 0) (.blk cs false)) else none
 | .bd z ps=>val? ((Q4r tm z ps).map .agg)
 | .bs len z ps=>match Q4r tm (reps len z) ps with
  | none=>none
  | some cs=>if blos 0 cs then some (.val (.sl true len cs)) else none
 | .bl k es len z ps=>match Q4r tm (reps len z) ps with
  | none=>none
  | some cs=>if blos 0 cs then some (.val (.sl true len cs)) else some (.new (base+k) (.ms es (base+k) (len*es) 0 len true) (.blk cs false))
 | .ld agg n x=>match x.ev tm with
  | .rp cs off=>val? (Q10 agg n off cs)
  | .ref id g off=>some (.rd id g (Q10 agg n off))
  | _=>none
 | .st n a x=>match a.ev tm with
  | .ref id g off =>
   let v:=(x.ev tm).cells
   if v.length=n&&ones v then some (.wr id g v fun c=>if off+n≤c.length then some (.dead,over c off v) else none) else none
  | _=>none
 | .nc x=>match x.ev tm with
  | .rp cs off=>some (.val (.rp cs off))
  | .ref id g off=>some (.val (.ref id g off))
  | .fn f cs=>some (.val (.fn f cs))
  | .iface t v=>some (.val (.iface t v))
  | .bf t v=>some (.val (.bf t v))
  | _=>none
 | .bo op x y=>val? (Q6q op (x.ev tm) (y.ev tm))
 | .eqv neg kd x y=>match eqv2 kd (x.ev tm) (y.ev tm) with
  | none=>none
  | some e=>some (.val (.bool (if neg then !e else e)))
 | .eqs neg ks x y=>match x.ev tm,y.ev tm with
  | .agg xs,.agg ys=>match eqc ks xs ys with
    | none=>none
    | some e=>some (.val (.bool (if neg then !e else e)))
  | _,_=>none
 | .un op x=>val? (unop op (x.ev tm))
 | .ci k x=>match x.ev tm with
  | .int _ n=>some (.val (.int k (k.wrap n)))
  | _=>none
 | .cs x=>match x.ev tm with
  | .str s=>some (.val (.str s))
  | _=>none
 | .bts x=>match src 1 (x.ev tm) with
  | some (rs,_,f)=>match x.ev tm with
   | .str _=>none
   | _=>some ⟨rs,none,fun bs=>match f bs with
    | none=>none
    | some cs=>match Q32 cs with
     | none=>none
     | some s=>some (.str s,none)⟩
  | none=>none
 | .stb x=>match x.ev tm with
  | .str s=>if s.length<big then some (.val (.sl false s.length (ofBytes s))) else none
  | _=>none
 | .mi t x=>some (.val (.iface t (x.ev tm)))
 | .mb f x=>some (.val (.bf f (x.ev tm)))
 | .mf f cs=>some (.val (.fn f (evs tm cs)))
 | .mk k es bytes dat z len cap=>match nat? big (cap.ev tm) with
  | none=>none
  | some c=>match nat? c (len.ev tm) with
   | none=>none
   | some l=>if c*(bytes+1)≤big&&z.length=es&&(!dat||scalars z) then
     some (.new (base+k) (.ms es (base+k) (l*es) 0 l (decide (l=c))) (.blk (reps l z) dat)) else none
 | .ss es x lo hi mx=>match x.ev tm with
  | .nilsl=>match nato 0 0 (evo tm mx),nato 0 0 (evo tm hi),nato 0 0 (evo tm lo) with
   | some _,some _,some _=>some (.val .nilsl)
   | _,_,_=>none
  | .esl=>match nato 0 0 (evo tm mx),nato 0 0 (evo tm hi),nato 0 0 (evo tm lo) with
   | some _,some _,some _=>some (.val (.sl mx.isSome 0 []))
   | _,_,_=>none
  | .sl clip len cs=>match nato len len (evo tm mx) with
   | none=>none
   | some m=>match nato m len (evo tm hi) with
    | none=>none
    | some h=>match nato h 0 (evo tm lo) with
     | none=>none
     | some l=>match part cs (l*es) ((h-l)*es) with
      | none=>none
      | some r=>some (.val (.sl (if mx.isSome then decide (h=m) else clip&&decide (h=len)) (h-l) r))
  | .ms es' id g off len clip=>if es'=es then match nato len len (evo tm mx) with
   | none=>none
   | some m=>match nato m len (evo tm hi) with
    | none=>none
    | some h=>match nato h 0 (evo tm lo) with
     | none=>none
     | some l=>some (.val (.ms es id g (off+l*es) (h-l) (if mx.isSome then decide (h=m) else clip&&decide (h=len)))) else none
  | _=>none
 | .sst x lo hi=>match x.ev tm with
  | .str s=>match nato s.length s.length (evo tm hi) with
   | none=>none
   | some h=>match nato h 0 (evo tm lo) with
    | none=>none
    | some l=>some (.val (.str ((s.drop l).take (h-l))))
  | _=>none
 | .sa es n x lo hi mx=>match nato n n (evo tm mx) with
  | none=>none
  | some m=>match nato m n (evo tm hi) with
   | none=>none
   | some h=>match nato h 0 (evo tm lo) with
    | none=>none
    | some l=>match x.ev tm with
     | .ref id g off=>some ⟨[id],none,fun
      | [.blk c _]=>if c.length=g&&decide (off+n*es≤g) then some (.ms es id g (off+l*es) (h-l) (decide (h=m)),none) else none
      | _=>none⟩
     | .rp cs off=>match part cs (off+l*es) ((h-l)*es) with
      | none=>none
      | some r=>some (.val (.sl (decide (h=m)) (h-l) r))
     | _=>none
 | .fa off x=>match x.ev tm with
  | .rp cs o=>some (.val (.rp cs (o+off)))
  | .ref id g o=>some (.val (.ref id g (o+off)))
  | _=>none
 | .fd off agg n x=>match x.ev tm with
  | .agg cs=>val? (Q10 agg n off cs)
  | _=>none
 | .ia es x i=>match x.ev tm with
  | .sl _ len cs=>match len with
   | 0=>none
   | m+1=>match nat? m (i.ev tm) with
    | none=>none
    | some j=>some (.val (.rp cs (j*es)))
  | .ms _ id g off len _=>match len with
   | 0=>none
   | m+1=>match nat? m (i.ev tm) with
    | none=>none
    | some j=>some (.val (.ref id g (off+j*es)))
  | _=>none
 | .iaa es n x i=>match n with
  | 0=>none
  | m+1=>match nat? m (i.ev tm) with
   | none=>none
   | some j=>match x.ev tm with
    | .rp cs o=>some (.val (.rp cs (o+j*es)))
    | .ref id g o=>some (.val (.ref id g (o+j*es)))
    | _=>none
 | .ixs x i=>match x.ev tm with
  | .str s=>match nat? s.length (i.ev tm) with
   | none=>none
   | some j=>match s[j]? with
    | none=>none
    | some b=>some (.val (.int .u8 b.toNat))
  | _=>none
 | .ixa es n agg x i=>match n with
  | 0=>none
  | m+1=>match nat? m (i.ev tm) with
   | none=>none
   | some j=>match x.ev tm with
    | .agg cs=>val? (Q10 agg es (j*es) cs)
    | _=>none
 | .ta t ok z x=>match x.ev tm with
  | .iface u v=>if u=t then some (.val (if ok then .tup [v,.bool true] else v)) else if ok then some (.val (.tup [z,.bool false])) else none
  | .nilif=>if ok then some (.val (.tup [z,.bool false])) else none
  | _=>none
 | .ex x i=>match x.ev tm with
  | .tup vs=>if i<vs.length then some (.val (tg vs i)) else none
  | _=>none
 | .len st x=>match x.ev tm with
  | .str s=>if st then some (.val (.int .i64 s.length)) else none
  | .nilsl|.esl=>if st then none else some (.val (.int .i64 0))
  | .sl _ n _=>if st then none else some (.val (.int .i64 n))
  | .ms _ _ _ _ n _=>if st then none else some (.val (.int .i64 n))
  | _=>none
 | .app k es bytes dat x y=>if es=0 then none else Qay (base+k) es bytes dat (x.ev tm) (y.ev tm)
 | .cpy es x y=>if es=0 then none else Qax es (x.ev tm) (y.ev tm)
 | .mm mx xs=>match evs tm xs with
  | []=>none
  | v::l=>val? (maxs mx v l)
 | .pn=>none
 | .call _ _=>none
 | .nm k=>some (.new (base+k) (.mr (base+k)) (.mp [] []))
 | .mu kd x key v=>match x.ev tm with
  | .mr id=>some ⟨[id],some id,mput kd (key.ev tm) (v.ev tm)⟩
  | _=>none
 | .lu kd ok zero x i=>match x.ev tm with
  | .mr id=>some ⟨[id],none,mget kd ok zero (i.ev tm)⟩
  | .nilmap=>if Q53 kd (i.ev tm) then some (.val (if ok then .tup [zero,.bool false] else zero)) else none
  | .rm ks vs=>match mget kd ok zero (i.ev tm) [.mp ks vs] with
   | some (v,none)=>some (.val v)
   | _=>none
  | _=>none
 | .ml x=>match x.ev tm with
  | .mr id=>some ⟨[id],none,mlen⟩
  | .nilmap=>some (.val (.int .i64 0))
  | .rm ks _=>some (.val (.int .i64 ks.length))
  | _=>none
 | .me kd zero x key=>match x.ev tm with
  | .mr id=>some ⟨[id],some id,ment kd zero (key.ev tm)⟩
  | _=>none
 | .ez x stamp v=>match x.ev tm with
  | .mr id=>some ⟨[id],some id,msto (stamp.ev tm) (v.ev tm)⟩
  | _=>none
 | .nq k=>some (.new (base+k) (.mr (base+k)) (.mq [] 0 [] []))
 | .rg k x=>match x.ev tm with
  | .mr id=>some ⟨[base+k,id],some (base+k),mrng (base+k) id⟩
  | .rm ks vs=>some ⟨[base+k],some (base+k),Qei (base+k) ks vs⟩
  | _=>none
 | .nx _=>none
 | .en x=>match x.ev tm with
  | .itr id m=>some ⟨[id,m],none,mcur m⟩
  | .irr id=>some ⟨[id],none,Qcr⟩
  | _=>none
 | .dl kd x key=>match x.ev tm with
  | .mr id=>some ⟨[id],some id,mdel kd (key.ev tm)⟩
  | _=>none
def Pl.go (ro:Nat) (p:Pl) (h:List B):Option (V × List B) :=
 match Q0n h p.rs with
 | none=>none
 | some bs=>match p.f bs with
  | none=>none
  | some (v,none)=>some (v,h)
  | some (v,some b)=>match p.w with
   | none=>none
   | some id=>if ro≤id then some (v,bset h id b) else none
def Orc:=V→List V→List B→Option (V × List B)
def evG (oc:Orc) (ro base:Nat) (tm:List V) (h:List B) (r:G):Option (List V × List B) :=
 let go:Option (List V × List B) :=
  let res:=match r.o with
   | .call f args=>oc (f.ev tm) (evs tm args) h
   | o=>match plan base tm o with
    | none=>none
    | some p=>p.go ro h
  match res with
  | none=>none
  | some (v,h')=>some (match r.d with|some d=>tset tm d v|none=>tm,h')
 match r.g with
 | none=>go
 | some (s,want)=>match tg tm s with
  | .bool b=>if b=want then go else some (match r.d with|some d=>tset tm d (.tup [])|none=>tm,h)
  | .tup []=>some (match r.d with|some d=>tset tm d (.tup [])|none=>tm,h)
  | _=>none
def Q3f (oc:Orc) (ro base:Nat):List G→List V→List B→Option (List V × List B)
 | [],tm,h=>some (tm,h)
 | r::l,tm,h=>match evG oc ro base tm h r with
  | none=>none
  | some (tm',h')=>Q3f oc ro base l tm' h'
inductive Fp where
 | no
 | some (rs:List Nat) (w:Option Nat)
 | new (id:Nat)
 | vws
 | rds
 | all
def Qb3 (base:Nat):M→Option Nat
 | .al k _|.bx k _|.mk k _ _ _ _ _ _|.nm k|.nq k=>some (base+k)
 | _=>none
def V.empt:V→Bool
 | .nilsl|.esl=>true
 | .sl _ n _=>decide (n=0)
 | _=>false
def Qtc:List V→Bool
 | .ms _ _ _ _ 1 _::_=>true
 | _=>false
def modeN (md:Nat→Nat) (i:Nat) (caps:List V) (args:List V):Nat:=match md i with
  | 0=>if Q6e caps&&Q6e args then 0 else 1
  | 3=>(match args with
   | [.yld _]=>1
   | _=>0)
  | 4=>(match args with
   | [.yld _]=>1
   | v::_=>if v.empt then 1 else 0
   | []=>0)
  | 5=>if Qtc args then 1 else if Q6e caps&&Q6e args then 0 else 1
  | 6=>(match args with
   | [.yld _]=>1
   | v::_=>if v.empt then 2 else 0
   | []=>0)
  | 7=>if blos 0 caps&&blos 0 args then 0 else 1
  | m=>m
def mode (md:Nat→Nat) (f:V) (args:List V):Nat :=
 match f with
 | .fn i caps=>match md i with
  | 0=>if Q6e caps&&Q6e args then 0 else 1
  | 3=>(match args with
   | [.yld _]=>1
   | _=>0)
  | 4=>(match args with
   | [.yld _]=>1
   | v::_=>if v.empt then 1 else 0
   | []=>0)
  | 5=>if Qtc args then 1 else if Q6e caps&&Q6e args then 0 else 1
  | 6=>(match args with
   | [.yld _]=>1
   | v::_=>if v.empt then 2 else 0
   | []=>0)
  | 7=>if blos 0 caps&&blos 0 args then 0 else 1
  | m=>m
 | .bf i v=>modeN md i [] (v::args)
 | _=>1
def fpOf (md:Nat→Nat) (base:Nat) (tm:List V) (r:G):Fp :=
 let go:Fp:=match r.o with
  | .call f args=>match mode md (f.ev tm) (evs tm args) with
   | 0=>if blos 0 (f.ev tm::evs tm args) then .no else .vws
   | 2=>.rds
   | _=>.all
  | o=>match Qb3 base o with
   | some i=>.new i
   | none=>match plan base tm o with
    | none=>.all
    | some p=>match p.rs,p.w with
     | [],none=>.no
     | rs,w=>.some rs w
 match r.g with
 | none=>go
 | some (s,want)=>match tg tm s with
  | .bool b=>if b=want then go else .no
  | _=>.no
def hits (w:Option Nat) (rs:List Nat) (w':Option Nat):Bool :=
 match w with
 | none=>false
 | some i=>rs.contains i||w'==some i
def Fp.free:Fp→Fp→Bool
 | .no,_|_,.no=>true
 | .all,_|_,.all=>false
 | .new _,.vws=>true
 | .vws,.new _|.new _,.rds|.rds,.new _=>false
 | .new i,.new j=>i != j
 | .new i,.some rs w|.some rs w,.new i => !hits (Option.some i) rs w
 | .rds,.rds|.rds,.vws|.vws,.rds|.vws,.vws=>true
 | .rds,.some _ w|.some _ w,.rds|.vws,.some _ w|.some _ w,.vws=>w.isNone
 | .some rs w,.some rs' w' => !hits w rs' w' && !hits w' rs w
def Q6y (fp:Fp) (b:Nat):List (Nat × Fp)→Bool
 | []=>true
 | (i,q)::l=>(b.testBit i||fp.free q)&&Q6y fp b l
def Q1u (md:Nat→Nat) (oc:Orc) (ro base:Nat):Nat→List (Nat × Fp)→List G→List V→List B→Option (List V × List B)
 | _,_,[],tm,h=>some (tm,h)
 | i,seen,r::l,tm,h =>
  let fp:=fpOf md base tm r
  if Q6y fp r.b seen then
   match evG oc ro base tm h r with
   | none=>none
   | some (tm',h')=>Q1u md oc ro base (i+1) ((i,fp)::seen) l tm' h'
  else none
def Q0r:Nat→List B
 | 0=>[]
 | n+1=>.unborn::Q0r n
def B.blo (n:Nat):B→Bool
 | .blk c dat=>dat||blos n c
 | .unborn=>true
 | .lop _ _ tm _ _ _=>blos n tm
 | .mp ks vs=>blos n ks&&blos n vs
 | .mq _ _ ks vs=>blos n ks&&blos n vs
 | .it m _ _ _=>decide (m<n)
 | .ir _ _ _=>true
def Q0a (n:Nat):List B→Bool
 | []=>true
 | b::l=>b.blo n&&Q0a n l
def Q4t:List V→List Bool
 | []=>[]
 | .dead::l=>true::Q4t l
 | _::l=>false::Q4t l
def Q0m:List Bool→List V→List V
 | true::m,_::l=>.dead::Q0m m l
 | false::m,v::l=>v::Q0m m l
 | _,l=>l
def Q1k (n:Nat) (tm:List V):Nat→List B→List B
 | 0,h=>h
 | k+1,h=>if blos (n+k) tm&&Q0a (n+k) (h.take (n+k)) then Q1k n tm k (h.take (n+k)) else h
def trunc (n:Nat) (tm:List V) (h:List B):List B:=Q1k n tm (h.length-n) h
def norm (m:List Bool) (n:Nat) (st:St):St :=
 let tm:=Q0m m st.tm
 ⟨tm,trunc n tm st.h⟩
def Q1a:Nat→List V
 | 0=>[]
 | n+1=>.dead::Q1a n
def results (st:St):List RV→Option (List V)
 | []=>some []
 | r::l =>
  let v:Option V:=match r with
   | .tmp t=>some (tg st.tm t)
   | .cell a agg n=>match tg st.tm a with
    | .ref id g off=>match bget st.h id with
     | some (.blk c _)=>if c.length=g then Q10 agg n off c else none
     | _=>none
    | _=>none
  match v,results st l with
  | some v,some r=>some (v::r)
  | _,_=>none
def Q0s (st:St) (l:List RV):Option V :=
 match results st l with
 | none=>none
 | some [v]=>some v
 | some vs=>some (.tup vs)
def depth:Nat:=64
def Qaq:List V→List Nat→List V→Option (List V)
 | tm,[],[]=>some tm
 | tm,p::ps,v::vs=>Qaq (tset tm p v) ps vs
 | _,_,_=>none
def doFn (F:Nat→Option Fc) (md:Nat→Nat) (ro:Nat) (rn:Nat→MC→St→Option (X × St)) (f:Nat) (caps:List V) (args:List V) (h:List B):Option (V × List B) :=
  match F f with
  | none=>none
  | some fc =>
   let as:=args++caps
   if as.length=fc.np then
    match mode md (.fn f caps) args with
    | 0 =>
     match Q1o h depth as with
     | none=>none
     | some as' =>
      match rn 0 fc.body ⟨as'++Q1a (fc.ntm-fc.np),[]⟩ with
      | some (.nrm,st)|some (.ret,st)=>match Q0s st fc.res with
       | none=>none
       | some v=>match V.view st.h depth v with
        | none=>none
        | some v'=>if blos 0 as||v'.scalar||V.fresh st.h depth v then some (v',h) else none
      | _=>none
    | 1 =>
     match rn ro fc.body ⟨as++Q1a (fc.ntm-fc.np),h⟩ with
     | some (.nrm,st)|some (.ret,st)=>match Q0s st fc.res with
      | none=>none
      | some v=>some (v,trunc h.length [v] st.h)
     | _=>none
    | _ =>
     match rn (max ro h.length) fc.body ⟨as++Q1a (fc.ntm-fc.np),h⟩ with
     | some (.nrm,st)|some (.ret,st)=>match Q0s st fc.res with
      | none=>none
      | some v=>if v.blo h.length then some (v,h) else none
     | _=>none
   else none
def Q07 (F:Nat→Option Fc) (md:Nat→Nat) (ro:Nat) (rn:Nat→MC→St→Option (X × St)) (fv:V) (args:List V) (h:List B):Option (V × List B) :=
 match fv with
 | .fn f caps =>
  match F f with
  | none=>none
  | some fc =>
   let as:=args++caps
   if as.length=fc.np then
    match mode md (.fn f caps) args with
    | 0 =>
     match Q1o h depth as with
     | none=>none
     | some as' =>
      match rn 0 fc.body ⟨as'++Q1a (fc.ntm-fc.np),[]⟩ with
      | some (.nrm,st)|some (.ret,st)=>match Q0s st fc.res with
       | none=>none
       | some v=>match V.view st.h depth v with
        | none=>none
        | some v'=>if blos 0 as||v'.scalar||V.fresh st.h depth v then some (v',h) else none
      | _=>none
    | 1 =>
     match rn ro fc.body ⟨as++Q1a (fc.ntm-fc.np),h⟩ with
     | some (.nrm,st)|some (.ret,st)=>match Q0s st fc.res with
      | none=>none
      | some v=>some (v,trunc h.length [v] st.h)
     | _=>none
    | _ =>
     match rn (max ro h.length) fc.body ⟨as++Q1a (fc.ntm-fc.np),h⟩ with
     | some (.nrm,st)|some (.ret,st)=>match Q0s st fc.res with
      | none=>none
      | some v=>if v.blo h.length then some (v,h) else none
     | _=>none
   else none
 | .bf f v=>doFn F md ro rn f [] (v::args) h
 | .yld id =>
  match bget h id with
  | some (.lop true _ tm ps asg body) =>
   if ro≤id then
    match Qaq tm ps args with
    | none=>none
    | some tm' =>
     match rn ro asg ⟨tm',h⟩ with
     | some (.nrm,st) =>
      match bget st.h id with
      | some (.lop true _ _ _ _ _) =>
       match rn ro body ⟨st.tm,bset st.h id (.lop false .nrm tm ps asg body)⟩ with
       | some (x,st') =>
        some (.bool (match x with|.nrm=>true|_=>false),bset (trunc h.length [] st'.h) id (.lop (match x with|.nrm=>true|_=>false) x tm ps asg body))
       | none=>none
      | _=>none
     | _=>none
   else none
  | _=>none
 | _=>none
def isFn (v:V) (r:Option (V × List B)):Option (V × List B) :=
 match v with
 | .fn _ _=>r
 | _=>none
def Qcg:Bool→X→Option X
 | true,.nrm=>some .nrm
 | false,.exit i=>some (.exit i)
 | false,.ret=>some .ret
 | _,_=>none
def run (F:Nat→Option Fc) (md:Nat→Nat):Nat→Nat→MC→St→Option (X × St)
 | 0,_,_,_=>none
 | n+1,ro,c,st =>
  match c with
  | .skip=>some (.nrm,st)
  | .exit id=>some (.exit id,st)
  | .ret=>some (.ret,st)
  | .kn k f=>match F f with
   | none=>none
   | some fc=>match fc.kn with
    | none=>none
    | some g=>match g ro (st.tm.take k) st.h with
     | none=>none
     | some (v,h)=>some (.ret,⟨[v],h⟩)
  | .reg draw na ops =>
   let base:=st.h.length
   let h:=if na=0 then st.h else st.h++Q0r na
   match (if draw then Q1u md (Q07 F md ro (run F md n)) ro base 0 [] ops st.tm h else Q3f (Q07 F md ro (run F md n)) ro base ops st.tm h) with
   | none=>none
   | some (tm,h)=>some (.nrm,⟨tm,h⟩)
  | .seq a b=>match run F md n ro a st with
   | some (.nrm,st')=>run F md n ro b st'
   | r=>r
  | .cond x a b=>match x.ev st.tm with
   | .bool t=>if t then run F md n ro a st else run F md n ro b st
   | _=>none
  | .block id c=>match run F md n ro c st with
   | some (.exit i,st')=>if i=id then some (.nrm,st') else some (.exit i,st')
   | r=>r
  | .loop c=>run F md n ro (.lp (Q4t st.tm) st.h.length c) st
  | .lp m hl c=>match run F md n ro c st with
   | some (.nrm,st')=>run F md n ro (.lp m hl c) (norm m hl st')
   | r=>r
  | .rf x ps asg body =>
   let id:=st.h.length
   match isFn (x.ev st.tm) (Q07 F md ro (run F md n) (x.ev st.tm) [.yld id] (st.h++[.lop true .nrm st.tm ps asg body])) with
   | none=>none
   | some (_,h)=>match bget h id with
    | some (.lop r x _ _ _ _)=>match Qcg r x with
     | none=>none
     | some x=>some (x,⟨st.tm,bset h id (.lop false .nrm st.tm ps asg body)⟩)
    | _=>none
def Qj8 (F:Nat→Option Fc) (md:Nat→Nat) (n:Nat) (f:Nat) (args:List V):Option V :=
 match Q07 F md 0 (run F md n) (.fn f []) args [] with
 | some (v,_)=>some v
 | none=>none
end Go.Dr
namespace Go.Dr
mutual
def Qcm:Nat→Value→Option V
 | 0,_=>none
 | n+1,v=>match v with
  | .bool b=>some (.bool b)
  | .int k i=>some (.int k i)
  | .string s=>some (.str s.data.toList)
  | .pointer none=>some .nilp
  | .slice none 0 0=>some .nilsl
  | .map none=>some .nilmap
  | .nilFunc=>some .nilfn
  | .nilIface=>some .nilif
  | .agg cs=>(Q9v n cs.toList).map .agg
  | .iface t v=>(Qcm n v).map (.iface t)
  | .func (.func f) ⟨[]⟩ ⟨[]⟩=>some (.fn f [])
  | _=>none
def Q9v:Nat→List Value→Option (List V)
 | 0,_=>none
 | _+1,[]=>some []
 | n+1,v::l=>match Qcm n v with
  | none=>none
  | some x=>match Q9v n l with
   | none=>none
   | some r=>some (x::r)
end
def cO:Operand→Option O
 | .tmp n=>some (.t n)
 | .const v=>(Qcm 4096 v).map .c
 | .global _=>none
 | .func f=>some (.c (.fn f []))
def cOs:List Operand→Option (List O)
 | []=>some []
 | x::l=>match cO x with
  | none=>none
  | some y=>match cOs l with
   | none=>none
   | some r=>some (y::r)
def cOo:Option Operand→Option (Option O)
 | none=>some none
 | some x=>(cO x).map some
def Q6s (P:Program) (t:Nat):Option (List V) :=
 match P.info? t with
 | some i=>match i.zero with
  | some z=>match Qcm 4096 z with
   | some v=>if v.cells.length=i.size&&ones v.cells then some v.cells else none
   | none=>none
  | none=>none
 | none=>none
def Qjd (P:Program) (t:Nat):Option V :=
 match P.info? t with
 | some i=>match i.zero with
  | some z=>Qcm 4096 z
  | none=>none
 | none=>none
def szOf (P:Program) (t:Nat):Option Nat:=(P.info? t).map (·.size)
def byOf (P:Program) (t:Nat):Option Nat:=(P.info? t).map (·.bytes)
def Qnk (P:Program) (t:Nat):Bool:=((P.info? t).map (!·.hasPointers)).getD false
def Q2i (P:Program) (t:Nat):Option Bool:=(P.underlying t).map fun
 | .struct _|.array _ _=>true
 | _=>false
def Q8n (P:Program) (sz:Nat→Option (List Nat)):Nat→List Field→Option (List Nat)
 | _,[]=>some []
 | acc, f :: fs => if f.name ≠ "_" ∧ f.offset = acc then
   match sz f.type with
   | some s=>if szOf P f.type=some s.length then
     match Q8n P sz (acc+s.length) fs with
     | some r=>some (s++r)
     | none=>none
    else none
   | none=>none
  else none
def Q33 (P:Program):Nat→Nat→Option (List Nat)
 | 0,_=>none
 | n+1,t=>match P.underlying t with
  | some (.int _)=>some [0]
  | some .bool=>some [1]
  | some .string=>some [2]
  | some (.struct fs)=>if P.stoodInHeld t then none else Q8n P (Q33 P n) 0 fs.toList
  | _=>none
def Q92 (P:Program) (place:Nat→Option (Nat × Nat)):List (Nat × Operand)→Option (List (Nat × Nat × O))
 | []=>some []
 | (i,x)::l=>match place i,cO x with
  | some (off,n),some y=>match Q92 P place l with
   | none=>none
   | some r=>some ((off,n,y)::r)
  | _,_=>none
def Q7h (P:Program) (fs:Array Field) (i:Nat):Option (Nat × Nat) :=
 match fs[i]? with
 | none=>none
 | some f=>(szOf P f.type).map (f.offset, ·)
def Qbf (P:Program) (fs:Array Field):Bool:=fs.toList.all fun f=>(szOf P f.type).isSome
def eqOp:BinOp→Option Bool
 | .eql=>some false
 | .neq=>some true
 | _=>none
def isConst:Operand→Bool
 | .const _=>true
 | _=>false
def Q9o:TypeDesc→Bool
 | .slice _|.string=>true
 | _=>false
def cLen (P:Program):List O→List Nat→Option M
 | [x],t::_=>match P.underlying t with
  | some .string=>some (.len true x)
  | some (.slice _)=>some (.len false x)
  | some (.map _ _)=>some (.ml x)
  | _=>none
 | _,_=>none
def cApp (P:Program) (k:Nat):List O→List Nat→Option M
 | [x,y],t::u::_=>match P.underlying t,P.underlying u with
  | some (.slice e),some d=>if Q9o d then match szOf P e,byOf P e,Q6s P e with
    | some n,some by_,some _=>some (.app k n by_ (Qnk P e) x y)
    | _,_,_=>none
   else none
  | _,_=>none
 | _,_=>none
def cCpy (P:Program):List O→List Nat→Option M
 | [x,y],t::_=>match P.underlying t with
  | some (.slice e)=>(szOf P e).map fun n=>.cpy n x y
  | _=>none
 | _,_=>none
def Qpm (P:Program) (t:Nat):Option Nat :=
 match P.underlying t with
 | some (.int _)=>some 0
 | some .bool=>some 1
 | some .string=>some 2
 | some (.struct _)=>match Q33 P 16 t with
  | some ks=>if 3≤kdOf ks∧kdks (kdOf ks)=ks then some (kdOf ks) else none
  | none=>none
 | _=>none
def Q3v (P:Program) (k:Nat) (b:Builtin) (as:List O) (ts:List Nat):Option M :=
 match b with
 | .len=>cLen P as ts
 | .append=>cApp P k as ts
 | .copy=>cCpy P as ts
 | .delete=>match as,ts with
  | [x,y],t::_=>match P.underlying t with
   | some (.map kt _)=>(Qpm P kt).map fun kd=>.dl kd x y
   | _=>none
  | _,_=>none
 | .max=>some (.mm true as)
 | .min=>some (.mm false as)
 | _=>none
def Qpr:TypeDesc→Bool
 | .pointer _=>true
 | _=>false
def Qrj (P:Program) (name:String) (t:Nat):Option (Nat × Nat) :=
 match P.info? t,P.underlying t with
 | some i,some d=>match i.methods.find? (·.name==name) with
  | some m=>match m.func with
   | some (f,ptr)=>if m.path.toList.isEmpty&&(Qpr d==ptr) then some (t,f) else none
   | none=>none
  | none=>none
 | _,_=>none
def mTab (P:Program) (name:String):List (Nat × Nat):=(List.range P.types.size).filterMap (Qrj P name)
def cMap (P:Program) (t:Nat) (f:Nat→V→Option M):Option M :=
 match P.underlying t with
 | some (.map kt e)=>match Qpm P kt,Qjd P e with
  | some kd,some z=>f kd z
  | _,_=>none
 | _=>none
def Ql5:List V→Bool
 | []=>true
 | .nilp::_|.nilsl::_|.nilmap::_|.nilfn::_|.nilif::_=>false
 | _::l=>Ql5 l
def cOp (P:Program) (k:Nat) (op:Op):Option M :=
 match op with
 | .move x|.assign x=>(cO x).map .mv
 | .pick c a b=>match cO c,cO a,cO b with
  | some c,some a,some b=>some (.pk c a b)
  | _,_,_=>none
 | .alloc t=>(Q6s P t).map (.al k)
 | .box _ x=>(cO x).map (.bx k)
 | .build t ps=>match Q6s P t,P.underlying t with
  | some z,some (.struct fs)=>if Qbf P fs then (Q92 P (Q7h P fs) ps.toList).map (.bd z) else none
  | some z,some (.array _ e)=>match szOf P e with
   | some n=>(Q92 P (fun i=>some (i*n,n)) ps.toList).map (.bd z)
   | none=>none
  | _,_=>none
 | .buildSlice t len ps=>match P.underlying t with
  | some (.slice e)=>match szOf P e,Q6s P e with
   | some n,some z=>if len*n≤65536 then (Q92 P (fun i=>some (i*n,n)) ps.toList).map (if Ql5 z then .bs len z else .bl k n len z) else none
   | _,_=>none
  | _=>none
 | .load t x=>match Q2i P t,szOf P t,cO x with
  | some a,some n,some x=>if a||n=1 then some (.ld a n x) else none
  | _,_,_=>none
 | .store t a x=>match szOf P t,cO a,cO x with
  | some n,some a,some x=>some (.st n a x)
  | _,_,_=>none
 | .nilCheck x=>(cO x).map .nc
 | .binOp op t x y _=>match cO x,cO y with
  | some x',some y'=>match eqOp op with
   | some neg=>match P.underlying t with
    | some (.int _)|some .string=>some (.bo op x' y')
    | some .bool=>some (.eqv neg 1 x' y')
    | some (.slice _)=>some (.eqv neg 3 x' y')
    | some (.pointer _)=>some (.eqv neg 4 x' y')
    | some (.func _ _ _)=>some (.eqv neg 6 x' y')
    | some (.interface _)=>if isConst x||isConst y then some (.eqv neg 7 x' y') else none
    | some (.struct _)=>match Q33 P 16 t with
     | some n=>if P.eqGuardType P.depth t then none else some (.eqs neg n x' y')
     | none=>none
    | _=>none
   | none=>some (.bo op x' y')
  | _,_=>none
 | .unOp op _ x=>(cO x).map (.un op)
 | .convert s d x=>match cO x with
  | none=>none
  | some y=>match P.underlying s,P.underlying d with
   | some (.int _),some (.int k)=>some (.ci k y)
   | some .string,some .string=>some (.cs y)
   | some (.slice e),some .string=>match P.underlying e with
    | some (.int .u8)=>some (.bts y)
    | _=>none
   | some .string,some (.slice e)=>match P.underlying e with
    | some (.int .u8)=>some (.stb y)
    | _=>none
   | _,_=>none
 | .makeInterface t x=>match P.underlying t with
  | some (.interface _)=>none
  | some _=>(cO x).map (.mi t)
  | none=>none
 | .makeFunc (.func f) ⟨[]⟩ caps=>(cOs caps.toList).map (.mf f)
 | .makeFunc (.func f) ⟨[x]⟩ ⟨[]⟩=>(cO x).map (.mb f)
 | .makeSlice t l c=>match P.underlying t with
  | some (.slice e)=>match szOf P e,byOf P e,Q6s P e,cO l,cO c with
   | some n,some by_,some z,some l,some c=>some (.mk k n by_ (Qnk P e) z l c)
   | _,_,_,_,_=>none
  | _=>none
 | .slice t x lo hi mx=>if mx.isSome&&hi.isNone then none else match cO x,cOo lo,cOo hi,cOo mx with
  | some x,some lo,some hi,some mx=>match P.underlying t with
   | some (.slice e)=>(szOf P e).map fun n=>.ss n x lo hi mx
   | some .string=>if mx.isNone then some (.sst x lo hi) else none
   | some (.array m e)=>(szOf P e).map fun n=>.sa n m x lo hi mx
   | _=>none
  | _,_,_,_=>none
 | .fieldAddr s x f=>match P.underlying s,cO x with
  | some (.struct fs),some x=>match fs[f]? with
   | some fd=>match szOf P fd.type with
    | some (_+1)=>some (.fa fd.offset x)
    | _=>none
   | none=>none
  | _,_=>none
 | .field s x f=>match P.underlying s,cO x with
  | some (.struct fs),some x=>match fs[f]? with
   | some fd=>match Q2i P fd.type,szOf P fd.type with
    | some a,some n=>if a||n=1 then some (.fd fd.offset a n x) else none
    | _,_=>none
   | none=>none
  | _,_=>none
 | .indexAddr t x i=>match cO x,cO i with
  | some x,some i=>match P.underlying t with
   | some (.slice e)=>(szOf P e).map fun n=>.ia n x i
   | some (.array m e)=>(szOf P e).map fun n=>.iaa n m x i
   | _=>none
  | _,_=>none
 | .index t x i=>match cO x,cO i with
  | some x,some i=>match P.underlying t with
   | some .string=>some (.ixs x i)
   | some (.array m e)=>match Q2i P e,szOf P e with
    | some a,some n=>if a||n=1 then some (.ixa n m a x i) else none
    | _,_=>none
   | _=>none
  | _,_=>none
 | .typeAssert x _ t ok=>match cO x,Qjd P t with
  | some x,some z=>match P.underlying t with
   | some (.interface _)|none=>none
   | _=>some (.ta t ok z x)
  | _,_=>none
 | .extract x i=>(cO x).map fun x=>.ex x i
 | .makeMap t none=>match P.underlying t with
  | some (.map _ e)=>match P.underlying e with
   | some .bool=>some (.nq k)
   | _=>some (.nm k)
  | _=>none
 | .range t x=>match P.underlying t with
  | some (.map _ _)=>(cO x).map (.rg k)
  | _=>none
 | .next x false=>(cO x).map .nx
 | .entry x=>(cO x).map .en
 | .lookup t x i ok=>match cO x,cO i with
  | some x,some i=>cMap P t fun kd z=>some (.lu kd ok z x i)
  | _,_=>none
 | .mapUpdate t x i y|.insert t x i y=>match cO x,cO i,cO y with
  | some x,some i,some y=>cMap P t fun kd _=>some (.mu kd x i y)
  | _,_,_=>none
 | .mapEntry t x i=>match cO x,cO i with
  | some x,some i=>cMap P t fun kd z=>some (.me kd z x i)
  | _,_=>none
 | .entryStore _ x i y=>match cO x,cO i,cO y with
  | some x,some i,some y=>some (.ez x i y)
  | _,_,_=>none
 | .panic _=>some .pn
 | .call ⟨.value f,args,_⟩=>match cO f,cOs args.toList with
  | some f,some as=>some (.call f as)
  | _,_=>none
 | .call ⟨.invoke (.tmp n) name,args,_⟩=>match cOs args.toList with
  | some as=>some (.call (.mt (mTab P name) n) (.rv (mTab P name) n::as))
  | none=>none
 | .call ⟨.builtin b,args,ts⟩=>match cOs args.toList with
  | none=>none
  | some as=>Q3v P k b as ts.toList
 | _=>none
def takes:M→Nat
 | .al _ _|.bx _ _|.mk .. | .app .. | .nm _|.nq _|.rg .. | .bl .. => 1
 | _=>0
def oSlots:List O→List Nat
 | []=>[]
 | .t n::l=>n::oSlots l
 | .c _::l=>oSlots l
 | .mt _ n::l=>n::oSlots l
 | .rv _ n::l=>n::oSlots l
def M.ops:M→List O
 | .mv x|.bx _ x|.ld _ _ x|.nc x|.un _ x|.ci _ x|.cs x|.bts x|.stb x|.mi _ x|.mb _ x|.fa _ x|.fd _ _ _ x|.ta _ _ _ x|.ex x _|.len _ x=>[x]
 | .pk a b c=>[a,b,c]
 | .al _ _|.pn|.nm _|.nq _=>[]
 | .rg _ x|.nx x|.en x=>[x]
 | .dl _ x y=>[x,y]
 | .mu _ x y z|.ez x y z=>[x,y,z]
 | .lu _ _ _ x y|.me _ _ x y=>[x,y]
 | .ml x=>[x]
 | .bd _ ps|.bs _ _ ps|.bl _ _ _ _ ps=>ps.map (·.2.2)
 | .st _ a x|.bo _ a x|.eqv _ _ a x|.eqs _ _ a x|.mk _ _ _ _ _ a x|.ia _ a x|.iaa _ _ a x|.ixs a x|.ixa _ _ _ a x|.app _ _ _ _ a x|.cpy _ a x=>[a,x]
 | .mf _ xs|.mm _ xs=>xs
 | .ss _ x lo hi mx|.sa _ _ x lo hi mx=>x::(lo.toList++hi.toList++mx.toList)
 | .sst x lo hi=>x::(lo.toList++hi.toList)
 | .call f xs=>f::xs
def G.reads (r:G):List Nat:=(match r.g with|some (s,_)=>[s]|none=>[])++oSlots r.o.ops
def G.names (r:G):List Nat:=r.d.toList++r.reads
def apart (a b:G):Bool :=
 (match a.d with|some d => !b.names.contains d|none=>true)&&(match b.d with|some d => !a.names.contains d|none=>true)
def Qam (r:G):Nat→List G→Bool
 | _,[]=>true
 | i,a::l=>(r.b.testBit i||apart a r)&&Qam r (i+1) l
def Q9m:List G→List G→Bool
 | _,[]=>true
 | seen,r::l=>Qam r 0 seen&&Q9m (seen++[r]) l
def Q4l (acc:List Nat):List Edge→Nat
 | []=>0
 | e::l=>if Region.binds .any e then Q4l acc l ||| 2 ^ e.on ||| acc.getD e.on 0 else Q4l acc l
def Qfd (i:Nat) (es:List Edge):Bool:=es.all fun e => !Region.binds .any e||decide (e.on<i)
def pass (m:Region.Mode):Nat→List Oper→List Nat→List Nat
 | _,[],done=>done
 | i,o::l,done=>pass m (i+1) l (if !done.contains i&&o.after.toList.all (fun e => !Region.binds m e||done.contains e.on) then done++[i] else done)
def topo (m:Region.Mode) (ops:List Oper):Nat→List Nat→List Nat
 | 0,done=>done
 | k+1,done=>let d:=pass m 0 ops done;if d.length=done.length then d else topo m ops k d
def Ql0 (m:Region.Mode) (n:Nat) (ord:List Nat) (i:Nat) (o:Oper):Bool:=o.after.toList.all fun e => !Region.binds m e||(decide (e.on<n)&&decide (ord.idxOf e.on<ord.idxOf i))
def Q77 (m:Region.Mode) (n:Nat) (ord:List Nat):Nat→List Oper→Bool
 | _,[]=>true
 | i,o::l=>Ql0 m n ord i o&&Q77 m n ord (i+1) l
def Qgp (ops:Array Oper) (m:Region.Mode):Bool:=Q77 m ops.size (topo m ops.toList (ops.size+1) []) 0 ops.toList
def Q7x (ops:Array Oper):Bool:=Qgp ops .text&&Qgp ops .gc&&Qgp ops .any
def Qfn (P:Program) (all:Array Oper):Nat→Nat→List Nat→List Oper→Option (Nat × List G)
 | _,k,_,[]=>some (k,[])
 | i,k,acc,o::l =>
  if Qfd i o.after.toList then
   match cOp P k o.op with
   | none=>none
   | some m =>
    let b:=Q4l acc o.after.toList
    let g:Option (Option (Nat × Bool)):=match o.guard with
     | none=>some none
     | some (j,want)=>match all[j]? with
      | some oj=>match oj.dst with
       | some s=>if j<i&&b.testBit j then some (some (s,want)) else none
       | none=>none
      | none=>none
    match g with
    | none=>none
    | some g=>match Qfn P all (i+1) (k+takes m) (acc++[b]) l with
     | none=>none
     | some (n,r)=>some (n,⟨o.dst,g,b,m⟩::r)
  else none
def Q14 (P:Program):Code→Option MC
 | .skip=>some .skip
 | .region _ ops draw=>match Qfn P ops 0 0 [] ops.toList with
  | some (n,l)=>if !draw||(Q9m [] l&&Q7x ops) then some (.reg draw n l) else none
  | none=>none
 | .seq a b=>match Q14 P a,Q14 P b with
  | some a,some b=>some (.seq a b)
  | _,_=>none
 | .cond c a b=>match cO c,Q14 P a,Q14 P b with
  | some c,some a,some b=>some (.cond c a b)
  | _,_,_=>none
 | .block id c=>(Q14 P c).map (.block id)
 | .loop c=>(Q14 P c).map .loop
 | .rangeFunc f ps asg body=>match cO f,Q14 P asg,Q14 P body with
  | some f,some asg,some body=>some (.rf f ps.toList asg body)
  | _,_,_=>none
 | .exit id=>some (.exit id)
 | .scope c=>Q14 P c
 | .label _=>some .skip
 | .goto _=>none
 | .ret=>some .ret
 | .refuse _=>none
def cRes (P:Program):List ResultVar→Option (List RV)
 | []=>some []
 | .tmp t::l=>(cRes P l).map (.tmp t :: ·)
 | .cell a t::l=>match Q2i P t,szOf P t,cRes P l with
  | some g,some n,some r=>if g||n=1 then some (.cell a g n::r) else none
  | _,_,_=>none
def Q9f (P:Program) (fn:Func):Option Fc :=
 match fn.body with
 | none=>none
 | some c=>match Q14 P c,cRes P fn.results.toList with
  | some c,some r=>some { ntm:=fn.ntmps,np:=fn.params.size+fn.nfree,res:=r,body:=c,kn:=none }
  | _,_=>none
end Go.Dr
namespace Go.Dr
open Go.RowKit (Below)
structure K where
 n0:Nat
 A:Nat→Prop
 h:List B
 β:Nat→Nat × Nat
 w:World
def live (h:List B) (id:Nat):Prop:=∃ b,bget h id=some b∧b≠.unborn
def K.own (k:K) (b:Nat):Prop:=∃ id,live k.h id∧(k.β id).1=b
def K.ok (k:K) (b:Nat):Prop:=(b<k.n0∧k.A b)∨(k.n0≤b∧¬ k.own b)
def cellsAt (w:World) (b:Nat):Nat→List Value→Prop
 | _,[]=>True
 | off,v::l=>w.cell? ⟨b,off,none⟩=some v∧cellsAt w b (off+1) l
def Q12 (w:World) (b:Nat):Option Nat :=
 match w.heap[b]? with
 | some (.cells cs _ _)=>some cs.size
 | _=>none
def mapAt (w:World) (b:Nat) (kv vv:List Value):Prop:=∃ es:Array MapEntry,w.heap[b]?=some (.map es es.size)∧(∀ i (h:i<es.size),es[i].born=i)∧es.toList.map (·.key)=kv∧es.toList.map (·.val)=vv
theorem mapAt.same {w w':World} {b:Nat} {kv vv:List Value} (e:w'.heap[b]?=w.heap[b]?) (h:mapAt w b kv vv):mapAt w' b kv vv:=by
 obtain ⟨es,h1,h2⟩:=h
 exact ⟨es,e.trans h1,h2⟩
def V.pure (cells:List V):Prop:=ones cells=true∧blos 0 cells=true
def okv (k:K) (b:Nat) (vs:List Value):Prop:=vs=[]∨(k.ok b∧b<k.w.heap.size)
theorem okv.sub {k:K} {b:Nat} {vs ys:List Value} (h:okv k b vs) (hs:vs=[]→ys=[]):okv k b ys:=h.imp hs id
theorem okv.mk {k:K} {b:Nat} {vs:List Value} (h:k.ok b) (hl:b<k.w.heap.size):okv k b vs:=.inr ⟨h,hl⟩
mutual
def R (k:K):V→Value→Prop
 | .bool b,x=>x=.bool b
 | .int kk n,x=>x=.int kk n
 | .str s,x=>x=.string ⟨s.toArray⟩
 | .nilp,x=>x=.pointer none
 | .nilsl,x=>x=.slice none 0 0
 | .esl,x=>∃ a cap,x=.slice (some a) 0 cap∧(cap=0∨a.spot=none)
 | .nilmap,x=>x=.map none
 | .nilfn,x=>x=.nilFunc
 | .nilif,x=>x=.nilIface
 | .sl clip len cells,x=>(∃ a,x=.slice a 0 0∧len=0∧cells=[])∨∃ b off cap vs,x=.slice (some ⟨b,off,none⟩) len cap∧okv k b vs∧cellsAt k.w b off vs∧RL k cells vs∧V.pure cells∧len≤cap∧(clip=true→cap=len)
 | .rp cells off,x=>∃ b o vs,x=.pointer (some ⟨b,o+off,none⟩)∧okv k b vs∧cellsAt k.w b o vs∧RL k cells vs∧V.pure cells
 | .agg cells,x=>∃ vs,x=.agg ⟨vs⟩∧RL k cells vs
 | .tup cells,x=>∃ vs,x=.tuple ⟨vs⟩∧RL k cells vs
 | .iface t v,x=>∃ y,x=.iface t y∧R k v y
 | .bf f v,x=>∃ y,x=.func (.func f) #[y] #[]∧R k v y
 | .rm ks vs,x=>∃ b kv vv,x=.map (some b)∧k.ok b∧b<k.w.heap.size∧mapAt k.w b kv vv∧RL k ks kv∧RL k vs vv∧blos 0 ks=true∧blos 0 vs=true
 | .fn f caps,x=>∃ vs,x=.func (.func f) #[] ⟨vs⟩∧RL k caps vs
 | .ref id g off,x=>∃ b o c dat,x=.pointer (some ⟨b,o,none⟩)∧bget k.h id=some (.blk c dat)∧g≤c.length∧(g=c.length→(k.β id).1=b∧off=o+(k.β id).2)
 | .ms es id g off len clip,x=>∃ b o cap c dat,x=.slice (some ⟨b,o,none⟩) len cap∧bget k.h id=some (.blk c dat)∧g≤c.length∧len≤cap∧(clip=true→cap=len) ∧
   (g=c.length→off+len*es≤g∧(k.β id).1=b∧(cap≠0→(k.β id).1=b∧off=o+(k.β id).2∧(clip=false→0<es→off+len*es=g→Q12 k.w b=some (o+cap*es))))
 | .yld id,x=>x=.func (.yield (k.β id).1) #[] #[]∧∃ r p tm ps a b,bget k.h id=some (.lop r p tm ps a b)
 | .dead,_=>True
 | .mr id,x=>x=.map (some (k.β id).1)∧∃ b,bget k.h id=some b∧b.isMap=true
 | .itr id m,x=>x=.pointer (some ⟨(k.β id).1,0,none⟩)∧∃ s t l,bget k.h id=some (.it m s t l)
 | .irr id,x=>x=.pointer (some ⟨(k.β id).1,0,none⟩)∧∃ ks vs l,bget k.h id=some (.ir ks vs l)
def RL (k:K):List V→List Value→Prop
 | [],xs=>xs=[]
 | v::l,xs=>∃ x r,xs=x::r∧R k v x∧RL k l r
end
theorem RL.len {k:K}:∀ {l:List V} {xs:List Value},RL k l xs→xs.length=l.length
 | [],_,h=>by simp [RL] at h;simp [h]
 | v::l,xs,h=>by obtain ⟨x,r,rfl,_,hr⟩:=(by simpa [RL] using h:∃ x r,xs=x::r∧R k v x∧RL k l r);simp [RL.len hr]
theorem RL.nil {k:K}:RL k [] []:=by simp [RL]
theorem RL.cons {k:K} {v x l xs} (h:R k v x) (hl:RL k l xs):RL k (v::l) (x::xs):=by simp only [RL];exact ⟨x,xs,rfl,h,hl⟩
theorem RL.cons_iff {k:K} {v x l xs}:RL k (v::l) (x::xs)↔R k v x∧RL k l xs:=by
 simp only [RL]
 constructor
 ·rintro ⟨_,_,he,h1,h2⟩;cases he;exact ⟨h1,h2⟩
 ·rintro ⟨h1,h2⟩;exact ⟨_,_,rfl,h1,h2⟩
theorem RL.append {k:K}:∀ {l m:List V} {xs ys:List Value},RL k l xs→RL k m ys→RL k (l++m) (xs++ys)
 | [],_,xs,_,h,h'=>by simp [RL] at h;subst h;simpa using h'
 | v::l,m,xs,ys,h,h'=>by
  obtain ⟨x,r,rfl,hx,hr⟩:=(by simpa [RL] using h:∃ x r,xs=x::r∧R k v x∧RL k l r)
  exact RL.cons hx (RL.append hr h')
theorem RL.split {k:K}:∀ {l m:List V} {zs:List Value},RL k (l++m) zs→∃ xs ys,zs=xs++ys∧RL k l xs∧RL k m ys
 | [],m,zs,h=>⟨[],zs,rfl,RL.nil,h⟩
 | v::l,m,zs,h=>by
  obtain ⟨x,r,rfl,hx,hr⟩:=(by simpa [RL] using h:∃ x r,zs=x::r∧R k v x∧RL k (l++m) r)
  obtain ⟨xs,ys,rfl,h1,h2⟩:=RL.split hr
  exact ⟨x::xs,ys,rfl,RL.cons hx h1,h2⟩
theorem RL.get {k:K}:∀ {l:List V} {xs:List Value} (n:Nat),RL k l xs→R k (tg l n) (xs.getD n undef)
 | [],xs,n,h=>by simp [tg,R]
 | v::l,xs,0,h=>by
  obtain ⟨x,r,rfl,hx,hr⟩:=(by simpa [RL] using h:∃ x r,xs=x::r∧R k v x∧RL k l r)
  simpa [tg] using hx
 | v::l,xs,n+1,h=>by
  obtain ⟨x,r,rfl,hx,hr⟩:=(by simpa [RL] using h:∃ x r,xs=x::r∧R k v x∧RL k l r)
  simpa [tg] using RL.get n hr
theorem RL.set {k:K} {v:V} {x:Value} (hv:R k v x):∀ {l:List V} {xs:List Value} (n:Nat),RL k l xs→RL k (tset l n v) (xs.set n x)
 | [],xs,n,h=>by simp [RL] at h;simp [tset,h,RL]
 | v'::l,xs,0,h=>by
  obtain ⟨x',r,rfl,hx,hr⟩:=(by simpa [RL] using h:∃ x r,xs=x::r∧R k v' x∧RL k l r)
  exact RL.cons hv hr
 | v'::l,xs,n+1,h=>by
  obtain ⟨x',r,rfl,hx,hr⟩:=(by simpa [RL] using h:∃ x r,xs=x::r∧R k v' x∧RL k l r)
  exact RL.cons hx (RL.set hv n hr)
theorem Q3m (n:Nat) (l:List V):Q5a n l=l.take n:=by
 induction n generalizing l with
 | zero=>simp [Q5a]
 | succ n ih=>cases l<;>simp [Q5a,ih]
theorem Q2r (n:Nat) (l:List V):Q6j n l=l.drop n:=by
 induction n generalizing l with
 | zero=>simp [Q6j]
 | succ n ih=>cases l<;>simp [Q6j,ih]
theorem Q0v {cs:List V} {off n:Nat} {r:List V} (h:part cs off n=some r):r=(cs.drop off).take n∧r.length=n:=by
 unfold part at h;simp only [Q3m,Q2r] at h
 split at h
 ·rename_i h';cases h;exact ⟨rfl,h'⟩
 ·cases h
theorem Qla {cs:List V} {off n:Nat} (h:off+n≤cs.length):part cs off n=some ((cs.drop off).take n):=by
 unfold part;simp only [Q3m,Q2r];rw [if_pos (by simp;omega)]
theorem Q43:∀ (cs:List V) (n:Nat) (l:List V),n+l.length≤cs.length→over cs n l=cs.take n++l++cs.drop (n+l.length)
 | [],0,[],_=>by simp [over]
 | [],0,v::l,h=>by simp at h
 | [],n+1,l,h=>by simp at h
 | c::cs,0,[],_=>by simp [over]
 | c::cs,0,v::l,h=>by
  have:=Q43 cs 0 l (by simp at h ⊢;omega)
  simp [over,this]
 | c::cs,n+1,l,h=>by
  have:=Q43 cs n l (by simp at h;omega)
  simp only [over,this,List.take_succ_cons,List.cons_append]
  rw [show n+1+l.length=(n+l.length)+1 by omega];simp
theorem Qb0 (cs:List V) (n:Nat) (l:List V) (h:n+l.length≤cs.length):(over cs n l).length=cs.length:=by
 rw [Q43 _ _ _ h];simp;omega
theorem RL.take {k:K}:∀ {l:List V} {xs:List Value} (n:Nat),RL k l xs→RL k (l.take n) (xs.take n)
 | [],xs,n,h=>by simp [RL] at h;simp [h,RL]
 | v::l,xs,0,h=>by simp [RL]
 | v::l,xs,n+1,h=>by
  obtain ⟨x',r,rfl,hx,hr⟩:=(by simpa [RL] using h:∃ x r,xs=x::r∧R k v x∧RL k l r)
  exact RL.cons hx (RL.take n hr)
theorem RL.drop {k:K}:∀ {l:List V} {xs:List Value} (n:Nat),RL k l xs→RL k (l.drop n) (xs.drop n)
 | [],xs,n,h=>by simp [RL] at h;simp [h,RL]
 | v::l,xs,0,h=>by simpa using h
 | v::l,xs,n+1,h=>by
  obtain ⟨x',r,rfl,hx,hr⟩:=(by simpa [RL] using h:∃ x r,xs=x::r∧R k v x∧RL k l r)
  simpa using RL.drop n hr
theorem Q1t (h:List B) (n:Nat):bget h n=h[n]?:=by
 induction h generalizing n with
 | nil=>simp [bget]
 | cons b l ih=>cases n<;>simp [bget,ih]
theorem Q1m (h:List B) (n:Nat) (b:B):bset h n b=h.set n b:=by
 induction h generalizing n with
 | nil=>simp [bset]
 | cons x l ih=>cases n<;>simp [bset,ih]
theorem Q05 {h:List B} {n:Nat} {b:B} (e:bget h n=some b):n<h.length:=by
 rw [Q1t] at e;exact (jB.1 e).1
theorem Q03 (h:List B) (n:Nat) (b:B):(bset h n b).length=h.length:=by rw [Q1m];simp
theorem Q0g (h:List B) (n m:Nat) (b:B):bget (bset h n b) m=if n=m∧n<h.length then some b else bget h m:=by
 rw [Q1t,Q1t,Q1m,List.getElem?_set]
 by_cases e:n=m
 ·subst e
  by_cases hl:n<h.length
  ·simp [hl]
  ·simp [hl]
 ·simp [e]
theorem R.one {k:K} {v:V} {x:Value} (h:R k v x) (hv:v.one=true):x.oneCell'=true:=by
 cases v<;>simp only [R] at h<;>try (first|(subst h;rfl)|(simp [V.one] at hv;done))
 ·rcases h with ⟨a,rfl,_⟩|⟨b,off,cap,vs,rfl,_⟩<;>rfl
 ·obtain ⟨b,off,vs,rfl,_⟩:=h;rfl
 ·obtain ⟨y,rfl,_⟩:=h;rfl
 ·obtain ⟨y,rfl,_⟩:=h;rfl
 ·obtain ⟨b,o,c,dat,rfl,_⟩:=h;rfl
 ·obtain ⟨b,o,cap,c,dat,rfl,_⟩:=h;rfl
 ·obtain ⟨rfl,_⟩:=h;rfl
 ·obtain ⟨rfl,_⟩:=h;rfl
 ·obtain ⟨a,cap,rfl,_⟩:=h;rfl
 ·obtain ⟨rfl,_⟩:=h;rfl
 ·obtain ⟨y,rfl,_⟩:=h;rfl
 ·obtain ⟨b,kv,vv,rfl,_⟩:=h;rfl
 ·obtain ⟨rfl,_⟩:=h;rfl
theorem Qp9 {cells:List V} (h:ones cells=true) {v:V} (hv:v∈cells):v.one=true:=by
 induction cells with
 | nil=>simp at hv
 | cons c l ih =>
  simp only [ones,jF] at h
  rcases List.mem_cons.1 hv with rfl|hv
  ·exact h.1
  ·exact ih h.2 hv
theorem ones_append (a b:List V):ones (a++b)=(ones a&&ones b):=by
 induction a with
 | nil=>simp [ones]
 | cons c l ih=>simp [ones,ih,Bool.and_assoc]
theorem Qb2 {a:List V} (h:ones a=true):∀ {b:List V},(∀ v∈b,v∈a)→ones b=true
 | [],_=>rfl
 | v::b,hb=>by
  simp only [ones,jF]
  exact ⟨Qp9 h (hb v (by simp)),Qb2 h fun x hx=>hb x (by simp [hx])⟩
theorem ones_take {a:List V} (h:ones a=true) (n:Nat):ones (a.take n)=true:=Qb2 h fun _ hv=>List.mem_of_mem_take hv
theorem ones_drop {a:List V} (h:ones a=true) (n:Nat):ones (a.drop n)=true:=Qb2 h fun _ hv=>List.mem_of_mem_drop hv
theorem Q3w (n:Nat) (a b:List V):blos n (a++b)=(blos n a&&blos n b):=by
 induction a with
 | nil=>simp [blos]
 | cons c l ih=>simp [blos,ih,Bool.and_assoc]
theorem Qqv {n:Nat} {cells:List V} (h:blos n cells=true) {v:V} (hv:v∈cells):v.blo n=true:=by
 induction cells with
 | nil=>simp at hv
 | cons c l ih =>
  simp only [blos,jF] at h
  rcases List.mem_cons.1 hv with rfl|hv
  ·exact h.1
  ·exact ih h.2 hv
theorem Qbu {n:Nat} {a:List V} (h:blos n a=true):∀ {b:List V},(∀ v∈b,v∈a)→blos n b=true
 | [],_=>rfl
 | v::b,hb=>by
  simp only [blos,jF]
  exact ⟨Qqv h (hb v (by simp)),Qbu h fun x hx=>hb x (by simp [hx])⟩
theorem Qdm {n:Nat} {a:List V} (h:blos n a=true) (m:Nat):blos n (a.take m)=true:=Qbu h fun _ hv=>List.mem_of_mem_take hv
theorem Q98 {n:Nat} {a:List V} (h:blos n a=true) (m:Nat):blos n (a.drop m)=true:=Qbu h fun _ hv=>List.mem_of_mem_drop hv
mutual
theorem Qbv {n m:Nat} (hnm:n≤m):∀ (v:V),v.blo n=true→v.blo m=true
 | .agg cs,h=>by simp only [V.blo] at *;exact Q0o hnm cs h
 | .tup cs,h=>by simp only [V.blo] at *;exact Q0o hnm cs h
 | .iface _ v,h=>by simp only [V.blo] at *;exact Qbv hnm v h
 | .bf _ v,h=>by simp only [V.blo] at *;exact Qbv hnm v h
 | .fn _ cs,h=>by simp only [V.blo] at *;exact Q0o hnm cs h
 | .ref id _ _,h=>by simp only [V.blo,jG] at *;omega
 | .ms _ id _ _ _ _,h=>by simp only [V.blo,jG] at *;omega
 | .yld id,h=>by simp only [V.blo,jG] at *;omega
 | .mr id,h=>by simp only [V.blo,jG] at *;omega
 | .itr id _,h=>by simp only [V.blo,jG] at *;omega
 | .irr id,h=>by simp only [V.blo,jG] at *;omega
 | .bool _,_|.int _ _,_|.str _,_|.nilp,_|.nilsl,_|.esl,_|.nilmap,_|.nilfn,_|.nilif,_|.sl _ _ _,_|.rp _ _,_|.rm _ _,_|.dead,_=>by simp [V.blo]
theorem Q0o {n m:Nat} (hnm:n≤m):∀ (l:List V),blos n l=true→blos m l=true
 | [],_=>rfl
 | v::l,h=>by simp only [blos,jF] at *;exact ⟨Qbv hnm v h.1,Q0o hnm l h.2⟩
end
mutual
theorem R.blo {k:K}:∀ {v:V} {x:Value},R k v x→v.blo k.h.length=true
 | .agg cs,x,h=>by simp only [R] at h;obtain ⟨vs,_,hl⟩:=h;simp only [V.blo];exact RL.blos hl
 | .tup cs,x,h=>by simp only [R] at h;obtain ⟨vs,_,hl⟩:=h;simp only [V.blo];exact RL.blos hl
 | .iface _ v,x,h=>by simp only [R] at h;obtain ⟨y,_,hy⟩:=h;simp only [V.blo];exact R.blo hy
 | .bf _ v,x,h=>by simp only [R] at h;obtain ⟨y,_,hy⟩:=h;simp only [V.blo];exact R.blo hy
 | .fn _ cs,x,h=>by simp only [R] at h;obtain ⟨vs,_,hl⟩:=h;simp only [V.blo];exact RL.blos hl
 | .ref id _ _,x,h=>by simp only [R] at h;obtain ⟨b,o,c,dat,_,hb,_⟩:=h;simpa [V.blo] using Q05 hb
 | .ms _ id _ _ _ _,x,h=>by simp only [R] at h;obtain ⟨b,o,cap,c,dat,_,hb,_⟩:=h;simpa [V.blo] using Q05 hb
 | .yld id,x,h=>by simp only [R] at h;obtain ⟨_,r,p,tm,ps,a,b,hb⟩:=h;simpa [V.blo] using Q05 hb
 | .mr id,x,h=>by simp only [R] at h;obtain ⟨_,b,hb,_⟩:=h;simpa [V.blo] using Q05 hb
 | .itr id _,x,h=>by simp only [R] at h;obtain ⟨_,_,_,_,hb⟩:=h;simpa [V.blo] using Q05 hb
 | .irr id,x,h=>by simp only [R] at h;obtain ⟨_,_,_,_,hb⟩:=h;simpa [V.blo] using Q05 hb
 | .bool _,_,_|.int _ _,_,_|.str _,_,_|.nilp,_,_|.nilsl,_,_|.esl,_,_|.nilmap,_,_|.nilfn,_,_|.nilif,_,_|.sl _ _ _,_,_|.rm _ _,_,_|.rp _ _,_,_|.dead,_,_=>by simp [V.blo]
theorem RL.blos {k:K}:∀ {l:List V} {xs:List Value},RL k l xs→Dr.blos k.h.length l=true
 | [],_,_=>rfl
 | v::l,xs,h=>by
  obtain ⟨x,r,rfl,hx,hr⟩:=(by simpa [RL] using h:∃ x r,xs=x::r∧R k v x∧RL k l r)
  simp only [Dr.blos,jF];exact ⟨R.blo hx,RL.blos hr⟩
end
def B.kin:B→B→Prop
 | .mp _ _,.mp _ _=>True
 | .mq _ _ _ _,.mq _ _ _ _=>True
 | .it m s _ _,.it m' s' _ _=>m=m'∧s=s'
 | .ir ks vs _,.ir ks' vs' _=>ks=ks'∧vs=vs'
 | _,_=>False
theorem B.kin.refl:∀ {b:B},b.odd=true→b.kin b
 | .mp _ _,_=>trivial
 | .mq _ _ _ _,_=>trivial
 | .it _ _ _ _,_=>⟨rfl,rfl⟩
 | .ir _ _ _,_=>⟨rfl,rfl⟩
theorem B.kin.odd:∀ {b c:B},b.kin c→c.odd=true
 | .mp _ _,.mp _ _,_|.mq _ _ _ _,.mq _ _ _ _,_|.it _ _ _ _,.it _ _ _ _,_|.ir _ _ _,.ir _ _ _,_=>rfl
theorem B.kin.map:∀ {b c:B},b.kin c→b.isMap=true→c.isMap=true
 | .mp _ _,.mp _ _,_,_|.mq _ _ _ _,.mq _ _ _ _,_,_=>rfl
theorem B.kin.trans:∀ {a b c:B},a.kin b→b.kin c→a.kin c
 | .mp _ _,.mp _ _,.mp _ _,_,_=>trivial
 | .mq _ _ _ _,.mq _ _ _ _,.mq _ _ _ _,_,_=>trivial
 | .it _ _ _ _,.it _ _ _ _,.it _ _ _ _,⟨h1,h2⟩,⟨h3,h4⟩=>⟨h1.trans h3,h2.trans h4⟩
 | .ir _ _ _,.ir _ _ _,.ir _ _ _,⟨h1,h2⟩,⟨h3,h4⟩=>⟨h1.trans h3,h2.trans h4⟩
theorem B.isMap.odd:∀ {b:B},b.isMap=true→b.odd=true
 | .mp _ _,_|.mq _ _ _ _,_=>rfl
structure Ev (ro m:Nat) (k k':K):Prop where
 n0:k'.n0=k.n0
 A:k'.A=k.A
 low:Below k.n0 k.w k'.w
 prot:∀ b,k.ok b→b<k.w.heap.size→k'.ok b∧k'.w.heap[b]?=k.w.heap[b]?
 blk:∀ id,id<m→∀ c dat,bget k.h id=some (.blk c dat)→∃ c',bget k'.h id=some (.blk c' dat)∧c.length≤c'.length ∧
  (c'.length=c.length→k'.β id=k.β id∧Q12 k'.w (k.β id).1=Q12 k.w (k.β id).1)
 lop:∀ id,id<m→∀ r p tm ps a b,bget k.h id=some (.lop r p tm ps a b)→k'.β id=k.β id∧∃ r' p',bget k'.h id=some (.lop r' p' tm ps a b)
 rd:∀ id,id<ro→id<m→live k.h id→bget k'.h id=bget k.h id∧k'.β id=k.β id∧k'.w.heap[(k.β id).1]?=k.w.heap[(k.β id).1]?
 un:∀ id,id<ro→id<m→∀ b,bget k.h id=some b→bget k'.h id=some b
 od:∀ id,id<m→∀ b,bget k.h id=some b→b.odd=true→k'.β id=k.β id∧∃ b',bget k'.h id=some b'∧b.kin b'
theorem Ev.refl (ro m:Nat) (k:K):Ev ro m k k :=
 ⟨rfl,rfl,Below.refl _ _,fun _ h _=>⟨h,rfl⟩,fun _ _ c _dat h=>⟨c,h,Nat.le_refl _,fun _=>⟨rfl,rfl⟩⟩,fun _ _ r p _ _ _ _ h=>⟨rfl,r,p,h⟩,fun _ _ _ _=>⟨rfl,rfl,rfl⟩,fun _ _ _ _ h=>h,fun _ _ b h ho=>⟨rfl,b,h,.refl ho⟩⟩
theorem Ev.mono {ro ro' m m':Nat} {k k':K} (h:Ev ro m k k') (hr:ro'≤ro) (hm:m'≤m):Ev ro' m' k k' :=
 ⟨h.n0,h.A,h.low,h.prot,fun id hid=>h.blk id (by omega),fun id hid=>h.lop id (by omega),fun id h1 h2=>h.rd id (by omega) (by omega),fun id h1 h2=>h.un id (by omega) (by omega),fun id hid=>h.od id (by omega)⟩
theorem Q6x {h h':List B} {id:Nat} (e:bget h' id=bget h id):live h id→live h' id:=fun ⟨b,hb,hn⟩=>⟨b,e.trans hb,hn⟩
theorem Ev.trans {ro m:Nat} {a b c:K} (h:Ev ro m a b) (k:Ev ro m b c):Ev ro m a c:=by
 refine ⟨k.n0.trans h.n0,k.A.trans h.A,h.low.trans (h.n0▸k.low),?_,?_,?_,?_,fun id h1 h2 b hb=>k.un id h1 h2 b (h.un id h1 h2 b hb),fun id hid b hc ho=>by
  obtain ⟨q1,b1,e1,k1⟩:=h.od id hid b hc ho
  obtain ⟨q2,b2,e2,k2⟩:=k.od id hid b1 e1 k1.odd
  exact ⟨q2.trans q1,b2,e2,k1.trans k2⟩⟩
 ·intro x hx hs
  obtain ⟨h1,h2⟩:=h.prot x hx hs
  obtain ⟨h3,h4⟩:=k.prot x h1 (Nat.lt_of_lt_of_le hs h.low.size)
  exact ⟨h3,h4.trans h2⟩
 ·intro id hid c dat hc
  obtain ⟨c1,e1,l1,p1⟩:=h.blk id hid c dat hc
  obtain ⟨c2,e2,l2,p2⟩:=k.blk id hid c1 dat e1
  refine ⟨c2,e2,by omega,fun e=>?_⟩
  obtain ⟨q1,q2⟩:=p1 (by omega)
  obtain ⟨q3,q4⟩:=p2 (by omega)
  exact ⟨q3.trans q1,by rw [← q2,← q1];exact q4⟩
 ·intro id hid r p tm ps x y hc
  obtain ⟨q1,r1,p1,e1⟩:=h.lop id hid r p tm ps x y hc
  obtain ⟨q2,r2,p2,e2⟩:=k.lop id hid r1 p1 tm ps x y e1
  exact ⟨q2.trans q1,r2,p2,e2⟩
 ·intro id h1 h2 hl
  obtain ⟨e1,b1,w1⟩:=h.rd id h1 h2 hl
  obtain ⟨e2,b2,w2⟩:=k.rd id h1 h2 (Q6x e1 hl)
  exact ⟨e2.trans e1,b2.trans b1,by rw [← w1,← b1];exact w2⟩
theorem Qbp {w w':World} {b:Nat} (h:w'.heap[b]?=w.heap[b]?) (o:Nat):w'.cell? ⟨b,o,none⟩=w.cell? ⟨b,o,none⟩:=by
 simp [World.cell?,h]
theorem Q1d {w w':World} {b:Nat} (h:w'.heap[b]?=w.heap[b]?):∀ {off:Nat} {vs:List Value},cellsAt w b off vs→cellsAt w' b off vs
 | _,[],_=>trivial
 | off,_v::_l,⟨h1,h2⟩=>⟨(Qbp h off).trans h1,Q1d h h2⟩
theorem okv.ev {ro m:Nat} {k k':K} (e:Ev ro m k k') {b off:Nat} {vs:List Value} (h:okv k b vs) (hc:cellsAt k.w b off vs):okv k' b vs∧cellsAt k'.w b off vs:=by
 rcases h with rfl|⟨h1,h2⟩
 ·exact ⟨.inl rfl,trivial⟩
 ·obtain ⟨p1,p2⟩:=e.prot b h1 h2
  exact ⟨.inr ⟨p1,Nat.lt_of_lt_of_le h2 e.low.size⟩,Q1d p2 hc⟩
mutual
theorem R.ev {ro m:Nat} {k k':K} (e:Ev ro m k k'):∀ {v:V} {x:Value},v.blo m=true→R k v x→R k' v x
 | .bool _,_,_,h|.int _ _,_,_,h|.str _,_,_,h|.nilp,_,_,h|.nilsl,_,_,h|.esl,_,_,h|.nilmap,_,_,h|.nilfn,_,_,h|.nilif,_,_,h=>by simpa only [R] using h
 | .dead,_,_,_=>by simp [R]
 | .sl clip len cells,x,hb,h=>by
  simp only [R] at h ⊢
  rcases h with h|⟨b,off,cap,vs,hx,hok,hc,hl,hp,h1,h2⟩
  ·exact .inl h
  obtain ⟨p1,p2⟩:=hok.ev e hc
  exact .inr ⟨b,off,cap,vs,hx,p1,p2,RL.ev e (Q0o (Nat.zero_le _) _ hp.2) hl,hp,h1,h2⟩
 | .rp cells off,x,hb,h=>by
  simp only [R] at h ⊢
  obtain ⟨b,o,vs,hx,hok,hc,hl,hp⟩:=h
  obtain ⟨p1,p2⟩:=hok.ev e hc
  exact ⟨b,o,vs,hx,p1,p2,RL.ev e (Q0o (Nat.zero_le _) _ hp.2) hl,hp⟩
 | .agg cs,x,hb,h=>by
  simp only [R] at h ⊢;obtain ⟨vs,hx,hl⟩:=h;exact ⟨vs,hx,RL.ev e (by simpa [V.blo] using hb) hl⟩
 | .tup cs,x,hb,h=>by
  simp only [R] at h ⊢;obtain ⟨vs,hx,hl⟩:=h;exact ⟨vs,hx,RL.ev e (by simpa [V.blo] using hb) hl⟩
 | .iface t v,x,hb,h=>by
  simp only [R] at h ⊢;obtain ⟨y,hx,hl⟩:=h;exact ⟨y,hx,R.ev e (by simpa [V.blo] using hb) hl⟩
 | .bf t v,x,hb,h=>by
  simp only [R] at h ⊢;obtain ⟨y,hx,hl⟩:=h;exact ⟨y,hx,R.ev e (by simpa [V.blo] using hb) hl⟩
 | .fn f cs,x,hb,h=>by
  simp only [R] at h ⊢;obtain ⟨vs,hx,hl⟩:=h;exact ⟨vs,hx,RL.ev e (by simpa [V.blo] using hb) hl⟩
 | .ref id g off,x,hb,h=>by
  simp only [V.blo,jG] at hb
  simp only [R] at h ⊢
  obtain ⟨b,o,c,dat,hx,hc,hg,hp⟩:=h
  obtain ⟨c',e1,l1,p1⟩:=e.blk id hb c dat hc
  refine ⟨b,o,c',dat,hx,e1,by omega,fun hgc=>?_⟩
  obtain ⟨q1,_⟩:=p1 (by omega)
  rw [q1];exact hp (by omega)
 | .ms es id g off len clip,x,hb,h=>by
  simp only [V.blo,jG] at hb
  simp only [R] at h ⊢
  obtain ⟨b,o,cap,c,dat,hx,hc,hg,hl,hcl,hp⟩:=h
  obtain ⟨c',e1,l1,p1⟩:=e.blk id hb c dat hc
  refine ⟨b,o,cap,c',dat,hx,e1,by omega,hl,hcl,fun hgc=>?_⟩
  obtain ⟨q1,q2⟩:=p1 (by omega)
  obtain ⟨h1,hb0,h2⟩:=hp (by omega)
  refine ⟨h1,by rw [q1];exact hb0,fun hc0=>?_⟩
  obtain ⟨h3,h4,h5⟩:=h2 hc0
  rw [q1];refine ⟨h3,h4,fun hcf=>?_⟩
  rw [h3] at q2;rw [q2];exact h5 hcf
 | .yld id,x,hb,h=>by
  simp only [V.blo,jG] at hb
  simp only [R] at h ⊢
  obtain ⟨hx,r,p,tm,ps,a,b,hc⟩:=h
  obtain ⟨q1,r',p',e1⟩:=e.lop id hb r p tm ps a b hc
  exact ⟨by rw [q1];exact hx,r',p',tm,ps,a,b,e1⟩
 | .rm ks vs,x,hb,h=>by
  simp only [R] at h ⊢
  obtain ⟨b,kv,vv,hx,h1,h2,h3,h4,h5,h6,h7⟩:=h
  obtain ⟨p1,p2⟩:=e.prot b h1 h2
  exact ⟨b,kv,vv,hx,p1,Nat.lt_of_lt_of_le h2 e.low.size,h3.same p2,RL.ev e (Q0o (Nat.zero_le _) _ h6) h4,RL.ev e (Q0o (Nat.zero_le _) _ h7) h5,h6,h7⟩
 | .mr id,x,hb,h=>by
  simp only [V.blo,jG] at hb
  simp only [R] at h ⊢
  obtain ⟨hx,b,hc,hm⟩:=h
  obtain ⟨q1,b',e1,k1⟩:=e.od id hb b hc (B.isMap.odd hm)
  exact ⟨by rw [q1];exact hx,b',e1,k1.map hm⟩
 | .itr id m0,x,hb,h=>by
  simp only [V.blo,jG] at hb
  simp only [R] at h ⊢
  obtain ⟨hx,s,t,l,hc⟩:=h
  obtain ⟨q1,b',e1,k1⟩:=e.od id hb _ hc rfl
  cases b'<;>try (cases k1;done)
  obtain ⟨rfl,rfl⟩:=k1
  exact ⟨by rw [q1];exact hx,_,_,_,e1⟩
 | .irr id,x,hb,h=>by
  simp only [V.blo,jG] at hb
  simp only [R] at h ⊢
  obtain ⟨hx,s,t,l,hc⟩:=h
  obtain ⟨q1,b',e1,k1⟩:=e.od id hb _ hc rfl
  cases b'<;>try (cases k1;done)
  exact ⟨by rw [q1];exact hx,_,_,_,e1⟩
theorem RL.ev {ro m:Nat} {k k':K} (e:Ev ro m k k'):∀ {l:List V} {xs:List Value},Dr.blos m l=true→RL k l xs→RL k' l xs
 | [],_,_,h=>by simpa [RL] using h
 | v::l,xs,hb,h=>by
  simp only [Dr.blos,jF] at hb
  obtain ⟨x,r,rfl,hx,hr⟩:=(by simpa [RL] using h:∃ x r,xs=x::r∧R k v x∧RL k l r)
  exact RL.cons (R.ev e hb.1 hx) (RL.ev e hb.2 hr)
end
end Go.Dr
namespace Go.Dr
open Go.RowKit (Below)
def BlkOk (k:K) (id:Nat) (c:List V) (dat:Bool):Prop :=
 k.n0≤(k.β id).1∧(k.β id).2≤c.length∧ones c=true∧(dat=true→scalars c=true) ∧
 ∃ xs rest T,k.w.heap[(k.β id).1]?=some (.cells ⟨xs++rest⟩ T (0,0))∧RL k (c.drop (k.β id).2) xs
def pendRel:Bool→X→Option Code→Prop
 | true,.nrm,c=>c=none
 | false,.nrm,_=>True
 | _,.exit i,c=>c=some (.exit i)
 | _,.ret,c=>c=some .ret
def Q4i:Bool→X→LoopState→Prop
 | true,_,s=>s=.ready
 | false,.nrm,_=>True
 | false,_,s=>s≠.busy
def LopOk (P:Program) (k:K) (id:Nat) (r:Bool) (p:X) (tm:List V) (ps:List Nat) (a b:MC):Prop :=
 k.n0≤(k.β id).1∧∃ lp:Loop,k.w.heap[(k.β id).1]?=some (.loop lp)∧Q4i r p lp.state∧pendRel r p lp.pending∧RL k tm lp.tmps.toList ∧
  lp.params.toList=ps∧Q14 P lp.assign=some a∧Q14 P lp.body=some b
def MapOk (k:K) (id:Nat) (ks vs:List V):Prop :=
 k.n0≤(k.β id).1∧∃ es:Array MapEntry,k.w.heap[(k.β id).1]?=some (.map es es.size)∧(∀ i (h:i<es.size),es[i].born=i) ∧
  RL k ks (es.toList.map (·.key))∧RL k vs (es.toList.map (·.val))
theorem MapOk.ev {ro m:Nat} {k k':K} (e:Ev ro m k k') {id:Nat} {ks vs:List V} (hβ:k'.β id=k.β id) (hw:k'.w.heap[(k.β id).1]?=k.w.heap[(k.β id).1]?) (h1:blos m ks=true) (h2:blos m vs=true) (h:MapOk k id ks vs):MapOk k' id ks vs:=by
 obtain ⟨q1,es,q2,q3,q4,q5⟩:=h
 exact ⟨by rw [hβ,e.n0];exact q1,es,by rw [hβ,hw];exact q2,q3,RL.ev e h1 q4,RL.ev e h2 q5⟩
def MaqOk (k:K) (id:Nat) (st:List Nat) (ck:Nat) (ks vs:List V):Prop :=
 k.n0≤(k.β id).1∧∃ es:Array MapEntry,k.w.heap[(k.β id).1]?=some (.map es ck)∧es.toList.map (·.born)=st∧st.Pairwise (· < ·)∧(∀ s∈st,s<ck) ∧
  RL k ks (es.toList.map (·.key))∧RL k vs (es.toList.map (·.val))
def Qs5 (k:K) (id m since stepped:Nat) (seen:List Nat):Prop :=
 k.n0≤(k.β id).1∧(∃ b,bget k.h m=some b∧b.isMap=true)∧since≤stepped∧k.w.heap[(k.β id).1]?=some (.mapIter (some (k.β m).1) since ⟨seen⟩ stepped)
def IrOk (k:K) (id:Nat) (ks vs:List V) (seen:List Nat):Prop :=
 k.n0≤(k.β id).1∧∃ b kv vv,k.ok b∧b<k.w.heap.size∧mapAt k.w b kv vv∧RL k ks kv∧RL k vs vv∧blos 0 ks=true∧blos 0 vs=true∧k.w.heap[(k.β id).1]?=some (.mapIter (some b) kv.length ⟨seen⟩ kv.length)
def OddOk (k:K) (id:Nat):B→Prop
 | .mp ks vs=>MapOk k id ks vs
 | .mq st ck ks vs=>MaqOk k id st ck ks vs
 | .it m s t l=>Qs5 k id m s t l
 | .ir ks vs l=>IrOk k id ks vs l
 | _=>True
theorem OddOk.ev {ro m:Nat} {k k':K} (e:Ev ro m k k') {id:Nat}:∀ {b:B},k'.β id=k.β id→k'.w.heap[(k.β id).1]?=k.w.heap[(k.β id).1]?→b.blo m=true→OddOk k id b→OddOk k' id b
 | .mp ks vs,hβ,hw,hb,h=>by
  simp only [B.blo,jF] at hb
  exact MapOk.ev e hβ hw hb.1 hb.2 h
 | .mq st ck ks vs,hβ,hw,hb,h=>by
  simp only [B.blo,jF] at hb
  obtain ⟨q1,es,q2,q3,q4,q5,q6,q7⟩:=h
  exact ⟨by rw [hβ,e.n0];exact q1,es,by rw [hβ,hw];exact q2,q3,q4,q5,RL.ev e hb.1 q6,RL.ev e hb.2 q7⟩
 | .it m0 s t l,hβ,hw,hb,h=>by
  simp only [B.blo,jG] at hb
  obtain ⟨q1,⟨b,q2,q3⟩,q4,q5⟩:=h
  obtain ⟨r1,b',r2,r3⟩:=e.od m0 hb b q2 (B.isMap.odd q3)
  exact ⟨by rw [hβ,e.n0];exact q1,⟨b',r2,r3.map q3⟩,q4,by rw [hβ,hw,r1];exact q5⟩
 | .ir ks vs l,hβ,hw,hb,h=>by
  obtain ⟨q1,b,kv,vv,h1,h2,h3,h4,h5,h6,h7,h8⟩:=h
  obtain ⟨p1,p2⟩:=e.prot b h1 h2
  exact ⟨by rw [hβ,e.n0];exact q1,b,kv,vv,p1,Nat.lt_of_lt_of_le h2 e.low.size,h3.same p2,RL.ev e (Q0o (Nat.zero_le _) _ h6) h4,RL.ev e (Q0o (Nat.zero_le _) _ h7) h5,h6,h7,by rw [hβ,hw];exact h8⟩
 | .blk _ _,_,_,_,_|.unborn,_,_,_,_|.lop _ _ _ _ _ _,_,_,_,_=>trivial
theorem OddOk.blo {k:K} {id:Nat}:∀ {b:B},b.odd=true→OddOk k id b→b.blo k.h.length=true
 | .mp ks vs,_,h=>by
  obtain ⟨_,es,_,_,b1,b2⟩:=h
  simp only [B.blo,RL.blos b1,RL.blos b2,Bool.and_self]
 | .mq st ck ks vs,_,h=>by
  obtain ⟨_,es,_,_,_,_,b1,b2⟩:=h
  simp only [B.blo,RL.blos b1,RL.blos b2,Bool.and_self]
 | .ir ks vs l,_,_=>rfl
 | .it m0 s t l,_,h=>by
  obtain ⟨_,⟨b,q2,_⟩,_⟩:=h
  simpa [B.blo] using Q05 q2
theorem OddOk.at {k:K} {id:Nat}:∀ {b:B},b.odd=true→OddOk k id b→k.n0≤(k.β id).1∧∃ o,k.w.heap[(k.β id).1]?=some o
 | .mp ks vs,_,h=>⟨h.1,_,h.2.choose_spec.1⟩
 | .mq st ck ks vs,_,h=>⟨h.1,_,h.2.choose_spec.1⟩
 | .it m0 s t l,_,h=>⟨h.1,_,h.2.2.2⟩
 | .ir ks vs l,_,h=>by
  obtain ⟨h1,b,kv,vv,_,_,_,_,_,_,_,h8⟩:=h
  exact ⟨h1,_,h8⟩
class GT (P:Program) where
 bs:Nat
 ok:World→Prop
 mono:∀ {w w':World},Below bs w w'→ok w→ok w'
def TabOk (P:Program) [GT P] (k:K):Prop:=GT.bs P≤k.n0∧GT.ok P k.w
theorem TabOk.low {P:Program} [GT P] {k k':K} (h:TabOk P k) (hn:k.n0≤k'.n0) (hb:Below k.n0 k.w k'.w):TabOk P k':=⟨Nat.le_trans h.1 hn,GT.mono (hb.mono h.1) h.2⟩
theorem TabOk.ev {P:Program} [GT P] {ro m:Nat} {k k':K} (h:TabOk P k) (e:Ev ro m k k'):TabOk P k':=h.low (Nat.le_of_eq e.n0.symm) e.low
structure Good (P:Program) [GT P] (k:K):Prop where
 size:k.n0≤k.w.heap.size
 blk:∀ id c dat,bget k.h id=some (.blk c dat)→BlkOk k id c dat
 lop:∀ id r p tm ps a b,bget k.h id=some (.lop r p tm ps a b)→LopOk P k id r p tm ps a b
 inj:∀ id id',live k.h id→live k.h id'→(k.β id).1=(k.β id').1→id=id'
 od:∀ id b,bget k.h id=some b→b.odd=true→OddOk k id b
 tab:TabOk P k
variable {P:Program} [GT P] {k:K}
theorem Good.mp (g:Good P k) (id:Nat) (ks vs:List V) (h:bget k.h id=some (.mp ks vs)):MapOk k id ks vs:=g.od id _ h rfl
theorem Qiu {h:List B} {id:Nat} (l:live h id):(∃ c dat,bget h id=some (.blk c dat))∨(∃ r p tm ps a b,bget h id=some (.lop r p tm ps a b))∨(∃ b,bget h id=some b∧b.odd=true):=by
 obtain ⟨b,hb,hn⟩:=l
 cases b with
 | blk c dat=>exact .inl ⟨c,dat,hb⟩
 | unborn=>exact absurd rfl hn
 | lop r p tm ps a b=>exact .inr (.inl ⟨r,p,tm,ps,a,b,hb⟩)
 | mp ks vs=>exact .inr (.inr ⟨_,hb,rfl⟩)
 | mq st ck ks vs=>exact .inr (.inr ⟨_,hb,rfl⟩)
 | it m s t l=>exact .inr (.inr ⟨_,hb,rfl⟩)
 | ir ks vs l=>exact .inr (.inr ⟨_,hb,rfl⟩)
theorem Q0i {h:List B} {id:Nat} {c dat} (e:bget h id=some (.blk c dat)):live h id:=⟨_,e,by simp⟩
theorem Qm0 {h:List B} {id:Nat} {ks vs} (e:bget h id=some (.mp ks vs)):live h id:=⟨_,e,by simp⟩
theorem Q1i {h:List B} {id:Nat} {b:B} (e:bget h id=some b) (ho:b.odd=true):live h id:=⟨_,e,by rintro rfl;cases ho⟩
theorem Q1j {h:List B} {id:Nat} {r p tm ps a b} (e:bget h id=some (.lop r p tm ps a b)):live h id:=⟨_,e,by simp⟩
theorem Good.at (g:Good P k) {id:Nat} (l:live k.h id):k.n0≤(k.β id).1∧(k.β id).1<k.w.heap.size:=by
 rcases Qiu l with ⟨c,dat,e⟩|⟨r,p,tm,ps,a,b,e⟩|⟨b,e,ho⟩
 ·obtain ⟨h1,_,_,_,xs,rest,T,h2,_⟩:=g.blk id c dat e
  exact ⟨h1,(jP.1 h2).1⟩
 ·obtain ⟨h1,lp,h2,_⟩:=g.lop id r p tm ps a b e
  exact ⟨h1,(jP.1 h2).1⟩
 ·obtain ⟨h1,o,h2⟩:=OddOk.at ho (g.od id b e ho)
  exact ⟨h1,(jP.1 h2).1⟩
theorem Qil (g:Good P k) {id:Nat} (l:live k.h id) {b:Nat} (h:k.ok b):b≠(k.β id).1:=by
 rintro rfl
 rcases h with ⟨h,_⟩|⟨_,h⟩
 ·have:=(g.at l).1;omega
 ·exact h ⟨id,l,rfl⟩
theorem Good.world (g:Good P k) {w':World} (hlow:Below k.n0 k.w w') (hs:∀ b,b<k.w.heap.size→w'.heap[b]?=k.w.heap[b]?) (ro m:Nat) :
  Good P { k with w:=w' }∧Ev ro m k { k with w:=w' }:=by
 have e:∀ m,Ev ro m k { k with w:=w' }:=fun m=>⟨rfl,rfl,hlow,fun b h hb=>⟨h,hs b hb⟩,
  fun id _ c dat h=>⟨c,h,Nat.le_refl _,fun _=>⟨rfl,by
   have:=hs _ (g.at (Q0i h)).2
   simp [Q12,this]⟩⟩,
  fun _ _ r p _ _ _ _ h=>⟨rfl,r,p,h⟩,fun id _ _ l=>⟨rfl,rfl,hs _ (g.at l).2⟩,fun _ _ _ _ h=>h,fun _ _ b h ho=>⟨rfl,b,h,.refl ho⟩⟩
 refine ⟨⟨Nat.le_trans g.size hlow.size,?_,?_,g.inj,fun id b h ho=>?_,g.tab.low (Nat.le_refl _) hlow⟩,e m⟩
 rotate_left
 rotate_left
 ·exact OddOk.ev (e k.h.length) rfl (hs _ (g.at (Q1i h ho)).2) (OddOk.blo ho (g.od id b h ho)) (g.od id b h ho)
 ·intro id c dat h
  obtain ⟨h1,h2,h3,h4,xs,rest,T,h5,h6⟩:=g.blk id c dat h
  exact ⟨h1,h2,h3,h4,xs,rest,T,(hs _ (g.at (Q0i h)).2).trans h5,RL.ev (e k.h.length) (RL.blos h6) h6⟩
 ·intro id r p tm ps a b h
  obtain ⟨h1,lp,h2,h3,h4,h5,h6⟩:=g.lop id r p tm ps a b h
  exact ⟨h1,lp,(hs _ (g.at (Q1j h)).2).trans h2,h3,h4,RL.ev (e k.h.length) (RL.blos h5) h5,h6⟩
def K.set (k:K) (id:Nat) (b:B) (p:Nat × Nat) (w':World):K :=
 { k with h:=bset k.h id b,β:=fun i=>if i=id then p else k.β i,w:=w' }
theorem Good.upd (g:Good P k) {id:Nat} {c':List V} {dat:Bool} {p:Nat × Nat} {w':World} {ro:Nat} {xs rest:List Value} {T:TypeId}
  (hid:id<k.h.length) (hro:ro≤id)
  (hold:bget k.h id=some .unborn∨∃ c,bget k.h id=some (.blk c dat)∧c.length≤c'.length∧(c'.length=c.length→p=k.β id∧Q12 w' p.1=Q12 k.w p.1))
  (hlow:Below k.n0 k.w w')
  (hsame:∀ b,b<k.w.heap.size→(live k.h id→b≠(k.β id).1)→w'.heap[b]?=k.w.heap[b]?)
  (hp:k.n0≤p.1) (hfresh:k.w.heap.size≤p.1∨(live k.h id∧p.1=(k.β id).1))
  (hxs:w'.heap[p.1]?=some (.cells ⟨xs++rest⟩ T (0,0)))
  (hsh:p.2≤c'.length) (hl:RL k (c'.drop p.2) xs) (h1:ones c'=true) (hd:dat=true→scalars c'=true) :
  Good P (k.set id (.blk c' dat) p w')∧Ev ro k.h.length k (k.set id (.blk c' dat) p w'):=by
 have hget:∀ i,bget (bset k.h id (.blk c' dat)) i=if i=id then some (.blk c' dat) else bget k.h i:=by
  intro i;rw [Q0g]
  by_cases e:id=i
  ·subst e;simp [hid]
  ·simp [e,Ne.symm e]
 have hlive:∀ i,i≠id→live (bset k.h id (.blk c' dat)) i→live k.h i:=by
  rintro i hne ⟨b,hb,hn⟩;rw [hget,if_neg hne] at hb;exact ⟨b,hb,hn⟩
 have hne:∀ i,i≠id→live k.h i→(live k.h id→(k.β i).1≠(k.β id).1):=fun i hi l l' e=>hi (g.inj i id l l' e)
 have hpne:∀ i,i≠id→live k.h i→(k.β i).1≠p.1:=by
  intro i hi l e
  rcases hfresh with hf|⟨l',hf⟩
  ·have:=(g.at l).2;omega
  ·exact hi (g.inj i id l l' (e.trans hf))
 have ev:Ev ro k.h.length k (k.set id (.blk c' dat) p w'):=by
  refine ⟨rfl,rfl,hlow,?_,?_,?_,?_,fun i h1 h2 b hb=>by
   have hii:i≠id:=by omega
   simp only [K.set,hget,hii,if_false];exact hb,fun i hi b hc ho=>by
   have hii:i≠id:=by
    rintro rfl;rcases hold with hu|⟨c0,hc0,_⟩
    ·rw [hc] at hu;cases hu;cases ho
    ·rw [hc] at hc0;cases hc0;cases ho
   exact ⟨by simp [K.set,hii],b,by simp only [K.set,hget,hii,if_false];exact hc,.refl ho⟩⟩
  ·intro b hb hlt
   refine ⟨?_,hsame b hlt fun l=>Qil g l hb⟩
   rcases hb with ⟨hb,hA⟩|⟨hb,hA⟩
   ·exact .inl ⟨hb,hA⟩
   ·refine .inr ⟨hb,?_⟩
    rintro ⟨i,l,e⟩
    by_cases hi:i=id
    ·simp only [K.set,hi,if_true] at e
     rcases hfresh with hf|⟨l',hf⟩
     ·omega
     ·exact hA ⟨id,l',hf.symm.trans e⟩
    ·simp only [K.set,hi,if_false] at e
     exact hA ⟨i,hlive i hi l,e⟩
  ·intro i hi c d hc
   by_cases hii:i=id
   ·subst hii
    rcases hold with hu|⟨c0,hc0,hle,hq⟩
    ·rw [hc] at hu;cases hu
    ·rw [hc] at hc0;cases hc0
     refine ⟨c',by simp [K.set,hget],hle,fun e=>?_⟩
     obtain ⟨q1,q2⟩:=hq e
     exact ⟨by simp [K.set,q1],by simp only [K.set];rw [← q1];exact q2⟩
   ·refine ⟨c,by simp only [K.set,hget,hii,if_false];exact hc,Nat.le_refl _,fun _=>⟨by simp [K.set,hii],?_⟩⟩
    have:=hsame (k.β i).1 (g.at (Q0i hc)).2 (hne i hii (Q0i hc))
    simp only [Q12,K.set,this]
  ·intro i hi r q tm ps a b hc
   have hii:i≠id:=by
    rintro rfl;rcases hold with hu|⟨c0,hc0,_⟩
    ·rw [hc] at hu;cases hu
    ·rw [hc] at hc0;cases hc0
   exact ⟨by simp [K.set,hii],r,q,by simp only [K.set,hget,hii,if_false];exact hc⟩
  ·intro i h1 h2 l
   have hii:i≠id:=by omega
   refine ⟨by simp only [K.set,hget,hii,if_false],by simp [K.set,hii],?_⟩
   exact hsame (k.β i).1 (g.at l).2 (hne i hii l)
 refine ⟨⟨Nat.le_trans g.size hlow.size,?_,?_,?_,?_,g.tab.ev ev⟩,ev⟩
 rotate_left
 rotate_left
 rotate_left
 ·intro i b hc ho
  have hii:i≠id:=by
   rintro rfl;simp only [K.set,hget,if_true] at hc;cases hc;cases ho
  simp only [K.set,hget,hii,if_false] at hc
  exact OddOk.ev ev (by simp [K.set,hii]) (hsame (k.β i).1 (g.at (Q1i hc ho)).2 (hne i hii (Q1i hc ho))) (OddOk.blo ho (g.od i b hc ho)) (g.od i b hc ho)
 ·intro i c d hc
  by_cases hii:i=id
  ·subst hii
   simp only [K.set,hget,if_true] at hc;cases hc
   refine ⟨by simpa [K.set] using hp,by simpa [K.set] using hsh,h1,hd,xs,rest,T,by simpa [K.set] using hxs,?_⟩
   have:=RL.ev ev (RL.blos hl) hl
   simpa [K.set] using this
  ·simp only [K.set,hget,hii,if_false] at hc
   obtain ⟨a1,a2,a3,a4,xs',rest',T',a5,a6⟩:=g.blk i c d hc
   refine ⟨by simpa [K.set,hii] using a1,by simpa [K.set,hii] using a2,a3,a4,xs',rest',T',?_,?_⟩
   ·have:=hsame (k.β i).1 (g.at (Q0i hc)).2 (hne i hii (Q0i hc))
    simp only [K.set,hii,if_false,this];exact a5
   ·have:=RL.ev ev (RL.blos a6) a6
    simpa [K.set,hii] using this
 ·intro i r q tm ps a b hc
  have hii:i≠id:=by
   rintro rfl;simp only [K.set,hget,if_true] at hc;cases hc
  simp only [K.set,hget,hii,if_false] at hc
  obtain ⟨a1,lp,a2,a3,a4,a5,a6⟩:=g.lop i r q tm ps a b hc
  refine ⟨by simpa [K.set,hii] using a1,lp,?_,a3,a4,RL.ev ev (RL.blos a5) a5,a6⟩
  have:=hsame (k.β i).1 (g.at (Q1j hc)).2 (hne i hii (Q1j hc))
  simp only [K.set,hii,if_false,this];exact a2
 ·intro i j hi hj e
  by_cases h1:i=id<;>by_cases h2:j=id
  ·omega
  ·simp only [K.set,h1,h2,if_true,if_false] at e
   exact absurd e.symm (hpne j h2 (hlive j h2 hj))
  ·simp only [K.set,h1,h2,if_true,if_false] at e
   exact absurd e (hpne i h1 (hlive i h1 hi))
  ·simp only [K.set,h1,h2,if_false] at e
   exact g.inj i j (hlive i h1 hi) (hlive j h2 hj) e
theorem Qdn (n i:Nat):bget (Q0r n) i=if i<n then some .unborn else none:=by
 induction n generalizing i with
 | zero=>simp [Q0r,bget]
 | succ n ih=>cases i with
  | zero=>simp [Q0r,bget]
  | succ i=>simp [Q0r,bget,ih]
theorem Q56 (h l:List B) (i:Nat):bget (h++l) i=if i<h.length then bget h i else bget l (i-h.length):=by
 simp only [Q1t]
 by_cases e:i<h.length
 ·rw [if_pos e,List.getElem?_append_left e]
 ·rw [if_neg e,List.getElem?_append_right (by omega)]
theorem Good.more (g:Good P k) (n ro:Nat):Good P { k with h:=k.h++Q0r n }∧Ev ro k.h.length k { k with h:=k.h++Q0r n }:=by
 have hget:∀ i b,bget (k.h++Q0r n) i=some b→b≠.unborn→bget k.h i=some b:=by
  intro i b hb hn
  rw [Q56] at hb
  split at hb
  ·exact hb
  ·rw [Qdn] at hb;split at hb<;>simp_all
 have hget':∀ i,i<k.h.length→bget (k.h++Q0r n) i=bget k.h i:=fun i hi=>by rw [Q56,if_pos hi]
 have hlive:∀ i,live (k.h++Q0r n) i→live k.h i:=fun i ⟨b,hb,hn⟩=>⟨b,hget i b hb hn,hn⟩
 have ev:Ev ro k.h.length k { k with h:=k.h++Q0r n }:=by
  refine ⟨rfl,rfl,Below.refl _ _,fun b hb _=>⟨?_,rfl⟩,fun id hid c dat hc=>⟨c,by rw [hget' id hid];exact hc,Nat.le_refl _,fun _=>⟨rfl,rfl⟩⟩,
   fun id hid r p tm ps a b hc=>⟨rfl,r,p,by rw [hget' id hid];exact hc⟩,fun id _ h2 _=>⟨hget' id h2,rfl,rfl⟩,fun id _ h2 b hb=>(hget' id h2).trans hb,fun id hid b hc ho=>⟨rfl,b,by rw [hget' id hid];exact hc,.refl ho⟩⟩
  rcases hb with h|⟨h,h'⟩
  ·exact .inl h
  ·exact .inr ⟨h,fun ⟨i,l,e⟩=>h' ⟨i,hlive i l,e⟩⟩
 refine ⟨⟨g.size,?_,?_,fun i j hi hj e=>g.inj i j (hlive i hi) (hlive j hj) e,fun id b hc ho=>by
  have hc':=hget id _ hc (by rintro rfl;cases ho)
  exact OddOk.ev ev rfl rfl (OddOk.blo ho (g.od id b hc' ho)) (g.od id b hc' ho),g.tab.ev ev⟩,ev⟩
 ·intro id c dat hc
  obtain ⟨a1,a2,a3,a4,xs,rest,T,a5,a6⟩:=g.blk id c dat (hget id _ hc (by simp))
  exact ⟨a1,a2,a3,a4,xs,rest,T,a5,RL.ev ev (RL.blos a6) a6⟩
 ·intro id r p tm ps a b hc
  obtain ⟨a1,lp,a2,a3,a4,a5,a6⟩:=g.lop id r p tm ps a b (hget id _ hc (by simp))
  exact ⟨a1,lp,a2,a3,a4,RL.ev ev (RL.blos a5) a5,a6⟩
mutual
theorem Q68 (n:Nat):∀ (v:V),v.scalar=true→v.blo n=true
 | .agg cs,h=>by simp only [V.scalar,V.blo] at *;exact Q2e n cs h
 | .tup cs,h=>by simp only [V.scalar,V.blo] at *;exact Q2e n cs h
 | .iface _ v,h=>by simp only [V.scalar,V.blo] at *;exact Q68 n v h
 | .bf _ v,h=>by simp only [V.scalar,V.blo] at *;exact Q68 n v h
 | .fn _ cs,h=>by simp only [V.scalar,V.blo] at *;exact Q2e n cs h
 | .ref _ _ _,h|.ms _ _ _ _ _ _,h|.yld _,h|.mr _,h|.itr _ _,h|.irr _,h|.rm _ _,h=>by simp [V.scalar] at h
 | .bool _,_|.int _ _,_|.str _,_|.nilp,_|.nilsl,_|.esl,_|.nilmap,_|.nilfn,_|.nilif,_|.sl _ _ _,_|.rp _ _,_|.dead,_=>by simp [V.blo]
theorem Q2e (n:Nat):∀ (l:List V),scalars l=true→blos n l=true
 | [],_=>rfl
 | v::l,h=>by simp only [scalars,blos,jF] at *;exact ⟨Q68 n v h.1,Q2e n l h.2⟩
end
theorem Q3d {n:Nat}:∀ {h:List B} {i:Nat} {b:B},Q0a n h=true→bget h i=some b→b.blo n=true
 | [],_,_,_,h=>by simp [bget] at h
 | b::l,0,b',h,e=>by simp [bget] at e;subst e;simp only [Q0a,jF] at h;exact h.1
 | b::l,i+1,b',h,e=>by simp only [Q0a,jF] at h;exact Q3d h.2 (by simpa [bget] using e)
theorem Good.less (g:Good P k) (n ro:Nat) (hb:Q0a n (k.h.take n)=true):Good P { k with h:=k.h.take n }∧Ev ro n k { k with h:=k.h.take n }:=by
 have hget:∀ i b,bget (k.h.take n) i=some b→bget k.h i=some b:=by
  intro i b h;rw [Q1t,List.getElem?_take] at h;rw [Q1t]
  split at h<;>simp_all
 have hget':∀ i,i<n→bget (k.h.take n) i=bget k.h i:=by
  intro i hi;rw [Q1t,Q1t,List.getElem?_take,if_pos hi]
 have hlive:∀ i,live (k.h.take n) i→live k.h i:=fun i ⟨b,hb,hn⟩=>⟨b,hget i b hb,hn⟩
 have ev:Ev ro n k { k with h:=k.h.take n }:=by
  refine ⟨rfl,rfl,Below.refl _ _,fun b hb _=>⟨?_,rfl⟩,fun id hid c dat hc=>⟨c,by rw [hget' id hid];exact hc,Nat.le_refl _,fun _=>⟨rfl,rfl⟩⟩,
   fun id hid r p tm ps a b hc=>⟨rfl,r,p,by rw [hget' id hid];exact hc⟩,fun id _ h2 _=>⟨hget' id h2,rfl,rfl⟩,fun id _ h2 b hb=>(hget' id h2).trans hb,fun id hid b hc ho=>⟨rfl,b,by rw [hget' id hid];exact hc,.refl ho⟩⟩
  rcases hb with h|⟨h,h'⟩
  ·exact .inl h
  ·exact .inr ⟨h,fun ⟨i,l,e⟩=>h' ⟨i,hlive i l,e⟩⟩
 refine ⟨⟨g.size,?_,?_,fun i j hi hj e=>g.inj i j (hlive i hi) (hlive j hj) e,fun id b hc ho=>OddOk.ev ev rfl rfl (Q3d hb hc) (g.od id b (hget id _ hc) ho),g.tab.ev ev⟩,ev⟩
 ·intro id c dat hc
  obtain ⟨a1,a2,a3,a4,xs,rest,T,a5,a6⟩:=g.blk id c dat (hget id _ hc)
  have hbl:blos n c=true:=by
   have:=Q3d hb hc
   simp only [B.blo,Bool.or_eq_true] at this
   rcases this with h|h
   ·exact Q2e n c (a4 h)
   ·exact h
  exact ⟨a1,a2,a3,a4,xs,rest,T,a5,RL.ev ev (Q98 hbl _) a6⟩
 ·intro id r p tm ps a b hc
  obtain ⟨a1,lp,a2,a3,a4,a5,a6⟩:=g.lop id r p tm ps a b (hget id _ hc)
  have:=Q3d hb hc
  exact ⟨a1,lp,a2,a3,a4,RL.ev ev (by simpa [B.blo] using this) a5,a6⟩
end Go.Dr
