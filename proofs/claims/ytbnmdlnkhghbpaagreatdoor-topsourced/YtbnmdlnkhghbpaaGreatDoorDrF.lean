/- The door: conditions under which code runs as wished: a function from code to a proposition, and that it is right. -/
import Derived.Test.YtbnmdlnkhghbpaaGreatDoorDrA
import Derived.Test.YtbnmdlnkhghbpaaGreatDoorDrD
namespace Go.Dr
inductive Req (A P:Prop):Prop where
 | mk:A→P→Req A P
inductive Bnd (e:Int) (P:Int→Prop):Prop where
 | mk:(∀ r,r=e→P r)→Bnd e P
inductive Br (b:Bool) (P Q:Prop):Prop where
 | mk:(b=true→P)→(b=false→Q)→Br b P Q
inductive Ifz (n:Nat) (P Q:Prop):Prop where
 | mk:(n=0→P)→(n≠0→Q)→Ifz n P Q
inductive Get {α:Type} (o:Option α) (P:α→Prop):Prop where
 | mk (a:α):o=some a→P a→Get o P
inductive Idx (m:Nat) (v:V) (P:Nat→Prop):Prop where
 | mk (j:Nat):nat? m v=some j→P j→Idx m v P
inductive NextP {α:Type} (P:α→Prop) (I:α→St) (μ:α→Nat) (a:α) (s:St):Prop where
 | mk (a':α):P a'→μ a'<μ a→s=I a'→NextP P I μ a s
inductive LoopP (w:St→(X→St→Prop)→Prop) (m:List Bool) (hl:Nat) (st:St) (Q:X→St→Prop):Prop where
 | mk (α:Type) (P:α→Prop) (I:α→St) (μ:α→Nat) (a0:α) (p0:P a0) (h0:st=I a0) (hs:∀ a,P a→w (I a) (fun x s=>match x with
   | .nrm=>NextP P I μ a (norm m hl s)
   | x=>Q x s)):LoopP w m hl st Q
def fV:List V→(List V→Prop)→Prop
 | [],K=>K []
 | v::l,K=>fV l fun r=>K (v::r)
def fB:List B→(List B→Prop)→Prop
 | [],K=>K []
 | b::l,K=>fB l fun r=>K (b::r)
theorem Q23:∀ {l:List V} {K:List V→Prop},fV l K↔K l
 | [],K=>Iff.rfl
 | v::l,K=>by simp only [fV];exact Q23 (l:=l) (K:=fun r=>K (v::r))
theorem Q1w:∀ {l:List B} {K:List B→Prop},fB l K↔K l
 | [],K=>Iff.rfl
 | v::l,K=>by simp only [fB];exact Q1w (l:=l) (K:=fun r=>K (v::r))
def fW (v:V) (K:V→Prop):Prop :=
 match v with
 | .bool b=>K (.bool b)
 | .int k n=>K (.int k n)
 | .str s=>K (.str s)
 | .nilp=>K .nilp
 | .nilsl=>K .nilsl
 | .nilmap=>K .nilmap
 | .nilfn=>K .nilfn
 | .nilif=>K .nilif
 | .sl c n l=>K (.sl c n l)
 | .rp l n=>K (.rp l n)
 | .agg l=>K (.agg l)
 | .tup l=>K (.tup l)
 | .iface t v=>K (.iface t v)
 | .bf t v=>K (.bf t v)
 | .rm a b=>K (.rm a b)
 | .fn f l=>K (.fn f l)
 | .ref i g o=>K (.ref i g o)
 | .ms e i g o n c=>K (.ms e i g o n c)
 | .yld i=>K (.yld i)
 | .dead=>K .dead
 | .mr i=>K (.mr i)
 | .itr i m=>K (.itr i m)
 | .irr i=>K (.irr i)
 | .esl=>K .esl
theorem Q2k {v:V} {K:V→Prop}:fW v K↔K v:=by cases v<;>exact Iff.rfl
def fC:List V→(List V→Prop)→Prop
 | [],K=>K []
 | v::l,K=>fW v fun v=>fC l fun r=>K (v::r)
theorem Qiz:∀ {l:List V} {K:List V→Prop},fC l K↔K l
 | [],K=>Iff.rfl
 | v::l,K=>by simp only [fC,Q2k];exact Qiz (l:=l) (K:=fun r=>K (v::r))
def fEvs (tm:List V):List O→(List V→Prop)→Prop
 | [],K=>K []
 | x::l,K=>fW (x.ev tm) fun v=>fEvs tm l fun r=>K (v::r)
theorem Qf3 {tm:List V}:∀ {l:List O} {K:List V→Prop},fEvs tm l K↔K (evs tm l)
 | [],K=>Iff.rfl
 | x::l,K=>by simp only [fEvs,Q2k];exact Qf3 (l:=l) (K:=fun r=>K (x.ev tm::r))
def fLen:List B→Nat→(Nat→Prop)→Prop
 | [],n,K=>K n
 | _::l,n,K=>fLen l (n+1) K
theorem Q8p:∀ {l:List B} {n:Nat} {K:Nat→Prop},fLen l n K↔K (n+l.length)
 | [],n,K=>Iff.rfl
 | _::l,n,K=>by simp only [fLen];rw [Q8p (l:=l)];rw [List.length_cons,Nat.add_assoc,Nat.add_comm 1]
def fLv:List V→Nat→(Nat→Prop)→Prop
 | [],n,K=>K n
 | _::l,n,K=>fLv l (n+1) K
theorem Qrt:∀ {l:List V} {n:Nat} {K:Nat→Prop},fLv l n K↔K (n+l.length)
 | [],n,K=>Iff.rfl
 | _::l,n,K=>by simp only [fLv];rw [Qrt (l:=l)];rw [List.length_cons,Nat.add_assoc,Nat.add_comm 1]
def Q0h:List V→Nat→Option V
 | [],_=>none
 | v::_,0=>some v
 | _::l,n+1=>Q0h l n
def Qqw (k:IntKind) (op:BinOp) (x y:Int):Int :=
 let a:=BitVec.ofInt k.bits x
 let b:=BitVec.ofInt k.bits y
 k.wrap (match op with
  | .and=>a &&& b
  | .or=>a ||| b
  | .xor=>a ^^^ b
  | _=>a &&& ~~~b).toNat
section
variable (F:Nat→Option Fc) (md:Nat→Nat)
def Gives (ro:Nat) (fv:V) (args:List V) (h:List B) (v:V) (h':List B):Prop:=∃ n,∀ m,n≤m→Q07 F md ro (run F md m) fv args h=some (v,h')
inductive CallP (ro:Nat) (fv:V) (args:List V) (h:List B) (K:V→List B→Prop):Prop where
 | mk (v:V) (h':List B):Gives F md ro fv args h v h'→K v h'→CallP ro fv args h K
def RoOk (ro id:Nat) (P:Prop):Prop :=
 match ro with
 | 0=>P
 | n+1=>Req (n+1≤id) P
def wNew (ro:Nat) (h:List B) (id:Nat) (b:B) (K:List B→Prop):Prop :=
 RoOk ro id (Get (bget h id) fun
  | .unborn=>fB (bset h id b) K
  | _=>False)
def wRd (h:List B) (id g:Nat) (P:List V→Prop):Prop :=
 Get (bget h id) fun
  | .blk c _=>Req (c.length=g) (P c)
  | _=>False
def Qi4 (agg:Bool) (n off:Nat) (c:List V) (K:V→Prop):Prop :=
 match agg with
 | true=>Get (part c off n) fun r=>fV r fun r=>K (.agg r)
 | false=>if n=1 then Get (Q0h c off) K else False
def wSrc (es:Nat) (h:List B) (v:V) (P:Nat→List V→Prop):Prop :=
 match v with
 | .nilsl|.esl=>P 0 []
 | .sl _ len cs=>Req (cs.length=len*es) (P len cs)
 | .str s=>if es=1 then P s.length (ofBytes s) else False
 | .ms es' id g off len _=>if es'=es then wRd h id g fun c=>Get (part c off (len*es)) fun r=>P len r else False
 | _=>False
def Qju (op:BinOp) (k:IntKind) (a b:Int) (K:V→Prop):Prop :=
 match op with
 | .add=>Bnd (k.wrap (a+b)) fun r=>K (.int k r)
 | .sub=>Bnd (k.wrap (a-b)) fun r=>K (.int k r)
 | .mul=>Bnd (k.wrap (a*b)) fun r=>K (.int k r)
 | .quo=>Req (b≠0) (Bnd (k.wrap (a.tdiv b)) fun r=>K (.int k r))
 | .rem=>Req (b≠0) (Bnd (a.tmod b) fun r=>K (.int k r))
 | .and=>Bnd (Qqw k .and a b) fun r=>K (.int k r)
 | .or=>Bnd (Qqw k .or a b) fun r=>K (.int k r)
 | .xor=>Bnd (Qqw k .xor a b) fun r=>K (.int k r)
 | .andNot=>Bnd (Qqw k .andNot a b) fun r=>K (.int k r)
 | .eql=>K (.bool (decide (a=b)))
 | .neq=>K (.bool (!decide (a=b)))
 | .lss=>K (.bool (decide (a<b)))
 | .leq=>K (.bool (decide (a≤b)))
 | .gtr=>K (.bool (decide (b<a)))
 | .geq=>K (.bool (decide (b≤a)))
 | _=>False
def wBin (op:BinOp) (x y:V) (K:V→Prop):Prop :=
 match x,y with
 | .int k a,.int k' b=>match op with
  | .shl=>Req (0≤b) (Bnd (k.wrap (a*2 ^ (min b.toNat k.bits))) fun r=>K (.int k r))
  | .shr=>Req (0≤b) (Bnd (a.fdiv (2 ^ (min b.toNat k.bits))) fun r=>K (.int k r))
  | op=>if k=k' then Qju op k a b K else False
 | .str a,.str b=>Get (sop op a b) K
 | _,_=>False
def wMM (mx:Bool):V→List V→(V→Prop)→Prop
 | v,[],K=>K v
 | .int k x,.int k' y::l,K=>if k=k' then (match mx with
   | true=>Bnd (max x y) fun r=>wMM mx (.int k r) l K
   | false=>Bnd (min x y) fun r=>wMM mx (.int k r) l K) else False
 | _,_::_,_=>False
def Q3l (m d:Nat) (v:Option V) (P:Nat→Prop):Prop :=
 match v with
 | none=>P d
 | some v=>Idx m v P
def Q4w (ro id es bytes:Nat) (dat:Bool) (len n:Nat) (cs ys:List V) (h:List B) (K:V→List B→Prop):Prop :=
 Req ((cs.length+ys.length)*(bytes+1)<big) (Req (dat=true→scalars (cs++ys)=true)
  (wNew ro h id (.blk (cs++ys) dat) fun h=>K (.ms es id (cs.length+ys.length) 0 (len+n) false) h))
def wop (ro base:Nat) (tm:List V) (h:List B) (o:M) (K:V→List B→Prop):Prop :=
 match o with
 | .mv x=>K (x.ev tm) h
 | .pk c a b=>match c.ev tm with
  | .bool t=>Br t (K (a.ev tm) h) (K (b.ev tm) h)
  | _=>False
 | .al k z=>wNew ro h (base+k) (.blk z false) fun h=>K (.ref (base+k) z.length 0) h
 | .bx k x=>fC (x.ev tm).cells fun cs=>fLv cs 0 fun n=>Req (ones cs=true) (wNew ro h (base+k) (.blk cs false) fun h=>K (.ref (base+k) n 0) h)
 | .bd z ps=>Get (Q4r tm z ps) fun cs=>fC cs fun cs=>K (.agg cs) h
 | .bs len z ps=>Get (Q4r tm (reps len z) ps) fun cs=>Req (blos 0 cs=true) (fC cs fun cs=>K (.sl true len cs) h)
 | .bl k es len z ps=>Get (Q4r tm (reps len z) ps) fun cs=>fC cs fun cs=>(match blos 0 cs with
  | true=>K (.sl true len cs) h
  | false=>wNew ro h (base+k) (.blk cs false) fun h=>K (.ms es (base+k) (len*es) 0 len true) h)
 | .ld agg n x=>match x.ev tm with
  | .rp cs off=>Qi4 agg n off cs fun v=>K v h
  | .ref id g off=>wRd h id g fun c=>Qi4 agg n off c fun v=>K v h
  | _=>False
 | .st n a x=>match a.ev tm with
  | .ref id g off=>fC (x.ev tm).cells fun vs=>Req (vs.length=n∧ones vs=true) (RoOk ro id (Get (bget h id) fun
   | .blk c dat=>Req (c.length=g∧off+n≤c.length) (Req (dat=true→scalars vs=true) (fV (over c off vs) fun c'=>fB (bset h id (.blk c' dat)) fun h=>K .dead h))
   | _=>False))
  | _=>False
 | .nc x=>match x.ev tm with
  | .rp cs off=>K (.rp cs off) h
  | .ref id g off=>K (.ref id g off) h
  | .fn f cs=>K (.fn f cs) h
  | .iface t v=>K (.iface t v) h
  | .bf t v=>K (.bf t v) h
  | _=>False
 | .bo op x y=>wBin op (x.ev tm) (y.ev tm) fun v=>K v h
 | .eqv neg kd x y=>Get (eqv2 kd (x.ev tm) (y.ev tm)) fun e=>match neg with
  | true=>K (.bool (!e)) h
  | false=>K (.bool e) h
 | .eqs neg ks x y=>match x.ev tm,y.ev tm with
  | .agg xs,.agg ys=>Get (eqc ks xs ys) fun e=>match neg with
   | true=>K (.bool (!e)) h
   | false=>K (.bool e) h
  | _,_=>False
 | .un op x=>match op,x.ev tm with
  | .neg,.int k n=>Bnd (k.wrap (0-n)) fun r=>K (.int k r) h
  | .not,.bool b=>K (.bool (!b)) h
  | op,v=>Get (unop op v) fun v=>K v h
 | .ci k x=>match x.ev tm with
  | .int _ n=>Bnd (k.wrap n) fun r=>K (.int k r) h
  | _=>False
 | .cs x=>match x.ev tm with
  | .str s=>K (.str s) h
  | _=>False
 | .bts x=>match x.ev tm with
  | .str _=>False
  | v=>wSrc 1 h v fun _ cs=>Get (Q32 cs) fun s=>K (.str s) h
 | .stb x=>match x.ev tm with
  | .str s=>Req (s.length<big) (K (.sl false s.length (ofBytes s)) h)
  | _=>False
 | .mi t x=>fW (x.ev tm) fun v=>K (.iface t v) h
 | .mb f x=>fW (x.ev tm) fun v=>K (.bf f v) h
 | .mf f cs=>fEvs tm cs fun cs=>K (.fn f cs) h
 | .mk k es bytes dat z len cap=>Idx big (cap.ev tm) fun c=>Idx c (len.ev tm) fun l=>Req (c*(bytes+1)≤big) (Req (z.length=es∧(dat=true→scalars z=true))
   (wNew ro h (base+k) (.blk (reps l z) dat) fun h=>K (.ms es (base+k) (l*es) 0 l (decide (l=c))) h))
 | .ss es x lo hi mx=>match x.ev tm with
  | .nilsl=>Q3l 0 0 (evo tm mx) fun _=>Q3l 0 0 (evo tm hi) fun _=>Q3l 0 0 (evo tm lo) fun _=>K .nilsl h
  | .esl=>Q3l 0 0 (evo tm mx) fun _=>Q3l 0 0 (evo tm hi) fun _=>Q3l 0 0 (evo tm lo) fun _=>K (.sl mx.isSome 0 []) h
  | .sl clip len cs=>Q3l len len (evo tm mx) fun m=>Q3l m len (evo tm hi) fun hi=>Q3l hi 0 (evo tm lo) fun l=>Get (part cs (l*es) ((hi-l)*es)) fun r =>
    K (.sl (if mx.isSome then decide (hi=m) else clip&&decide (hi=len)) (hi-l) r) h
  | .ms es' id g off len clip=>if es'=es then Q3l len len (evo tm mx) fun m=>Q3l m len (evo tm hi) fun hi=>Q3l hi 0 (evo tm lo) fun l =>
    K (.ms es id g (off+l*es) (hi-l) (if mx.isSome then decide (hi=m) else clip&&decide (hi=len))) h else False
  | _=>False
 | .sst x lo hi=>match x.ev tm with
  | .str s=>Q3l s.length s.length (evo tm hi) fun hi=>Q3l hi 0 (evo tm lo) fun l=>K (.str ((s.drop l).take (hi-l))) h
  | _=>False
 | .sa es n x lo hi mx=>Q3l n n (evo tm mx) fun m=>Q3l m n (evo tm hi) fun hi=>Q3l hi 0 (evo tm lo) fun l=>match x.ev tm with
  | .ref id g off=>wRd h id g fun _=>Req (off+n*es≤g) (K (.ms es id g (off+l*es) (hi-l) (decide (hi=m))) h)
  | .rp cs off=>Get (part cs (off+l*es) ((hi-l)*es)) fun r=>K (.sl (decide (hi=m)) (hi-l) r) h
  | _=>False
 | .fa off x=>match x.ev tm with
  | .rp cs o=>K (.rp cs (o+off)) h
  | .ref id g o=>K (.ref id g (o+off)) h
  | _=>False
 | .fd off agg n x=>match x.ev tm with
  | .agg cs=>Qi4 agg n off cs fun v=>K v h
  | _=>False
 | .ia es x i=>match x.ev tm with
  | .sl _ len cs=>Req (0<len) (Idx (len-1) (i.ev tm) fun j=>K (.rp cs (j*es)) h)
  | .ms _ id g off len _=>Req (0<len) (Idx (len-1) (i.ev tm) fun j=>K (.ref id g (off+j*es)) h)
  | _=>False
 | .iaa es n x i=>match n with
  | 0=>False
  | m+1=>Idx m (i.ev tm) fun j=>match x.ev tm with
   | .rp cs o=>K (.rp cs (o+j*es)) h
   | .ref id g o=>K (.ref id g (o+j*es)) h
   | _=>False
 | .ixs x i=>match x.ev tm with
  | .str s=>Idx s.length (i.ev tm) fun j=>Get s[j]? fun b=>K (.int .u8 b.toNat) h
  | _=>False
 | .ixa es n agg x i=>match n with
  | 0=>False
  | m+1=>Idx m (i.ev tm) fun j=>match x.ev tm with
   | .agg cs=>Qi4 agg es (j*es) cs fun v=>K v h
   | _=>False
 | .ta t ok z x=>match x.ev tm with
  | .iface u v=>if u=t then (match ok with
    | true=>K (.tup [v,.bool true]) h
    | false=>K v h) else (match ok with
    | true=>K (.tup [z,.bool false]) h
    | false=>False)
  | .nilif=>match ok with
   | true=>K (.tup [z,.bool false]) h
   | false=>False
  | _=>False
 | .ex x i=>match x.ev tm with
  | .tup vs=>Get (Q0h vs i) fun v=>K v h
  | _=>False
 | .len st x=>match st,x.ev tm with
  | true,.str s=>K (.int .i64 s.length) h
  | false,.nilsl=>K (.int .i64 0) h
  | false,.esl=>K (.int .i64 0) h
  | false,.sl _ n _=>K (.int .i64 n) h
  | false,.ms _ _ _ _ n _=>K (.int .i64 n) h
  | _,_=>False
 | .app k es bytes dat x y=>if es=0 then False else wSrc es h (y.ev tm) fun n ys=>match x.ev tm with
  | .nilsl=>Req (bget h (base+k)=some .unborn) (Ifz n (K .nilsl h) (Q4w ro (base+k) es bytes dat 0 n [] ys h K))
  | .sl true len cs=>Req (cs.length=len*es∧bget h (base+k)=some .unborn) (Ifz n (K (.sl true len cs) h) (Q4w ro (base+k) es bytes dat len n cs ys h K))
  | .sl false len cs=>Req (n=0) (K (.sl false len cs) h)
  | .ms es' i g off len true=>if es'=es then Req (bget h (base+k)=some .unborn) (wRd h i g fun c=>Ifz n (K (.ms es i g off len true) h) (Get (part c off (len*es)) fun cs=>Q4w ro (base+k) es bytes dat len n cs ys h K)) else False
  | .ms es' i g off len false=>if es'=es then Get (bget h i) fun
   | .blk c dt=>Req (c.length=g) (Ifz n (K (.ms es i g off len false) h) (Req (off+len*es=g∧(c.length+ys.length)*(bytes+1)<big) (Req (dt=true→scalars ys=true)
     (RoOk ro i (fB (bset h i (.blk (c++ys) dt)) fun h=>K (.ms es i (g+ys.length) off (len+n) false) h)))))
   | _=>False else False
  | _=>False
 | .cpy es x y=>if es=0 then False else wSrc es h (y.ev tm) fun n ys=>match x.ev tm with
  | .nilsl=>K (.int .i64 0) h
  | .ms es' i g off len _=>if es'=es then Get (bget h i) fun
   | .blk c dt=>Req (c.length=g∧off+len*es≤g) (Req ((dt=true→scalars (ys.take (min n len*es))=true)∧ones (ys.take (min n len*es))=true)
     (RoOk ro i (fB (bset h i (.blk (over c off (ys.take (min n len*es))) dt)) fun h=>K (.int .i64 (min n len:Nat)) h)))
   | _=>False else False
  | _=>False
 | .mm mx xs=>match evs tm xs with
  | []=>False
  | v::l=>wMM mx v l fun v=>K v h
 | .pn=>False
 | .call f args=>fW (f.ev tm) fun fv=>fEvs tm args fun as=>CallP F md ro fv as h K
 | .nm k=>wNew ro h (base+k) (.mp [] []) fun h=>K (.mr (base+k)) h
 | .mu kd x key v=>match x.ev tm with
  | .mr id=>fW (key.ev tm) fun kv=>fW (v.ev tm) fun vv=>RoOk ro id (Get (bget h id) fun
   | .mp ks vs=>Get (Q0w kd kv ks 0) fun
    | some i=>fV (tset vs i vv) fun vs'=>fB (bset h id (.mp ks vs')) fun h=>K .dead h
    | none=>fV (ks++[kv]) fun ks'=>fV (vs++[vv]) fun vs'=>fB (bset h id (.mp ks' vs')) fun h=>K .dead h
   | .mq st ck ks vs=>Get (Q0w kd kv ks 0) fun
    | some i=>fV (tset vs i vv) fun vs'=>fB (bset h id (.mq st ck ks vs')) fun h=>K .dead h
    | none=>fV (ks++[kv]) fun ks'=>fV (vs++[vv]) fun vs'=>fB (bset h id (.mq (st++[ck]) (ck+1) ks' vs')) fun h=>K .dead h
   | _=>False)
  | _=>False
 | .lu kd ok zero x i=>match x.ev tm with
  | .mr id=>Get (bget h id) fun
   | .mp ks vs=>Get (Q0w kd (i.ev tm) ks 0) fun
    | some j=>fW (tg vs j) fun v=>(match ok with
     | true=>K (.tup [v,.bool true]) h
     | false=>K v h)
    | none=>(match ok with
     | true=>K (.tup [zero,.bool false]) h
     | false=>K zero h)
   | .mq _ _ ks vs=>Get (Q0w kd (i.ev tm) ks 0) fun
    | some j=>fW (tg vs j) fun v=>(match ok with
     | true=>K (.tup [v,.bool true]) h
     | false=>K v h)
    | none=>(match ok with
     | true=>K (.tup [zero,.bool false]) h
     | false=>K zero h)
   | _=>False
  | .nilmap=>Req (Q53 kd (i.ev tm)=true) (match ok with
   | true=>K (.tup [zero,.bool false]) h
   | false=>K zero h)
  | .rm ks vs=>Get (Q0w kd (i.ev tm) ks 0) fun
   | some j=>fW (tg vs j) fun v=>(match ok with
    | true=>K (.tup [v,.bool true]) h
    | false=>K v h)
   | none=>(match ok with
    | true=>K (.tup [zero,.bool false]) h
    | false=>K zero h)
  | _=>False
 | .ml x=>match x.ev tm with
  | .mr id=>Get (bget h id) fun
   | .mp ks _=>K (.int .i64 ks.length) h
   | .mq _ _ ks _=>K (.int .i64 ks.length) h
   | _=>False
  | .nilmap=>K (.int .i64 0) h
  | .rm ks _=>K (.int .i64 ks.length) h
  | _=>False
 | .me kd zero x key=>match x.ev tm with
  | .mr id=>fW (key.ev tm) fun kv=>Get (bget h id) fun
   | .mp ks vs=>Get (Q0w kd kv ks 0) fun
    | some i=>fW (tg vs i) fun v=>K (.tup [v,.int .i64 (i:Nat)]) h
    | none=>RoOk ro id (fV (ks++[kv]) fun ks'=>fV (vs++[zero]) fun vs'=>fB (bset h id (.mp ks' vs')) fun h=>K (.tup [zero,.int .i64 (ks.length:Nat)]) h)
   | _=>False
  | _=>False
 | .ez x stamp v=>match x.ev tm with
  | .mr id=>match stamp.ev tm with
   | .int .i64 n=>fW (v.ev tm) fun vv=>RoOk ro id (Get (bget h id) fun
    | .mp ks vs=>Req (0≤n∧n<(ks.length:Int)) (fV (tset vs n.toNat vv) fun vs'=>fB (bset h id (.mp ks vs')) fun h=>K .dead h)
    | _=>False)
   | _=>False
  | _=>False
 | .nq k=>wNew ro h (base+k) (.mq [] 0 [] []) fun h=>K (.mr (base+k)) h
 | .rg k x=>match x.ev tm with
  | .mr id=>RoOk ro (base+k) (Get (bget h (base+k)) fun
   | .unborn=>Get (bget h id) fun b=>Get b.ents fun e=>fB (bset h (base+k) (.it id e.2.1 e.2.1 [])) fun h=>K (.itr (base+k) id) h
   | _=>False)
  | .rm ks vs=>RoOk ro (base+k) (Get (bget h (base+k)) fun
   | .unborn=>fB (bset h (base+k) (.ir ks vs [])) fun h=>K (.irr (base+k)) h
   | _=>False)
  | _=>False
 | .nx _=>False
 | .en x=>match x.ev tm with
  | .itr id m=>Get (bget h id) fun a=>Get (bget h m) fun b=>Get (mcur m [a,b]) fun r=>fW r.1 fun v=>K v h
  | .irr id=>Get (bget h id) fun a=>Get (Qcr [a]) fun r=>fW r.1 fun v=>K v h
  | _=>False
 | .dl kd x key=>match x.ev tm with
  | .mr id=>fW (key.ev tm) fun kv=>RoOk ro id (Get (bget h id) fun
   | .mq st ck ks vs=>Get (Q0w kd kv ks 0) fun
    | some i=>fV (ks.eraseIdx i) fun ks'=>fV (vs.eraseIdx i) fun vs'=>fB (bset h id (.mq (st.eraseIdx i) ck ks' vs')) fun h=>K (.tup []) h
    | none=>fB (bset h id (.mq st ck ks vs)) fun h=>K (.tup []) h
   | _=>False)
  | _=>False
def srcR:V→List Nat
 | .ms _ id _ _ _ _=>[id]
 | _=>[]
def fpRd:V→Fp
 | .ms _ id _ _ _ _=>.some [id] none
 | _=>.no
def fpApp (new:Nat) (x y:V):Fp :=
 match x with
 | .nilsl|.sl true _ _=>.some (new::srcR y) (some new)
 | .ms _ i _ _ _ true=>.some (new::i::srcR y) (some new)
 | .ms _ i _ _ _ false=>.some (i::srcR y) (some i)
 | _=>fpRd y
def fpCpy (x y:V):Fp :=
 match x with
 | .ms _ i _ _ _ _=>.some (i::srcR y) (some i)
 | _=>fpRd y
def fpM (base:Nat) (tm:List V):M→Fp
 | .al k _|.bx k _|.mk k _ _ _ _ _ _|.nm k|.nq k=>.some [base+k] (some (base+k))
 | .bl k _ len z ps=>match Q4r tm (reps len z) ps with
  | some cs=>if blos 0 cs then .no else .some [base+k] (some (base+k))
  | none=>.no
 | .ld _ _ x=>match x.ev tm with
  | .ref id _ _=>.some [id] none
  | _=>.no
 | .st _ a _=>match a.ev tm with
  | .ref id _ _=>.some [id] (some id)
  | _=>.no
 | .bts x=>match x.ev tm with
  | .ms _ id _ _ _ _=>.some [id] none
  | _=>.no
 | .sa _ _ x _ _ _=>match x.ev tm with
  | .ref id _ _=>.some [id] none
  | _=>.no
 | .rg k x=>match x.ev tm with
  | .mr id=>.some [base+k,id] (some (base+k))
  | .rm _ _=>.some [base+k] (some (base+k))
  | _=>.no
 | .en x=>match x.ev tm with
  | .itr id m=>.some [id,m] none
  | .irr id=>.some [id] none
  | _=>.no
 | .mu _ x _ _|.me _ _ x _|.ez x _ _|.dl _ x _=>match x.ev tm with
  | .mr id=>.some [id] (some id)
  | _=>.no
 | .lu _ _ _ x _|.ml x=>match x.ev tm with
  | .mr id=>.some [id] none
  | _=>.no
 | .app k _ _ _ x y=>fpApp (base+k) (x.ev tm) (y.ev tm)
 | .cpy _ x y=>fpCpy (x.ev tm) (y.ev tm)
 | _=>.no
def fpS (base:Nat) (tm:List V) (o:M):Fp :=
 match o with
 | .call f args=>match mode md (f.ev tm) (evs tm args) with
  | 0=>if blos 0 (f.ev tm::evs tm args) then .no else .vws
  | 2=>.rds
  | _=>.all
 | o=>match Qb3 base o with
  | some i=>.new i
  | none=>fpM base tm o
def wPut (d:Option Nat) (tm:List V) (v:V) (K:List V→Prop):Prop :=
 match d with
 | some d=>fW v fun v=>fV (tset tm d v) K
 | none=>K tm
def wG (ro base:Nat) (tm:List V) (h:List B) (d:Option Nat) (g:Option (Nat × Bool)) (o:M) (K:List V→List B→Fp→Prop):Prop :=
 match g with
 | none=>wop F md ro base tm h o fun v h'=>wPut d tm v fun tm'=>K tm' h' (fpS md base tm o)
 | some (s,want)=>match tg tm s with
  | .bool b=>match want with
   | true=>Br b (wop F md ro base tm h o fun v h'=>wPut d tm v fun tm'=>K tm' h' (fpS md base tm o)) (wPut d tm (.tup []) fun tm'=>K tm' h .no)
   | false=>Br b (wPut d tm (.tup []) fun tm'=>K tm' h .no) (wop F md ro base tm h o fun v h'=>wPut d tm v fun tm'=>K tm' h' (fpS md base tm o))
  | .tup []=>wPut d tm (.tup []) fun tm'=>K tm' h .no
  | _=>False
def wOps (ro base:Nat):List G→List V→List B→(List V→List B→Prop)→Prop
 | [],tm,h,K=>K tm h
 | ⟨d,g,_,o⟩::l,tm,h,K=>wG F md ro base tm h d g o fun tm' h' _=>wOps ro base l tm' h' K
def Qsg (ro base:Nat):Nat→List (Nat × Fp)→List G→List V→List B→(List V→List B→Prop)→Prop
 | _,_,[],tm,h,K=>K tm h
 | i,seen,⟨d,g,b,o⟩::l,tm,h,K=>wG F md ro base tm h d g o fun tm' h' fp=>match Q6y fp b seen with
  | true=>Qsg ro base (i+1) ((i,fp)::seen) l tm' h' K
  | false=>False
def wp (ro:Nat):MC→St→(X→St→Prop)→Prop
 | .skip,st,Q=>Q .nrm st
 | .exit id,st,Q=>Q (.exit id) st
 | .ret,st,Q=>Q .ret st
 | .seq a b,st,Q=>wp ro a st fun x s=>match x with
  | .nrm=>wp ro b s Q
  | x=>Q x s
 | .cond x a b,⟨tm,h⟩,Q=>match x.ev tm with
  | .bool t=>Br t (wp ro a ⟨tm,h⟩ Q) (wp ro b ⟨tm,h⟩ Q)
  | _=>False
 | .block id c,st,Q=>wp ro c st fun x s=>match x with
  | .exit i=>if i=id then Q .nrm s else Q (.exit i) s
  | x=>Q x s
 | .loop c,⟨tm,h⟩,Q=>LoopP (wp ro c) (Q4t tm) h.length ⟨tm,h⟩ Q
 | .lp _ _ _,_,_=>False
 | .kn _ _,_,_=>False
 | .reg draw na ops,⟨tm,h⟩,Q=>fLen h 0 fun base=>fB (if na=0 then h else h++Q0r na) fun h=>match draw with
  | true=>Qsg F md ro base 0 [] ops tm h fun tm h=>Q .nrm ⟨tm,h⟩
  | false=>wOps F md ro base ops tm h fun tm h=>Q .nrm ⟨tm,h⟩
 | .rf x ps asg body,⟨tm,h⟩,Q=>match x.ev tm with
  | .fn f cs=>fLen h 0 fun base=>CallP F md ro (.fn f cs) [.yld base] (h++[.lop true .nrm tm ps asg body]) fun _ h'=>match bget h' base with
   | some (.lop r x _ _ _ _)=>match Qcg r x with
    | some x=>fB (bset h' base (.lop false .nrm tm ps asg body)) fun h=>Q x ⟨tm,h⟩
    | none=>False
   | _=>False
  | _=>False
end
end Go.Dr
namespace Go.Dr
def fpP (p:Pl):Fp :=
 match p.rs,p.w with
 | [],none=>.no
 | rs,w=>.some rs w
def Qc0 (ro:Nat) (h:List B) (op:Option Pl) (K:V→List B→Prop) (fp:Fp):Prop :=
 ∃ p v h',op=some p∧p.go ro h=some (v,h')∧K v h'∧fpP p=fp
variable {ro:Nat} {h:List B} {K:V→List B→Prop}
theorem Q2l {id:Nat} {P:Prop} (hw:RoOk ro id P):ro≤id∧P:=by
 unfold RoOk at hw
 split at hw
 ·exact ⟨Nat.zero_le _,hw⟩
 ·obtain ⟨h1,h2⟩:=hw;exact ⟨h1,h2⟩
theorem Qjr {id:Nat} {b:B} {P:List B→Prop} (hw:wNew ro h id b P):bget h id=some .unborn∧ro≤id∧P (bset h id b):=by
 obtain ⟨h1,⟨b0,h2,h3⟩⟩:=Q2l hw
 split at h3
 ·exact ⟨h2,h1,Q1w.1 h3⟩
 ·exact h3.elim
theorem Qfx {id g:Nat} {P:List V→Prop} (hw:wRd h id g P):∃ c dat,bget h id=some (.blk c dat)∧c.length=g∧P c:=by
 obtain ⟨b0,h2,h3⟩:=hw
 split at h3
 ·obtain ⟨h4,h5⟩:=h3;exact ⟨_,_,h2,h4,h5⟩
 ·exact h3.elim
theorem Qgr:∀ {c:List V} {off:Nat} {v:V},Q0h c off=some v→part c off 1=some [v]
 | [],_,_,e=>by simp [Q0h] at e
 | x::c,0,v,e=>by simp only [Q0h,jA] at e;subst e;simp [part,Q5a,Q6j]
 | x::c,n+1,v,e=>by
  have:=Qgr (c:=c) (off:=n) (v:=v) (by simpa [Q0h] using e)
  simp only [part,Q6j] at this ⊢;exact this
theorem Q73 {agg:Bool} {n off:Nat} {c:List V} {P:V→Prop} (hw:Qi4 agg n off c P):∃ v,Q10 agg n off c=some v∧P v:=by
 unfold Qi4 at hw
 split at hw
 ·obtain ⟨r,h1,h2⟩:=hw
  exact ⟨.agg r,by simp [Q10,h1],Q23.1 h2⟩
 ·split at hw
  ·rename_i hn
   obtain ⟨r,h1,h2⟩:=hw
   exact ⟨r,by simp [Q10,hn,Qgr h1],h2⟩
  ·exact hw.elim
theorem Qdw {es:Nat} {v:V} {P:Nat→List V→Prop} (hw:wSrc es h v P):∃ n f bs ys,src es v=some (srcR v,n,f)∧Q0n h (srcR v)=some bs∧f bs=some ys∧P n ys:=by
 unfold wSrc at hw
 split at hw
 ·exact ⟨0,_,[],[],rfl,rfl,rfl,hw⟩
 ·exact ⟨0,_,[],[],rfl,rfl,rfl,hw⟩
 ·obtain ⟨h1,h2⟩:=hw
  exact ⟨_,fun _=>some _,[],_,by simp [src,h1,srcR],rfl,rfl,h2⟩
 ·split at hw
  ·rename_i hes
   exact ⟨_,fun _=>some _,[],_,by simp [src,hes,srcR],rfl,rfl,hw⟩
  ·exact hw.elim
 ·split at hw
  ·rename_i hes
   obtain ⟨c,dat,h1,h2,⟨r,h3,h4⟩⟩:=Qfx hw
   exact ⟨_,_,[.blk c dat],r,by simp only [src,hes,if_true,srcR];rfl,by simp [srcR,Q0n,h1],by simp [h2,h3],h4⟩
  ·exact hw.elim
 ·exact hw.elim
theorem Qjt {op:BinOp} {k:IntKind} {a b:Int} {P:V→Prop} (hw:Qju op k a b P):∃ v,ari op k a b=some v∧P v:=by
 unfold Qju at hw
 split at hw
 ·obtain ⟨h1⟩:=hw;exact ⟨_,rfl,h1 _ rfl⟩
 ·obtain ⟨h1⟩:=hw;exact ⟨_,rfl,h1 _ rfl⟩
 ·obtain ⟨h1⟩:=hw;exact ⟨_,rfl,h1 _ rfl⟩
 ·obtain ⟨h0,⟨h1⟩⟩:=hw;exact ⟨_,by simp only [ari,h0,if_false],h1 _ rfl⟩
 ·obtain ⟨h0,⟨h1⟩⟩:=hw;exact ⟨_,by simp only [ari,h0,if_false],h1 _ rfl⟩
 ·obtain ⟨h1⟩:=hw;exact ⟨_,rfl,h1 _ rfl⟩
 ·obtain ⟨h1⟩:=hw;exact ⟨_,rfl,h1 _ rfl⟩
 ·obtain ⟨h1⟩:=hw;exact ⟨_,rfl,h1 _ rfl⟩
 ·obtain ⟨h1⟩:=hw;exact ⟨_,rfl,h1 _ rfl⟩
 ·exact ⟨_,rfl,hw⟩
 ·exact ⟨_,rfl,hw⟩
 ·exact ⟨_,rfl,hw⟩
 ·exact ⟨_,rfl,hw⟩
 ·exact ⟨_,rfl,hw⟩
 ·exact ⟨_,rfl,hw⟩
 ·exact hw.elim
theorem Qsh {op:BinOp} {x y:V} {P:V→Prop} (hw:wBin op x y P):∃ v,Q6q op x y=some v∧P v:=by
 unfold wBin at hw
 split at hw
 ·split at hw
  ·obtain ⟨h0,⟨h1⟩⟩:=hw;exact ⟨_,by simp only [Q6q,shf,Int.not_lt.2 h0,if_false],h1 _ rfl⟩
  ·obtain ⟨h0,⟨h1⟩⟩:=hw;exact ⟨_,by simp only [Q6q,shf,Int.not_lt.2 h0,if_false],h1 _ rfl⟩
  ·rename_i hn1 hn2
   split at hw
   ·rename_i hk
    obtain ⟨v,h1,h2⟩:=Qjt hw
    refine ⟨v,?_,h2⟩
    cases op<;>first|(exfalso;exact hn1 rfl)|(exfalso;exact hn2 rfl)|(simp only [Q6q,hk,if_true];rw [← hk];exact h1)
   ·exact hw.elim
 ·obtain ⟨v,h1,h2⟩:=hw;exact ⟨v,h1,h2⟩
 ·exact hw.elim
theorem Qjs {mx:Bool}:∀ {l:List V} {v:V} {P:V→Prop},wMM mx v l P→∃ r,maxs mx v l=some r∧P r
 | [],v,P,hw=>⟨v,by simp [maxs],by cases v<;>exact hw⟩
 | y::l,v,P,hw=>by
  cases v with
  | int k x=>cases y with
   | int k' y =>
    cases mx with
    | true =>
     simp only [wMM] at hw
     split at hw
     ·rename_i hk
      subst hk
      obtain ⟨h1⟩:=hw
      obtain ⟨r,h2,h3⟩:=Qjs (h1 _ rfl)
      refine ⟨r,?_,h3⟩
      simp only [maxs,if_true]
      rw [← h2]
      congr 2
      split<;>omega
     ·exact hw.elim
    | false =>
     simp only [wMM] at hw
     split at hw
     ·rename_i hk
      subst hk
      obtain ⟨h1⟩:=hw
      obtain ⟨r,h2,h3⟩:=Qjs (h1 _ rfl)
      refine ⟨r,?_,h3⟩
      simp only [maxs,if_true,Bool.false_eq_true,if_false]
      rw [← h2]
      congr 2
      split<;>omega
     ·exact hw.elim
   | _=>simp [wMM] at hw
  | _=>simp [wMM] at hw
theorem Q18 {m d:Nat} {v:Option V} {P:Nat→Prop} (hw:Q3l m d v P):∃ j,nato m d v=some j∧P j:=by
 unfold Q3l at hw
 split at hw
 ·exact ⟨_,rfl,hw⟩
 ·obtain ⟨j,h1,h2⟩:=hw;exact ⟨j,h1,h2⟩
theorem Q1e {v:V} (hk:K v h):Qc0 ro h (some (.val v)) K .no:=⟨_,v,h,rfl,rfl,hk,rfl⟩
theorem Qjc {id:Nat} {v:V} {b:B} (hw:wNew ro h id b fun h=>K v h):Qc0 ro h (some (.new id v b)) K (.some [id] (some id)):=by
 obtain ⟨h1,h2,h3⟩:=Qjr hw
 exact ⟨_,v,_,rfl,by simp [Pl.go,Pl.new,Q0n,h1,h2],h3,rfl⟩
theorem D_rd {id g:Nat} {k:List V→Option V} (hw:wRd h id g fun c=>∃ v,k c=some v∧K v h):Qc0 ro h (some (.rd id g k)) K (.some [id] none):=by
 obtain ⟨c,dat,h1,h2,v,h3,h4⟩:=Qfx hw
 exact ⟨_,v,h,rfl,by simp [Pl.go,Pl.rd,Q0n,h1,h2,h3],h4,rfl⟩
theorem Q64 {o:Option V} {v:V} (ho:o=some v) (hk:K v h):Qc0 ro h (val? o) K .no:=by subst ho;exact Q1e hk
theorem Qoe {id g:Nat} {P Q:List V→Prop} (hw:wRd h id g P) (hpq:∀ c,P c→Q c):wRd h id g Q:=by
 obtain ⟨b,h1,h2⟩:=hw
 refine ⟨b,h1,?_⟩
 split at h2
 ·obtain ⟨h3,h4⟩:=h2;exact ⟨h3,hpq _ h4⟩
 ·exact h2.elim
theorem Q9b {id es bytes len n:Nat} {dat:Bool} {cs ys:List V} (hw:Q4w ro id es bytes dat len n cs ys h K) :
  bget h id=some .unborn∧ro≤id∧∃ v b,Q3z id es bytes dat len n cs ys=some (v,some b)∧K v (bset h id b):=by
 obtain ⟨h1,⟨h2,h3⟩⟩:=hw
 obtain ⟨q1,q2,q3⟩:=Qjr h3
 refine ⟨q1,q2,_,_,?_,q3⟩
 unfold Q3z
 rw [if_pos]
 have:(!dat||scalars (cs++ys))=true:=by
  cases dat with
  | false=>rfl
  | true=>simpa using h2 rfl
 rw [this];simpa using h1
theorem Q0q {i:Nat} {l:List Nat} {b:B} {bs:List B} (h1:bget h i=some b) (h2:Q0n h l=some bs):Q0n h (i::l)=some (b::bs):=by simp [Q0n,h1,h2]
theorem Qsc {base k es bytes:Nat} {dat:Bool} {x y:V} (_hes:¬ es=0) (hw:wSrc es h y fun n ys=>match x with
  | .nilsl=>Req (bget h (base+k)=some .unborn) (Ifz n (K .nilsl h) (Q4w ro (base+k) es bytes dat 0 n [] ys h K))
  | .sl true len cs=>Req (cs.length=len*es∧bget h (base+k)=some .unborn) (Ifz n (K (.sl true len cs) h) (Q4w ro (base+k) es bytes dat len n cs ys h K))
  | .sl false len cs=>Req (n=0) (K (.sl false len cs) h)
  | .ms es' i g off len true=>if es'=es then Req (bget h (base+k)=some .unborn) (wRd h i g fun c=>Ifz n (K (.ms es i g off len true) h) (Get (part c off (len*es)) fun cs=>Q4w ro (base+k) es bytes dat len n cs ys h K)) else False
  | .ms es' i g off len false=>if es'=es then Get (bget h i) fun
   | .blk c dt=>Req (c.length=g) (Ifz n (K (.ms es i g off len false) h) (Req (off+len*es=g∧(c.length+ys.length)*(bytes+1)<big) (Req (dt=true→scalars ys=true)
     (RoOk ro i (fB (bset h i (.blk (c++ys) dt)) fun h=>K (.ms es i (g+ys.length) off (len+n) false) h)))))
   | _=>False else False
  | _=>False):Qc0 ro h (Qay (base+k) es bytes dat x y) K (fpApp (base+k) x y):=by
 obtain ⟨n,f,bs,ys,s1,s2,s3,hw⟩:=Qdw hw
 unfold Qay
 simp only [s1]
 split at hw
 ·obtain ⟨hu,hi⟩:=hw
  obtain ⟨h1,h2⟩:=hi
  by_cases hn:n=0
  ·exact ⟨_,.nilsl,h,rfl,by simp only [Pl.go,Q0q hu s2,s3,hn,if_true],h1 hn,rfl⟩
  ·obtain ⟨q1,q2,v,b,q3,q4⟩:=Q9b (h2 hn)
   exact ⟨_,v,_,rfl,by simp only [Pl.go,Q0q hu s2,s3,hn,if_false,q3,q2,if_true],q4,rfl⟩
 ·obtain ⟨⟨hc,hu⟩,hi⟩:=hw
  obtain ⟨h1,h2⟩:=hi
  simp only [hc,if_true]
  by_cases hn:n=0
  ·exact ⟨_,_,h,rfl,by simp only [Pl.go,Q0q hu s2,s3,hn,if_true],h1 hn,rfl⟩
  ·obtain ⟨q1,q2,v,b,q3,q4⟩:=Q9b (h2 hn)
   exact ⟨_,v,_,rfl,by simp only [Pl.go,Q0q hu s2,s3,hn,if_false,q3,q2,if_true],q4,rfl⟩
 ·obtain ⟨hn,h1⟩:=hw
  simp only [hn,if_true]
  refine ⟨_,_,h,rfl,by simp only [Pl.go,s2,s3],h1,?_⟩
  cases y<;>rfl
 ·rename_i es' i g off len
  split at hw
  ·rename_i he
   obtain ⟨hu,hw⟩:=hw
   obtain ⟨c,dt,h1,h2,⟨h3,h4⟩⟩:=Qfx hw
   simp only [he,if_true]
   by_cases hn:n=0
   ·exact ⟨_,_,h,rfl,by simp only [Pl.go,Q0q hu (Q0q h1 s2),s3,h2,if_true,hn],h3 hn,rfl⟩
   ·obtain ⟨cs,hcs,h5⟩:=h4 hn
    obtain ⟨q1,q2,v,b,q3,q4⟩:=Q9b h5
    exact ⟨_,v,_,rfl,by simp only [Pl.go,Q0q hu (Q0q h1 s2),s3,h2,if_true,hn,if_false,hcs,q3,q2],q4,rfl⟩
  ·exact hw.elim
 ·rename_i es' i g off len
  split at hw
  ·rename_i he
   obtain ⟨b,h1,h2⟩:=hw
   simp only [he,if_true]
   split at h2
   ·obtain ⟨h3,⟨h4,h5⟩⟩:=h2
    by_cases hn:n=0
    ·exact ⟨_,_,h,rfl,by simp only [Pl.go,Q0q h1 s2,s3,h3,if_true,hn],h4 hn,rfl⟩
    ·obtain ⟨⟨h6,h7⟩,⟨h8,h9⟩⟩:=h5 hn
     obtain ⟨h10,h11⟩:=Q2l h9
     refine ⟨_,_,_,rfl,?_,Q1w.1 h11,rfl⟩
     rename_i c dt
     have hd:(!dt||scalars ys)=true:=by
      cases dt with
      | false=>rfl
      | true=>simpa using h8 rfl
     simp only [Pl.go,Q0q h1 s2,s3,h3,if_true,hn,if_false]
     rw [if_pos (by rw [hd];simp only [Bool.and_true,jG,jF];rw [← h3];exact ⟨by omega,h7⟩)]
     simp only [h10,if_true]
   ·exact h2.elim
  ·exact hw.elim
 ·exact hw.elim
theorem Qia (n:Nat) (l:List V):Q5a n l=l.take n:=by
 induction n generalizing l with
 | zero=>simp [Q5a]
 | succ n ih=>cases l<;>simp [Q5a,ih]
theorem Qsb {es:Nat} {x y:V} (hw:wSrc es h y fun n ys=>match x with
  | .nilsl=>K (.int .i64 0) h
  | .ms es' i g off len _=>if es'=es then Get (bget h i) fun
   | .blk c dt=>Req (c.length=g∧off+len*es≤g) (Req ((dt=true→scalars (ys.take (min n len*es))=true)∧ones (ys.take (min n len*es))=true)
     (RoOk ro i (fB (bset h i (.blk (over c off (ys.take (min n len*es))) dt)) fun h=>K (.int .i64 (min n len:Nat)) h)))
   | _=>False else False
  | _=>False):Qc0 ro h (Qax es x y) K (fpCpy x y):=by
 obtain ⟨n,f,bs,ys,s1,s2,s3,hw⟩:=Qdw hw
 unfold Qax
 simp only [s1]
 split at hw
 ·refine ⟨_,_,h,rfl,by simp only [Pl.go,s2,s3],hw,?_⟩
  cases y<;>rfl
 ·rename_i es' i g off len clip _
  split at hw
  ·rename_i he
   obtain ⟨b,h1,h2⟩:=hw
   simp only [he,if_true]
   split at h2
   ·obtain ⟨⟨h3,h4⟩,⟨⟨h5,h6⟩,h7⟩⟩:=h2
    obtain ⟨h10,h11⟩:=Q2l h7
    refine ⟨_,_,_,rfl,?_,Q1w.1 h11,rfl⟩
    rename_i c dt
    simp only [Pl.go,Q0q h1 s2,s3,Qia]
    have hd:(!dt||scalars (ys.take (min n len*es)))=true:=by
     cases dt with
     | false=>rfl
     | true=>simpa using h5 rfl
    rw [if_pos (by rw [hd,h6,h3];simpa using h4)]
    simp only [h10,if_true]
   ·exact h2.elim
  ·exact hw.elim
 ·exact hw.elim
theorem Qdg:∀ {l:List V} {i:Nat} {v:V},Q0h l i=some v→i<l.length∧tg l i=v
 | [],_,_,e=>by simp [Q0h] at e
 | x::l,0,v,e=>by simp only [Q0h,jA] at e;subst e;exact ⟨by simp,rfl⟩
 | x::l,n+1,v,e=>by
  obtain ⟨h1,h2⟩:=Qdg (l:=l) (i:=n) (by simpa [Q0h] using e)
  exact ⟨by simp;omega,by simpa [tg] using h2⟩
variable {F:Nat→Option Fc} {md:Nat→Nat} {base:Nat} {tm:List V}
theorem wop_ok:∀ (o:M),(∀ f as,o≠.call f as)→wop F md ro base tm h o K→Qc0 ro h (plan base tm o) K (fpM base tm o):=by
 intro o hn hw
 cases o with
 | call f as=>exact absurd rfl (hn f as)
 | mv x=>exact Q1e hw
 | pk c a b =>
  simp only [wop] at hw
  simp only [plan,fpM]
  generalize c.ev tm=vc at hw ⊢
  cases vc<;>try exact hw.elim
  obtain ⟨h1,h2⟩:=hw
  rename_i t
  cases t with
  | true=>exact Q1e (h1 rfl)
  | false=>exact Q1e (h2 rfl)
 | al k z=>exact Qjc hw
 | bx k x =>
  have hw:=Qrt.1 (Qiz.1 hw)
  obtain ⟨h1,h2⟩:=hw
  simp only [Nat.zero_add] at h2
  simp only [plan,h1,if_true]
  exact Qjc h2
 | bd z ps =>
  obtain ⟨cs,h1,h2⟩:=hw
  exact Q64 (by simp [h1]) (Qiz.1 h2)
 | bs len z ps =>
  obtain ⟨cs,h1,⟨h2,h3⟩⟩:=hw
  simp only [plan,h1,h2,if_true]
  exact Q1e (Qiz.1 h3)
 | bl k es len z ps =>
  obtain ⟨cs,h1,h2⟩:=hw
  replace h2:=Qiz.1 h2
  simp only [plan,fpM,h1]
  cases hb:blos 0 cs with
  | true=>rw [hb] at h2;simp only [if_true];exact Q1e h2
  | false=>rw [hb] at h2;exact Qjc h2
 | ld agg n x =>
  simp only [wop] at hw
  simp only [plan,fpM]
  generalize x.ev tm=vx at hw ⊢
  cases vx<;>try exact hw.elim
  ·obtain ⟨v,h1,h2⟩:=Q73 hw
   exact Q64 h1 h2
  ·exact D_rd (Qoe hw fun c hc=>Q73 hc)
 | st n a x =>
  simp only [wop] at hw
  simp only [plan,fpM]
  generalize a.ev tm=va at hw ⊢
  cases va<;>try exact hw.elim
  rename_i id g off
  obtain ⟨⟨h1,h2⟩,h3⟩:=Qiz.1 hw
  obtain ⟨h4,⟨b,h5,h6⟩⟩:=Q2l h3
  cases b<;>try exact h6.elim
  rename_i c dat
  obtain ⟨⟨h7,h8⟩,⟨h9,h10⟩⟩:=h6
  have h11:=Q1w.1 (Q23.1 h10)
  have hd:(!dat||scalars (x.ev tm).cells)=true:=by
   cases dat with
   | false=>rfl
   | true=>simpa using h9 rfl
  simp only [h1,h2,decide_true,Bool.and_self,if_true]
  refine ⟨Pl.wr id g (x.ev tm).cells fun c=>if off+n≤c.length then some (.dead,over c off (x.ev tm).cells) else none,_,_,rfl,?_,h11,rfl⟩
  simp only [Pl.go,Pl.wr,Q0n,h5,h7,hd,decide_true,Bool.and_self,if_true]
  rw [h7] at h8
  simp only [h8,if_true,Option.map_some,h4]
 | nc x =>
  simp only [wop] at hw
  simp only [plan,fpM]
  generalize x.ev tm=vx at hw ⊢
  cases vx<;>first|exact hw.elim|exact Q1e hw
 | bo op x y =>
  simp only [wop] at hw
  obtain ⟨v,h1,h2⟩:=Qsh hw
  exact Q64 h1 h2
 | eqv neg kd x y =>
  obtain ⟨e,h1,h2⟩:=hw
  simp only [plan,h1,fpM]
  cases neg<;>exact Q1e h2
 | eqs neg ks x y =>
  simp only [wop] at hw
  simp only [plan,fpM]
  generalize x.ev tm=vx at hw ⊢
  generalize y.ev tm=vy at hw ⊢
  cases vx<;>try exact hw.elim
  cases vy<;>try exact hw.elim
  obtain ⟨e,h1,h2⟩:=hw
  simp only [h1]
  cases neg<;>exact Q1e h2
 | un op x =>
  simp only [wop] at hw
  simp only [plan,fpM]
  generalize x.ev tm=vx at hw ⊢
  split at hw
  ·obtain ⟨h1⟩:=hw
   exact Q64 rfl (h1 _ rfl)
  ·exact Q64 rfl hw
  ·obtain ⟨v,h1,h2⟩:=hw
   exact Q64 h1 h2
 | ci k x =>
  simp only [wop] at hw
  simp only [plan,fpM]
  generalize x.ev tm=vx at hw ⊢
  cases vx<;>try exact hw.elim
  obtain ⟨h1⟩:=hw
  exact Q1e (h1 _ rfl)
 | cs x =>
  simp only [wop] at hw
  simp only [plan,fpM]
  generalize x.ev tm=vx at hw ⊢
  cases vx<;>try exact hw.elim
  exact Q1e hw
 | bts x =>
  simp only [wop] at hw
  simp only [plan,fpM]
  generalize x.ev tm=vx at hw ⊢
  have key:wSrc 1 h vx (fun _ cs=>Get (Q32 cs) fun s=>K (.str s) h)→(∀ s,vx≠.str s)→Qc0 ro h (match src 1 vx with
    | some (rs,_,f)=>match vx with
     | .str _=>none
     | _=>some ⟨rs,none,fun bs=>match f bs with
      | none=>none
      | some cs=>match Q32 cs with
       | none=>none
       | some s=>some (.str s,none)⟩
    | none=>none) K (match vx with
    | .ms _ id _ _ _ _=>.some [id] none
    | _=>.no):=by
   intro hw hns
   obtain ⟨n,f,bs,ys,s1,s2,s3,⟨s,h1,h2⟩⟩:=Qdw hw
   simp only [s1]
   have:Qc0 ro h (some ⟨srcR vx,none,fun bs=>match f bs with
     | none=>none
     | some cs=>match Q32 cs with
      | none=>none
      | some s=>some (.str s,none)⟩) K (match vx with
    | .ms _ id _ _ _ _=>.some [id] none
    | _=>.no):=by
    refine ⟨_,_,h,rfl,by simp only [Pl.go,s2,s3,h1],h2,?_⟩
    cases vx<;>rfl
   cases vx<;>first|exact absurd rfl (hns _)|exact this
  cases vx<;>first|exact hw.elim|exact key hw (by simp)
 | stb x =>
  simp only [wop] at hw
  simp only [plan,fpM]
  generalize x.ev tm=vx at hw ⊢
  cases vx<;>try exact hw.elim
  obtain ⟨h1,h2⟩:=hw
  simp only [h1,if_true]
  exact Q1e h2
 | mi t x =>
  simp only [wop] at hw
  exact Q1e (Q2k.1 hw)
 | mb t x =>
  simp only [wop] at hw
  exact Q1e (Q2k.1 hw)
 | mf f cs =>
  simp only [wop] at hw
  exact Q1e (Qf3.1 hw)
 | mk k es bytes dat z len cap =>
  obtain ⟨c,h1,⟨l,h2,⟨h3,⟨⟨h4,h5⟩,h6⟩⟩⟩⟩:=hw
  simp only [plan,h1,h2,fpM]
  have hd:(!dat||scalars z)=true:=by
   cases dat with
   | false=>rfl
   | true=>simpa using h5 rfl
  rw [if_pos (by rw [hd];simp [h3,h4])]
  exact Qjc h6
 | ss es x lo hi mx =>
  simp only [wop] at hw
  simp only [plan,fpM]
  generalize x.ev tm=vx at hw ⊢
  cases vx<;>try exact hw.elim
  ·obtain ⟨a,h1,hw⟩:=Q18 hw
   obtain ⟨b,h2,hw⟩:=Q18 hw
   obtain ⟨c,h3,hw⟩:=Q18 hw
   simp only [h1,h2,h3]
   exact Q1e hw
  ·obtain ⟨a,h1,hw⟩:=Q18 hw
   obtain ⟨b,h2,hw⟩:=Q18 hw
   obtain ⟨c,h3,hw⟩:=Q18 hw
   obtain ⟨r,h4,hw⟩:=hw
   simp only [h1,h2,h3,h4]
   exact Q1e hw
  ·simp only at hw
   split at hw
   ·rename_i he
    obtain ⟨a,h1,hw⟩:=Q18 hw
    obtain ⟨b,h2,hw⟩:=Q18 hw
    obtain ⟨c,h3,hw⟩:=Q18 hw
    simp only [he,if_true,h1,h2,h3]
    exact Q1e hw
   ·exact hw.elim
  ·obtain ⟨a,h1,hw⟩:=Q18 hw
   obtain ⟨b,h2,hw⟩:=Q18 hw
   obtain ⟨c,h3,hw⟩:=Q18 hw
   simp only [h1,h2,h3]
   exact Q1e hw
 | sst x lo hi =>
  simp only [wop] at hw
  simp only [plan,fpM]
  generalize x.ev tm=vx at hw ⊢
  cases vx<;>try exact hw.elim
  obtain ⟨b,h2,hw⟩:=Q18 hw
  obtain ⟨c,h3,hw⟩:=Q18 hw
  simp only [h2,h3]
  exact Q1e hw
 | sa es n x lo hi mx =>
  simp only [wop] at hw
  obtain ⟨a,h1,hw⟩:=Q18 hw
  obtain ⟨b,h2,hw⟩:=Q18 hw
  obtain ⟨c,h3,hw⟩:=Q18 hw
  simp only [plan,fpM,h1,h2,h3]
  generalize x.ev tm=vx at hw ⊢
  cases vx<;>try exact hw.elim
  ·obtain ⟨r,h4,hw⟩:=hw
   simp only [h4]
   exact Q1e hw
  ·obtain ⟨cc,dat,h4,h5,⟨h6,h7⟩⟩:=Qfx hw
   refine ⟨_,_,h,rfl,?_,h7,rfl⟩
   simp [Pl.go,Q0n,h4,h5,h6]
 | fa off x =>
  simp only [wop] at hw
  simp only [plan,fpM]
  generalize x.ev tm=vx at hw ⊢
  cases vx<;>first|exact hw.elim|exact Q1e hw
 | fd off agg n x =>
  simp only [wop] at hw
  simp only [plan,fpM]
  generalize x.ev tm=vx at hw ⊢
  cases vx<;>try exact hw.elim
  obtain ⟨v,h1,h2⟩:=Q73 hw
  exact Q64 h1 h2
 | ia es x i =>
  simp only [wop] at hw
  simp only [plan,fpM]
  generalize x.ev tm=vx at hw ⊢
  cases vx<;>try exact hw.elim
  ·rename_i clip len cs
   obtain ⟨h0,⟨j,h1,h2⟩⟩:=hw
   cases len with
   | zero=>omega
   | succ m =>
    simp only [Nat.add_sub_cancel] at h1
    simp only [h1]
    exact Q1e h2
  ·rename_i es' id g off len clip
   obtain ⟨h0,⟨j,h1,h2⟩⟩:=hw
   cases len with
   | zero=>omega
   | succ m =>
    simp only [Nat.add_sub_cancel] at h1
    simp only [h1]
    exact Q1e h2
 | iaa es n x i =>
  simp only [wop] at hw
  simp only [plan,fpM]
  cases n with
  | zero=>exact hw.elim
  | succ m =>
   obtain ⟨j,h1,h2⟩:=hw
   simp only [h1]
   generalize x.ev tm=vx at h2 ⊢
   cases vx<;>first|exact h2.elim|exact Q1e h2
 | ixs x i =>
  simp only [wop] at hw
  simp only [plan,fpM]
  generalize x.ev tm=vx at hw ⊢
  cases vx<;>try exact hw.elim
  obtain ⟨j,h1,⟨b,h2,h3⟩⟩:=hw
  simp only [h1,h2]
  exact Q1e h3
 | ixa es n agg x i =>
  simp only [wop] at hw
  simp only [plan,fpM]
  cases n with
  | zero=>exact hw.elim
  | succ m =>
   obtain ⟨j,h1,h2⟩:=hw
   simp only [h1]
   generalize x.ev tm=vx at h2 ⊢
   cases vx<;>try exact h2.elim
   obtain ⟨v,h3,h4⟩:=Q73 h2
   exact Q64 h3 h4
 | ta t ok z x =>
  simp only [wop] at hw
  simp only [plan,fpM]
  generalize x.ev tm=vx at hw ⊢
  cases vx<;>try exact hw.elim
  ·cases ok with
   | true=>exact Q1e hw
   | false=>exact hw.elim
  ·simp only at hw ⊢
   split at hw
   ·rename_i hu
    simp only [hu,if_true]
    cases ok<;>exact Q1e hw
   ·rename_i hu
    simp only [hu,if_false]
    cases ok with
    | true=>exact Q1e hw
    | false=>exact hw.elim
 | ex x i =>
  simp only [wop] at hw
  simp only [plan,fpM]
  generalize x.ev tm=vx at hw ⊢
  cases vx<;>try exact hw.elim
  obtain ⟨v,h1,h2⟩:=hw
  obtain ⟨h3,h4⟩:=Qdg h1
  simp only [h3,if_true,h4]
  exact Q1e h2
 | len st x =>
  simp only [wop] at hw
  simp only [plan,fpM]
  generalize x.ev tm=vx at hw ⊢
  cases st<;>cases vx<;>first|exact hw.elim|exact Q1e hw
 | app k es bytes dat x y =>
  simp only [wop] at hw
  simp only [plan,fpM]
  split at hw
  ·exact hw.elim
  ·rename_i hes
   simp only [hes,if_false]
   exact Qsc hes hw
 | cpy es x y =>
  simp only [wop] at hw
  simp only [plan,fpM]
  split at hw
  ·exact hw.elim
  ·rename_i hes
   simp only [hes,if_false]
   exact Qsb hw
 | mm mx xs =>
  simp only [wop] at hw
  simp only [plan,fpM]
  generalize evs tm xs=vs at hw ⊢
  cases vs with
  | nil=>exact hw.elim
  | cons v l =>
   obtain ⟨r,h1,h2⟩:=Qjs hw
   exact Q64 h1 h2
 | pn=>exact hw.elim
 | nm k=>exact Qjc hw
 | mu kd x key v =>
  simp only [wop] at hw
  simp only [plan,fpM]
  generalize x.ev tm=vx at hw ⊢
  cases vx<;>try exact hw.elim
  rename_i id
  obtain ⟨h4,⟨b,h5,h6⟩⟩:=Q2l (Q2k.1 (Q2k.1 hw))
  cases b<;>try exact h6.elim
  all_goals
   obtain ⟨r,h7,h8⟩:=h6
   cases r with
   | some i=>exact ⟨⟨[id],some id,mput kd (key.ev tm) (v.ev tm)⟩,_,_,rfl,by simp only [Pl.go,Q0n,h5,mput,h7,h4,if_true],Q1w.1 (Q23.1 h8),rfl⟩
   | none=>exact ⟨⟨[id],some id,mput kd (key.ev tm) (v.ev tm)⟩,_,_,rfl,by simp only [Pl.go,Q0n,h5,mput,h7,h4,if_true],Q1w.1 (Q23.1 (Q23.1 h8)),rfl⟩
 | lu kd ok zero x i =>
  simp only [wop] at hw
  simp only [plan,fpM]
  generalize x.ev tm=vx at hw ⊢
  cases vx<;>try exact hw.elim
  ·obtain ⟨h1,h2⟩:=hw
   simp only [h1,if_true]
   cases ok<;>exact Q1e h2
  ·rename_i id
   obtain ⟨b,h5,h6⟩:=hw
   cases b<;>try exact h6.elim
   all_goals
    obtain ⟨r,h7,h8⟩:=h6
    cases r with
    | some j =>
     have h8:=Q2k.1 h8
     cases ok with
     | true=>exact ⟨⟨[id],none,mget kd true zero (i.ev tm)⟩,_,h,rfl,by simp only [Pl.go,Q0n,h5,mget,h7];rfl,h8,rfl⟩
     | false=>exact ⟨⟨[id],none,mget kd false zero (i.ev tm)⟩,_,h,rfl,by simp only [Pl.go,Q0n,h5,mget,h7];rfl,h8,rfl⟩
    | none =>
     cases ok with
     | true=>exact ⟨⟨[id],none,mget kd true zero (i.ev tm)⟩,_,h,rfl,by simp only [Pl.go,Q0n,h5,mget,h7];rfl,h8,rfl⟩
     | false=>exact ⟨⟨[id],none,mget kd false zero (i.ev tm)⟩,_,h,rfl,by simp only [Pl.go,Q0n,h5,mget,h7];rfl,h8,rfl⟩
  ·obtain ⟨r,h7,h8⟩:=hw
   cases r with
   | some j =>
    have h8:=Q2k.1 h8
    cases ok with
    | true=>simp only [mget,h7];exact Q1e h8
    | false=>simp only [mget,h7];exact Q1e h8
   | none =>
    cases ok with
    | true=>simp only [mget,h7];exact Q1e h8
    | false=>simp only [mget,h7];exact Q1e h8
 | ml x =>
  simp only [wop] at hw
  simp only [plan,fpM]
  generalize x.ev tm=vx at hw ⊢
  cases vx<;>try exact hw.elim
  ·exact Q1e hw
  ·rename_i id
   obtain ⟨b,h5,h6⟩:=hw
   cases b<;>try exact h6.elim
   all_goals exact ⟨⟨[id],none,mlen⟩,_,h,rfl,by simp only [Pl.go,Q0n,h5,mlen],h6,rfl⟩
  ·exact Q1e hw
 | me kd zero x key =>
  simp only [wop] at hw
  simp only [plan,fpM]
  generalize x.ev tm=vx at hw ⊢
  cases vx<;>try exact hw.elim
  rename_i id
  obtain ⟨b,h5,h6⟩:=Q2k.1 hw
  cases b<;>try exact h6.elim
  rename_i ks vs
  obtain ⟨r,h7,h8⟩:=h6
  cases r with
  | some j=>exact ⟨⟨[id],some id,ment kd zero (key.ev tm)⟩,_,h,rfl,by simp only [Pl.go,Q0n,h5,ment,h7],Q2k.1 h8,rfl⟩
  | none =>
   obtain ⟨h4,h9⟩:=Q2l h8
   exact ⟨⟨[id],some id,ment kd zero (key.ev tm)⟩,_,_,rfl,by simp only [Pl.go,Q0n,h5,ment,h7,h4,if_true],Q1w.1 (Q23.1 (Q23.1 h9)),rfl⟩
 | ez x stamp v =>
  simp only [wop] at hw
  simp only [plan,fpM]
  generalize x.ev tm=vx at hw ⊢
  cases vx<;>try exact hw.elim
  rename_i id
  generalize stamp.ev tm=vs' at hw ⊢
  cases vs'<;>try exact hw.elim
  rename_i kk n
  cases kk<;>try exact hw.elim
  obtain ⟨h4,⟨b,h5,h6⟩⟩:=Q2l (Q2k.1 hw)
  cases b<;>try exact h6.elim
  rename_i ks vs
  obtain ⟨h7,h8⟩:=h6
  exact ⟨⟨[id],some id,msto (.int .i64 n) (v.ev tm)⟩,_,_,rfl,by simp only [Pl.go,Q0n,h5,msto,h7,h4,and_self,if_true],Q1w.1 (Q23.1 h8),rfl⟩
 | nq k=>exact Qjc hw
 | nx x=>exact hw.elim
 | rg k x =>
  simp only [wop] at hw
  simp only [plan,fpM]
  generalize x.ev tm=vx at hw ⊢
  cases vx<;>try exact hw.elim
  ·rename_i id
   obtain ⟨h4,⟨b,h5,h6⟩⟩:=Q2l hw
   cases b<;>try exact h6.elim
   obtain ⟨b2,h7,⟨⟨st,ck,ks,vs⟩,h8,h9⟩⟩:=h6
   exact ⟨⟨[base+k,id],some (base+k),mrng (base+k) id⟩,_,_,rfl,by simp only [Pl.go,Q0n,h5,h7,mrng,h8,h4,if_true],Q1w.1 h9,rfl⟩
  ·rename_i ks vs
   obtain ⟨h4,⟨b,h5,h6⟩⟩:=Q2l hw
   cases b<;>try exact h6.elim
   exact ⟨⟨[base+k],some (base+k),Qei (base+k) ks vs⟩,_,_,rfl,by simp only [Pl.go,Q0n,h5,Qei,h4,if_true],Q1w.1 h6,rfl⟩
 | en x =>
  simp only [wop] at hw
  simp only [plan,fpM]
  generalize x.ev tm=vx at hw ⊢
  cases vx<;>try exact hw.elim
  ·rename_i id m
   obtain ⟨a,h5,⟨b,h6,⟨⟨r,o⟩,h7,h8⟩⟩⟩:=hw
   have ho:o=none:=by
    unfold mcur at h7
    repeat' split at h7
    all_goals first|(cases h7;done)|(cases h7;rfl)
   subst ho
   exact ⟨⟨[id,m],none,mcur m⟩,_,h,rfl,by simp only [Pl.go,Q0n,h5,h6,h7],Q2k.1 h8,rfl⟩
  ·rename_i id
   obtain ⟨a,h5,⟨⟨r,o⟩,h7,h8⟩⟩:=hw
   have ho:o=none:=by
    unfold Qcr at h7
    repeat' split at h7
    all_goals first|(cases h7;done)|(cases h7;rfl)
   subst ho
   exact ⟨⟨[id],none,Qcr⟩,_,h,rfl,by simp only [Pl.go,Q0n,h5,h7],Q2k.1 h8,rfl⟩
 | dl kd x key =>
  simp only [wop] at hw
  simp only [plan,fpM]
  generalize x.ev tm=vx at hw ⊢
  cases vx<;>try exact hw.elim
  rename_i id
  obtain ⟨h4,⟨b,h5,h6⟩⟩:=Q2l (Q2k.1 hw)
  cases b<;>try exact h6.elim
  obtain ⟨r,h7,h8⟩:=h6
  cases r with
  | some i=>exact ⟨⟨[id],some id,mdel kd (key.ev tm)⟩,_,_,rfl,by simp only [Pl.go,Q0n,h5,mdel,h7,h4,if_true],Q1w.1 (Q23.1 (Q23.1 h8)),rfl⟩
  | none=>exact ⟨⟨[id],some id,mdel kd (key.ev tm)⟩,_,_,rfl,by simp only [Pl.go,Q0n,h5,mdel,h7,h4,if_true],Q1w.1 h8,rfl⟩
end Go.Dr
namespace Go.Dr
variable {F:Nat→Option Fc} {md:Nat→Nat} {ro base:Nat}
def resM (oc:Orc) (ro base:Nat) (tm:List V) (h:List B) (o:M):Option (V × List B) :=
 match o with
 | .call f args=>oc (f.ev tm) (evs tm args) h
 | o=>match plan base tm o with
  | none=>none
  | some p=>p.go ro h
def fpG (md:Nat→Nat) (base:Nat) (tm:List V) (o:M):Fp :=
 match o with
 | .call f args=>match mode md (f.ev tm) (evs tm args) with
  | 0=>if blos 0 (f.ev tm::evs tm args) then .no else .vws
  | 2=>.rds
  | _=>.all
 | o=>match Qb3 base o with
  | some i=>.new i
  | none=>match plan base tm o with
   | none=>.all
   | some p=>match p.rs,p.w with
    | [],none=>.no
    | rs,w=>.some rs w
theorem Qsa {tm:List V} {h:List B} {o:M} {K:V→List B→Prop} (hw:wop F md ro base tm h o K) :
  ∃ n v h',(∀ m,n≤m→resM (Q07 F md ro (run F md m)) ro base tm h o=some (v,h'))∧K v h'∧fpG md base tm o=fpS md base tm o:=by
 by_cases hc:∃ f as,o=.call f as
 ·obtain ⟨f,as,rfl⟩:=hc
  simp only [wop] at hw
  obtain ⟨v,h',⟨n,hn⟩,hk⟩:=Qf3.1 (Q2k.1 hw)
  exact ⟨n,v,h',hn,hk,rfl⟩
 ·have hc':∀ f as,o≠.call f as:=fun f as e=>hc ⟨f,as,e⟩
  obtain ⟨p,v,h',h1,h2,h3,h4⟩:=wop_ok o hc' hw
  have e1:∀ oc,resM oc ro base tm h o=some (v,h'):=by
   intro oc
   have:resM oc ro base tm h o=(match plan base tm o with|none=>none|some p=>p.go ro h):=by
    cases o<;>first|rfl|exact absurd rfl (hc' _ _)
   rw [this,h1];exact h2
  have e2:fpG md base tm o=(match Qb3 base o with
    | some i=>.new i
    | none=>fpM base tm o):=by
   have:fpG md base tm o=(match Qb3 base o with
    | some i=>.new i
    | none=>match plan base tm o with
     | none=>.all
     | some p=>match p.rs,p.w with
      | [],none=>.no
      | rs,w=>.some rs w):=by
    cases o<;>first|rfl|exact absurd rfl (hc' _ _)
   rw [this,h1]
   split
   ·rfl
   ·exact h4
  have e3:fpS md base tm o=(match Qb3 base o with
    | some i=>.new i
    | none=>fpM base tm o):=by
   cases o<;>first|rfl|exact absurd rfl (hc' _ _)
  exact ⟨0,v,h',fun _ _=>e1 _,h3,by rw [e2,e3]⟩
def putD (d:Option Nat) (tm:List V) (v:V):List V :=
 match d with
 | some d=>tset tm d v
 | none=>tm
theorem Qjq {d:Option Nat} {tm:List V} {v:V} {K:List V→Prop} (hw:wPut d tm v K):K (putD d tm v):=by
 cases d with
 | none=>exact hw
 | some d =>
  simp only [wPut] at hw
  exact Q23.1 (Q2k.1 hw)
theorem wG_ok {tm:List V} {h:List B} {r:G} {K:List V→List B→Fp→Prop} (hw:wG F md ro base tm h r.d r.g r.o K) :
  ∃ n tm' h',(∀ m,n≤m→evG (Q07 F md ro (run F md m)) ro base tm h r=some (tm',h'))∧K tm' h' (fpOf md base tm r):=by
 have taken:wop F md ro base tm h r.o (fun v h'=>wPut r.d tm v fun tm'=>K tm' h' (fpS md base tm r.o))→∃ n tm' h',
   (∀ m,n≤m→(match resM (Q07 F md ro (run F md m)) ro base tm h r.o with
    | none=>none
    | some (v,h')=>some (putD r.d tm v,h'))=some (tm',h'))∧K tm' h' (fpG md base tm r.o):=by
  intro hw
  obtain ⟨n,v,h',h1,h2,h3⟩:=Qsa hw
  exact ⟨n,_,h',fun m hm=>by rw [h1 m hm],by rw [h3];exact Qjq h2⟩
 have skipped:(wPut r.d tm (.tup []) fun tm'=>K tm' h .no)→∃ n tm' h',(∀ m:Nat,n≤m→some (putD r.d tm (.tup []),h)=some (tm',h'))∧K tm' h' .no :=
  fun hw=>⟨0,_,h,fun _ _=>rfl,Qjq hw⟩
 unfold wG at hw
 cases hg:r.g with
 | none =>
  rw [hg] at hw
  obtain ⟨n,tm',h',h1,h2⟩:=taken hw
  refine ⟨n,tm',h',fun m hm=>?_,?_⟩
  ·have:=h1 m hm
   simp only [evG,hg];exact this
  ·simp only [fpOf,hg];exact h2
 | some q =>
  obtain ⟨s,want⟩:=q
  rw [hg] at hw
  simp only at hw
  split at hw
  ·rename_i b hb
   have hyes:b=want→∃ n tm' h',(∀ m,n≤m→evG (Q07 F md ro (run F md m)) ro base tm h r=some (tm',h'))∧K tm' h' (fpOf md base tm r):=by
    intro e
    have hw':wop F md ro base tm h r.o (fun v h'=>wPut r.d tm v fun tm'=>K tm' h' (fpS md base tm r.o)):=by
     subst e
     cases b with
     | true=>exact hw.1 rfl
     | false=>exact hw.2 rfl
    obtain ⟨n,tm',h',h1,h2⟩:=taken hw'
    refine ⟨n,tm',h',fun m hm=>?_,?_⟩
    ·have:=h1 m hm
     simp only [evG,hg,hb,e,if_true];exact this
    ·simp only [fpOf,hg,hb,e,if_true];exact h2
   have hno:b≠want→∃ n tm' h',(∀ m,n≤m→evG (Q07 F md ro (run F md m)) ro base tm h r=some (tm',h'))∧K tm' h' (fpOf md base tm r):=by
    intro e
    have hw':(wPut r.d tm (.tup []) fun tm'=>K tm' h .no):=by
     cases want with
     | true=>exact hw.2 (by cases b<;>simp_all)
     | false=>exact hw.1 (by cases b<;>simp_all)
    obtain ⟨n,tm',h',h1,h2⟩:=skipped hw'
    refine ⟨n,tm',h',fun m hm=>?_,?_⟩
    ·have:=h1 m hm
     simp only [evG,hg,hb,e,if_false];exact this
    ·simp only [fpOf,hg,hb,e,if_false];exact h2
   by_cases e:b=want
   ·exact hyes e
   ·exact hno e
  ·rename_i hb
   obtain ⟨n,tm',h',h1,h2⟩:=skipped hw
   refine ⟨n,tm',h',fun m hm=>?_,?_⟩
   ·have:=h1 m hm
    simp only [evG,hg,hb];exact this
   ·simp only [fpOf,hg,hb];exact h2
  ·exact hw.elim
theorem Qdx:∀ {l:List G} {tm:List V} {h:List B} {K:List V→List B→Prop},wOps F md ro base l tm h K →
  ∃ n tm' h',(∀ m,n≤m→Q3f (Q07 F md ro (run F md m)) ro base l tm h=some (tm',h'))∧K tm' h'
 | [],tm,h,K,hw=>⟨0,tm,h,fun _ _=>rfl,hw⟩
 | r::l,tm,h,K,hw=>by
  obtain ⟨n1,tm1,h1,e1,k1⟩:=wG_ok hw
  obtain ⟨n2,tm2,h2,e2,k2⟩:=Qdx k1
  exact ⟨max n1 n2,tm2,h2,fun m hm=>by simp only [Q3f,e1 m (by omega)];exact e2 m (by omega),k2⟩
theorem Qfy:∀ {l:List G} {i:Nat} {seen:List (Nat × Fp)} {tm:List V} {h:List B} {K:List V→List B→Prop},Qsg F md ro base i seen l tm h K →
  ∃ n tm' h',(∀ m,n≤m→Q1u md (Q07 F md ro (run F md m)) ro base i seen l tm h=some (tm',h'))∧K tm' h'
 | [],i,seen,tm,h,K,hw=>⟨0,tm,h,fun _ _=>rfl,hw⟩
 | r::l,i,seen,tm,h,K,hw=>by
  obtain ⟨n1,tm1,h1,e1,k1⟩:=wG_ok hw
  split at k1
  ·rename_i hfree
   obtain ⟨n2,tm2,h2,e2,k2⟩:=Qfy k1
   exact ⟨max n1 n2,tm2,h2,fun m hm=>by simp only [Q1u,hfree,if_true,e1 m (by omega)];exact e2 m (by omega),k2⟩
  ·exact k1.elim
def Qjb (F:Nat→Option Fc) (md:Nat→Nat) (ro:Nat) (c:MC) (st:St) (Q:X→St→Prop):Prop :=
 ∃ n x st',(∀ m,n≤m→run F md m ro c st=some (x,st'))∧Q x st'
theorem Qtm {c:MC} {mk:List Bool} {hl:Nat} {Q:X→St→Prop} {α:Type} {P:α→Prop} {I:α→St} {μ:α→Nat}
  (hs:∀ a,P a→Qjb F md ro c (I a) (fun x s=>match x with
   | .nrm=>NextP P I μ a (norm mk hl s)
   | x=>Q x s)):∀ (k:Nat) (a:α),P a→μ a<k→Qjb F md ro (.lp mk hl c) (I a) Q
 | 0,_,_,h=>absurd h (by omega)
 | k+1,a,pa,h=>by
  obtain ⟨n,x,s,h1,h2⟩:=hs a pa
  cases x with
  | nrm =>
   obtain ⟨a',pa',h3,h4⟩:=h2
   obtain ⟨n2,x2,s2,h5,h6⟩:=Qtm hs k a' pa' (by omega)
   refine ⟨max n n2+1,x2,s2,fun m hm=>?_,h6⟩
   cases m with
   | zero=>omega
   | succ m=>simp only [run,h1 m (by omega),h4];exact h5 m (by omega)
  | exit i =>
   refine ⟨n+1,_,s,fun m hm=>?_,h2⟩
   cases m with
   | zero=>omega
   | succ m=>simp only [run,h1 m (by omega)]
  | ret =>
   refine ⟨n+1,_,s,fun m hm=>?_,h2⟩
   cases m with
   | zero=>omega
   | succ m=>simp only [run,h1 m (by omega)]
theorem Qc2:∀ {c:MC} {st:St} {Q:X→St→Prop},wp F md ro c st Q→Qjb F md ro c st Q:=by
 intro c
 induction c with
 | skip=>intro st Q hw;exact ⟨1,.nrm,st,fun m hm=>by cases m with|zero=>omega|succ m=>rfl,hw⟩
 | exit id=>intro st Q hw;exact ⟨1,.exit id,st,fun m hm=>by cases m with|zero=>omega|succ m=>rfl,hw⟩
 | ret=>intro st Q hw;exact ⟨1,.ret,st,fun m hm=>by cases m with|zero=>omega|succ m=>rfl,hw⟩
 | lp m hl c ih=>intro st Q hw;exact hw.elim
 | kn k f=>intro st Q hw;exact hw.elim
 | seq a b iha ihb =>
  intro st Q hw
  obtain ⟨n,x,s,h1,h2⟩:=iha hw
  cases x with
  | nrm =>
   obtain ⟨n2,x2,s2,h3,h4⟩:=ihb h2
   refine ⟨max n n2+1,x2,s2,fun m hm=>?_,h4⟩
   cases m with
   | zero=>omega
   | succ m=>simp only [run,h1 m (by omega)];exact h3 m (by omega)
  | exit i =>
   refine ⟨n+1,_,s,fun m hm=>?_,h2⟩
   cases m with
   | zero=>omega
   | succ m=>simp only [run,h1 m (by omega)]
  | ret =>
   refine ⟨n+1,_,s,fun m hm=>?_,h2⟩
   cases m with
   | zero=>omega
   | succ m=>simp only [run,h1 m (by omega)]
 | cond x a b iha ihb =>
  intro st Q hw
  simp only [wp] at hw
  split at hw
  ·rename_i t ht
   obtain ⟨h1,h2⟩:=hw
   cases t with
   | true =>
    obtain ⟨n,x,s,h3,h4⟩:=iha (h1 rfl)
    refine ⟨n+1,x,s,fun m hm=>?_,h4⟩
    cases m with
    | zero=>omega
    | succ m=>simp only [run,ht,if_true];exact h3 m (by omega)
   | false =>
    obtain ⟨n,x,s,h3,h4⟩:=ihb (h2 rfl)
    refine ⟨n+1,x,s,fun m hm=>?_,h4⟩
    cases m with
    | zero=>omega
    | succ m=>simp only [run,ht,Bool.false_eq_true,if_false];exact h3 m (by omega)
  ·exact hw.elim
 | block id c ih =>
  intro st Q hw
  obtain ⟨n,x,s,h1,h2⟩:=ih hw
  cases x with
  | nrm =>
   refine ⟨n+1,_,s,fun m hm=>?_,h2⟩
   cases m with
   | zero=>omega
   | succ m=>simp only [run,h1 m (by omega)]
  | ret =>
   refine ⟨n+1,_,s,fun m hm=>?_,h2⟩
   cases m with
   | zero=>omega
   | succ m=>simp only [run,h1 m (by omega)]
  | exit i =>
   by_cases hi:i=id
   ·simp only [hi,if_true] at h2
    refine ⟨n+1,_,s,fun m hm=>?_,h2⟩
    cases m with
    | zero=>omega
    | succ m=>simp only [run,h1 m (by omega),hi,if_true]
   ·simp only [hi,if_false] at h2
    refine ⟨n+1,_,s,fun m hm=>?_,h2⟩
    cases m with
    | zero=>omega
    | succ m=>simp only [run,h1 m (by omega),hi,if_false]
 | loop c ih =>
  intro st Q hw
  obtain ⟨α,P,I,μ,a0,p0,h0,hs⟩:=hw
  obtain ⟨n,x,s,h1,h2⟩:=Qtm (F:=F) (md:=md) (ro:=ro) (fun a pa=>ih (hs a pa)) (μ a0+1) a0 p0 (by omega)
  refine ⟨n+1,x,s,fun m hm=>?_,h2⟩
  cases m with
  | zero=>omega
  | succ m=>simp only [run];have:=h1 m (by omega);rw [← h0] at this;exact this
 | reg draw na ops =>
  intro st Q hw
  simp only [wp] at hw
  have hw:=Q1w.1 (Q8p.1 hw)
  simp only [Nat.zero_add] at hw
  cases draw with
  | true =>
   obtain ⟨n,tm',h',h1,h2⟩:=Qfy hw
   refine ⟨n+1,.nrm,⟨tm',h'⟩,fun m hm=>?_,h2⟩
   cases m with
   | zero=>omega
   | succ m=>simp only [run,if_true,h1 m (by omega)]
  | false =>
   obtain ⟨n,tm',h',h1,h2⟩:=Qdx hw
   refine ⟨n+1,.nrm,⟨tm',h'⟩,fun m hm=>?_,h2⟩
   cases m with
   | zero=>omega
   | succ m=>simp only [run,Bool.false_eq_true,if_false,h1 m (by omega)]
 | rf x ps asg body ih1 ih2 =>
  intro st Q hw
  simp only [wp] at hw
  split at hw
  ·rename_i f cs hf
   have hw:=Q8p.1 hw
   simp only [Nat.zero_add] at hw
   obtain ⟨v,h',⟨n,hn⟩,hk⟩:=hw
   split at hk
   ·rename_i r x' tm1 ps1 a1 b1 hb
    split at hk
    ·rename_i x2 hx
     refine ⟨n+1,x2,⟨st.tm,_⟩,fun m hm=>?_,Q1w.1 hk⟩
     cases m with
     | zero=>omega
     | succ m=>simp only [run,hf,isFn,hn m (by omega),hb,hx]
    ·exact hk.elim
   ·exact hk.elim
  ·exact hw.elim
def Fun (F:Nat→Option Fc) (md:Nat→Nat) (f:Nat) (as:List V) (v:V):Prop :=
 ∃ fc,F f=some fc∧as.length=fc.np∧∃ n x st v0,(∀ m,n≤m→run F md m 0 fc.body ⟨as++Q1a (fc.ntm-fc.np),[]⟩=some (x,st))∧(x=.nrm∨x=.ret)∧Q0s st fc.res=some v0∧V.view st.h depth v0=some v
inductive Leaves (res:List RV) (v:V) (x:X) (s:St):Prop where
 | mk (v0:V):(x=.nrm∨x=.ret)→Q0s s res=some v0→V.view s.h depth v0=some v→Leaves res v x s
inductive Ends (res:List RV) (x:X) (s:St) (P:V→Prop):Prop where
 | mk (v:V):(x=.nrm∨x=.ret)→Q0s s res=some v→P v→Ends res x s P
theorem Q04 {f:Nat} {fc:Fc} {as:List V} {v:V} (hF:F f=some fc) (hn:as.length=fc.np) (hw:fV (as++Q1a (fc.ntm-fc.np)) fun tm=>wp F md 0 fc.body ⟨tm,[]⟩ (Leaves fc.res v)):Fun F md f as v:=by
 obtain ⟨n,x,st,h1,⟨v0,h2,h3,h4⟩⟩:=Qc2 (Q23.1 hw)
 exact ⟨fc,hF,hn,n,x,st,v0,h1,h2,h3,h4⟩
theorem Q06 {f:Nat} {caps args as:List V} {h:List B} {v:V} {K:V→List B→Prop} (hm:mode md (.fn f caps) args=0) (hv:Q1o h depth (args++caps)=some as) (hf:Fun F md f as v) (hs:blos 0 (args++caps)=true∨v.scalar=true) (hk:K v h) :
  CallP F md ro (.fn f caps) args h K:=by
 obtain ⟨fc,hF,hn,n,x,st,v0,h1,h2,h3,h4⟩:=hf
 refine ⟨v,h,⟨n,fun m hm'=>?_⟩,hk⟩
 have hl:(args++caps).length=fc.np:=by
  rw [← hn]
  have key:∀ {g:V→Option V} {l l':List V},mapO g l=some l'→l'.length=l.length:=by
   intro g l
   induction l with
   | nil=>intro l' e;simp only [mapO,jA] at e;rw [← e]
   | cons v l ih =>
    intro l' e
    simp only [mapO] at e
    split at e<;>(try (cases e;done))
    split at e<;>(try (cases e;done))
    rename_i r hr
    cases e
    simp [ih hr]
  exact (key hv).symm
 have hc:(blos 0 (args++caps)||v.scalar||V.fresh st.h depth v0)=true:=by rcases hs with h|h<;>simp [h]
 simp only [Q07,hF,hl,if_true,hm,hv]
 rcases h2 with rfl|rfl<;>simp only [h1 m hm',h3,h4,hc,if_true]
def FunF (F:Nat→Option Fc) (md:Nat→Nat) (f:Nat) (as:List V) (v:V):Prop :=
 ∃ fc,F f=some fc∧as.length=fc.np∧∃ n x st v0,(∀ m,n≤m→run F md m 0 fc.body ⟨as++Q1a (fc.ntm-fc.np),[]⟩=some (x,st))∧(x=.nrm∨x=.ret)∧Q0s st fc.res=some v0∧V.view st.h depth v0=some v∧V.fresh st.h depth v0=true
inductive LeavesF (res:List RV) (v:V) (x:X) (s:St):Prop where
 | mk (v0:V):(x=.nrm∨x=.ret)→Q0s s res=some v0→V.view s.h depth v0=some v→V.fresh s.h depth v0=true→LeavesF res v x s
theorem Qez {f:Nat} {fc:Fc} {as:List V} {v:V} (hF:F f=some fc) (hn:as.length=fc.np) (hw:fV (as++Q1a (fc.ntm-fc.np)) fun tm=>wp F md 0 fc.body ⟨tm,[]⟩ (LeavesF fc.res v)):FunF F md f as v:=by
 obtain ⟨n,x,st,h1,⟨v0,h2,h3,h4,h5⟩⟩:=Qc2 (Q23.1 hw)
 exact ⟨fc,hF,hn,n,x,st,v0,h1,h2,h3,h4,h5⟩
theorem Q8b:∀ {g:V→Option V} {l l':List V},mapO g l=some l'→l'.length=l.length
 | g,[],l',e=>by simp only [mapO,jA] at e;rw [← e]
 | g,v::l,l',e=>by
  simp only [mapO] at e
  split at e<;>(try (cases e;done))
  split at e<;>(try (cases e;done))
  rename_i r hr
  cases e
  simp [Q8b hr]
theorem Q17 {f:Nat} {caps args as:List V} {h:List B} {v:V} {K:V→List B→Prop} (hm:mode md (.fn f caps) args=0) (hv:Q1o h depth (args++caps)=some as) (hf:FunF F md f as v) (hk:K v h) :
  CallP F md ro (.fn f caps) args h K:=by
 obtain ⟨fc,hF,hn,n,x,st,v0,h1,h2,h3,h4,h5⟩:=hf
 refine ⟨v,h,⟨n,fun m hm'=>?_⟩,hk⟩
 have hl:(args++caps).length=fc.np:=by rw [← hn];exact (Q8b hv).symm
 have hc:(blos 0 (args++caps)||v.scalar||V.fresh st.h depth v0)=true:=by simp [h5]
 simp only [Q07,hF,hl,if_true,hm,hv]
 rcases h2 with rfl|rfl<;>simp only [h1 m hm',h3,h4,hc,if_true]
theorem Q16 {f:Nat} {fc:Fc} {caps args:List V} {h:List B} {K:V→List B→Prop} (hm:mode md (.fn f caps) args=1) (hF:F f=some fc) (hn:(args++caps).length=fc.np)
  (hw:fV (args++caps++Q1a (fc.ntm-fc.np)) fun tm=>wp F md ro fc.body ⟨tm,h⟩ fun x s=>Ends fc.res x s fun v=>fB (trunc h.length [v] s.h) fun h'=>K v h'):CallP F md ro (.fn f caps) args h K:=by
 obtain ⟨n,x,st,h1,⟨v,h2,h3,h4⟩⟩:=Qc2 (Q23.1 hw)
 refine ⟨v,_,⟨n,fun m hm'=>?_⟩,Q1w.1 h4⟩
 simp only [Q07,hF,hn,if_true,hm]
 rcases h2 with rfl|rfl<;>simp only [h1 m hm',h3]
theorem Qhr {f:Nat} {fc:Fc} {caps args:List V} {h:List B} {K:V→List B→Prop} (hm:mode md (.fn f caps) args=2) (hF:F f=some fc) (hn:(args++caps).length=fc.np)
  (hw:fV (args++caps++Q1a (fc.ntm-fc.np)) fun tm=>wp F md (max ro h.length) fc.body ⟨tm,h⟩ fun x s=>Ends fc.res x s fun v=>Req (v.blo h.length=true) (K v h)):CallP F md ro (.fn f caps) args h K:=by
 obtain ⟨n,x,st,h1,⟨v,h2,h3,⟨h5,h4⟩⟩⟩:=Qc2 (Q23.1 hw)
 refine ⟨v,_,⟨n,fun m hm'=>?_⟩,h4⟩
 simp only [Q07,hF,hn,if_true,hm]
 rcases h2 with rfl|rfl<;>simp only [h1 m hm',h3,h5,if_true]
theorem Q2d {id:Nat} {args tm tm':List V} {ps:List Nat} {p:X} {asg body:MC} {h:List B} {K:V→List B→Prop} (hb:bget h id=some (.lop true p tm ps asg body)) (hro:ro≤id) (hp:Qaq tm ps args=some tm')
  (hw:wp F md ro asg ⟨tm',h⟩ fun x s=>x=.nrm∧Get (bget s.h id) fun
   | .lop true _ _ _ _ _=>fB (bset s.h id (.lop false .nrm tm ps asg body)) fun h1=>wp F md ro body ⟨s.tm,h1⟩ fun x s =>
     fB (bset (trunc h.length [] s.h) id (.lop (match x with|.nrm=>true|_=>false) x tm ps asg body)) fun h2=>K (.bool (match x with|.nrm=>true|_=>false)) h2
   | _=>False):CallP F md ro (.yld id) args h K:=by
 obtain ⟨n,x,st,h1,⟨rfl,⟨b,h2,h3⟩⟩⟩:=Qc2 hw
 split at h3
 ·obtain ⟨n2,x2,st2,h4,h5⟩:=Qc2 (Q1w.1 h3)
  refine ⟨_,_,⟨max n n2,fun m hm'=>?_⟩,Q1w.1 h5⟩
  simp only [Q07,hb,hro,if_true,hp,h1 m (by omega),h2,h4 m (by omega)]
  rfl
 ·exact h3.elim
theorem Qqn {f:Nat} {args as:List V} {v:V} (hm:mode md (.fn f []) args=0) (hv:Q1o [] depth args=some as) (hf:Fun F md f as v) (hs:blos 0 args=true∨v.scalar=true):∃ n,Qj8 F md n f args=some v:=by
 obtain ⟨v',h',⟨n,hn⟩,hk⟩:=Q06 (F:=F) (ro:=0) (K:=fun v' h'=>v'=v) hm (by rw [List.append_nil];exact hv) hf (by rw [List.append_nil];exact hs) rfl
 subst hk
 exact ⟨n,by simp only [Qj8,hn n (Nat.le_refl _)]⟩
end Go.Dr
namespace Go.Dr
theorem Br.t {P Q:Prop} (h:P):Br true P Q:=⟨fun _=>h,fun e=>(by cases e)⟩
theorem Br.f {P Q:Prop} (h:Q):Br false P Q:=⟨fun e=>(by cases e),fun _=>h⟩
theorem Br.dec {p:Prop} [i:Decidable p] {P Q:Prop} (h1:p→P) (h2:¬ p→Q):Br (@decide p i) P Q:=⟨fun e=>h1 (by simpa using e),fun e=>h2 (by simpa using e)⟩
theorem Br.decT {p:Prop} [i:Decidable p] {P Q:Prop} (hp:p) (h1:P):Br (@decide p i) P Q:=Br.dec (fun _=>h1) fun h=>absurd hp h
theorem Br.decF {p:Prop} [i:Decidable p] {P Q:Prop} (hp:¬ p) (h1:Q):Br (@decide p i) P Q:=Br.dec (fun h=>absurd h hp) fun _=>h1
theorem Br.not {b:Bool} {P Q:Prop} (h:Br b Q P):Br (!b) P Q:=⟨fun e=>h.2 (by simpa using e),fun e=>h.1 (by simpa using e)⟩
theorem wrap_i64 {e:Int} (h1 : -9223372036854775808≤e) (h2:e≤9223372036854775807):IntKind.i64.wrap e=e:=by
 unfold IntKind.wrap
 simp only [IntKind.bits,IntKind.signed]
 first|omega|(split<;>omega)|(simp;omega)
theorem Bnd.any {e:Int} {P:Int→Prop} (h:P e):Bnd e P:=⟨fun _ hr=>hr▸h⟩
theorem Bnd.eq {e e':Int} {P:Int→Prop} (he:e=e') (h:P e'):Bnd e P:=⟨fun _ hr=>hr▸he▸h⟩
theorem Bnd.i64 {e:Int} {P:Int→Prop} (h1 : -9223372036854775808≤e) (h2:e≤9223372036854775807) (h:P e):Bnd (IntKind.i64.wrap e) P:=Bnd.eq (wrap_i64 h1 h2) h
theorem Idx.int {m:Nat} {k:IntKind} {n:Int} {P:Nat→Prop} (h0:0≤n) (h1:n≤m) (h:P n.toNat):Idx m (.int k n) P:=⟨_,by simp [nat?,h0,h1],h⟩
theorem Idx.nat {m:Nat} {k:IntKind} {n:Nat} {P:Nat→Prop} (h1:n≤m) (h:P n):Idx m (.int k (n:Int)) P:=⟨n,by simp [nat?,h1],h⟩
theorem Ifz.pos {n:Nat} {P Q:Prop} (hn:n≠0) (h:Q):Ifz n P Q:=⟨fun e=>absurd e hn,fun _=>h⟩
theorem fV.mk {l:List V} {K:List V→Prop} (h:K l):fV l K:=Q23.2 h
theorem fB.mk {l:List B} {K:List B→Prop} (h:K l):fB l K:=Q1w.2 h
theorem Q2h:∀ {l:List UInt8} {i:Nat} (h:i<l.length),Q0h (ofBytes l) i=some (.int .u8 l[i].toNat)
 | [],_,h=>absurd h (by simp)
 | b::l,0,_=>rfl
 | b::l,i+1,h=>by
  have:=Q2h (l:=l) (i:=i) (by simpa using h)
  simpa [ofBytes,Q0h] using this
theorem Q0j (l:List UInt8):(ofBytes l).length=l.length:=by
 induction l with
 | nil=>rfl
 | cons b l ih=>simp [ofBytes,ih]
inductive Vw (h:List B) (d:Nat) (v0 v:V):Prop where
 | mk:V.view h d v0=some v→Vw h d v0 v
inductive VwL (h:List B) (d:Nat) (l l':List V):Prop where
 | mk:mapO (V.view h d) l=some l'→VwL h d l l'
def wLeave (res:List RV) (v:V) (x:X) (s:St):Prop :=
 match x with
 | .exit _=>False
 | _=>Get (Q0s s res) fun v0=>fW v0 fun v0=>Vw s.h depth v0 v
theorem Leaves.of {res:List RV} {v:V} {x:X} {s:St} (h:wLeave res v x s):Leaves res v x s:=by
 cases x with
 | exit i=>exact h.elim
 | nrm =>
  obtain ⟨v0,h1,h2⟩:=h
  exact ⟨v0,.inl rfl,h1,(Q2k.1 h2).1⟩
 | ret =>
  obtain ⟨v0,h1,h2⟩:=h
  exact ⟨v0,.inr rfl,h1,(Q2k.1 h2).1⟩
section
variable {h:List B} {d:Nat}
theorem Vw.bool {a b:Bool} (e:a=b):Vw h (d+1) (.bool a) (.bool b):=⟨by rw [e];rfl⟩
theorem Vw.int {k:IntKind} {a b:Int} (e:a=b):Vw h (d+1) (.int k a) (.int k b):=⟨by rw [e];rfl⟩
theorem Vw.str {a b:List UInt8} (e:a=b):Vw h (d+1) (.str a) (.str b):=⟨by rw [e];rfl⟩
theorem Vw.nil:Vw h (d+1) .nilsl (.sl true 0 []):=⟨rfl⟩
theorem Vw.sl {c:Bool} {n:Nat} {l:List V}:Vw h (d+1) (.sl c n l) (.sl c n l):=⟨rfl⟩
theorem Vw.tup {l m:List V} (e:VwL h d l m):Vw h (d+1) (.tup l) (.tup m):=⟨by simp only [V.view];rw [e.1];rfl⟩
theorem Vw.agg {l m:List V} (e:VwL h d l m):Vw h (d+1) (.agg l) (.agg m):=⟨by simp only [V.view];rw [e.1];rfl⟩
theorem Vw.ms {es id g off len:Nat} {clip dat:Bool} {c cs r:List V} (h1:bget h id=some (.blk c dat)) (h2:c.length=g) (h3:part c off (len*es)=some cs) (h4:VwL h d cs r):Vw h (d+1) (.ms es id g off len clip) (.sl clip len r) :=
 ⟨by simp only [V.view,h1,h2,if_true,h3,h4.1]⟩
theorem VwL.nil:VwL h d [] []:=⟨rfl⟩
theorem VwL.cons {v w:V} {l m:List V} (e:Vw h d v w) (el:VwL h d l m):VwL h d (v::l) (w::m):=⟨by simp only [mapO,e.1,el.1]⟩
theorem VwL.bytes (l:List UInt8):VwL h (d+1) (ofBytes l) (ofBytes l):=by
 induction l with
 | nil=>exact VwL.nil
 | cons b l ih=>exact VwL.cons (Vw.int rfl) ih
end
inductive VwF (h:List B) (d:Nat) (v0 v:V):Prop where
 | mk:V.view h d v0=some v→V.fresh h d v0=true→VwF h d v0 v
inductive VwLF (h:List B) (d:Nat) (l l':List V):Prop where
 | mk:mapO (V.view h d) l=some l'→allB (V.fresh h d) l=true→VwLF h d l l'
def Qsf (res:List RV) (v:V) (x:X) (s:St):Prop :=
 match x with
 | .exit _=>False
 | _=>Get (Q0s s res) fun v0=>fW v0 fun v0=>VwF s.h depth v0 v
theorem LeavesF.of {res:List RV} {v:V} {x:X} {s:St} (h:Qsf res v x s):LeavesF res v x s:=by
 cases x with
 | exit i=>exact h.elim
 | nrm =>
  obtain ⟨v0,h1,h2⟩:=h
  exact ⟨v0,.inl rfl,h1,(Q2k.1 h2).1,(Q2k.1 h2).2⟩
 | ret =>
  obtain ⟨v0,h1,h2⟩:=h
  exact ⟨v0,.inr rfl,h1,(Q2k.1 h2).1,(Q2k.1 h2).2⟩
section
variable {h:List B} {d:Nat}
theorem VwF.int {k:IntKind} {a b:Int} (e:a=b):VwF h (d+1) (.int k a) (.int k b):=⟨by rw [e];rfl,rfl⟩
theorem VwF.nil:VwF h (d+1) .nilsl (.sl true 0 []):=⟨rfl,rfl⟩
theorem VwF.tup {l m:List V} (e:VwLF h d l m):VwF h (d+1) (.tup l) (.tup m):=⟨by simp only [V.view];rw [e.1];rfl,by simp only [V.fresh];exact e.2⟩
theorem VwF.agg {l m:List V} (e:VwLF h d l m):VwF h (d+1) (.agg l) (.agg m):=⟨by simp only [V.view];rw [e.1];rfl,by simp only [V.fresh];exact e.2⟩
theorem VwF.ms {es id g off len:Nat} {clip dat:Bool} {c cs r:List V} (h1:bget h id=some (.blk c dat)) (h2:c.length=g) (h3:part c off (len*es)=some cs) (h4:VwLF h d cs r):VwF h (d+1) (.ms es id g off len clip) (.sl clip len r) :=
 ⟨by simp only [V.view,h1,h2,if_true,h3,h4.1],by simp only [V.fresh,h1,h2,if_true,h3,h4.2]⟩
theorem VwLF.nil:VwLF h d [] []:=⟨rfl,rfl⟩
theorem VwLF.cons {v w:V} {l m:List V} (e:VwF h d v w) (el:VwLF h d l m):VwLF h d (v::l) (w::m):=⟨by simp only [mapO,e.1,el.1],by simp only [allB,e.2,el.2,Bool.and_self]⟩
theorem VwLF.bytes (l:List UInt8):VwLF h (d+1) (ofBytes l) (ofBytes l):=by
 induction l with
 | nil=>exact VwLF.nil
 | cons b l ih=>exact VwLF.cons (VwF.int rfl) ih
end
theorem Q0y {c:List V} {n:Nat} (h:c.length=n):part c 0 n=some c:=by
 unfold part
 have e1:∀ (l:List V) (n:Nat),l.length=n→Q5a n l=l:=by
  intro l
  induction l with
  | nil=>intro n h;cases n<;>rfl
  | cons v l ih =>
   intro n h
   cases n with
   | zero=>simp at h
   | succ n=>simp only [Q5a];rw [ih n (by simpa using h)]
 simp only [Q6j,e1 c n h,h,if_true]
def upds:List V→List (Nat × V)→List V
 | tm,[]=>tm
 | tm,(n,v)::l=>upds (tset tm n v) l
theorem Q94 (l:List UInt8):Q32 (ofBytes l)=some l:=by
 induction l with
 | nil=>rfl
 | cons b l ih =>
  have:Qhu (.int .u8 b.toNat)=some b:=by simp [Qhu]
  simp only [ofBytes,Q32,this,ih]
theorem Q7s (l:List UInt8):scalars (ofBytes l)=true:=by
 induction l with
 | nil=>rfl
 | cons b l ih=>simp [ofBytes,scalars,V.scalar,ih]
theorem fW.mk {v:V} {K:V→Prop} (h:K v):fW v K:=Q2k.2 h
theorem LoopP.by {w:St→(X→St→Prop)→Prop} {m:List Bool} {hl:Nat} {tm:List V} {h:List B} {Q:X→St→Prop} {α:Type} (P:α→Prop) (us:α→List (Nat × V)) (hs:α→List B) (μ:α→Nat) (a0:α) (p0:P a0)
  (h0:(⟨tm,h⟩:St)=⟨upds tm (us a0),hs a0⟩)
  (step:∀ a,P a→fV (upds tm (us a)) fun tm'=>fB (hs a) fun h'=>w ⟨tm',h'⟩ fun x s=>match x with
   | .nrm=>NextP P (fun a=>(⟨upds tm (us a),hs a⟩:St)) μ a (norm m hl s)
   | x=>Q x s):LoopP w m hl ⟨tm,h⟩ Q :=
 ⟨α,P,fun a=>⟨upds tm (us a),hs a⟩,μ,a0,p0,h0,fun a pa=>Q1w.1 (Q23.1 (step a pa))⟩
theorem Vw.bytes {h:List B} {d id g len n:Nat} {clip dat:Bool} {l l':List UInt8} (h1:bget h id=some (.blk (ofBytes l) dat)) (h2:g=l.length) (h3:len=l.length) (e:l=l') (hn:n=l'.length) :
  Vw h (d+1+1) (.ms 1 id g 0 len clip) (.sl clip n (ofBytes l')):=by
 subst e hn h2 h3
 exact Vw.ms h1 (Q0j l) (Q0y (by rw [Q0j,Nat.mul_one])) (VwL.bytes l)
theorem VwF.bytes {h:List B} {d id g len n:Nat} {clip dat:Bool} {l l':List UInt8} (h1:bget h id=some (.blk (ofBytes l) dat)) (h2:g=l.length) (h3:len=l.length) (e:l=l') (hn:n=l'.length) :
  VwF h (d+1+1) (.ms 1 id g 0 len clip) (.sl clip n (ofBytes l')):=by
 subst e hn h2 h3
 exact VwF.ms h1 (Q0j l) (Q0y (by rw [Q0j,Nat.mul_one])) (VwLF.bytes l)
theorem Qrn {n:Nat} (h:n≤68719476736):n≤big:=h
theorem Q46 {n:Nat} (h:n<68719476736):n<big:=h
theorem zR {A P:Prop} (k:P) (h:A:=by first|rfl|decide|exact ⟨rfl,rfl⟩|exact ⟨rfl,by decide⟩|exact (fun _=>rfl)|exact (fun h=>nomatch h)|(simp;done)|omega|(simp [big];done)|exact Qrn (by omega)|exact Q46 (by omega)):Req A P:=.mk h k
theorem zT {p:Prop} [i:Decidable p] {P Q:Prop} (k:P) (h:p:=by first|assumption|omega):Br (@decide p i) P Q:=.decT h k
theorem zF {p:Prop} [i:Decidable p] {P Q:Prop} (k:Q) (h:¬p:=by first|assumption|omega):Br (@decide p i) P Q:=.decF h k
theorem zB {e:Int} {P:Int→Prop} (k:P e) (h1:-9223372036854775808≤e:=by omega) (h2:e≤9223372036854775807:=by omega):Bnd (IntKind.i64.wrap e) P:=.i64 h1 h2 k
theorem zN {m:Nat} {k:IntKind} {n:Nat} {P:Nat→Prop} (h:P n) (h1:n≤m:=by omega):Idx m (.int k (n:Int)) P:=.nat h1 h
theorem zZ {n:Nat} {P Q:Prop} (h:Q) (hn:n≠0:=by omega):Ifz n P Q:=.pos hn h
theorem zI {m:Nat} {k:IntKind} {n:Int} {P:Nat→Prop} (h:P n.toNat) (h0:0≤n:=by omega) (h1:n≤m:=by omega):Idx m (.int k n) P:=.int h0 h1 h
def wEnd (res:List RV) (P:V→Prop) (x:X) (s:St):Prop :=
 match x with
 | .exit _=>False
 | _=>Get (Q0s s res) fun v=>fW v P
theorem Ends.of {res:List RV} {P:V→Prop} {x:X} {s:St} (h:wEnd res P x s):Ends res x s P:=by
 cases x with
 | exit i=>exact h.elim
 | nrm =>
  obtain ⟨v0,h1,h2⟩:=h
  exact ⟨v0,.inl rfl,h1,Q2k.1 h2⟩
 | ret =>
  obtain ⟨v0,h1,h2⟩:=h
  exact ⟨v0,.inr rfl,h1,Q2k.1 h2⟩
end Go.Dr
namespace Go.Dr
variable {F:Nat→Option Fc} {md:Nat→Nat}
def Qfr (oc oc':Orc):Prop:=∀ f as h r,oc f as h=some r→oc' f as h=some r
def RnLe (rn rn':Nat→MC→St→Option (X × St)):Prop:=∀ ro c st r,rn ro c st=some r→rn' ro c st=some r
theorem Q72 {rn rn':Nat→MC→St→Option (X × St)} (hle:RnLe rn rn') (ro:Nat):∀ (f:Nat) (caps as:List V) (h:List B) (r:V × List B),Q07 F md ro rn (.fn f caps) as h=some r→Q07 F md ro rn' (.fn f caps) as h=some r:=by
 intro f caps as h r e
 obtain ⟨fc,hF,hl,hc⟩:=Q3h e
 rcases hc with ⟨hm,as',x,st,v,v',h1,h2,hx,h3,h4,h5,rfl⟩|⟨hm,x,st,v,h2,hx,h3,rfl⟩|⟨hm0,hm1,x,st,v,h2,hx,h3,h4,rfl⟩
 ·have hcd:(blos 0 (as++caps)||v'.scalar||V.fresh st.h depth v)=true:=by rcases h5 with h|h|h<;>simp [h]
  simp only [Q07,hF,hl,if_true,hm,h1]
  rcases hx with rfl|rfl<;>simp only [hle _ _ _ _ h2,h3,h4,hcd,if_true]
 ·simp only [Q07,hF,hl,if_true,hm]
  rcases hx with rfl|rfl<;>simp only [hle _ _ _ _ h2,h3]
 ·cases hmm:mode md (.fn f caps) as with
  | zero=>exact absurd hmm hm0
  | succ k =>
   cases k with
   | zero=>exact absurd hmm hm1
   | succ k =>
    simp only [Q07,hF,hl,if_true,hmm]
    rcases hx with rfl|rfl<;>simp only [hle _ _ _ _ h2,h3,h4,if_true]
theorem Qd6 {rn rn':Nat→MC→St→Option (X × St)} (hle:RnLe rn rn') (ro:Nat):Qfr (Q07 F md ro rn) (Q07 F md ro rn'):=by
 intro fv as h r e
 cases fv with
 | fn f caps=>exact Q72 hle ro f caps as h r e
 | bf f v=>exact Q72 hle ro f [] (v::as) h r e
 | yld id =>
  obtain ⟨p,tm,ps,asg,body,tm',st,p',tm2,ps2,a2,b2,x,st',h1,h2,h3,h4,h5,h6,rfl⟩:=Q4p e
  simp only [Q07,h1,h2,if_true,h3,hle _ _ _ _ h4,h5,hle _ _ _ _ h6]
  cases x<;>rfl
 | _=>simp [Q07] at e
theorem Qh9 {oc oc':Orc} (hle:Qfr oc oc') {ro base:Nat} {tm:List V} {h:List B} {r:G} {t:List V × List B} (e:evG oc ro base tm h r=some t):evG oc' ro base tm h r=some t:=by
 have go:∀ {t},(match (match r.o with
   | .call f args=>oc (f.ev tm) (evs tm args) h
   | o=>match plan base tm o with
    | none=>none
    | some p=>p.go ro h) with
  | none=>none
  | some (v,h')=>some (match r.d with|some d=>tset tm d v|none=>tm,h'))=some t→(match (match r.o with
   | .call f args=>oc' (f.ev tm) (evs tm args) h
   | o=>match plan base tm o with
    | none=>none
    | some p=>p.go ro h) with
  | none=>none
  | some (v,h')=>some (match r.d with|some d=>tset tm d v|none=>tm,h'))=some t:=by
  intro t e
  cases ho:r.o<;>rw [ho] at e<;>simp only at e ⊢ <;> first|exact e|skip
  split at e
  ·cases e
  ·rename_i v h' hq
   rw [hle _ _ _ _ hq];exact e
 unfold evG at e ⊢
 cases hg:r.g with
 | none=>rw [hg] at e;exact go e
 | some q =>
  obtain ⟨s,w⟩:=q
  rw [hg] at e
  simp only at e ⊢
  cases htg:tg tm s with
  | bool b =>
   rw [htg] at e
   try simp only at e ⊢
   by_cases hb:b=w
   ·simp only [hb,if_true] at e ⊢;exact go e
   ·simp only [hb,if_false] at e ⊢;exact e
  | tup l =>
   rw [htg] at e
   cases l with
   | nil=>exact e
   | cons a l=>simp at e
  | _=>rw [htg] at e;simp at e
theorem Qbh {oc oc':Orc} (hle:Qfr oc oc') {ro base:Nat}:∀ {l:List G} {tm:List V} {h:List B} {t:List V × List B},Q3f oc ro base l tm h=some t→Q3f oc' ro base l tm h=some t
 | [],_,_,_,e=>e
 | r::l,tm,h,t,e=>by
  simp only [Q3f] at e ⊢
  split at e
  ·cases e
  ·rename_i hq
   rw [Qh9 hle hq];exact Qbh hle e
theorem Q8q {oc oc':Orc} (hle:Qfr oc oc') {ro base:Nat}:∀ {l:List G} {i:Nat} {seen:List (Nat × Fp)} {tm:List V} {h:List B} {t:List V × List B},Q1u md oc ro base i seen l tm h=some t→Q1u md oc' ro base i seen l tm h=some t
 | [],_,_,_,_,_,e=>e
 | r::l,i,seen,tm,h,t,e=>by
  simp only [Q1u] at e ⊢
  split at e
  ·rename_i hf
   simp only [hf,if_true]
   split at e
   ·cases e
   ·rename_i hq
    rw [Qh9 hle hq];exact Q8q hle e
  ·cases e
theorem Qrb:∀ (n:Nat),RnLe (run F md n) (run F md (n+1))
 | 0,ro,c,st,r,e=>by simp [run] at e
 | n+1,ro,c,st,r,e=>by
  have ih:=Qrb n
  have ihc:∀ ro,Qfr (Q07 F md ro (run F md n)) (Q07 F md ro (run F md (n+1))):=fun ro=>Qd6 ih ro
  cases c with
  | skip=>rw [run] at e ⊢;exact e
  | exit id=>rw [run] at e ⊢;exact e
  | ret=>rw [run] at e ⊢;exact e
  | kn k f=>rw [run] at e ⊢;exact e
  | reg draw na ops =>
   rw [run] at e ⊢
   try simp only at e ⊢
   split at e
   ·cases e
   ·rename_i tm h hq
    have:(if draw=true then Q1u md (Q07 F md ro (run F md (n+1))) ro st.h.length 0 [] ops st.tm (if na=0 then st.h else st.h++Q0r na) else Q3f (Q07 F md ro (run F md (n+1))) ro st.h.length ops st.tm (if na=0 then st.h else st.h++Q0r na))=some (tm,h):=by
     cases draw with
     | true=>exact Q8q (ihc ro) hq
     | false=>exact Qbh (ihc ro) hq
    rw [this];exact e
  | seq a b =>
   rw [run] at e ⊢
   try simp only at e ⊢
   split at e
   ·rename_i st1 h1
    rw [ih _ _ _ _ h1]
    exact ih _ _ _ _ e
   ·rename_i hne
    have:=ih _ _ _ _ e
    rw [this]
    split
    ·rename_i q hq
     simp only [jA] at hq
     exact absurd (e.trans (by rw [hq])) (hne _)
    ·rfl
  | cond x a b =>
   rw [run] at e ⊢
   try simp only at e ⊢
   split at e
   ·split at e
    ·rename_i h1;simp only [h1,if_true];exact ih _ _ _ _ e
    ·rename_i h1;simp only [h1];exact ih _ _ _ _ e
   ·cases e
  | block id c =>
   rw [run] at e ⊢
   try simp only at e ⊢
   split at e
   ·rename_i i st1 h1
    rw [ih _ _ _ _ h1];exact e
   ·rename_i hne
    have:=ih _ _ _ _ e
    rw [this]
    split
    ·rename_i i q hq
     simp only [jA] at hq
     exact absurd (e.trans (by rw [hq])) (hne _ _)
    ·rfl
  | loop c=>rw [run] at e ⊢;exact ih _ _ _ _ e
  | lp m hl c =>
   rw [run] at e ⊢
   try simp only at e ⊢
   split at e
   ·rename_i st1 h1
    rw [ih _ _ _ _ h1]
    exact ih _ _ _ _ e
   ·rename_i hne
    have:=ih _ _ _ _ e
    rw [this]
    split
    ·rename_i q hq
     simp only [jA] at hq
     exact absurd (e.trans (by rw [hq])) (hne _)
    ·rfl
  | rf x ps asg body =>
   rw [run] at e ⊢
   try simp only at e ⊢
   split at e
   ·cases e
   ·rename_i v h hq
    have:isFn (x.ev st.tm) (Q07 F md ro (run F md (n+1)) (x.ev st.tm) [.yld st.h.length] (st.h++[.lop true .nrm st.tm ps asg body]))=some (v,h):=by
     unfold isFn at hq ⊢
     split at hq
     ·rename_i f cs hx
      exact ihc ro _ _ _ _ hq
     ·cases hq
    rw [this];exact e
theorem Q2n {n m:Nat} (hm:n≤m):RnLe (run F md n) (run F md m):=by
 induction hm with
 | refl=>exact fun _ _ _ _ h=>h
 | step _ ih=>exact fun _ _ _ _ h=>Qrb _ _ _ _ _ (ih _ _ _ _ h)
end Go.Dr
namespace Go.Dr
section
variable {α:Type}
noncomputable def getG (d:α) (l:List α):Nat→α:=List.rec (motive:=fun _=>Nat→α) (fun _=>d) (fun x _ ih n=>Nat.rec (motive:=fun _=>α) x (fun k _=>ih k) n) l
noncomputable def getO (l:List α):Nat→Option α:=List.rec (motive:=fun _=>Nat→Option α) (fun _=>none) (fun x _ ih n=>Nat.rec (motive:=fun _=>Option α) (some x) (fun k _=>ih k) n) l
noncomputable def setG (l:List α):Nat→α→List α:=List.rec (motive:=fun _=>Nat→α→List α) (fun _ _=>[]) (fun x r ih n v=>Nat.rec (motive:=fun _=>List α) (v::r) (fun k _=>x::ih k v) n) l
end
theorem Qew:∀ (l:List V) (n:Nat),getG .dead l n=tg l n
 | [],_=>rfl
 | _::_,0=>rfl
 | _::l,n+1=>Qew l n
theorem Qcc:∀ (l:List V) (n:Nat) (v:V),setG l n v=tset l n v
 | [],_,_=>rfl
 | _::_,0,_=>rfl
 | x::l,n+1,v=>by show x::setG l n v=x::tset l n v;rw [Qcc l n v]
theorem Qcx:∀ (l:List B) (n:Nat),getO l n=bget l n
 | [],_=>rfl
 | _::_,0=>rfl
 | _::l,n+1=>Qcx l n
noncomputable def xGet (tm:List V) (o:O):V :=
 match o with
 | .t n=>getG .dead tm n
 | .c v=>v
 | .mt tb n=>match getG .dead tm n with
  | .iface t _=>(match Q7q tb t with
   | some f=>.fn f []
   | none=>.dead)
  | _=>.dead
 | .rv tb n=>match getG .dead tm n with
  | .iface t v=>(match Q7q tb t with
   | some _=>v
   | none=>.dead)
  | _=>.dead
theorem Q40 (tm:List V) (o:O):xGet tm o=o.ev tm:=by cases o<;>simp only [xGet,O.ev,Qew]<;>rfl
def ltI (x y:Int):Bool :=
 match x with
 | .ofNat a=>match y with
  | .ofNat b=>Nat.blt a b
  | .negSucc _=>false
 | .negSucc a=>match y with
  | .ofNat _=>true
  | .negSucc b=>Nat.blt b a
theorem ltI_eq (x y:Int):ltI x y=decide (x<y):=by
 cases x<;>cases y<;>simp only [ltI]<;>rw [Bool.eq_iff_iff]<;>simp only [jG,Nat.blt_eq,Bool.false_eq_true,false_iff,true_iff,Int.ofNat_eq_natCast,Int.negSucc_eq]<;>omega
def Qi3 (k:IntKind) (n:Int):Int :=
 match k with
 | .i64=>match n with
  | .ofNat m=>match Nat.blt m 9223372036854775808 with
   | true=>.ofNat m
   | false=>k.wrap n
  | .negSucc m=>match Nat.blt m 9223372036854775808 with
   | true=>.negSucc m
   | false=>k.wrap n
 | _=>k.wrap n
theorem Qoc (k:IntKind) (n:Int):Qi3 k n=k.wrap n:=by
 cases k<;>try rfl
 cases n with
 | ofNat m =>
  simp only [Qi3]
  split
  ·rename_i h;rw [Nat.blt_eq] at h;simp only [Int.ofNat_eq_natCast];exact (wrap_i64 (by omega) (by omega)).symm
  ·rfl
 | negSucc m =>
  simp only [Qi3]
  split
  ·rename_i h;rw [Nat.blt_eq] at h;simp only [Int.negSucc_eq];exact (wrap_i64 (by omega) (by omega)).symm
  ·rfl
def xInt (op:BinOp) (k:IntKind) (a b:Int):Option V :=
 match op with
 | .add=>some (.int k (Qi3 k (a+b)))
 | .sub=>some (.int k (Qi3 k (a-b)))
 | .mul=>some (.int k (Qi3 k (a*b)))
 | .lss=>some (.bool (ltI a b))
 | .gtr=>some (.bool (ltI b a))
 | .leq=>some (.bool (!ltI b a))
 | .geq=>some (.bool (!ltI a b))
 | op=>Q6q op (.int k a) (.int k b)
def sameK (k k':IntKind):Bool :=
 match k with
 | .i64=>match k' with
  | .i64=>true
  | _=>false
 | _=>decide (k=k')
def xBin (op:BinOp) (x y:V):Option V :=
 match x with
 | .int k a=>match y with
  | .int k' b=>match sameK k k' with
   | true=>xInt op k a b
   | false=>Q6q op x y
  | _=>none
 | _=>Q6q op x y
theorem Qs8 (op:BinOp) (x y:V):xBin op x y=Q6q op x y:=by
 cases x with
 | int k a =>
  cases y with
  | int k' b =>
   have hs:sameK k k'=decide (k=k'):=by cases k<;>cases k'<;>rfl
   simp only [xBin,hs]
   by_cases h:k=k'
   ·subst h
    have hn:∀ x y:Int,(!decide (x<y))=decide (y≤x):=by
     intro x y;rw [Bool.eq_iff_iff];simp
    simp only [decide_true]
    cases op<;>simp only [xInt,Qoc,ltI_eq,hn,Q6q,ari,if_true]
   ·simp only [h,decide_false]
  | _=>rfl
 | _=>rfl
noncomputable def xLd (agg:Bool) (n:Nat) (x:V) (h:List B):Option (V × List B) :=
 match x with
 | .rp cs off=>match Q10 agg n off cs with
  | some v=>some (v,h)
  | none=>none
 | .ref id g off=>match getO h id with
  | some b=>match b with
   | .blk c _=>if c.length=g then (match Q10 agg n off c with
    | some v=>some (v,h)
    | none=>none) else none
   | _=>none
  | none=>none
 | _=>none
def xOk (v:V) (h:List B):Option (V × List B):=some (v,h)
def xV (o:Option V) (h:List B):Option (V × List B) :=
 match o with
 | some v=>some (v,h)
 | none=>none
def xPk (c a b:V) (h:List B):Option (V × List B) :=
 match c with
 | .bool t=>match t with
  | true=>some (a,h)
  | false=>some (b,h)
 | _=>none
def xFa (off:Nat) (x:V) (h:List B):Option (V × List B) :=
 match x with
 | .rp cs o=>some (.rp cs (o+off),h)
 | .ref id g o=>some (.ref id g (o+off),h)
 | _=>none
noncomputable def xRest (ro base:Nat) (tm:List V) (h:List B) (o:M):Option (V × List B) :=
 match plan base tm o with
 | none=>none
 | some p=>p.go ro h
noncomputable def xEvs (tm:List V) (l:List O):List V:=List.rec (motive:=fun _=>List V) [] (fun x _ ih=>xGet tm x::ih) l
theorem Qdu (tm:List V):∀ (l:List O),xEvs tm l=evs tm l
 | []=>rfl
 | x::l=>by show xGet tm x::xEvs tm l=_;rw [Qdu tm l,Q40];rfl
noncomputable def xM (oc:Orc) (ro base:Nat) (tm:List V) (h:List B) (o:M):Option (V × List B) :=
 match o with
 | .mv x=>xOk (xGet tm x) h
 | .bo op x y=>xV (xBin op (xGet tm x) (xGet tm y)) h
 | .pk c x y=>xPk (xGet tm c) (xGet tm x) (xGet tm y) h
 | .fa off x=>xFa off (xGet tm x) h
 | .ld agg n x=>xLd agg n (xGet tm x) h
 | .call f args=>oc (xGet tm f) (xEvs tm args) h
 | .mf f cs=>xOk (.fn f (xEvs tm cs)) h
 | o=>xRest ro base tm h o
theorem xM_eq (oc:Orc) (ro base:Nat) (tm:List V) (h:List B) (o:M):xM oc ro base tm h o=resM oc ro base tm h o:=by
 cases o with
 | mv x=>simp only [xM,xOk,resM,plan,Q40];rfl
 | bo op x y =>
  simp only [xM,resM,plan,Q40,Qs8]
  generalize Q6q op (x.ev tm) (y.ev tm)=z
  cases z<;>rfl
 | pk c x y =>
  simp only [xM,resM,plan,Q40]
  generalize c.ev tm=z
  cases z<;>try rfl
  rename_i t;cases t<;>rfl
 | fa off x =>
  simp only [xM,resM,plan,Q40]
  generalize x.ev tm=z
  cases z<;>rfl
 | ld agg n x =>
  simp only [xM,resM,plan,Q40]
  generalize x.ev tm=z
  cases z<;>try rfl
  ·rename_i cs off
   simp only [xLd,val?]
   generalize Q10 agg n off cs=w
   cases w<;>rfl
  ·rename_i id g off
   simp only [xLd,Qcx,Pl.go,Pl.rd,Q0n]
   cases hb:bget h id with
   | none=>rfl
   | some b =>
    cases b<;>try rfl
    rename_i c dat
    simp only
    by_cases hc:c.length=g
    ·simp only [hc,if_true]
     generalize Q10 agg n off c=w
     cases w<;>rfl
    ·simp only [hc,if_false]
 | call f args=>simp only [xM,resM,Q40,Qdu]
 | mf f cs=>simp only [xM,xOk,resM,plan,Qdu];rfl
 | _=>rfl
noncomputable def xPut (d:Option Nat) (tm:List V) (v:V):List V :=
 match d with
 | some d=>setG tm d v
 | none=>tm
def xRes (res:Option (V × List B)) (K:V→List B→Option (List V × List B)):Option (List V × List B) :=
 match res with
 | none=>none
 | some p=>match p with
  | (v,h)=>K v h
noncomputable def xGd (g:Option (Nat × Bool)) (tm:List V) (a b:Option (List V × List B)):Option (List V × List B) :=
 match g with
 | none=>a
 | some p=>match p with
  | (s,w)=>match getG .dead tm s with
   | .bool c=>match w with
    | true=>match c with
     | true=>a
     | false=>b
    | false=>match c with
     | true=>b
     | false=>a
   | .tup l=>match l with
    | []=>b
    | _=>none
   | _=>none
noncomputable def xG (oc:Orc) (ro base:Nat) (d:Option Nat) (g:Option (Nat × Bool)) (o:M) (tm:List V) (h:List B) (ih:List V→List B→Option (List V × List B)):Option (List V × List B) :=
 xGd g tm (xRes (xM oc ro base tm h o) fun v h=>ih (xPut d tm v) h) (ih (xPut d tm (.tup [])) h)
theorem xG_eq (oc:Orc) (ro base:Nat) (d:Option Nat) (g:Option (Nat × Bool)) (b:Nat) (o:M) (tm:List V) (h:List B) (ih:List V→List B→Option (List V × List B)) :
  xG oc ro base d g o tm h ih=(match evG oc ro base tm h ⟨d,g,b,o⟩ with|none=>none|some (tm',h')=>ih tm' h'):=by
 have key:∀ (P:V→List V) , (∀ v,xPut d tm v=P v)→xG oc ro base d g o tm h ih=(match (match g with
   | none=>(match resM oc ro base tm h o with|none=>none|some (v,h')=>some (P v,h'))
   | some (s,want)=>match tg tm s with
    | .bool b=>if b=want then (match resM oc ro base tm h o with|none=>none|some (v,h')=>some (P v,h')) else some (P (.tup []),h)
    | .tup []=>some (P (.tup []),h)
    | _=>none) with|none=>none|some (tm',h')=>ih tm' h'):=by
  intro P hP
  unfold xG
  simp only [hP,xM_eq]
  cases g with
  | none =>
   simp only [xGd]
   cases resM oc ro base tm h o<;>rfl
  | some p =>
   obtain ⟨s,w⟩:=p
   simp only [xGd,Qew]
   cases tg tm s with
   | bool c=>cases c<;>cases w<;>simp only [Bool.false_eq_true,if_true,if_false,reduceCtorEq]<;>cases resM oc ro base tm h o<;>rfl
   | tup l=>cases l<;>rfl
   | _=>rfl
 cases d with
 | none=>exact key (fun _=>tm) (fun _=>rfl)
 | some d=>exact key (fun v=>tset tm d v) (fun v=>Qcc _ _ _)
noncomputable def xOps (oc:Orc) (ro base:Nat) (l:List G):List V→List B→Option (List V × List B) :=
 List.rec (motive:=fun _=>List V→List B→Option (List V × List B)) (fun tm h=>some (tm,h)) (fun r _ ih tm h=>match r with
  | ⟨d,g,_,o⟩=>xG oc ro base d g o tm h ih) l
theorem Qjg (oc:Orc) (ro base:Nat):∀ (l:List G) (tm:List V) (h:List B),xOps oc ro base l tm h=Q3f oc ro base l tm h
 | [],_,_=>rfl
 | ⟨d,g,b,o⟩::l,tm,h=>by
  show xG oc ro base d g o tm h (xOps oc ro base l)=_
  rw [xG_eq (b:=b),Q3f]
  cases evG oc ro base tm h ⟨d,g,b,o⟩ with
  | none=>rfl
  | some q=>exact Qjg oc ro base l _ _
noncomputable def Qs7 (md:Nat→Nat) (oc:Orc) (ro base:Nat) (l:List G):Nat→List (Nat × Fp)→List V→List B→Option (List V × List B) :=
 List.rec (motive:=fun _=>Nat→List (Nat × Fp)→List V→List B→Option (List V × List B)) (fun _ _ tm h=>some (tm,h)) (fun r _ ih i seen tm h=>match Q6y (fpOf md base tm r) r.b seen with
  | true=>match r with
   | ⟨d,g,_,o⟩=>xG oc ro base d g o tm h (ih (i+1) ((i,fpOf md base tm r)::seen))
  | false=>none) l
theorem Qfv (md:Nat→Nat) (oc:Orc) (ro base:Nat):∀ (l:List G) (i:Nat) (seen:List (Nat × Fp)) (tm:List V) (h:List B),Qs7 md oc ro base l i seen tm h=Q1u md oc ro base i seen l tm h
 | [],_,_,_,_=>rfl
 | ⟨d,g,b,o⟩::l,i,seen,tm,h=>by
  show (match Q6y (fpOf md base tm ⟨d,g,b,o⟩) b seen with
   | true=>xG oc ro base d g o tm h (Qs7 md oc ro base l (i+1) ((i,fpOf md base tm ⟨d,g,b,o⟩)::seen))
   | false=>none)=_
  rw [xG_eq (b:=b),Q1u]
  cases hf:Q6y (fpOf md base tm ⟨d,g,b,o⟩) b seen with
  | false=>simp only [Bool.false_eq_true,if_false]
  | true =>
   simp only [if_true]
   cases evG oc ro base tm h ⟨d,g,b,o⟩ with
   | none=>rfl
   | some q=>exact Qfv md oc ro base l _ _ _ _
variable {F:Nat→Option Fc} {md:Nat→Nat}
def Sub (F:Nat→Option Fc) (md:Nat→Nat) (rn:Nat→MC→St→Option (X × St)):Prop:=∀ ro c st r,rn ro c st=some r→∃ n,run F md n ro c st=some r
def SubO (F:Nat→Option Fc) (md:Nat→Nat) (ro:Nat) (oc:Orc):Prop:=∀ f as h r,oc f as h=some r→∃ n,Q07 F md ro (run F md n) f as h=some r
theorem Q5x {rn:Nat→MC→St→Option (X × St)} (hs:Sub F md rn) (ro:Nat) (f:Nat) (caps as:List V) (h:List B) (r:V × List B) (e:Q07 F md ro rn (.fn f caps) as h=some r):∃ n,Q07 F md ro (run F md n) (.fn f caps) as h=some r:=by
 obtain ⟨fc,hF,hl,hc⟩:=Q3h e
 rcases hc with ⟨hm,as',x,st,v,v',h1,h2,hx,h3,h4,h5,rfl⟩|⟨hm,x,st,v,h2,hx,h3,rfl⟩|⟨hm0,hm1,x,st,v,h2,hx,h3,h4,rfl⟩
 ·obtain ⟨n,hn⟩:=hs _ _ _ _ h2
  have hcd:(blos 0 (as++caps)||v'.scalar||V.fresh st.h depth v)=true:=by rcases h5 with h|h|h<;>simp [h]
  refine ⟨n,?_⟩
  simp only [Q07,hF,hl,if_true,hm,h1]
  rcases hx with rfl|rfl<;>simp only [hn,h3,h4,hcd,if_true]
 ·obtain ⟨n,hn⟩:=hs _ _ _ _ h2
  refine ⟨n,?_⟩
  simp only [Q07,hF,hl,if_true,hm]
  rcases hx with rfl|rfl<;>simp only [hn,h3]
 ·obtain ⟨n,hn⟩:=hs _ _ _ _ h2
  refine ⟨n,?_⟩
  cases hmm:mode md (.fn f caps) as with
  | zero=>exact absurd hmm hm0
  | succ k =>
   cases k with
   | zero=>exact absurd hmm hm1
   | succ k =>
    simp only [Q07,hF,hl,if_true,hmm]
    rcases hx with rfl|rfl<;>simp only [hn,h3,h4,if_true]
theorem Q6l {rn:Nat→MC→St→Option (X × St)} (hs:Sub F md rn) (ro:Nat):SubO F md ro (Q07 F md ro rn):=by
 intro fv as h r e
 cases fv with
 | fn f caps=>exact Q5x hs ro f caps as h r e
 | bf f v=>exact Q5x hs ro f [] (v::as) h r e
 | yld id =>
  obtain ⟨p,tm,ps,asg,body,tm',st,p',tm2,ps2,a2,b2,x,st',h1,h2,h3,h4,h5,h6,rfl⟩:=Q4p e
  obtain ⟨n1,hn1⟩:=hs _ _ _ _ h4
  obtain ⟨n2,hn2⟩:=hs _ _ _ _ h6
  refine ⟨max n1 n2,?_⟩
  simp only [Q07,h1,h2,if_true,h3,Q2n (Nat.le_max_left n1 n2) _ _ _ _ hn1,h5,Q2n (Nat.le_max_right n1 n2) _ _ _ _ hn2]
  cases x<;>rfl
 | _=>simp [Q07] at e
theorem Qmz {oc oc':Orc} {ro base:Nat} {tm:List V} {h:List B} {r:G} (he:∀ f as,r.o=.call f as→oc (f.ev tm) (evs tm as) h=oc' (f.ev tm) (evs tm as) h):evG oc ro base tm h r=evG oc' ro base tm h r:=by
 obtain ⟨d,g,b,o⟩:=r
 cases o with
 | call f as=>simp only [evG,he f as rfl]
 | _=>rfl
theorem Qmx {oc:Orc} {ro base:Nat} (hs:SubO F md ro oc) {tm:List V} {h:List B} {r:G} {t:List V × List B} (e:evG oc ro base tm h r=some t):∃ n,∀ m,n≤m→evG (Q07 F md ro (run F md m)) ro base tm h r=some t:=by
 have up:(∃ n,evG (Q07 F md ro (run F md n)) ro base tm h r=some t)→∃ n,∀ m,n≤m→evG (Q07 F md ro (run F md m)) ro base tm h r=some t :=
  fun ⟨n,hn⟩=>⟨n,fun m hm=>Qh9 (Qd6 (Q2n hm) ro) hn⟩
 refine up ?_
 by_cases hc:∃ f as,r.o=.call f as
 ·obtain ⟨f,as,hr⟩:=hc
  cases hq:oc (f.ev tm) (evs tm as) h with
  | some q =>
   obtain ⟨n,hn⟩:=hs _ _ _ _ hq
   refine ⟨n,?_⟩
   rw [← e]
   exact (Qmz fun f' as' hr'=>by rw [hr] at hr';cases hr';rw [hq,hn]).symm
  | none =>
   refine ⟨0,Qh9 (oc:=fun _ _ _=>none) (fun _ _ _ _ h=>by cases h) ?_⟩
   rw [← e]
   exact (Qmz fun f' as' hr'=>by rw [hr] at hr';cases hr';rw [hq]).symm
 ·refine ⟨0,?_⟩
  rw [← e]
  exact Qmz fun f as hr=>absurd ⟨f,as,hr⟩ hc
theorem Qd3 {oc:Orc} {ro base:Nat} (hs:SubO F md ro oc):∀ {l:List G} {tm:List V} {h:List B} {t:List V × List B},Q3f oc ro base l tm h=some t→∃ n,∀ m,n≤m→Q3f (Q07 F md ro (run F md m)) ro base l tm h=some t
 | [],tm,h,t,e=>⟨0,fun _ _=>e⟩
 | r::l,tm,h,t,e=>by
  simp only [Q3f] at e
  split at e
  ·cases e
  ·rename_i hq
   obtain ⟨n1,h1⟩:=Qmx hs hq
   obtain ⟨n2,h2⟩:=Qd3 hs e
   exact ⟨max n1 n2,fun m hm=>by simp only [Q3f,h1 m (by omega)];exact h2 m (by omega)⟩
theorem Qa5 {oc:Orc} {ro base:Nat} (hs:SubO F md ro oc):∀ {l:List G} {i:Nat} {seen:List (Nat × Fp)} {tm:List V} {h:List B} {t:List V × List B},Q1u md oc ro base i seen l tm h=some t →
  ∃ n,∀ m,n≤m→Q1u md (Q07 F md ro (run F md m)) ro base i seen l tm h=some t
 | [],i,seen,tm,h,t,e=>⟨0,fun _ _=>e⟩
 | r::l,i,seen,tm,h,t,e=>by
  simp only [Q1u] at e
  split at e
  ·rename_i hf
   split at e
   ·cases e
   ·rename_i hq
    obtain ⟨n1,h1⟩:=Qmx hs hq
    obtain ⟨n2,h2⟩:=Qa5 hs e
    exact ⟨max n1 n2,fun m hm=>by simp only [Q1u,hf,if_true,h1 m (by omega)];exact h2 m (by omega)⟩
  ·cases e
def Qfs (F:Nat→Option Fc) (md:Nat→Nat) (S:Nat→Option (List V→Option V)):Prop:=∀ f g,S f=some g→∀ as v,g as=some v→Fun F md f as v
def Qji (S:Nat→Option (List V→Option V)) (F:Nat→Option Fc) (md:Nat→Nat) (ro:Nat) (rn:Nat→MC→St→Option (X × St)) (fv:V) (args:List V) (h:List B):Option (V × List B) :=
 match fv with
 | .fn f caps=>match S f with
  | some g=>match mode md (.fn f caps) args with
   | 0=>match Q1o h depth (args++caps) with
    | some as=>match g as with
     | some v=>match blos 0 (args++caps)||v.scalar with
      | true=>some (v,h)
      | false=>none
     | none=>none
    | none=>none
   | _=>Q07 F md ro rn fv args h
  | none=>Q07 F md ro rn fv args h
 | _=>Q07 F md ro rn fv args h
theorem Qjh {S:Nat→Option (List V→Option V)} (hS:Qfs F md S) {rn:Nat→MC→St→Option (X × St)} (hs:Sub F md rn) (ro:Nat):SubO F md ro (Qji S F md ro rn):=by
 intro fv as h r e
 unfold Qji at e
 split at e
 ·rename_i f caps
  split at e
  ·rename_i g hg
   split at e
   ·rename_i hm
    split at e
    ·rename_i as' hv
     split at e
     ·rename_i v hgv
      split at e
      ·rename_i hb
       cases e
       obtain ⟨v',h',⟨n,hn⟩,hk⟩:=Q06 (ro:=ro) (K:=fun v' h'=>v'=v∧h'=h) hm hv (hS f g hg _ _ hgv) (by simpa using hb) ⟨rfl,rfl⟩
       obtain ⟨rfl,rfl⟩:=hk
       exact ⟨n,hn n (Nat.le_refl _)⟩
      ·cases e
     ·cases e
    ·cases e
   ·exact Q6l hs ro _ _ _ _ e
  ·exact Q6l hs ro _ _ _ _ e
 ·exact Q6l hs ro _ _ _ _ e
noncomputable def xRun (S:Nat→Option (List V→Option V)) (F:Nat→Option Fc) (md:Nat→Nat) (ih:Nat→MC→St→Option (X × St)) (ro:Nat) (c:MC) (st:St):Option (X × St) :=
 match st with
 | ⟨tm,h⟩=>match c with
  | .skip=>some (.nrm,⟨tm,h⟩)
  | .exit id=>some (.exit id,⟨tm,h⟩)
  | .ret=>some (.ret,⟨tm,h⟩)
  | .kn k f=>match F f with
   | none=>none
   | some fc=>match fc.kn with
    | none=>none
    | some g=>match g ro (tm.take k) h with
     | none=>none
     | some (v,h)=>some (.ret,⟨[v],h⟩)
  | .reg draw na ops=>match (match draw with
    | true=>Qs7 md (Qji S F md ro ih) ro h.length ops 0 [] tm (if na=0 then h else h++Q0r na)
    | false=>xOps (Qji S F md ro ih) ro h.length ops tm (if na=0 then h else h++Q0r na)) with
   | none=>none
   | some (tm,h)=>some (.nrm,⟨tm,h⟩)
  | .seq a b=>match ih ro a ⟨tm,h⟩ with
   | some (.nrm,st')=>ih ro b st'
   | r=>r
  | .cond x a b=>match xGet tm x with
   | .bool t=>match t with
    | true=>ih ro a ⟨tm,h⟩
    | false=>ih ro b ⟨tm,h⟩
   | _=>none
  | .block id c=>match ih ro c ⟨tm,h⟩ with
   | some (.exit i,st')=>if i=id then some (.nrm,st') else some (.exit i,st')
   | r=>r
  | .loop c=>ih ro (.lp (Q4t tm) h.length c) ⟨tm,h⟩
  | .lp m hl c=>match ih ro c ⟨tm,h⟩ with
   | some (.nrm,st')=>ih ro (.lp m hl c) (norm m hl st')
   | r=>r
  | .rf x ps asg body =>
   match isFn (x.ev tm) (Qji S F md ro ih (x.ev tm) [.yld h.length] (h++[.lop true .nrm tm ps asg body])) with
   | none=>none
   | some (_,h')=>match bget h' h.length with
    | some (.lop r x _ _ _ _)=>match Qcg r x with
     | none=>none
     | some x=>some (x,⟨tm,bset h' h.length (.lop false .nrm tm ps asg body)⟩)
    | _=>none
noncomputable def runX (S:Nat→Option (List V→Option V)) (F:Nat→Option Fc) (md:Nat→Nat) (n:Nat):Nat→MC→St→Option (X × St) :=
 Nat.rec (motive:=fun _=>Nat→MC→St→Option (X × St)) (fun _ _ _=>none) (fun _ ih=>xRun S F md ih) n
theorem Qar {S:Nat→Option (List V→Option V)} (hS:Qfs F md S):∀ n,Sub F md (runX S F md n)
 | 0,ro,c,st,r,e=>by cases e
 | n+1,ro,c,st,r,e=>by
  have ih:=Qar hS n
  have ihc:=fun ro=>Qjh hS ih ro
  replace e:xRun S F md (runX S F md n) ro c st=some r:=e
  obtain ⟨tm,h⟩:=st
  cases c with
  | skip=>exact ⟨1,by rw [run];exact e⟩
  | exit id=>exact ⟨1,by rw [run];exact e⟩
  | ret=>exact ⟨1,by rw [run];exact e⟩
  | kn k f=>exact ⟨1,by rw [run];exact e⟩
  | reg draw na ops =>
   cases draw with
   | true =>
    simp only [xRun] at e
    split at e
    ·cases e
    ·rename_i hq
     obtain ⟨k,hk⟩:=Qa5 (ihc ro) ((Qfv _ _ _ _ _ _ _ _ _).symm.trans hq)
     exact ⟨k+1,by rw [run];simp only [if_true];rw [show Q1u md (Q07 F md ro (run F md k)) ro h.length 0 [] ops tm (if na=0 then h else h++Q0r na)=_ from hk k (Nat.le_refl _)];exact e⟩
   | false =>
    simp only [xRun] at e
    split at e
    ·cases e
    ·rename_i hq
     obtain ⟨k,hk⟩:=Qd3 (ihc ro) ((Qjg _ _ _ _ _ _).symm.trans hq)
     exact ⟨k+1,by rw [run];simp only [Bool.false_eq_true,if_false];rw [show Q3f (Q07 F md ro (run F md k)) ro h.length ops tm (if na=0 then h else h++Q0r na)=_ from hk k (Nat.le_refl _)];exact e⟩
  | seq a b =>
   simp only [xRun] at e
   split at e
   ·rename_i st1 h1
    obtain ⟨n1,q1⟩:=ih _ _ _ _ h1
    obtain ⟨n2,q2⟩:=ih _ _ _ _ e
    exact ⟨max n1 n2+1,by rw [run];rw [Q2n (Nat.le_max_left n1 n2) _ _ _ _ q1];exact Q2n (Nat.le_max_right n1 n2) _ _ _ _ q2⟩
   ·rename_i hne
    obtain ⟨n1,q1⟩:=ih _ _ _ _ e
    refine ⟨n1+1,?_⟩
    rw [run,q1]
    obtain ⟨x,s⟩:=r
    cases x with
    | nrm=>exact absurd e (hne _)
    | _=>rfl
  | cond x a b =>
   simp only [xRun,Q40] at e
   split at e
   ·rename_i t ht
    cases t with
    | true =>
     obtain ⟨n1,q1⟩:=ih _ _ _ _ e
     exact ⟨n1+1,by rw [run];simp only [ht,if_true];exact q1⟩
    | false =>
     obtain ⟨n1,q1⟩:=ih _ _ _ _ e
     exact ⟨n1+1,by rw [run];simp only [ht,Bool.false_eq_true,if_false];exact q1⟩
   ·cases e
  | block id c =>
   simp only [xRun] at e
   split at e
   ·rename_i i st1 h1
    obtain ⟨n1,q1⟩:=ih _ _ _ _ h1
    exact ⟨n1+1,by rw [run,q1];exact e⟩
   ·rename_i hne
    obtain ⟨n1,q1⟩:=ih _ _ _ _ e
    refine ⟨n1+1,?_⟩
    rw [run,q1]
    obtain ⟨x,s⟩:=r
    cases x with
    | exit i=>exact absurd e (hne _ _)
    | _=>rfl
  | loop c =>
   obtain ⟨n1,q1⟩:=ih _ _ _ _ e
   exact ⟨n1+1,by rw [run];exact q1⟩
  | lp m hl c =>
   simp only [xRun] at e
   split at e
   ·rename_i st1 h1
    obtain ⟨n1,q1⟩:=ih _ _ _ _ h1
    obtain ⟨n2,q2⟩:=ih _ _ _ _ e
    exact ⟨max n1 n2+1,by rw [run];rw [Q2n (Nat.le_max_left n1 n2) _ _ _ _ q1];exact Q2n (Nat.le_max_right n1 n2) _ _ _ _ q2⟩
   ·rename_i hne
    obtain ⟨n1,q1⟩:=ih _ _ _ _ e
    refine ⟨n1+1,?_⟩
    rw [run,q1]
    obtain ⟨x,s⟩:=r
    cases x with
    | nrm=>exact absurd e (hne _)
    | _=>rfl
  | rf x ps asg body =>
   simp only [xRun] at e
   split at e
   ·cases e
   ·rename_i v h' hq
    unfold isFn at hq
    split at hq
    ·rename_i f cs hx
     obtain ⟨n1,q1⟩:=ihc ro _ _ _ _ hq
     refine ⟨n1+1,?_⟩
     rw [run]
     rw [hx] at q1
     simp only [hx,isFn]
     rw [show Q07 F md ro (run F md n1) (V.fn f cs) [V.yld h.length] (h++[B.lop true X.nrm tm ps asg body])=_ from q1]
     exact e
    ·cases hq
noncomputable def Qua (S:Nat→Option (List V→Option V)) (F:Nat→Option Fc) (md:Nat→Nat) (n f:Nat) (as:List V):Option V :=
 match F f with
 | none=>none
 | some fc=>if as.length=fc.np then (match runX S F md n 0 fc.body ⟨as++Q1a (fc.ntm-fc.np),[]⟩ with
  | some (.nrm,st)|some (.ret,st)=>match Q0s st fc.res with
   | none=>none
   | some v=>V.view st.h depth v
  | _=>none) else none
theorem fun_x {S:Nat→Option (List V→Option V)} (hS:Qfs F md S) {n f:Nat} {as:List V} {v:V} (h:Qua S F md n f as=some v):Fun F md f as v:=by
 unfold Qua at h
 split at h
 ·cases h
 ·rename_i fc hF
  split at h
  ·rename_i hl
   split at h
   ·rename_i st hr
    split at h
    ·cases h
    ·rename_i v0 hv
     obtain ⟨k,hk⟩:=Qar hS _ _ _ _ _ hr
     exact ⟨fc,hF,hl,k,.nrm,st,v0,fun m hm=>Q2n hm _ _ _ _ hk,.inl rfl,hv,h⟩
   ·rename_i st hr
    split at h
    ·cases h
    ·rename_i v0 hv
     obtain ⟨k,hk⟩:=Qar hS _ _ _ _ _ hr
     exact ⟨fc,hF,hl,k,.ret,st,v0,fun m hm=>Q2n hm _ _ _ _ hk,.inr rfl,hv,h⟩
   ·cases h
  ·cases h
mutual
def veq:V→V→Bool
 | .bool a,.bool b=>a==b
 | .int k a,.int k' b=>decide (k=k')&&decide (a=b)
 | .str a,.str b=>a==b
 | .nilp,.nilp|.nilsl,.nilsl|.esl,.esl|.nilmap,.nilmap|.nilfn,.nilfn|.nilif,.nilif=>true
 | .sl c n l,.sl c' n' l'=>c==c'&&n==n'&&veqs l l'
 | .agg l,.agg l'=>veqs l l'
 | .tup l,.tup l'=>veqs l l'
 | .iface t v,.iface t' v'=>t==t'&&veq v v'
 | .bf t v,.bf t' v'=>t==t'&&veq v v'
 | .fn f l,.fn f' l'=>f==f'&&veqs l l'
 | _,_=>false
def veqs:List V→List V→Bool
 | [],[]=>true
 | v::l,w::m=>veq v w&&veqs l m
 | _,_=>false
end
mutual
theorem Qg3:∀ {v w:V},veq v w=true→v=w
 | .bool a,w,h=>by cases w<;>simp_all [veq]
 | .int k a,w,h=>by cases w<;>simp_all [veq]
 | .str a,w,h=>by cases w<;>simp_all [veq]
 | .nilp,w,h=>by cases w<;>simp_all [veq]
 | .nilsl,w,h=>by cases w<;>simp_all [veq]
 | .nilmap,w,h=>by cases w<;>simp_all [veq]
 | .esl,w,h=>by cases w<;>simp_all [veq]
 | .nilfn,w,h=>by cases w<;>simp_all [veq]
 | .nilif,w,h=>by cases w<;>simp_all [veq]
 | .sl c n l,w,h=>by
  cases w<;>simp only [veq,jF,beq_iff_eq,Bool.false_eq_true] at h
  rw [h.1.1,h.1.2,Q66 h.2]
 | .agg l,w,h=>by
  cases w<;>simp only [veq,Bool.false_eq_true] at h
  rw [Q66 h]
 | .tup l,w,h=>by
  cases w<;>simp only [veq,Bool.false_eq_true] at h
  rw [Q66 h]
 | .iface t v,w,h=>by
  cases w<;>simp only [veq,jF,beq_iff_eq,Bool.false_eq_true] at h
  rw [h.1,Qg3 h.2]
 | .bf t v,w,h=>by
  cases w<;>simp only [veq,jF,beq_iff_eq,Bool.false_eq_true] at h
  rw [h.1,Qg3 h.2]
 | .fn f l,w,h=>by
  cases w<;>simp only [veq,jF,beq_iff_eq,Bool.false_eq_true] at h
  rw [h.1,Q66 h.2]
 | .rp _ _,w,h=>by cases w<;>simp [veq] at h
 | .rm _ _,w,h=>by cases w<;>simp [veq] at h
 | .ref _ _ _,w,h=>by cases w<;>simp [veq] at h
 | .ms _ _ _ _ _ _,w,h=>by cases w<;>simp [veq] at h
 | .yld _,w,h=>by cases w<;>simp [veq] at h
 | .dead,w,h=>by cases w<;>simp [veq] at h
theorem Q66:∀ {l m:List V},veqs l m=true→l=m
 | [],[],_=>rfl
 | [],_::_,h=>by simp [veqs] at h
 | _::_,[],h=>by simp [veqs] at h
 | v::l,w::m,h=>by
  simp only [veqs,jF] at h
  rw [Qg3 h.1,Q66 h.2]
end
noncomputable def isX (S:Nat→Option (List V→Option V)) (F:Nat→Option Fc) (md:Nat→Nat) (n f:Nat) (as:List V) (v:V):Bool :=
 match Qua S F md n f as with
 | some w=>veq w v
 | none=>false
theorem Qa1 {S:Nat→Option (List V→Option V)} (hS:Qfs F md S) {n f:Nat} {as:List V} {v:V} (h:isX S F md n f as v=true):Fun F md f as v:=by
 unfold isX at h
 split at h
 ·rename_i w hw
  rw [← Qg3 h];exact fun_x hS hw
 ·cases h
theorem zC {F:Nat→Option Fc} {md:Nat→Nat} {ro f:Nat} {caps args as:List V} {h:List B} {v:V} {K:V→List B→Prop} (hf:Fun F md f as v) (hk:K v h) (hm:mode md (.fn f caps) args=0 := by exact rfl) (hv:Q1o h depth (args++caps)=some as := by exact rfl) (hs:blos 0 (args++caps)=true∨v.scalar=true := by exact .inl rfl):CallP F md ro (.fn f caps) args h K:=Q06 hm hv hf hs hk
end Go.Dr
