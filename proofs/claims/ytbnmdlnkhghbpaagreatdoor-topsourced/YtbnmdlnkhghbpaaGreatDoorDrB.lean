/- The door: single operations, first part: operands, and operations that touch no memory. -/
import Derived.Test.YtbnmdlnkhghbpaaGreatDoorDrA
import Derived.Laws.CopyRow
import Derived.ChangeKeysEq
import Derived.Laws.StructEq
namespace Go.Dr
open Go.RowKit (Below)
variable {P:Program} {k:K}
mutual
theorem Q83:∀ {n:Nat} {x:Value} {v:V},Qcm n x=some v→R k v x
 | 0,x,v,h=>by simp [Qcm] at h
 | n+1,x,v,h=>by
  unfold Qcm at h
  split at h<;>(try (cases h;simp only [R];done))<;>(try (cases h;done))
  ·rename_i cs
   obtain ⟨l,hl,rfl⟩:=Option.map_eq_some_iff.1 h
   simp only [R];exact ⟨_,rfl,Qgt hl⟩
  ·rename_i t y
   obtain ⟨l,hl,rfl⟩:=Option.map_eq_some_iff.1 h
   simp only [R];exact ⟨_,rfl,Q83 hl⟩
  ·cases h;simp only [R];exact ⟨[],rfl,by simp [RL]⟩
theorem Qgt:∀ {n:Nat} {xs:List Value} {l:List V},Q9v n xs=some l→RL k l xs
 | 0,_,_,h=>by simp [Q9v] at h
 | n+1,[],l,h=>by simp [Q9v] at h;subst h;simp [RL]
 | n+1,x::xs,l,h=>by
  unfold Q9v at h
  split at h
  ·cases h
  ·rename_i v hv
   split at h
   ·cases h
   ·rename_i r hr
    cases h
    exact RL.cons (Q83 hv) (Qgt hr)
end
theorem cO_R {tm:List V} {a:Act} (ht:RL k tm a.tmps.toList) {x:Operand} {y:O} (h:cO x=some y):R k (y.ev tm) (a.eval x):=by
 cases x with
 | tmp n =>
  simp only [cO,jA] at h;subst h
  have:=RL.get n ht
  simpa [O.ev,Act.eval,Array.getD_eq_getD_getElem?,jM] using this
 | const v =>
  simp only [cO] at h
  obtain ⟨w,hw,rfl⟩:=Option.map_eq_some_iff.1 h
  simpa [O.ev,Act.eval] using Q83 hw
 | global g=>simp [cO] at h
 | func f =>
  simp only [cO,jA] at h;subst h
  simp only [O.ev,R,Act.eval];exact ⟨[],rfl,by simp [RL]⟩
theorem Qnv {tm:List V} {a:Act} (ht:RL k tm a.tmps.toList):∀ {xs:List Operand} {ys:List O},cOs xs=some ys→RL k (evs tm ys) (xs.map a.eval)
 | [],ys,h=>by simp [cOs] at h;subst h;simp [evs,RL]
 | x::xs,ys,h=>by
  unfold cOs at h
  split at h
  ·cases h
  ·rename_i y hy
   split at h
   ·cases h
   ·rename_i r hr
    cases h
    exact RL.cons (cO_R ht hy) (Qnv ht hr)
theorem Qbo {v:V} {x:Value} (h:R k v x) (ho:ones v.cells=true):RL k v.cells x.cells.toList:=by
 cases v<;>simp only [V.cells,ones,V.one,Bool.and_true,Bool.false_eq_true] at ho ⊢ <;> (try (simp only [R] at h)) <;>
  (try (subst h;exact RL.cons (by simp only [R]) RL.nil))
 ·rcases h with ⟨a,rfl,h'⟩|⟨b,off,cap,vs,rfl,h'⟩
  ·exact RL.cons (by simp only [R];exact .inl ⟨a,rfl,h'⟩) RL.nil
  ·exact RL.cons (by simp only [R];exact .inr ⟨b,off,cap,vs,rfl,h'⟩) RL.nil
 ·obtain ⟨b,off,vs,rfl,h'⟩:=h;exact RL.cons (by simp only [R];exact ⟨b,off,vs,rfl,h'⟩) RL.nil
 ·obtain ⟨vs,rfl,h'⟩:=h;exact h'
 ·obtain ⟨y,rfl,h'⟩:=h;exact RL.cons (by simp only [R];exact ⟨y,rfl,h'⟩) RL.nil
 ·obtain ⟨y,rfl,h'⟩:=h;exact RL.cons (by simp only [R];exact ⟨y,rfl,h'⟩) RL.nil
 ·obtain ⟨b,o,c,dat,rfl,h'⟩:=h;exact RL.cons (by simp only [R];exact ⟨b,o,c,dat,rfl,h'⟩) RL.nil
 ·obtain ⟨b,o,cap,c,dat,rfl,h'⟩:=h;exact RL.cons (by simp only [R];exact ⟨b,o,cap,c,dat,rfl,h'⟩) RL.nil
 ·obtain ⟨rfl,h'⟩:=h;exact RL.cons (by simp only [R];exact ⟨trivial,h'⟩) RL.nil
 ·obtain ⟨rfl,h'⟩:=h;exact RL.cons (by simp only [R];exact ⟨trivial,h'⟩) RL.nil
 ·obtain ⟨a,cap,rfl,h'⟩:=h;exact RL.cons (by simp only [R];exact ⟨a,cap,rfl,h'⟩) RL.nil
 ·obtain ⟨rfl,h'⟩:=h;exact RL.cons (by simp only [R];exact ⟨trivial,h'⟩) RL.nil
 ·obtain ⟨y,rfl,h'⟩:=h;exact RL.cons (by simp only [R];exact ⟨y,rfl,h'⟩) RL.nil
 ·obtain ⟨b,kv,vv,rfl,h'⟩:=h;exact RL.cons (by simp only [R];exact ⟨b,kv,vv,rfl,h'⟩) RL.nil
 ·obtain ⟨rfl,h'⟩:=h;exact RL.cons (by simp only [R];exact ⟨trivial,h'⟩) RL.nil
theorem Q0x {t n:Nat} (h:szOf P t=some n) (w:World):(sizeOf t).run P w=.ok n w:=by
 unfold szOf at h;obtain ⟨i,hi,rfl⟩:=Option.map_eq_some_iff.1 h
 simp [sizeOf,typeInfo,hi]
theorem Qhv {t n:Nat} (h:byOf P t=some n) (w:World):∃ i,(typeInfo t).run P w=.ok i w∧i.bytes=n∧P.info? t=some i:=by
 unfold byOf at h;obtain ⟨i,hi,rfl⟩:=Option.map_eq_some_iff.1 h
 exact ⟨i,by simp [typeInfo,hi],rfl,hi⟩
theorem Q3k {t:Nat} {b:Bool} (h:Q2i P t=some b) (w:World):(isAgg t).run P w=.ok b w:=by
 unfold Q2i at h;obtain ⟨d,hd,rfl⟩:=Option.map_eq_some_iff.1 h
 simp only [isAgg,Sem.run_bind,run_underlying hd,Result.andThen_ok]
 cases d<;>simp
theorem Q2s {t:Nat} {z:List V} (h:Q6s P t=some z) (w:World) (k:K) :
  ∃ x,(zeroValue t).run P w=.ok x w∧RL k z x.cells.toList∧szOf P t=some z.length∧ones z=true:=by
 unfold Q6s at h
 split at h
 ·rename_i i hi
  split at h
  ·rename_i x hx
   split at h
   ·rename_i v hv
    split at h
    ·rename_i hc
     cases h
     simp only [jF,jG] at hc
     exact ⟨x,by simp [zeroValue,typeInfo,hi,hx],Qbo (Q83 hv) hc.2,by simp [szOf,hi,hc.1],hc.2⟩
    ·cases h
   ·cases h
  ·cases h
 ·cases h
theorem Q57 {t:Nat} {z:V} (h:Qjd P t=some z) (w:World) (k:K):∃ x,(zeroValue t).run P w=.ok x w∧R k z x:=by
 unfold Qjd at h
 split at h
 ·rename_i i hi
  split at h
  ·rename_i x hx
   exact ⟨x,by simp [zeroValue,typeInfo,hi,hx],Q83 h⟩
  ·cases h
 ·cases h
def Did (P:Program) [GT P] (ro:Nat) (k:K) (s:Sem Next) (v:V) (h':List B):Prop :=
 ∃ x k',(s.run P k.w=.ok (.value x) k'.w∨(s.run P k.w=.ok .skip k'.w∧x=undef))∧k'.h=h'∧Good P k'∧Ev ro k.h.length k k'∧R k' v x
theorem Did.val [GT P] {ro:Nat} {s:Sem Next} {v:V} {x:Value} (g:Good P k) (hr:s.run P k.w=.ok (.value x) k.w) (hx:R k v x):Did P ro k s v k.h :=
 ⟨x,k,.inl hr,rfl,g,Ev.refl _ _ _,hx⟩
theorem Pl.go_val {ro:Nat} {h:List B} {v v':V} {h':List B} (e:(Pl.val v).go ro h=some (v',h')):v'=v∧h'=h:=by
 simp only [Pl.val,Pl.go,Q0n,jA,jN] at e
 exact ⟨e.1.symm,e.2.symm⟩
theorem val?_some {v:Option V} {p:Pl} (h:val? v=some p):∃ x,v=some x∧p=.val x:=by
 unfold val? at h;obtain ⟨x,hx,rfl⟩:=Option.map_eq_some_iff.1 h;exact ⟨x,hx,rfl⟩
theorem Quy {op:BinOp} {kk:IntKind} {x y:Int} {v:V} (h:ari op kk x y=some v) (hop:op≠.shl) (hop':op≠.shr) (w:World) :
  ∃ z,(binOp op 0 (.int kk x) (.int kk y)).run P w=.ok z w∧R k v z:=by
 cases op<;>simp only [ari,jA] at h<;>(try (exact absurd rfl hop))<;>(try (exact absurd rfl hop'))<;>(try (cases h;done)) <;>
  (try (split at h<;>cases h))<;>(try subst h) <;>
  (simp [binOp,Op.intArith,Op.intDiv,Op.intBits,Op.intCmp,R,Qhz, *])
 all_goals (first|done|(rw [Bool.eq_iff_iff];simp)|skip)
theorem Qqx (op:BinOp) (t u:TypeId) (kk kk':IntKind) (x y:Int):binOp op t (.int kk x) (.int kk' y)=binOp op u (.int kk x) (.int kk' y):=by
 cases op<;>simp [binOp]
end Go.Dr
namespace Go.Dr
open Go.RowKit (Below)
variable {P:Program} {k:K} {tm:List V} {ρ:Operand→Value} {o:Oper} {j base ro:Nat} {m:M} {p:Pl} {v:V} {h' : List B}
def Ops (k:K) (tm:List V) (ρ:Operand→Value):Prop :=
 (∀ x y,cO x=some y→R k (y.ev tm) (ρ x))∧(∀ xs ys,cOs xs=some ys→RL k (evs tm ys) (xs.map ρ))
theorem Ops.of {a:Act} (ht:RL k tm a.tmps.toList):Ops k tm a.eval:=⟨fun _ _ h=>cO_R ht h,fun _ _ h=>Qnv ht h⟩
theorem map_some {α β:Type} {f:α→β} {x:Option α} {y:β} (h:x.map f=some y):∃ z,x=some z∧y=f z:=by
 obtain ⟨z,hz,rfl⟩:=Option.map_eq_some_iff.1 h;exact ⟨z,hz,rfl⟩
theorem Q0f [GT P] {x:V} (g:Good P k) (hp:some (Pl.val x)=some p) (hg:p.go ro k.h=some (v,h')) {s:Sem Next} {y:Value}
  (hr:s.run P k.w=.ok (.value y) k.w) (hx:R k x y):Did P ro k s v h':=by
 cases hp;obtain ⟨rfl,rfl⟩:=Pl.go_val hg;exact .val g hr hx
theorem Qq8 [GT P] (g:Good P k) (ht:Ops k tm ρ) {x:Operand} (ho:o.op=.move x) (hc:cOp P j o.op=some m) (hp:plan base tm m=some p) (hg:p.go ro k.h=some (v,h')) :
  Did P ro k (execOp ρ o) v h':=by
 rw [ho] at hc;simp only [cOp] at hc;obtain ⟨y,hy,rfl⟩:=map_some hc
 exact Q0f g hp hg (y:=ρ x) (by simp [execOp,ho]) (ht.1 _ _ hy)
theorem Qj3 [GT P] (g:Good P k) (ht:Ops k tm ρ) {x:Operand} (ho:o.op=.assign x) (hc:cOp P j o.op=some m) (hp:plan base tm m=some p) (hg:p.go ro k.h=some (v,h')) :
  Did P ro k (execOp ρ o) v h':=by
 rw [ho] at hc;simp only [cOp] at hc;obtain ⟨y,hy,rfl⟩:=map_some hc
 exact Q0f g hp hg (y:=ρ x) (by simp [execOp,ho]) (ht.1 _ _ hy)
theorem Qq7 [GT P] (g:Good P k) (ht:Ops k tm ρ) {x y z:Operand} (ho:o.op=.pick x y z) (hc:cOp P j o.op=some m) (hp:plan base tm m=some p) (hg:p.go ro k.h=some (v,h')) :
  Did P ro k (execOp ρ o) v h':=by
 rw [ho] at hc;simp only [cOp] at hc
 split at hc
 ·rename_i c a b hc1 ha hb
  cases hc
  simp only [plan] at hp
  split at hp
  ·rename_i t et
   have h1:=ht.1 _ _ hc1
   rw [et] at h1;simp only [R] at h1
   refine Q0f g hp hg (y:=if t then ρ y else ρ z) (by simp [execOp,ho,h1,asBool]) ?_
   cases t
   ·simpa using ht.1 _ _ hb
   ·simpa using ht.1 _ _ ha
  ·cases hp
 ·cases hc
theorem Quk [GT P] (g:Good P k) (ht:Ops k tm ρ) {x:Operand} (ho:o.op=.nilCheck x) (hc:cOp P j o.op=some m) (hp:plan base tm m=some p) (hg:p.go ro k.h=some (v,h')) :
  Did P ro k (execOp ρ o) v h':=by
 rw [ho] at hc;simp only [cOp] at hc;obtain ⟨y,hy,rfl⟩:=map_some hc
 have h1:=ht.1 _ _ hy
 simp only [plan] at hp
 split at hp<;>(try (cases hp;done))<;>(rename_i e;rw [e] at h1)<;>have h2:=h1<;>simp only [R] at h2
 ·obtain ⟨b,o',vs,hx,_⟩:=h2
  exact Q0f g hp hg (y:=ρ x) (by simp [execOp,ho,hx]) h1
 ·obtain ⟨b,o',c,dat,hx,_⟩:=h2
  exact Q0f g hp hg (y:=ρ x) (by simp [execOp,ho,hx]) h1
 ·obtain ⟨vs,hx,_⟩:=h2
  exact Q0f g hp hg (y:=ρ x) (by simp [execOp,ho,hx]) h1
 ·obtain ⟨y',hx,_⟩:=h2
  exact Q0f g hp hg (y:=ρ x) (by simp [execOp,ho,hx]) h1
 ·obtain ⟨y',hx,_⟩:=h2
  exact Q0f g hp hg (y:=ρ x) (by simp [execOp,ho,hx]) h1
theorem Qkg (l:List UInt8):(⟨l.toArray⟩:ByteArray).toList=l:=ByteArray.toList_eq _
theorem Qf9 (op:BinOp) (t:TypeId) (x y:Operand) (kk kk':IntKind) (a b:Int) (w:World):(eqGuard op t x y (.int kk a) (.int kk' b)).run P w=.ok () w:=by
 cases op<;>simp [eqGuard]
theorem Qf7 (op:BinOp) (t:TypeId) (x y:Operand) (a b:ByteArray) (w:World):(eqGuard op t x y (.string a) (.string b)).run P w=.ok () w:=by
 cases op<;>simp [eqGuard]
theorem Qo2 [GT P] {op:BinOp} {x y z:V} {t:TypeId} {x' y':Value} (h:Q6q op x y=some z) (hx:R k x x') (hy:R k y y') (w:World) :
  (∀ xo yo,(eqGuard op t xo yo x' y').run P w=.ok () w)∧∃ z',(Go.binOp op t x' y').run P w=.ok z' w∧R k z z':=by
 unfold Q6q at h
 split at h
 ·rename_i kk a kk' b
  simp only [R] at hx hy;subst hx hy
  refine ⟨fun xo yo=>Qf9 _ _ _ _ _ _ _ _ _,?_⟩
  split at h
  ·simp only [shf] at h
   split at h
   ·cases h
   ·rename_i hn
    simp only [jA] at h;subst h
    exact ⟨.int kk (kk.wrap (a*2 ^ min b.toNat kk.bits)),by simp [Go.binOp,Op.shift,hn],by simp only [R]⟩
  ·simp only [shf] at h
   split at h
   ·cases h
   ·rename_i hn
    simp only [jA] at h;subst h
    exact ⟨.int kk (a.fdiv (2 ^ min b.toNat kk.bits)),by simp [Go.binOp,Op.shift,hn],by simp only [R]⟩
  ·rename_i h1 h2
   split at h
   ·rename_i e;subst e
    obtain ⟨z',hz,hr⟩:=Quy (P:=P) (k:=k) h (fun e=>h1 e) (fun e=>h2 e) w
    exact ⟨z',by rw [Qqx op t 0];exact hz,hr⟩
   ·cases h
 ·rename_i a b
  simp only [R] at hx hy;subst hx hy
  refine ⟨fun xo yo=>Qf7 _ _ _ _ _ _ _,?_⟩
  cases op<;>simp only [sop,jA] at h<;>(try (cases h;done))<;>(try (split at h<;>cases h))<;>(try subst h)
  ·rename_i hl
   have hn:¬ (((⟨a.toArray⟩:ByteArray).size+(⟨b.toArray⟩:ByteArray).size:Nat):Int)>IntKind.i64.max:=by
    have e:IntKind.i64.max=9223372036854775807:=by decide
    rw [e];simp [ByteArray.size];omega
   refine ⟨.string (⟨a.toArray⟩++⟨b.toArray⟩),?_,?_⟩
   ·simp only [Go.binOp,Op.stringOp];rw [if_neg hn];rfl
   ·simp only [R,Value.string.injEq]
    apply ByteArray.ext;simp
  all_goals exact ⟨.bool _,by simp only [Go.binOp,Op.stringOp,Qkg,Sem.run_pure];rfl,by simp only [R]⟩
 ·cases h
theorem Qfa {n:Nat} (hn3:n<3) {x y:V} {b:Bool} (h:eq1 n x y=some b) {x' y':Value} (hx:R k x x') (hy:R k y y') :
  (n=1∧∃ u v,x'=.bool u∧y'=.bool v∧b=(u==v))∨(n=0∧∃ kk u v,x'=.int kk u∧y'=.int kk v∧b=(u==v))∨(n=2∧∃ u v:ByteArray,x'=.string u∧y'=.string v∧b=(u==v)):=by
 unfold eq1 at h
 split at h
 ·simp only [R] at hx hy;subst hx hy;cases h;exact .inl ⟨rfl,_,_,rfl,rfl,rfl⟩
 ·simp only [R] at hx hy;subst hx hy
  split at h
  ·rename_i e;subst e;cases h;exact .inr (.inl ⟨rfl,_,_,_,rfl,rfl,by rw [Bool.eq_iff_iff];simp⟩)
  ·cases h
 ·simp only [R] at hx hy;subst hx hy;cases h
  refine .inr (.inr ⟨rfl,_,_,rfl,rfl,?_⟩)
  rename_i a b
  have e:((⟨a.toArray⟩:ByteArray)==⟨b.toArray⟩)=(a.toArray==b.toArray):=rfl
  rw [e,Bool.eq_iff_iff];simp
 ·omega
 ·cases h
theorem Quc {n:Nat} {x y:V} {b:Bool} (h:eq0 n x y=some b):eq1 n x y=some b∧n<3:=by
 unfold eq0 at h
 split at h
 ·exact ⟨h,by decide⟩
 ·exact ⟨h,by decide⟩
 ·exact ⟨h,by decide⟩
 ·cases h
theorem Qha:∀ {ks:List Nat} {xs ys:List V} {b:Bool},eqc0 ks xs ys=some b→eqc ks xs ys=some b
 | [],[],[],b,h=>h
 | k::ks,x::l,y::r,b,h=>by
  simp only [eqc0] at h
  split at h
  ·cases h
  ·rename_i e he
   split at h
   ·cases h
   ·rename_i f hf
    simp only [eqc,(Quc he).1,Qha hf]
    exact h
 | [],[],_::_,_,h|[],_::_,_,_,h|_::_,[],_,_,h|_::_,_::_,[],_,h=>by simp [eqc0] at h
def Q34 (P:Program) (t:Nat) (cs:List Value):Value:=if Q2i P t=some true then .agg ⟨cs⟩ else cs.getD 0 undef
theorem Qf6:∀ {ks:List Nat} {xs ys:List V} {b:Bool},eqc ks xs ys=some b→xs.length=ks.length∧ys.length=ks.length
 | [],[],[],_,_=>⟨rfl,rfl⟩
 | k::ks,x::l,y::r,b,h=>by
  simp only [eqc] at h
  split at h
  ·cases h
  ·split at h
   ·cases h
   ·rename_i f hf;simp [Qf6 hf]
 | [],[],_::_,_,h|[],_::_,_,_,h|_::_,[],_,_,h|_::_,_::_,[],_,h=>by simp [eqc] at h
theorem Qa7:∀ {ks ks2:List Nat} {xs ys xs2 ys2:List V} {b:Bool},xs.length=ks.length→ys.length=ks.length→eqc (ks++ks2) (xs++xs2) (ys++ys2)=some b →
  ∃ c d,eqc ks xs ys=some c∧eqc ks2 xs2 ys2=some d∧b=(c&&d)
 | [],ks2,[],[],xs2,ys2,b,_,_,h=>⟨true,b,rfl,by simpa using h,by simp⟩
 | k::ks,ks2,x::l,y::r,xs2,ys2,b,hl,hl2,h=>by
  simp only [List.cons_append,eqc] at h
  split at h
  ·cases h
  ·rename_i e he
   split at h
   ·cases h
   ·rename_i f hf
    cases h
    obtain ⟨c,d,h1,h2,h3⟩:=Qa7 (by simpa using hl) (by simpa using hl2) hf
    exact ⟨e&&c,d,by simp [eqc,he,h1],h2,by simp [h3,Bool.and_assoc]⟩
theorem Q5g [GT P] {t n:Nat} (h:szOf P t=some n) {g:Bool} (hg:Q2i P t=some g) (hn:g=true∨n=1) {pre cs post:List Value} (hc:cs.length=n) (w:World) :
  (Go.part t ⟨pre++cs++post⟩ pre.length).run P w=.ok (Q34 P t cs) w:=by
 cases g with
 | true =>
  simp only [Go.part,Sem.run_bind,Q3k hg,Result.andThen_ok,if_true,Q0x h,Sem.run_pure,Q34,hg]
  congr 2
  apply Array.ext'
  simp [← hc]
 | false =>
  have hn':n=1:=by simpa using hn
  subst hn'
  match cs,hc with
  | [x],_ =>
   have e:(⟨pre++[x]++post⟩:Array Value)[pre.length]?=some x:=by simp
   simp only [Go.part,Sem.run_bind,Q3k hg,Result.andThen_ok,Bool.false_eq_true,if_false,e,Sem.run_pure,Q34,hg]
   rfl
theorem Qa3 {n t:Nat} {s:List Nat} (h:Q33 P n t=some s):∃ g,Q2i P t=some g∧(g=true∨s.length=1):=by
 cases n with
 | zero=>simp [Q33] at h
 | succ n =>
  simp only [Q33] at h
  split at h<;>(try (cases h;done))<;>(rename_i hu;simp only [Q2i,hu,Option.map_some])
  ·cases h;exact ⟨_,rfl,.inr rfl⟩
  ·cases h;exact ⟨_,rfl,.inr rfl⟩
  ·cases h;exact ⟨_,rfl,.inr rfl⟩
  ·exact ⟨_,rfl,.inl rfl⟩
theorem Q71 [GT P] {sz:Nat→Option (List Nat)} {d:Nat} (hsz:∀ t s,sz t=some s→∃ g,Q2i P t=some g∧(g=true∨s.length=1))
  (ih:∀ t s,sz t=some s→∀ (xs ys:List V) (xs' ys':List Value) (b:Bool) (w:World),RL k xs xs'→RL k ys ys'→eqc s xs ys=some b→(Op.equalIn d t (Q34 P t xs') (Q34 P t ys')).run P w=.ok b w) :
  ∀ (fs:List Field) (acc:Nat) (ks:List Nat),Q8n P sz acc fs=some ks→∀ (p q xs' ys':List Value) (xs ys:List V) (b:Bool) (w:World),p.length=acc→q.length=acc→RL k xs xs'→RL k ys ys'→eqc ks xs ys=some b →
   (Op.eqFields d ⟨p++xs'⟩ ⟨q++ys'⟩ fs).run P w=.ok b w
 | [],acc,ks,hf,p,q,xs',ys',xs,ys,b,w,hp,hq,hx,hy,he=>by
  simp only [Q8n,jA] at hf;subst hf
  match xs,ys,he with
  | [],[],he=>simp only [eqc,jA] at he;subst he;simp [Op.eqFields]
  | [],_::_,he|_::_,_,he=>simp [eqc] at he
 | f::fs,acc,ks,hf,p,q,xs',ys',xs,ys,b,w,hp,hq,hx,hy,he=>by
  simp only [Q8n] at hf
  split at hf
  ·rename_i hname
   split at hf
   ·rename_i s hs
    split at hf
    ·rename_i hs2
     split at hf
     ·rename_i r hr
      cases hf
      obtain ⟨g,hg,hg1⟩:=hsz _ _ hs
      obtain ⟨hl1,hl2⟩:=Qf6 he
      simp only [jD] at hl1 hl2
      have e1:xs=xs.take s.length++xs.drop s.length:=(List.take_append_drop _ xs).symm
      have e2:ys=ys.take s.length++ys.drop s.length:=(List.take_append_drop _ ys).symm
      rw [e1] at hx he;rw [e2] at hy he
      obtain ⟨c,d',he1,he2,rfl⟩:=Qa7 (by simp;omega) (by simp;omega) he
      obtain ⟨x1,x2,rfl,hx1,hx2⟩:=RL.split hx
      obtain ⟨y1,y2,rfl,hy1,hy2⟩:=RL.split hy
      have l1:x1.length=s.length:=by rw [RL.len hx1];simp;omega
      have l2:y1.length=s.length:=by rw [RL.len hy1];simp;omega
      have r1:=fun w=>Q5g hs2 hg hg1 (pre:=p) (post:=x2) l1 w
      have r2:=fun w=>Q5g hs2 hg hg1 (pre:=q) (post:=y2) l2 w
      rw [hp] at r1;rw [hq] at r2
      have r3:=fun w=>ih _ _ hs _ _ _ _ _ w hx1 hy1 he1
      have r4:=Q71 hsz ih fs (acc+s.length) r hr (p++x1) (q++y1) x2 y2 _ _ d' w (by simp;omega) (by simp;omega) hx2 hy2 he2
      simp only [Op.eqFields,if_pos hname.1,hname.2,← jO,Sem.run_bind,r1,r2,r3,Result.andThen_ok]
      cases c
      ·simp
      ·simpa using r4
     ·cases hf
    ·cases hf
   ·cases hf
  ·cases hf
theorem Q6i [GT P]:∀ (n t:Nat) (s:List Nat),Q33 P n t=some s→∀ d,n≤d→∀ (xs ys:List V) (xs' ys':List Value) (b:Bool) (w:World),RL k xs xs'→RL k ys ys'→eqc s xs ys=some b →
  (Op.equalIn d t (Q34 P t xs') (Q34 P t ys')).run P w=.ok b w
 | 0,t,s,h,_,_,_,_,_,_,_,_,_,_,_=>by simp [Q33] at h
 | n+1,t,s,h,d,hd,xs,ys,xs',ys',b,w,hx,hy,he=>by
  obtain ⟨d,rfl⟩:∃ e,d=e+1:=⟨d-1,by omega⟩
  simp only [Q33] at h
  have one:∀ i,s=[i]→(∃ x y x' y',xs'=[x']∧ys'=[y']∧R k x x'∧R k y y'∧eq1 i x y=some b):=by
   rintro i rfl
   obtain ⟨l1,l2⟩:=Qf6 he
   match xs,ys,l1,l2 with
   | [x],[y],_,_ =>
    obtain ⟨x',r,rfl,h1,h2⟩:=(by simpa [RL] using hx:∃ x' r,xs'=x'::r∧R k x x'∧r=[])
    obtain ⟨y',r',rfl,h3,h4⟩:=(by simpa [RL] using hy:∃ x' r,ys'=x'::r∧R k y x'∧r=[])
    subst h2 h4
    simp only [eqc] at he
    split at he
    ·cases he
    ·rename_i e hee
     simp only [Bool.and_true] at he;cases he
     exact ⟨x,y,x',y',rfl,rfl,h1,h3,hee⟩
  split at h<;>(try (cases h;done))<;>rename_i hu
  ·cases h
   obtain ⟨x,y,x',y',rfl,rfl,h1,h3,hee⟩:=one _ rfl
   rcases Qfa (by decide) hee h1 h3 with ⟨hi,_⟩|⟨_,kk,u,v',rfl,rfl,rfl⟩|⟨hi,_⟩<;>(try omega)
   simp [Q34,Q2i,hu,Op.equalIn,run_underlying hu]
  ·cases h
   obtain ⟨x,y,x',y',rfl,rfl,h1,h3,hee⟩:=one _ rfl
   rcases Qfa (by decide) hee h1 h3 with ⟨_,u,v',rfl,rfl,rfl⟩|⟨hi,_⟩|⟨hi,_⟩<;>(try omega)
   simp [Q34,Q2i,hu,Op.equalIn,run_underlying hu]
  ·cases h
   obtain ⟨x,y,x',y',rfl,rfl,h1,h3,hee⟩:=one _ rfl
   rcases Qfa (by decide) hee h1 h3 with ⟨hi,_⟩|⟨hi,_⟩|⟨_,u,v',rfl,rfl,rfl⟩<;>(try omega)
   simp [Q34,Q2i,hu,Op.equalIn,run_underlying hu]
  ·rename_i fs
   split at h
   ·cases h
   ·rename_i hst
    have hf:P.fieldsOf t=fs:=by simp [Program.fieldsOf,hu]
    have ha:Q2i P t=some true:=by simp [Q2i,hu]
    simp only [Q34,ha,if_true]
    rw [run_equalIn_struct w d t ⟨xs'⟩ ⟨ys'⟩ (by rw [hf];exact hu) (by simpa using hst),hf]
    exact Q71 (fun t s h=>Qa3 h) (fun t s h xs ys xs' ys' b w h1 h2 h3=>Q6i n t s h d (by omega) xs ys xs' ys' b w h1 h2 h3) fs.toList 0 s h [] [] xs' ys' xs ys b w rfl rfl hx hy he
end Go.Dr
namespace Go.Dr
open Go.RowKit (Below)
variable {P:Program} {k:K} {tm:List V} {ρ:Operand→Value} {o:Oper} {j base ro:Nat} {m:M} {p:Pl} {v:V} {h' : List B}
theorem Q0c {s:Sem Value} {y:Value} {w w':World} (h:s.run P w=.ok y w'):(do pure (Next.value (← s)):Sem Next).run P w=.ok (.value y) w':=by simp [h]
theorem Qq6 [GT P] (g:Good P k) (ht:Ops k tm ρ) {x:Operand} {uo:UnOp} {t:TypeId} (ho:o.op=.unOp uo t x) (hc:cOp P j o.op=some m) (hp:plan base tm m=some p) (hg:p.go ro k.h=some (v,h')) :
  Did P ro k (execOp ρ o) v h':=by
 rw [ho] at hc;simp only [cOp] at hc;obtain ⟨y,hy,rfl⟩:=map_some hc
 simp only [plan] at hp
 obtain ⟨z,hz,rfl⟩:=val?_some hp
 have h1:=ht.1 _ _ hy
 generalize y.ev tm=yv at h1 hz
 unfold unop at hz
 split at hz<;>(try (cases hz;done))<;>cases hz<;>simp only [R] at h1
 ·exact Q0f g rfl hg (by simp only [execOp,ho,h1];exact Q0c (by simp only [Op.unary,Op.intArith,Sem.run_pure];rfl)) (by simp only [R])
 ·exact Q0f g rfl hg (by simp only [execOp,ho,h1];exact Q0c (by simp only [Op.unary,Op.intBits,Sem.run_pure];rfl)) (by simp only [R,Qhz])
 ·exact Q0f g rfl hg (by simp only [execOp,ho,h1];exact Q0c (by simp only [Op.unary,Sem.run_pure];rfl)) (by simp only [R])
theorem Qnb [GT P] (g:Good P k) (ht:Ops k tm ρ) {x:Operand} {t:TypeId} (ho:o.op=.makeInterface t x) (hc:cOp P j o.op=some m) (hp:plan base tm m=some p) (hg:p.go ro k.h=some (v,h')) :
  Did P ro k (execOp ρ o) v h':=by
 rw [ho] at hc;simp only [cOp] at hc
 split at hc
 ·cases hc
 ·rename_i d hn hd
  obtain ⟨y,hy,rfl⟩:=map_some hc
  have h1:=ht.1 _ _ hy
  refine Q0f g hp hg (y:=.iface t (ρ x)) ?_ (by simp only [R];exact ⟨_,rfl,h1⟩)
  simp only [execOp,ho,Instr.makeInterface,Sem.run_bind,run_underlying hd,Result.andThen_ok]
  cases d with
  | interface ms=>exact absurd rfl (hn ms)
  | _=>simp
 ·cases hc
theorem Qqb [GT P] (g:Good P k) (ht:Ops k tm ρ) {f:Fn} {first caps:Array Operand} (ho:o.op=.makeFunc f first caps) (hc:cOp P j o.op=some m) (hp:plan base tm m=some p) (hg:p.go ro k.h=some (v,h')) :
  Did P ro k (execOp ρ o) v h':=by
 rw [ho] at hc
 unfold cOp at hc
 split at hc<;>(try (rename_i e;cases e;done))<;>(try (cases hc;done))
 ·rename_i f' caps' e
  cases e
  obtain ⟨ys,hys,rfl⟩:=map_some hc
  have h1:=ht.2 _ _ hys
  refine Q0f g hp hg (y:=.func (.func f') #[] (caps.map ρ)) (by simp [execOp,ho,Instr.makeFunc]) ?_
  simp only [R]
  exact ⟨caps.toList.map ρ,by congr 1;apply Array.ext';simp,h1⟩
 ·rename_i f' x' e
  cases e
  obtain ⟨y',hy,rfl⟩:=map_some hc
  have h1:=ht.1 _ _ hy
  refine Q0f g hp hg (y:=.func (.func f') #[ρ x'] #[]) (by simp [execOp,ho,Instr.makeFunc]) ?_
  simp only [R]
  exact ⟨_,rfl,h1⟩
theorem Q9e [GT P] (g:Good P k) (ht:Ops k tm ρ) {x:Operand} {t:TypeId} {f:Nat} (ho:o.op=.fieldAddr t x f) (hc:cOp P j o.op=some m) (hp:plan base tm m=some p) (hg:p.go ro k.h=some (v,h')) :
  Did P ro k (execOp ρ o) v h':=by
 rw [ho] at hc;simp only [cOp] at hc
 split at hc<;>(try (cases hc;done))
 rename_i fs y hu hy
 split at hc<;>(try (cases hc;done))
 rename_i fd hf
 split at hc<;>(try (cases hc;done))
 rename_i n hn
 cases hc
 have h1:=ht.1 _ _ hy
 have hrun:∀ b o' w,((Instr.fieldAt t (.pointer (some ⟨b,o',none⟩)) f)).run P w=.ok (.pointer (some ⟨b,o'+fd.offset,none⟩)) w:=by
  intro b o' w
  simp [Instr.fieldAt,run_underlying hu,hf,Instr.sureAddr,fieldPlace,Q0x hn,Addr.add_lit]
 simp only [plan] at hp
 split at hp<;>(try (cases hp;done))<;>(rename_i e;rw [e] at h1)<;>simp only [R] at h1
 ·obtain ⟨b,o',vs,hx,h2⟩:=h1
  refine Q0f g hp hg (y:=.pointer (some ⟨b,_,none⟩)) (by simp [execOp,ho,hx,hrun];rfl) ?_
  simp only [R];exact ⟨b,o',vs,by simp [Nat.add_assoc],h2⟩
 ·obtain ⟨b,o',c,dat,hx,h2,h3,h4⟩:=h1
  refine Q0f g hp hg (y:=.pointer (some ⟨b,_,none⟩)) (by simp [execOp,ho,hx,hrun];rfl) ?_
  simp only [R];exact ⟨b,o'+fd.offset,c,dat,rfl,h2,h3,fun e=>⟨(h4 e).1,by rw [(h4 e).2];omega⟩⟩
theorem nat?_some {m n:Nat} {v:V} (h:nat? m v=some n):∃ kk i,v=.int kk i∧0≤i∧i≤(m:Int)∧n=i.toNat:=by
 unfold nat? at h
 split at h
 ·split at h
  ·rename_i hi;cases h;exact ⟨_,_,rfl,hi.1,hi.2,rfl⟩
  ·cases h
 ·cases h
theorem Q9d [GT P] (g:Good P k) (ht:Ops k tm ρ) {x i:Operand} {t:TypeId} (ho:o.op=.indexAddr t x i) (hc:cOp P j o.op=some m) (hp:plan base tm m=some p) (hg:p.go ro k.h=some (v,h')) :
  Did P ro k (execOp ρ o) v h':=by
 rw [ho] at hc;simp only [cOp] at hc
 split at hc<;>(try (cases hc;done))
 rename_i y iy hy hiy
 have h1:=ht.1 _ _ hy
 have h2:=ht.1 _ _ hiy
 split at hc<;>(try (cases hc;done))<;>rename_i hu
 ·rename_i e
  obtain ⟨n,hn,rfl⟩:=map_some hc
  have hrun:∀ (b o' len cap:Nat) (kk:IntKind) (q:Int) (w:World),0≤q→q<(len:Int)→((Instr.indexAt t (.slice (some ⟨b,o',none⟩) len cap) (.int kk q))).run P w=.ok (.pointer (some ⟨b,o'+q.toNat*n,none⟩)) w:=by
   intro b o' len cap kk q w h0 hl
   simp [Instr.indexAt,run_underlying hu,asIntOf,Q0x hn,Addr.add_lit,h0,hl]
  simp only [plan] at hp
  split at hp<;>(try (cases hp;done))<;>(rename_i ey;rw [ey] at h1;simp only [R] at h1)
  ·split at hp
   ·cases hp
   ·rename_i mm
    split at hp<;>(try (cases hp;done))
    rename_i jj hj
    obtain ⟨kk,q,hq,h0,hm,rfl⟩:=nat?_some hj
    rw [hq] at h2;simp only [R] at h2
    rcases h1 with ⟨_,_,h0',_⟩|⟨b,off,cap,vs,hx,h3,h4,h5,h6,h7,_⟩
    ·cases h0'
    refine Q0f g hp hg (y:=.pointer (some ⟨b,off+q.toNat*n,none⟩)) (by simp only [execOp,ho,hx,h2];exact Q0c (hrun _ _ _ _ _ _ _ h0 (by omega))) ?_
    simp only [R];exact ⟨b,off,vs,rfl,h3,h4,h5,h6⟩
  ·rename_i es id gg off len clip
   split at hp
   ·cases hp
   ·rename_i mm
    split at hp<;>(try (cases hp;done))
    rename_i jj hj
    obtain ⟨kk,q,hq,h0,hm,rfl⟩:=nat?_some hj
    rw [hq] at h2;simp only [R] at h2
    obtain ⟨b,o',cap,c,dat,hx,h3,h4,h5,h6,h7⟩:=h1
    refine Q0f g hp hg (y:=.pointer (some ⟨b,o'+q.toNat*n,none⟩)) (by simp only [execOp,ho,hx,h2];exact Q0c (hrun _ _ _ _ _ _ _ h0 (by omega))) ?_
    simp only [R]
    refine ⟨b,o'+q.toNat*n,c,dat,rfl,h3,h4,fun e=>?_⟩
    obtain ⟨h8,h9⟩:=h7 e
    obtain ⟨h10,h11,_⟩:=h9.2 (by omega)
    exact ⟨h10,by omega⟩
 ·rename_i len e
  obtain ⟨n,hn,rfl⟩:=map_some hc
  have hrun:∀ (b o':Nat) (kk:IntKind) (q:Int) (w:World),0≤q→q<(len:Int)→((Instr.indexAt t (.pointer (some ⟨b,o',none⟩)) (.int kk q))).run P w=.ok (.pointer (some ⟨b,o'+q.toNat*n,none⟩)) w:=by
   intro b o' kk q w h0 hl
   simp [Instr.indexAt,run_underlying hu,asIntOf,Q0x hn,Addr.add_lit,h0,hl,Instr.sureAddr]
  simp only [plan] at hp
  split at hp<;>(try (cases hp;done))
  rename_i mm
  split at hp<;>(try (cases hp;done))
  rename_i jj hj
  obtain ⟨kk,q,hq,h0,hm,rfl⟩:=nat?_some hj
  rw [hq] at h2;simp only [R] at h2
  split at hp<;>(try (cases hp;done))<;>(rename_i ey;rw [ey] at h1;simp only [R] at h1)
  ·obtain ⟨b,o',vs,hx,h3⟩:=h1
   refine Q0f g hp hg (y:=.pointer (some ⟨b,o'+_+q.toNat*n,none⟩)) (by simp only [execOp,ho,hx,h2];exact Q0c (hrun _ _ _ _ _ h0 (by omega))) ?_
   simp only [R];exact ⟨b,o',vs,by simp [Nat.add_assoc],h3⟩
  ·obtain ⟨b,o',c,dat,hx,h3,h4,h5⟩:=h1
   refine Q0f g hp hg (y:=.pointer (some ⟨b,o'+q.toNat*n,none⟩)) (by simp only [execOp,ho,hx,h2];exact Q0c (hrun _ _ _ _ _ h0 (by omega))) ?_
   simp only [R];exact ⟨b,o'+q.toNat*n,c,dat,rfl,h3,h4,fun e=>⟨(h5 e).1,by rw [(h5 e).2];omega⟩⟩
end Go.Dr
namespace Go.Dr
open Go.RowKit (Below)
variable {P:Program} {k:K} {tm:List V} {ρ:Operand→Value} {o:Oper} {j base ro:Nat} {m:M} {p:Pl} {v:V} {h' : List B}
theorem Q0d {op:BinOp} {t:TypeId} {x y:Operand} {a b:Value} (h1:a≠.nilIface∨b≠.nilIface) (h2:∀ c,a≠.agg c) (w:World):(eqGuard op t x y a b).run P w=.ok () w:=by
 unfold eqGuard
 cases op<;>simp only [Bool.not_true,Bool.not_false,if_true,Bool.false_eq_true,if_false,Sem.run_pure]<;>(cases a<;>cases b<;>simp_all)
theorem Qf8 {op:BinOp} {t:TypeId} {x y:Operand} (h:Dr.isConst x||Dr.isConst y) (w:World):(eqGuard op t x y .nilIface .nilIface).run P w=.ok () w:=by
 cases x<;>cases y<;>(first|(simp [Dr.isConst] at h;done)|(unfold eqGuard;cases op<;>simp))
theorem Qrv {op:BinOp} {neg:Bool} (hop:eqOp op=some neg) {t:TypeId} {x y:Value} {b:Bool} (hk:(∀ kk i,x≠.int kk i)∧(∀ s,x≠.string s)∧(∀ kk i,x≠.float kk i)∧(∀ kk i i',x≠.complex kk i i')) {w:World}
  (h:(Op.equalIn 10000 t x y).run P w=.ok b w):(Go.binOp op t x y).run P w=.ok (.bool (if neg then !b else b)) w:=by
 cases op<;>simp only [eqOp,jA] at hop<;>(try (cases hop;done))<;>subst hop <;>
  (cases x<;>simp_all [Go.binOp,Op.equal,Op.maxDepth])
theorem Qq1 [GT P] {kd:Nat} {x y:V} {b:Bool} (h:eqv2 kd x y=some b) {x' y':Value} (hx:R k x x') (hy:R k y y') {t:TypeId} {d:TypeDesc} (hu:P.underlying t=some d)
  (hd:(kd=1→d=.bool)∧(kd=3→∃ e,d=.slice e)∧(kd=4→∃ e,d=.pointer e)∧(kd=6→∃ a b c,d=.func a b c)∧(kd=7→∃ m,d=.interface m)) {xo yo:Operand} (hc:kd=7→isConst xo||isConst yo) (w:World) (op:BinOp) :
  (eqGuard op t xo yo x' y').run P w=.ok () w∧(∀ d',(Op.equalIn (d'+1) t x' y').run P w=.ok b w)∧((∀ kk i,x'≠.int kk i)∧(∀ s,x'≠.string s)∧(∀ kk i,x'≠.float kk i)∧(∀ kk i i',x'≠.complex kk i i')):=by
 obtain ⟨d1,d3,d4,d6,d7⟩:=hd
 unfold eqv2 at h
 split at h<;>(try (cases h;done))<;>(try simp only [jA] at h)<;>(try subst h)<;>simp only [R] at hx hy
 ·obtain rfl:=d1 rfl;subst hx hy
  exact ⟨Q0d (by simp) (by simp) w,fun d'=>by simp [Op.equalIn,run_underlying hu],by simp⟩
 ·obtain ⟨e',rfl⟩:=d3 rfl;subst hx hy
  exact ⟨Q0d (by simp) (by simp) w,fun d'=>by simp [Op.equalIn,run_underlying hu],by simp⟩
 ·split at h<;>(try (cases h;done))
  rename_i hn0
  simp only [jA] at h;subst h
  obtain ⟨e',rfl⟩:=d3 rfl;subst hx;rcases hy with ⟨a,rfl,h0,_⟩|⟨b,off,cap,vs,rfl,_⟩
  ·exact absurd h0 hn0
  exact ⟨Q0d (by simp) (by simp) w,fun d'=>by simp [Op.equalIn,run_underlying hu],by simp⟩
 ·split at h<;>(try (cases h;done))
  rename_i hn0
  simp only [jA] at h;subst h
  obtain ⟨e',rfl⟩:=d3 rfl;subst hy;rcases hx with ⟨a,rfl,h0,_⟩|⟨b,off,cap,vs,rfl,_⟩
  ·exact absurd h0 hn0
  exact ⟨Q0d (by simp) (by simp) w,fun d'=>by simp [Op.equalIn,run_underlying hu],by simp⟩
 ·obtain ⟨e',rfl⟩:=d3 rfl;subst hx;obtain ⟨a,cap,rfl,_⟩:=hy
  exact ⟨Q0d (by simp) (by simp) w,fun d'=>by simp [Op.equalIn,run_underlying hu],by simp⟩
 ·obtain ⟨e',rfl⟩:=d3 rfl;subst hy;obtain ⟨a,cap,rfl,_⟩:=hx
  exact ⟨Q0d (by simp) (by simp) w,fun d'=>by simp [Op.equalIn,run_underlying hu],by simp⟩
 ·obtain ⟨e',rfl⟩:=d3 rfl;subst hx;obtain ⟨b,off,cap,c,dat,rfl,_⟩:=hy
  exact ⟨Q0d (by simp) (by simp) w,fun d'=>by simp [Op.equalIn,run_underlying hu],by simp⟩
 ·obtain ⟨e',rfl⟩:=d3 rfl;subst hy;obtain ⟨b,off,cap,c,dat,rfl,_⟩:=hx
  exact ⟨Q0d (by simp) (by simp) w,fun d'=>by simp [Op.equalIn,run_underlying hu],by simp⟩
 ·obtain ⟨e',rfl⟩:=d4 rfl;subst hx hy
  exact ⟨Q0d (by simp) (by simp) w,fun d'=>by simp [Op.equalIn,run_underlying hu],by simp⟩
 ·obtain ⟨e',rfl⟩:=d4 rfl;subst hx;obtain ⟨b,off,c,dat,rfl,_⟩:=hy
  exact ⟨Q0d (by simp) (by simp) w,fun d'=>by simp [Op.equalIn,run_underlying hu],by simp⟩
 ·obtain ⟨e',rfl⟩:=d4 rfl;subst hy;obtain ⟨b,off,c,dat,rfl,_⟩:=hx
  exact ⟨Q0d (by simp) (by simp) w,fun d'=>by simp [Op.equalIn,run_underlying hu],by simp⟩
 ·obtain ⟨e',rfl⟩:=d4 rfl;subst hx;obtain ⟨b,off,vs,rfl,_⟩:=hy
  exact ⟨Q0d (by simp) (by simp) w,fun d'=>by simp [Op.equalIn,run_underlying hu],by simp⟩
 ·obtain ⟨e',rfl⟩:=d4 rfl;subst hy;obtain ⟨b,off,vs,rfl,_⟩:=hx
  exact ⟨Q0d (by simp) (by simp) w,fun d'=>by simp [Op.equalIn,run_underlying hu],by simp⟩
 ·obtain ⟨_,_,_,rfl⟩:=d6 rfl;subst hx hy
  exact ⟨Q0d (by simp) (by simp) w,fun d'=>by simp [Op.equalIn,run_underlying hu],by simp⟩
 ·obtain ⟨_,_,_,rfl⟩:=d6 rfl;subst hx;obtain ⟨vs,rfl,_⟩:=hy
  exact ⟨Q0d (by simp) (by simp) w,fun d'=>by simp [Op.equalIn,run_underlying hu],by simp⟩
 ·obtain ⟨_,_,_,rfl⟩:=d6 rfl;subst hy;obtain ⟨vs,rfl,_⟩:=hx
  exact ⟨Q0d (by simp) (by simp) w,fun d'=>by simp [Op.equalIn,run_underlying hu],by simp⟩
 ·obtain ⟨_,rfl⟩:=d7 rfl;subst hx hy
  exact ⟨Qf8 (hc rfl) w,fun d'=>by simp [Op.equalIn,run_underlying hu],by simp⟩
 ·obtain ⟨_,rfl⟩:=d7 rfl;subst hx;obtain ⟨vs,rfl,_⟩:=hy
  exact ⟨Q0d (by simp) (by simp) w,fun d'=>by simp [Op.equalIn,run_underlying hu],by simp⟩
 ·obtain ⟨_,rfl⟩:=d7 rfl;subst hy;obtain ⟨vs,rfl,_⟩:=hx
  exact ⟨Q0d (by simp) (by simp) w,fun d'=>by simp [Op.equalIn,run_underlying hu],by simp⟩
theorem Qnf [GT P] (g:Good P k) (ht:Ops k tm ρ) {x y:Operand} {bop:BinOp} {t u:TypeId} (ho:o.op=.binOp bop t x y u) (hc:cOp P j o.op=some m) (hp:plan base tm m=some p) (hg:p.go ro k.h=some (v,h')) :
  Did P ro k (execOp ρ o) v h':=by
 rw [ho] at hc;simp only [cOp] at hc
 split at hc<;>(try (cases hc;done))
 rename_i x1 y1 hx1 hy1
 have h1:=ht.1 _ _ hx1
 have h2:=ht.1 _ _ hy1
 have hbo:m=.bo bop x1 y1→Did P ro k (execOp ρ o) v h':=by
  rintro rfl
  simp only [plan] at hp
  obtain ⟨z,hz,rfl⟩:=val?_some hp
  obtain ⟨e1,z',e2,e3⟩:=Qo2 (P:=P) (t:=t) hz h1 h2 k.w
  exact Q0f g rfl hg (y:=z') (by simp only [execOp,ho];exact Q0c (by simp only [Sem.run_bind,e1,Result.andThen_ok,e2])) e3
 have heq:∀ neg kd d,eqOp bop=some neg→P.underlying t=some d→((kd=1→d=.bool)∧(kd=3→∃ e,d=.slice e)∧(kd=4→∃ e,d=.pointer e)∧(kd=6→∃ a b c,d=.func a b c)∧(kd=7→∃ m,d=.interface m)) →
   (kd=7→isConst x||isConst y)→m=.eqv neg kd x1 y1→Did P ro k (execOp ρ o) v h':=by
  rintro neg kd d hn hu hd hcc rfl
  simp only [plan] at hp
  split at hp<;>(try (cases hp;done))
  rename_i e he
  obtain ⟨e1,e2,e3⟩:=Qq1 (P:=P) he h1 h2 hu hd hcc k.w bop
  have e4:=Qrv (P:=P) hn e3 (e2 9999)
  exact Q0f g hp hg (y:=.bool (if neg then !e else e)) (by simp only [execOp,ho];exact Q0c (by simp only [Sem.run_bind,e1,Result.andThen_ok,e4])) (by simp only [R])
 split at hc
 ·rename_i neg hn
  split at hc<;>(try (cases hc;done))<;>rename_i hu
  ·cases hc;exact hbo rfl
  ·cases hc;exact hbo rfl
  ·cases hc;exact heq neg 1 _ hn hu (by simp) (by simp) rfl
  ·cases hc;exact heq neg 3 _ hn hu (by simp) (by simp) rfl
  ·cases hc;exact heq neg 4 _ hn hu (by simp) (by simp) rfl
  ·cases hc;exact heq neg 6 _ hn hu (by simp) (by simp) rfl
  ·split at hc<;>(try (cases hc;done))
   rename_i hcc
   cases hc;exact heq neg 7 _ hn hu (by simp) (fun _=>hcc) rfl
  ·split at hc<;>(try (cases hc;done))
   rename_i fs _ ks hks
   split at hc<;>(try (cases hc;done))
   rename_i hgt
   cases hc
   simp only [plan] at hp
   split at hp<;>(try (cases hp;done))
   rename_i xs ys ex ey
   split at hp<;>(try (cases hp;done))
   rename_i e he
   rw [ex] at h1;rw [ey] at h2;simp only [R] at h1 h2
   obtain ⟨xs',hx',hxl⟩:=h1
   obtain ⟨ys',hy',hyl⟩:=h2
   have:=Q6i (P:=P) 16 t ks hks 10000 (by omega) xs ys xs' ys' e k.w hxl hyl he
   have ha:Q2i P t=some true:=by simp [Q2i,hu]
   simp only [Q34,ha,if_true] at this
   have e4:=Qrv (P:=P) (x:=.agg ⟨xs'⟩) (y:=.agg ⟨ys'⟩) hn (by simp) this
   have e1:=run_eqGuard_agg (P:=P) k.w bop t x y ⟨xs'⟩ ⟨ys'⟩ (by simpa using hgt)
   exact Q0f g hp hg (y:=.bool (if neg then !e else e)) (by simp only [execOp,ho,hx',hy'];exact Q0c (by simp only [Sem.run_bind,e1,Result.andThen_ok,e4])) (by simp only [R])
 ·cases hc;exact hbo rfl
end Go.Dr
namespace Go.Dr
open Go.RowKit (Below)
variable {P:Program} [GT P] {k:K} {tm:List V} {ρ:Operand→Value} {o:Oper} {j base ro:Nat} {m:M} {p:Pl} {v:V} {h' : List B}
theorem Q2o {agg:Bool} {n off:Nat} {c:List V} {z:V} (h:Q10 agg n off c=some z) :
  ∃ cs,part c off n=some cs∧((agg=true∧z=.agg cs)∨(agg=false∧cs=[z])):=by
 unfold Q10 at h
 split at h
 ·cases h
 ·rename_i cs hcs
  cases agg
  ·simp only [Bool.false_eq_true,if_false] at h
   split at h
   ·cases h;exact ⟨_,hcs,.inr ⟨rfl,rfl⟩⟩
   ·cases h
  ·simp only [if_true,jA] at h
   exact ⟨cs,hcs,.inl ⟨rfl,h.symm⟩⟩
theorem Q9u {cs:List V} {off n:Nat} {r:List V} (h:part cs off n=some r) (hn:0<n):∃ a b,cs=a++r++b∧a.length=off∧r.length=n:=by
 obtain ⟨rfl,hl⟩:=Q0v h
 refine ⟨cs.take off,cs.drop (off+n),?_,?_,hl⟩
 ·rw [jO,← List.drop_drop,List.take_append_drop,List.take_append_drop]
 ·simp at hl ⊢;omega
theorem Qnc (g:Good P k) (ht:Ops k tm ρ) {x:Operand} {t:TypeId} {f:Nat} (ho:o.op=.field t x f) (hc:cOp P j o.op=some m) (hp:plan base tm m=some p) (hg:p.go ro k.h=some (v,h')) :
  Did P ro k (execOp ρ o) v h':=by
 rw [ho] at hc;simp only [cOp] at hc
 split at hc<;>(try (cases hc;done))
 rename_i fs y hu hy
 split at hc<;>(try (cases hc;done))
 rename_i fd hf
 split at hc<;>(try (cases hc;done))
 rename_i ga n hga hn
 split at hc<;>(try (cases hc;done))
 rename_i hgn
 cases hc
 have h1:=ht.1 _ _ hy
 simp only [plan] at hp
 split at hp<;>(try (cases hp;done))
 rename_i cs e
 rw [e] at h1;simp only [R] at h1
 obtain ⟨xs,hx,hl⟩:=h1
 obtain ⟨z,hz,rfl⟩:=val?_some hp
 obtain ⟨rs,hr,hz'⟩:=Q2o hz
 have hgn':ga=true∨n=1:=by simpa using hgn
 have key:∃ y',(Go.part fd.type ⟨xs⟩ fd.offset).run P k.w=.ok y' k.w∧R k z y':=by
  by_cases hn0:n=0
  ·subst hn0
   rcases hz' with ⟨rfl,rfl⟩|⟨rfl,rfl⟩
   ·obtain ⟨rfl,hlr⟩:=Q0v hr
    refine ⟨.agg #[],by simp [Go.part,Q3k hga,Q0x hn],?_⟩
    have:List.take 0 (List.drop fd.offset cs)=[]:=by simp
    rw [this];simp only [R];exact ⟨[],rfl,RL.nil⟩
   ·simp at hgn'
  ·obtain ⟨a,b,rfl,hla,hlr⟩:=Q9u hr (by omega)
   obtain ⟨xab,xb,rfl,hab,hb⟩:=RL.split hl
   obtain ⟨xa,xr,rfl,ha,hr'⟩:=RL.split hab
   have:=Q5g hn hga hgn' (pre:=xa) (post:=xb) (by rw [RL.len hr',hlr]) k.w
   rw [RL.len ha,hla] at this
   refine ⟨_,this,?_⟩
   rcases hz' with ⟨rfl,rfl⟩|⟨rfl,rfl⟩
   ·simp only [Q34,hga,if_true,R];exact ⟨xr,rfl,hr'⟩
   ·obtain ⟨x',r',rfl,hx',hr2⟩:=(by simpa [RL] using hr':∃ x' r,xr=x'::r∧R k z x'∧r=[])
    simpa [Q34,hga] using hx'
 obtain ⟨y',hr1,hr2⟩:=key
 exact Q0f g rfl hg (y:=y') (by simp only [execOp,ho,hx];exact Q0c (by simp [Instr.field,run_underlying hu,hf,asAgg,hr1])) hr2
theorem Qfe (g:Good P k) (ht:Ops k tm ρ) {x:Operand} {i:Nat} (ho:o.op=.extract x i) (hc:cOp P j o.op=some m) (hp:plan base tm m=some p) (hg:p.go ro k.h=some (v,h')) :
  Did P ro k (execOp ρ o) v h':=by
 rw [ho] at hc;simp only [cOp] at hc;obtain ⟨y,hy,rfl⟩:=map_some hc
 have h1:=ht.1 _ _ hy
 simp only [plan] at hp
 split at hp<;>(try (cases hp;done))
 rename_i vs e
 rw [e] at h1;simp only [R] at h1
 obtain ⟨xs,hx,hl⟩:=h1
 split at hp<;>(try (cases hp;done))
 rename_i hi
 have h2:=RL.get i hl
 have h3:(⟨xs⟩:Array Value)[i]?=some (xs.getD i undef):=by
  have:i<xs.length:=by rw [RL.len hl];exact hi
  simp [jC this,List.getD]
 exact Q0f g hp hg (y:=xs.getD i undef) (by simp only [execOp,ho,hx];exact Q0c (by simp [Instr.extract,h3])) h2
theorem Qj4 (g:Good P k) (ht:Ops k tm ρ) {x:Operand} {t t':TypeId} {b:Bool} (ho:o.op=.typeAssert x t' t b) (hc:cOp P j o.op=some m) (hp:plan base tm m=some p) (hg:p.go ro k.h=some (v,h')) :
  Did P ro k (execOp ρ o) v h':=by
 rw [ho] at hc;simp only [cOp] at hc
 split at hc<;>(try (cases hc;done))
 rename_i y z hy hz
 split at hc<;>(try (cases hc;done))
 rename_i d' h5 h6
 cases hc
 obtain ⟨d,hd⟩:∃ d,P.underlying t=some d:=by
  cases hh:P.underlying t with
  | none=>exact absurd hh h6
  | some d=>exact ⟨d,rfl⟩
 have hni:∀ ms,d≠.interface ms:=fun ms e=>h5 ms (by rw [hd,e])
 have h1:=ht.1 _ _ hy
 obtain ⟨zx,hz1,hz2⟩:=Q57 hz k.w k
 simp only [plan] at hp
 split at hp<;>(try (cases hp;done))<;>(rename_i e;rw [e] at h1)<;>simp only [R] at h1
 ·rename_i u w'
  obtain ⟨x',hx,hr⟩:=h1
  split at hp
  ·rename_i hu;subst hu
   refine Q0f g hp hg (y:=if b then .tuple #[x',.bool true] else x') ?_ ?_
   ·simp only [execOp,ho,hx];refine Q0c ?_
    cases d<;>(try (exact absurd rfl (hni _)))<;>simp [Instr.typeAssert,run_underlying hd]<;>(cases b<;>rfl)
   ·cases b
    ·simpa using hr
    ·simp only [if_true,R];exact ⟨[x',.bool true],rfl,RL.cons hr (RL.cons (by simp [R]) RL.nil)⟩
  ·rename_i hu
   split at hp<;>(try (cases hp;done))
   rename_i hb;subst hb
   refine Q0f g hp hg (y:=.tuple #[zx,.bool false]) ?_ ?_
   ·simp only [execOp,ho,hx];refine Q0c ?_
    cases d<;>(try (exact absurd rfl (hni _)))<;>simp [Instr.typeAssert,run_underlying hd,hz1,hu]
   ·simp only [R];exact ⟨[zx,.bool false],rfl,RL.cons hz2 (RL.cons (by simp [R]) RL.nil)⟩
 ·split at hp<;>(try (cases hp;done))
  rename_i hb;subst hb
  refine Q0f g hp hg (y:=.tuple #[zx,.bool false]) ?_ ?_
  ·simp only [execOp,ho,h1];refine Q0c ?_
   cases d<;>(try (exact absurd rfl (hni _)))<;>simp [Instr.typeAssert,run_underlying hd,hz1]
  ·simp only [R];exact ⟨[zx,.bool false],rfl,RL.cons hz2 (RL.cons (by simp [R]) RL.nil)⟩
end Go.Dr
namespace Go.Dr
open Go.RowKit (Below)
variable {P:Program} {k:K} {tm:List V} {ρ:Operand→Value} {o:Oper} {j base ro:Nat} {m:M} {p:Pl} {v:V} {h' : List B}
theorem Q3j {x:V} {y:Value} (hx:R k x y) {n m m':Nat} (h:nat? m x=some n) (hm:m≤m') (c:BoundsCode) (w:World) :
  (Instr.sliceBound y m' c).run P w=.ok n w∧n≤m:=by
 obtain ⟨kk,i,rfl,h0,h1,rfl⟩:=nat?_some h
 simp only [R] at hx;subst hx
 refine ⟨?_,by omega⟩
 simp [Instr.sliceBound,asIntOf,h0]
 omega
theorem Q24 (ht:Ops k tm ρ) {x:Option Operand} {y:Option O} (h:cOo x=some y) :
  (x=none∧y=none)∨∃ a b,x=some a∧y=some b∧R k (b.ev tm) (ρ a):=by
 cases x with
 | none=>simp [cOo] at h;exact .inl ⟨rfl,h.symm⟩
 | some a =>
  simp only [cOo] at h
  obtain ⟨b,hb,rfl⟩:=map_some h
  exact .inr ⟨a,b,rfl,rfl,ht.1 _ _ hb⟩
theorem Q2a [GT P] (ht:Ops k tm ρ) {lo hi mx:Option Operand} {lo' hi' mx':Option O} (hlo:cOo lo=some lo') (hhi:cOo hi=some hi') (hmx:cOo mx=some mx')
  (hmh:¬ ((mx.isSome&&hi.isNone)=true)) {len cap m h l:Nat} (hlc:len≤cap)
  (h1:nato len len (evo tm mx')=some m) (h2:nato m len (evo tm hi')=some h) (h3:nato h 0 (evo tm lo')=some l) (b:Bool) (w:World) :
  ∃ mc,(Instr.sliceBounds b len cap (lo.map ρ) (hi.map ρ) (mx.map ρ)).run P w=.ok (l,h,mc) w∧l≤h∧h≤m∧m≤len∧m≤mc∧mc≤cap∧(mx'=none→mc=cap∧m=len)∧(mx'≠none→mc=m):=by
 have a1:∃ mc,(match mx.map ρ with
   | some v=>Instr.sliceBound v cap (if b then .slice3Acap else .slice3Alen)
   | none=>pure cap:Sem Nat).run P w=.ok mc w∧m≤len∧m≤mc∧mc≤cap∧(mx'=none→mc=cap∧m=len)∧(mx'≠none→mc=m):=by
  rcases Q24 ht hmx with ⟨rfl,rfl⟩|⟨x,y,rfl,rfl,hr⟩
  ·simp only [evo,nato,jA] at h1;subst h1
   exact ⟨cap,by simp,Nat.le_refl _,hlc,Nat.le_refl _,fun _=>⟨rfl,rfl⟩,fun h=>absurd rfl h⟩
  ·simp only [evo,nato] at h1
   obtain ⟨e1,e2⟩:=Q3j (P:=P) hr h1 hlc (if b then .slice3Acap else .slice3Alen) w
   exact ⟨m,by simpa using e1,e2,Nat.le_refl _,by omega,fun h=>by simp at h,fun _=>rfl⟩
 obtain ⟨mc,e1,e2,e3,e4,e5,e6⟩:=a1
 have a2:h≤m∧(match hi.map ρ,mx.map ρ with
   | some v,some _=>Instr.sliceBound v mc .slice3B
   | some v,none=>Instr.sliceBound v mc (if b then .sliceAcap else .sliceAlen)
   | none,none=>pure len
   | none, some _ => stuck "Slice: max without high" : Sem Nat).run P w = .ok h w := by
  rcases Q24 ht hhi with ⟨rfl,rfl⟩|⟨x,y,rfl,rfl,hr⟩
  ·simp only [evo,nato,jA] at h2;subst h2
   rcases Q24 ht hmx with ⟨rfl,rfl⟩|⟨x,y,rfl,rfl,hr⟩
   ·exact ⟨by have:=(e5 rfl).2;omega,by simp⟩
   ·simp at hmh
  ·simp only [evo,nato] at h2
   refine ⟨(Q3j (P:=P) hr h2 e3 .sliceB w).2,?_⟩
   cases mx with
   | none=>simpa using (Q3j (P:=P) hr h2 e3 _ w).1
   | some z=>simpa using (Q3j (P:=P) hr h2 e3 _ w).1
 obtain ⟨e7,e8⟩:=a2
 have a3:l≤h∧(match lo.map ρ with
   | some v=>Instr.sliceBound v h (if (mx.map ρ).isSome then .slice3C else .sliceB)
   | none=>pure 0:Sem Nat).run P w=.ok l w:=by
  rcases Q24 ht hlo with ⟨rfl,rfl⟩|⟨x,y,rfl,rfl,hr⟩
  ·simp only [evo,nato,jA] at h3;subst h3;exact ⟨Nat.zero_le _,by simp⟩
  ·simp only [evo,nato] at h3
   exact ⟨(Q3j (P:=P) hr h3 (Nat.le_refl _) .sliceB w).2,by simpa using (Q3j (P:=P) hr h3 (Nat.le_refl _) _ w).1⟩
 obtain ⟨e9,e10⟩:=a3
 refine ⟨mc,?_,e9,e7,e2,e3,e4,e5,e6⟩
 clear e5 e6 h1 h2 h3 hlo hhi hmx
 cases mx<;>cases hi<;>cases lo<;>simp_all [Instr.sliceBounds]
theorem cellsAt_append {w:World} {b:Nat}:∀ {off:Nat} {xs ys:List Value},cellsAt w b off (xs++ys)↔cellsAt w b off xs∧cellsAt w b (off+xs.length) ys
 | off,[],ys=>by simp [cellsAt]
 | off,x::xs,ys=>by
  simp only [List.cons_append,cellsAt,List.length_cons,cellsAt_append (off:=off+1) (xs:=xs),and_assoc]
  rw [show off+1+xs.length=off+(xs.length+1) by omega]
theorem Q30 {w:World} {b off:Nat} {vs:List Value} (h:cellsAt w b off vs) (a n:Nat):cellsAt w b (off+a) ((vs.drop a).take n):=by
 by_cases ha:a≤vs.length
 ·have e:=List.take_append_drop a vs
  rw [← e,cellsAt_append] at h
  have h2:=h.2
  rw [jQ,Nat.min_eq_left ha] at h2
  have e2:=List.take_append_drop n (vs.drop a)
  rw [← e2,cellsAt_append] at h2
  exact h2.1
 ·rw [List.drop_eq_nil_of_le (by omega)];simp [cellsAt]
theorem Qn8 [GT P] (g:Good P k) (ht:Ops k tm ρ) {x:Operand} {t:TypeId} {lo hi mx:Option Operand} (ho:o.op=.slice t x lo hi mx) (hc:cOp P j o.op=some m) (hp:plan base tm m=some p) (hg:p.go ro k.h=some (v,h')) :
  Did P ro k (execOp ρ o) v h':=by
 rw [ho] at hc;simp only [cOp] at hc
 split at hc
 ·cases hc
 rename_i hmh
 split at hc<;>(try (cases hc;done))
 rename_i x' lo' hi' mx' hx hlo hhi hmx
 have h1:=ht.1 _ _ hx
 have hexec:execOp ρ o=(do pure (Next.value (← Instr.sliceAt t (ρ x) (lo.map ρ) (hi.map ρ) (mx.map ρ)))):=by simp only [execOp,ho]
 split at hc<;>(try (cases hc;done))<;>rename_i hu
 ·-- a slice
  rename_i e
  obtain ⟨n,hn,rfl⟩:=map_some hc
  have hat:∀ z,Instr.sliceAt t z (lo.map ρ) (hi.map ρ) (mx.map ρ)=(underlying t >>= fun d=>match d with
    | .array nn elem=>do
     let a ← Instr.sureAddr z
     let (l,h,m) ← Instr.sliceBounds false nn nn (lo.map ρ) (hi.map ρ) (mx.map ρ)
     let size ← sizeOf elem
     pure (.slice (some (if m=l then a else a.add (l*size))) (h-l) (m-l))
    | _=>Instr.slice t z (lo.map ρ) (hi.map ρ) (mx.map ρ)):=fun z=>rfl
  have hslice:∀ a len cap l h mc,(Instr.sliceBounds true len cap (lo.map ρ) (hi.map ρ) (mx.map ρ)).run P k.w=.ok (l,h,mc) k.w →
    (Instr.sliceAt t (.slice a len cap) (lo.map ρ) (hi.map ρ) (mx.map ρ)).run P k.w=.ok (.slice (if mc=l then a else a.map (·.add (l*n))) (h-l) (mc-l)) k.w:=by
   intro a len cap l h mc hb
   rw [hat]
   simp only [Sem.run_bind,run_underlying hu,Result.andThen_ok,Instr.slice,hb,Q0x hn,Sem.run_pure]
  simp only [plan] at hp
  split at hp<;>(try (cases hp;done))<;>(rename_i ex;rw [ex] at h1)<;>simp only [R] at h1
  ·-- nil
   split at hp<;>(try (cases hp;done))
   rename_i m1 h2 l3 e1 e2 e3
   have z1:m1=0:=by
    rcases Q24 ht hmx with ⟨rfl,rfl⟩|⟨a,b,rfl,rfl,hr⟩
    ·simpa [evo,nato] using e1.symm
    ·obtain ⟨_,_,_,_,_,rfl⟩:=nat?_some (by simpa [evo,nato] using e1);omega
   have z2:h2=0:=by
    rcases Q24 ht hhi with ⟨rfl,rfl⟩|⟨a,b,rfl,rfl,hr⟩
    ·simpa [evo,nato] using e2.symm
    ·obtain ⟨_,_,_,_,_,rfl⟩:=nat?_some (by simpa [evo,nato] using e2);omega
   subst z1 z2
   obtain ⟨mc,hb,b1,b2,b3,b4,b5,b6,b7⟩:=Q2a (P:=P) ht hlo hhi hmx hmh (Nat.le_refl 0) e1 e2 e3 true k.w
   have hmc:mc=0:=by omega
   have hl3:l3=0:=by omega
   subst hmc hl3
   exact Q0f g hp hg (y:=.slice none 0 0) (by rw [hexec,h1];exact Q0c (by simpa using hslice _ _ _ _ _ _ hb)) (by simp only [R])
  ·-- without elements, not nil
   split at hp<;>(try (cases hp;done))
   rename_i m1 h2 l3 e1 e2 e3
   have z1:m1=0:=by
    rcases Q24 ht hmx with ⟨rfl,rfl⟩|⟨a,b,rfl,rfl,hr⟩
    ·simpa [evo,nato] using e1.symm
    ·obtain ⟨_,_,_,_,_,rfl⟩:=nat?_some (by simpa [evo,nato] using e1);omega
   have z2:h2=0:=by
    rcases Q24 ht hhi with ⟨rfl,rfl⟩|⟨a,b,rfl,rfl,hr⟩
    ·simpa [evo,nato] using e2.symm
    ·obtain ⟨_,_,_,_,_,rfl⟩:=nat?_some (by simpa [evo,nato] using e2);omega
   subst z1 z2
   obtain ⟨a,cap,hxv,hca⟩:=h1
   obtain ⟨mc,hb,b1,b2,b3,b4,b5,b6,b7⟩:=Q2a (P:=P) ht hlo hhi hmx hmh (Nat.zero_le cap) e1 e2 e3 true k.w
   have hl3:l3=0:=by omega
   subst hl3
   refine Q0f g hp hg (y:=.slice (some a) 0 mc) (by
    rw [hexec,hxv];refine Q0c ?_
    rw [hslice _ _ _ _ _ _ hb]
    by_cases e:mc=0<;>simp [e,Addr.add]) ?_
   simp only [R]
   rcases hca with rfl|hs
   ·obtain rfl:mc=0:=by omega
    exact .inl ⟨some a,rfl,trivial,trivial⟩
   ·obtain ⟨b,o,s⟩:=a
    simp only at hs;subst hs
    refine .inr ⟨b,o,mc,[],rfl,.inl rfl,trivial,RL.nil,⟨rfl,rfl⟩,Nat.zero_le _,fun h=>?_⟩
    exact b7 (by intro e;rw [e] at h;cases h)
  ·-- a snapshot
   rename_i clip len cs
   split at hp<;>(try (cases hp;done))
   rename_i m1 e1
   split at hp<;>(try (cases hp;done))
   rename_i h2 e2
   split at hp<;>(try (cases hp;done))
   rename_i l3 e3
   split at hp<;>(try (cases hp;done))
   rename_i r hr
   rcases h1 with ⟨a,hxv,rfl,rfl⟩|⟨b,off,cap,vs,hxv,hok,hca,hl,hpu,hlc,hclip⟩
   ·obtain ⟨mc,hb,b1,b2,b3,b4,b5,b6,b7⟩:=Q2a (P:=P) ht hlo hhi hmx hmh (Nat.le_refl 0) e1 e2 e3 true k.w
    have hmc:mc=0:=by omega
    have hl3:l3=0:=by omega
    have hh2:h2=0:=by omega
    subst hmc hl3 hh2
    obtain ⟨rfl,hrl⟩:=Q0v hr
    refine Q0f g hp hg (y:=.slice a 0 0) (by rw [hexec,hxv];exact Q0c (by simpa using hslice _ _ _ _ _ _ hb)) ?_
    simp only [R]
    exact .inl ⟨a,rfl,by simp,by simp⟩
   obtain ⟨mc,hb,b1,b2,b3,b4,b5,b6,b7⟩:=Q2a (P:=P) ht hlo hhi hmx hmh hlc e1 e2 e3 true k.w
   obtain ⟨rfl,hrl⟩:=Q0v hr
   refine Q0f g hp hg (y:=.slice (some (if mc=l3 then ⟨b,off,none⟩ else ⟨b,off+l3*n,none⟩)) (h2-l3) (mc-l3)) (by
    rw [hexec,hxv];refine Q0c ?_
    rw [hslice _ _ _ _ _ _ hb]
    by_cases e:mc=l3<;>simp [e,Addr.add_lit]) ?_
   simp only [R]
   refine .inr ⟨b,if mc=l3 then off else off+l3*n,mc-l3,if mc=l3 then [] else (vs.drop (l3*n)).take ((h2-l3)*n),by split<;>rfl,hok.sub fun h=>by rw [h];simp,?_,?_,?_,by omega,?_⟩
   ·split
    ·exact trivial
    ·exact Q30 hca _ _
   ·split
    ·rename_i e
     have:h2-l3=0:=by omega
     simp [this,RL]
    ·exact RL.take _ (RL.drop _ hl)
   ·exact ⟨ones_take (ones_drop hpu.1 _) _,Qdm (Q98 hpu.2 _) _⟩
   ·intro hcl
    cases mx' with
    | none =>
     simp only [Option.isSome_none,Bool.false_eq_true,if_false,jF,jG] at hcl
     have:=hclip hcl.1;have:=b6 rfl;omega
    | some z =>
     simp only [Option.isSome_some,if_true,jG] at hcl
     have:=b7 (by simp);omega
  ·-- of an own block
   rename_i es id gg off len clip
   obtain ⟨b,o',cap,c,dat,hxv,hbk,hgc,hlc,hclip,hpos⟩:=h1
   split at hp<;>(try (cases hp;done))
   rename_i hes
   subst hes
   split at hp<;>(try (cases hp;done))
   rename_i m1 e1
   split at hp<;>(try (cases hp;done))
   rename_i h2 e2
   split at hp<;>(try (cases hp;done))
   rename_i l3 e3
   obtain ⟨mc,hb,b1,b2,b3,b4,b5,b6,b7⟩:=Q2a (P:=P) ht hlo hhi hmx hmh hlc e1 e2 e3 true k.w
   refine Q0f g hp hg (y:=.slice (some (if mc=l3 then ⟨b,o',none⟩ else ⟨b,o'+l3*es,none⟩)) (h2-l3) (mc-l3)) (by
    rw [hexec,hxv];refine Q0c ?_
    rw [hslice _ _ _ _ _ _ hb]
    by_cases e:mc=l3<;>simp [e,Addr.add_lit]) ?_
   simp only [R]
   refine ⟨b,if mc=l3 then o' else o'+l3*es,mc-l3,c,dat,by split<;>rfl,hbk,hgc,by omega,?_,fun hgl=>?_⟩
   ·intro hcl
    cases mx' with
    | none =>
     simp only [Option.isSome_none,Bool.false_eq_true,if_false,jF,jG] at hcl
     have:=hclip hcl.1;have:=b6 rfl;omega
    | some z =>
     simp only [Option.isSome_some,if_true,jG] at hcl
     have:=b7 (by simp);omega
   ·obtain ⟨p1,p0,p2⟩:=hpos hgl
    have hle:l3*es+(h2-l3)*es≤len*es:=by
     rw [← Nat.add_mul];exact Nat.mul_le_mul_right _ (by omega)
    refine ⟨by omega,p0,fun hc0=>?_⟩
    have hne:¬ mc=l3:=by omega
    obtain ⟨p3,p4,p5⟩:=p2 (by omega)
    simp only [hne,if_false]
    refine ⟨p3,by omega,fun hcf hes hend=>?_⟩
    have hh:h2=len:=by
     have e1:l3*es+(h2-l3)*es=h2*es:=by rw [← Nat.add_mul];congr 1;omega
     have e2:h2*es=len*es:=by
      have:=Nat.mul_le_mul_right es (show h2≤len by omega)
      omega
     exact Nat.eq_of_mul_eq_mul_right hes e2
    subst hh
    have hmx0:mx'=none:=by
     cases mx' with
     | none=>rfl
     | some z =>
      simp only [Option.isSome_some,if_true,jI] at hcf
      omega
    obtain ⟨q1,q2⟩:=b6 hmx0
    subst q1 hmx0
    have hcc:clip=false:=by simpa using hcf
    have hsum:l3*es+(mc-l3)*es=mc*es:=by rw [← Nat.add_mul];congr 1;omega
    have hsum2:l3*es+(h2-l3)*es=h2*es:=by rw [← Nat.add_mul];congr 1;omega
    rw [p5 hcc hes (by omega)];congr 1;omega
 ·-- a string
  split at hc<;>(try (cases hc;done))
  rename_i hmx0
  cases hc
  have hmx1:mx=none:=by
   rcases Q24 ht hmx with ⟨h,_⟩|⟨a,b,_,h,_⟩
   ·exact h
   ·subst h;simp at hmx0
  subst hmx1
  simp only [plan] at hp
  split at hp<;>(try (cases hp;done))
  rename_i s ex
  rw [ex] at h1;simp only [R] at h1
  split at hp<;>(try (cases hp;done))
  rename_i h2 e2
  split at hp<;>(try (cases hp;done))
  rename_i l3 e3
  obtain ⟨mc,hb,b1,b2,b3,b4,b5,b6,b7⟩:=Q2a (P:=P) (mx:=none) (mx':=none) ht hlo hhi (by simp [cOo]) (by simp) (Nat.le_refl s.length) (m:=s.length) (by simp [evo,nato]) e2 e3 false k.w
  refine Q0f g hp hg (y:=.string ((⟨s.toArray⟩:ByteArray).extract l3 h2)) (by
   rw [hexec,h1];refine Q0c ?_
   have hsz:(⟨s.toArray⟩:ByteArray).size=s.length:=by simp [ByteArray.size]
   simp only [Option.map_none] at hb
   simp only [Instr.sliceAt,Sem.run_bind,run_underlying hu,Result.andThen_ok,Instr.slice,hsz,Option.map_none,Option.isSome_none,Bool.false_eq_true,if_false,hb,Sem.run_pure]) ?_
  simp only [R,Value.string.injEq]
  apply ByteArray.ext
  simp [ByteArray.data_extract]
 ·-- an array's part
  rename_i n e
  obtain ⟨es,hn,rfl⟩:=map_some hc
  simp only [plan] at hp
  split at hp<;>(try (cases hp;done))
  rename_i m1 e1
  split at hp<;>(try (cases hp;done))
  rename_i h2 e2
  split at hp<;>(try (cases hp;done))
  rename_i l3 e3
  obtain ⟨mc,hb,b1,b2,b3,b4,b5,b6,b7⟩:=Q2a (P:=P) ht hlo hhi hmx hmh (Nat.le_refl n) e1 e2 e3 false k.w
  have hmc:mc=m1:=by
   by_cases e:mx'=none
   ·have:=b6 e;omega
   ·exact b7 e
  subst hmc
  have hrun:∀ b o',(Instr.sliceAt t (.pointer (some ⟨b,o',none⟩)) (lo.map ρ) (hi.map ρ) (mx.map ρ)).run P k.w=.ok (.slice (some (if mc=l3 then ⟨b,o',none⟩ else ⟨b,o'+l3*es,none⟩)) (h2-l3) (mc-l3)) k.w:=by
   intro b o'
   simp only [Instr.sliceAt,Sem.run_bind,run_underlying hu,Result.andThen_ok,Instr.sureAddr,Sem.run_pure,hb,Q0x hn,Addr.add_lit]
  split at hp<;>(try (cases hp;done))<;>(rename_i ex;rw [ex] at h1)<;>simp only [R] at h1
  ·rename_i id gg off
   obtain ⟨b,o',c,dat,hxv,hbk,hgc,hpos⟩:=h1
   cases hp
   simp only [Pl.go,Q0n,hbk] at hg
   split at hg
   ·cases hg
   ·rename_i v0 hv0
    split at hv0
    ·rename_i hcond
     simp only [jF,jG] at hcond
     simp only [jA,jN] at hv0 hg
     obtain ⟨rfl,_⟩:=hv0
     obtain ⟨rfl,rfl⟩:=hg
     refine ⟨_,k,.inl (by rw [hexec,hxv];exact Q0c (hrun b o')),rfl,g,Ev.refl _ _ _,?_⟩
     simp only [R]
     refine ⟨b,if mc=l3 then o' else o'+l3*es,mc-l3,c,dat,by split<;>rfl,hbk,hgc,by omega,fun h=>by simp only [jG] at h;omega,fun hgl=>?_⟩
     obtain ⟨p1,p2⟩:=hpos hgl
     have hle:l3*es+(h2-l3)*es=h2*es:=by rw [← Nat.add_mul];congr 1;omega
     have hle2:=Nat.mul_le_mul_right es (show h2≤n by omega)
     refine ⟨by omega,p1,fun hc0=>?_⟩
     have hne:¬ mc=l3:=by omega
     simp only [hne,if_false]
     refine ⟨p1,by omega,fun hcf hes hend=>?_⟩
     exfalso
     simp only [jI] at hcf
     have:h2*es<n*es:=Nat.mul_lt_mul_of_pos_right (by omega) hes
     omega
    ·cases hv0
   ·rename_i v0 b0 hv0
    split at hv0<;>cases hv0
  ·rename_i cs off
   split at hp<;>(try (cases hp;done))
   rename_i r hr
   obtain ⟨rfl,hrl⟩:=Q0v hr
   obtain ⟨b,o',vs,hxv,hok,hca,hl,hpu⟩:=h1
   refine Q0f g hp hg (y:=.slice (some (if mc=l3 then ⟨b,o'+off,none⟩ else ⟨b,o'+off+l3*es,none⟩)) (h2-l3) (mc-l3)) (by rw [hexec,hxv];exact Q0c (hrun _ _)) ?_
   simp only [R]
   refine .inr ⟨b,if mc=l3 then o'+off else o'+off+l3*es,mc-l3,if mc=l3 then [] else (vs.drop (off+l3*es)).take ((h2-l3)*es),by split<;>rfl,hok.sub fun h=>by rw [h];simp,?_,?_,?_,by omega,?_⟩
   ·split
    ·exact trivial
    ·rw [Nat.add_assoc];exact Q30 hca _ _
   ·split
    ·have:h2-l3=0:=by omega
     simp [this,RL]
    ·exact RL.take _ (RL.drop _ hl)
   ·exact ⟨ones_take (ones_drop hpu.1 _) _,Qdm (Q98 hpu.2 _) _⟩
   ·intro h;simp only [jG] at h;omega
end Go.Dr
