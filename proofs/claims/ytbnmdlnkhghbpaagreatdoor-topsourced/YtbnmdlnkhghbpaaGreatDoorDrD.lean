/- The door: rows of a region, in any order, against the model. -/
import Derived.Test.YtbnmdlnkhghbpaaGreatDoorDrC
import Derived.OrdersIn
import Derived.RangeFuncIn
import Derived.TacticsIn
import Derived.RangeFuncLeaves
import Derived.Scope
import Derived.RangeFuncRecord
namespace Go.Dr
open Go.RowKit (Below)
variable {P:Program} {k:K} {tm:List V} {v:V} {h' : List B} {ro base:Nat}
def fen (r:Option Nat):Fence:={ Fence.wide with round:=r }
theorem Qdh {r:Option Nat} {n:Nat} {f:FuncId} {args:Array Value} {w:World} {Q:Ending→World→Prop} (h:Calls P f args w Q):CallsIn (fen r) n P f args w Q:=by
 have:=(callsIn_wide (n:=n)).2 h
 exact this
def Back (P:Program) [GT P] (ro:Nat) (k:K) (v:V) (h':List B) (e:Ending) (w':World):Prop :=
 ∃ x k',e=.returned x∧k'.w=w'∧k'.h=h'∧Good P k'∧Ev ro k.h.length k k'∧R k' v x
inductive Done (P:Program) [GT P] (ro:Nat) (k:K) (s:Sem Next) (v:V) (h':List B):Prop where
 | at_once (h:Did P ro k s v h')
 | called (f:FuncId) (args:Array Value) (w1:World) (hs:s.run P k.w=.ok (.enter f args) w1) (h:Calls P f args w1 (Back P ro k v h'))
 | round (l:Nat) (f:FuncId) (tmps:Array Value) (asg body:Code) (w1:World) (hs:s.run P k.w=.ok (.round l f tmps asg body) w1) (h:∀ n,RoundIn Fence.wide n P l f tmps asg body w1 (Back P ro k v h'))
def Q1g (f:Value) (args:Array Value):Sem Next:=do
 let d ← Deferred.ofValue f args
 invoke d.target d.args
theorem Qmw {ρ:Operand→Value} {o:Oper} {f:Operand} {args:Array Operand} {ts:Array TypeId} (ho:o.op=.call ⟨.value f,args,ts⟩):execOp ρ o=Q1g (ρ f) (args.map ρ):=by
 simp only [execOp,ho,resolve,Q1g]
def Qfq (P:Program) [GT P] (oc:Orc) (ro:Nat):Prop :=
 ∀ (k:K) (fv:V) (as:List V) (fx:Value) (xs:List Value) (v:V) (h':List B),Good P k→R k fv fx→RL k as xs→oc fv as k.h=some (v,h')→Done P ro k (Q1g fx ⟨xs⟩) v h'
def dput (d:Option Nat) (tm:List V) (v:V):List V :=
 match d with
 | some d=>tset tm d v
 | none=>tm
theorem put_R {a:Act} {d:Option Tmp} {x:Value} (ht:RL k tm a.tmps.toList) (hx:R k v x):RL k (dput d tm v) (a.put d x).tmps.toList:=by
 cases d with
 | none=>exact ht
 | some d =>
  simp only [dput,Act.put,Array.toList_setIfInBounds]
  exact RL.set hx d ht
theorem Q9s (a:Act) (d:Option Tmp) (x:Value):(a.put d x).defers=a.defers:=by cases d<;>rfl
theorem Qn5 [GT P] {r:Option Nat} {n:Nat} {o:Oper} {a:Act} {next:Act→World→Prop} {Q:Exit→Act→World→Prop} (hnd:∀ c,o.op≠.defer c)
  (h:Done P ro k (execOp a.eval o) v h') (_g:Good P k) (ht:RL k tm a.tmps.toList)
  (hnext:∀ k' a',Good P k'→k'.h=h'→Ev ro k.h.length k k'→RL k' (dput o.dst tm v) a'.tmps.toList→a'.defers=a.defers→next a' k'.w) :
  o.wpIn (fen r) n P a k.w next Q:=by
 refine ⟨fun _ _=>trivial,?_⟩
 have hsem:Oper.semAt (fen r).round a.eval o=execOp a.eval o:=by
  cases r with
  | none=>exact Oper.semAt_none _ _
  | some l=>exact Oper.semAt_some l _ _ hnd
 rw [hsem]
 have after:∀ x k',Good P k'→k'.h=h'→Ev ro k.h.length k k'→R k' v x→next (a.put o.dst x) k'.w:=fun x k' g' hh e hx =>
  hnext k' _ g' hh e (put_R (RL.ev e (RL.blos ht) ht) hx) (Q9s _ _ _)
 cases h with
 | at_once h =>
  obtain ⟨x,k',hr,hh,g',e,hx⟩:=h
  rcases hr with hr|⟨hr,rfl⟩
  ·rw [hr];exact after x k' g' hh e hx
  ·rw [hr];exact after _ k' g' hh e hx
 | called f args w1 hs h =>
  rw [hs]
  refine ⟨fun hd=>by simp [fen,Fence.wide] at hd,CallsIn.mono (Qdh h) ?_⟩
  rintro e w' ⟨x,k',rfl,rfl,hh,g',e,hx⟩
  exact after x k' g' hh e hx
 | round l f tmps asg body w1 hs h =>
  rw [hs]
  refine ⟨fun hd=>by simp [fen,Fence.wide] at hd,RoundIn.mono (h (n-1)) ?_⟩
  rintro e w' ⟨x,k',rfl,rfl,hh,g',e,hx⟩
  exact after x k' g' hh e hx
def Qo8 (P:Program) (ops:Array Oper) (o:Oper) (r:G):Prop :=
 ∃ j,cOp P j o.op=some r.o∧r.d=o.dst ∧
  match o.guard with
  | none=>r.g=none
  | some (i,want)=>∃ oi s,ops[i]?=some oi∧oi.dst=some s∧r.g=some (s,want)
theorem Qdi {j:Nat} {op:Op} {m:M} (h:cOp P j op=some m):∀ c,op≠.defer c:=by
 rintro c rfl;simp [cOp] at h
theorem Qc7:∀ {l:List (Nat × Nat)} {t f:Nat},Q7q l t=some f→(t,f)∈l
 | [],_,_,h=>by cases h
 | (u,g)::l,t,f,h=>by
  simp only [Q7q] at h
  split at h
  ·rename_i e;cases h;subst e;simp
  ·exact List.mem_cons_of_mem _ (Qc7 h)
theorem Qtj {name:String} {t f:Nat} (h:Q7q (mTab P name) t=some f):∃ i m d,P.info? t=some i∧i.methods.find? (·.name==name)=some m∧m.path.toList=[]∧P.underlying t=some d∧m.func=some (f,Qpr d):=by
 have hm:=Qc7 h
 simp only [mTab,List.mem_filterMap] at hm
 obtain ⟨a,_,ha⟩:=hm
 simp only [Qrj] at ha
 split at ha<;>(try (cases ha;done))
 rename_i i d hi hd
 split at ha<;>(try (cases ha;done))
 rename_i m hf
 split at ha<;>(try (cases ha;done))
 rename_i g ptr hg
 split at ha<;>(try (cases ha;done))
 rename_i hc
 cases ha
 simp only [jF,List.isEmpty_iff,beq_iff_eq] at hc
 exact ⟨i,m,d,hi,hf,hc.1,hd,by rw [hg,hc.2]⟩
theorem Qir [GT P] {name:String} {t f:Nat} (h:Q7q (mTab P name) t=some f) (n:Nat) (v:Value) (w:World):(method (n+1) t v name).run P w=.ok (f,v) w:=by
 obtain ⟨i,m,d,h1,h2,h3,h4,h5⟩:=Qtj h
 have hr:∀ wr,(receiverAt t (.val v) (Qpr d) wr).run P w=.ok v w:=by
  intro wr
  simp only [receiverAt,Sem.run_bind,run_underlying h4,Result.andThen_ok]
  cases d<;>simp [Place.get,Qpr]
 have hp:m.path = #[]:=by apply Array.ext';simpa using h3
 simp [method,typeInfo,h1,h2,hp,follow,h5,hr,Result.andThen]
theorem Qf5 {ρ:Operand→Value} {o:Oper} {n:Nat} {name:String} {args:Array Operand} {ts:Array TypeId} (ho:o.op=.call ⟨.invoke (.tmp n) name,args,ts⟩):execOp ρ o=Q1g (.func (.method name) #[] #[]) (#[ρ (.tmp n)]++args.map ρ):=by
 simp [execOp,ho,resolve,Q1g,Deferred.ofValue]
theorem Qf4 [GT P] {name:String} {t f:Nat} (h:Q7q (mTab P name) t=some f) (v:Value) (args:Array Value) (w:World) :
  (Q1g (.func (.method name) #[] #[]) (#[.iface t v]++args)).run P w=(Q1g (.func (.func f) #[] #[]) (#[v]++args)).run P w:=by
 have hn:P.types.size+Made.depth=(P.types.size+(Made.depth-1))+1:=by
  have:0<Made.depth:=by decide
  omega
 have h0:(#[Value.iface t v]++args)[0]?=some (.iface t v):=by rw [Array.getElem?_append_left (by simp)];rfl
 simp [Q1g,Deferred.ofValue,invoke,callMethod,h0,hn,Qir h,Result.andThen]
theorem Done.congr [GT P] {s s':Sem Next} (e:s.run P k.w=s'.run P k.w) (h:Done P ro k s' v h'):Done P ro k s v h':=by
 cases h with
 | at_once h =>
  obtain ⟨x,k',hr,q⟩:=h
  exact .at_once ⟨x,k',by rw [e];exact hr,q⟩
 | called f args w1 hs h=>exact .called f args w1 (e.trans hs) h
 | round l f tmps asg body w1 hs h=>exact .round l f tmps asg body w1 (e.trans hs) h
theorem Qqp [GT P] {j:Nat} {op:Op} {f:O} {as:List O} (h:cOp P j op=some (.call f as)):(∃ x args ts,op=.call ⟨.value x,args,ts⟩∧cO x=some f∧cOs args.toList=some as) ∨
  ∃ n name args ts as',op=.call ⟨.invoke (.tmp n) name,args,ts⟩∧f=.mt (mTab P name) n∧as=.rv (mTab P name) n::as'∧cOs args.toList=some as':=by
 unfold cOp at h
 repeat' split at h
 all_goals first
  | (cases h;done)
  | (obtain ⟨_,_,e⟩:=map_some h;cases e;done)
  | (obtain ⟨_,_,_,_,_,_,_,_,_,e⟩:=Q4d h;cases e;done)
  | skip
 ·rename_i x' f' as' hx has
  cases h
  exact .inl ⟨_,_,_,rfl,hx,has⟩
 ·rename_i as' has
  cases h
  exact .inr ⟨_,_,_,_,_,rfl,rfl,rfl,has⟩
 ·unfold Q3v at h
  split at h<;>(try (cases h;done))
  ·unfold cLen at h;repeat' split at h
   all_goals cases h
  ·unfold cApp at h;repeat' split at h
   all_goals cases h
  ·unfold cCpy at h;repeat' split at h
   all_goals first|(cases h;done)|(obtain ⟨_,_,e⟩:=map_some h;cases e)
  ·repeat' split at h
   all_goals first|(cases h;done)|(obtain ⟨_,_,e⟩:=map_some h;cases e)
theorem Qru [GT P] {oc:Orc} {ops:Array Oper} {o:Oper} {r:G} {fr:Option Nat} {n:Nat} {a:Act} {next:Act→World→Prop} {Q:Exit→Act→World→Prop} {tm':List V} (hoc:Qfq P oc ro) (hr:Qo8 P ops o r)
  (g:Good P k) (ht:RL k tm a.tmps.toList) (he:evG oc ro base tm k.h r=some (tm',h'))
  (hnext:∀ k' a',Good P k'→k'.h=h'→Ev ro k.h.length k k'→RL k' tm' a'.tmps.toList→a'.defers=a.defers→next a' k'.w) :
  if Region.wanted o (yielded ops a.tmps) then o.wpIn (fen fr) n P a k.w next Q
  else (∀ f,o.about P k.w a.eval=some f→(fen fr).fn f)∧next (a.put o.dst undef) k.w:=by
 obtain ⟨j,hc,hd,hg⟩:=hr
 -- the row is taken
 have taken:∀ (hgo:(match (match r.o with
   | .call f args=>oc (f.ev tm) (evs tm args) k.h
   | o=>match plan base tm o with
    | none=>none
    | some p=>p.go ro k.h) with
  | none=>none
  | some (v,h')=>some (match r.d with|some d=>tset tm d v|none=>tm,h'))=some (tm',h')),o.wpIn (fen fr) n P a k.w next Q:=by
  intro hgo
  split at hgo<;>(try (cases hgo;done))
  rename_i v h1 hres
  simp only [jA,jN] at hgo
  obtain ⟨hgo,rfl⟩:=hgo
  have hput:dput o.dst tm v=tm':=by rw [← hd,← hgo];rfl
  refine Qn5 (v:=v) (h':=h1) (ro:=ro) (Qdi hc) ?_ g ht (fun k' a' g' hh e hl hdf=>hnext k' a' g' hh e (by rw [← hput];exact hl) hdf)
  split at hres
  ·rename_i f args hm
   rw [hm] at hc
   rcases Qqp hc with ⟨x,as,ts,ho,hf,has⟩|⟨n,name,as,ts,as',ho,rfl,rfl,has⟩
   ·rw [Qmw ho]
    have:=hoc k _ _ (a.eval x) (as.toList.map a.eval) v h1 g (cO_R ht hf) (Qnv ht has) hres
    have e2:(⟨as.toList.map a.eval⟩:Array Value)=as.map a.eval:=by apply Array.ext';simp
    rwa [e2] at this
   ·rw [Qf5 ho]
    have e2:(⟨a.eval (.tmp n)::as.toList.map a.eval⟩:Array Value) = #[a.eval (.tmp n)]++as.map a.eval:=by apply Array.ext';simp
    have hn:R k (tg tm n) (a.eval (.tmp n)):=cO_R (y:=.t n) ht rfl
    by_cases hl:∃ t v0 f0,tg tm n=.iface t v0∧Q7q (mTab P name) t=some f0
    ·obtain ⟨t,v0,f0,q1,q2⟩:=hl
     rw [q1] at hn;simp only [R] at hn
     obtain ⟨y,hy,hv0⟩:=hn
     have ef:O.ev tm (.mt (mTab P name) n)=.fn f0 []:=by simp only [O.ev,q1,q2]
     have er:O.ev tm (.rv (mTab P name) n)=v0:=by simp only [O.ev,q1,q2]
     simp only [evs,ef,er] at hres
     have:=hoc k _ _ (.func (.func f0) #[] ⟨[]⟩) (y::as.toList.map a.eval) v h1 g (by simp only [R];exact ⟨[],rfl,by simp [RL]⟩) (RL.cons hv0 (Qnv ht has)) hres
     have e3:(⟨y::as.toList.map a.eval⟩:Array Value) = #[y]++as.map a.eval:=by apply Array.ext';simp
     rw [e3] at this
     refine Done.congr ?_ this
     rw [hy]
     exact Qf4 q2 y (as.map a.eval) k.w
    ·have ef:O.ev tm (.mt (mTab P name) n)=.dead:=by
      simp only [O.ev]
      split
      ·rename_i t v0 e
       split
       ·rename_i f0 e2;exact absurd ⟨t,v0,f0,e,e2⟩ hl
       ·rfl
      ·rfl
     have er:O.ev tm (.rv (mTab P name) n)=.dead:=by
      simp only [O.ev]
      split
      ·rename_i t v0 e
       split
       ·rename_i f0 e2;exact absurd ⟨t,v0,f0,e,e2⟩ hl
       ·rfl
      ·rfl
     simp only [evs,ef,er] at hres
     have:=hoc k _ _ (.func (.method name) #[] #[]) (a.eval (.tmp n)::as.toList.map a.eval) v h1 g (by simp [R]) (RL.cons (by simp [R]) (Qnv ht has)) hres
     rwa [e2] at this
  ·split at hres<;>(try (cases hres;done))
   rename_i p hp
   exact .at_once (op_did g (Ops.of ht) hc hp hres)
 have skipped:∀ tm1,(some (match r.d with|some d=>tset tm d (.tup [])|none=>tm,k.h):Option (List V × List B))=some (tm1,h')→tm1=tm'→next (a.put o.dst undef) k.w:=by
  rintro tm1 e rfl
  simp only [jA,jN] at e
  obtain ⟨e1,rfl⟩:=e
  refine hnext k _ g rfl (Ev.refl _ _ _) ?_ (Q9s _ _ _)
  have:=put_R (d:=o.dst) (x:=undef) (v:=.tup []) ht (by simp only [R,undef];exact ⟨[],rfl,RL.nil⟩)
  rw [← e1,hd];exact this
 cases hgd:o.guard with
 | none =>
  simp only [hgd] at hg
  simp only [evG,hg] at he
  simp only [Region.wanted,hgd,if_true]
  exact taken he
 | some p =>
  obtain ⟨i,want⟩:=p
  simp only [hgd] at hg
  obtain ⟨oi,s,ho,hs,hg⟩:=hg
  simp only [evG,hg] at he
  have hsl:=RL.get s ht
  have hy:yielded ops a.tmps i=match a.tmps[s]? with|some (.bool b)=>some b|_=>none:=by
   simp only [yielded,ho,Option.bind_some,hs];rfl
  have hle:=RL.len ht
  split at he
  ·rename_i b hb
   rw [hb] at hsl;simp only [R] at hsl
   have hget:a.tmps[s]?=some (.bool b):=by
    rw [← Array.getElem?_toList]
    rw [jM] at hsl
    cases h0:a.tmps.toList[s]? with
    | none=>rw [h0] at hsl;simp [undef] at hsl
    | some y=>rw [h0] at hsl;simp at hsl;rw [hsl]
   rw [hget] at hy;simp only at hy
   by_cases hbw:b=want
   ·subst hbw
    simp only [if_true] at he
    have hw:Region.wanted o (yielded ops a.tmps)=true:=by simp [Region.wanted,hgd,hy]
    rw [if_pos hw]
    exact taken he
   ·simp only [hbw,if_false] at he
    have hw:¬ Region.wanted o (yielded ops a.tmps)=true:=by simp [Region.wanted,hgd,hy,hbw]
    rw [if_neg hw]
    exact ⟨fun _ _=>trivial,skipped _ he rfl⟩
  ·rename_i hb
   rw [hb] at hsl;simp only [R,RL] at hsl
   obtain ⟨vs,hsl,rfl⟩:=hsl
   have hw:¬ Region.wanted o (yielded ops a.tmps)=true:=by
    have hn:yielded ops a.tmps i=none:=by
     rw [hy]
     rw [← Array.getElem?_toList]
     rw [jM] at hsl
     cases h0:a.tmps.toList[s]? with
     | none=>rfl
     | some y=>rw [h0] at hsl;simp at hsl;rw [hsl]
    simp [Region.wanted,hgd,hn]
   rw [if_neg hw]
   exact ⟨fun _ _=>trivial,skipped _ he rfl⟩
  ·cases he
end Go.Dr
namespace Go.Dr
variable {md:Nat→Nat} {oc:Orc} {ro base:Nat}
def evGo (oc:Orc) (ro base:Nat) (tm:List V) (h:List B) (o:M):Option (V × List B) :=
 match o with
 | .call f args=>oc (f.ev tm) (evs tm args) h
 | o=>match plan base tm o with
  | none=>none
  | some p=>p.go ro h
def evV (oc:Orc) (ro base:Nat) (tm:List V) (h:List B) (r:G):Option (V × List B) :=
 match r.g with
 | none=>evGo oc ro base tm h r.o
 | some (s,want)=>match tg tm s with
  | .bool b=>if b=want then evGo oc ro base tm h r.o else some (.tup [],h)
  | .tup []=>some (.tup [],h)
  | _=>none
theorem Qmy (tm:List V) (h:List B) (r:G):evG oc ro base tm h r=(evV oc ro base tm h r).map fun q=>(dput r.d tm q.1,q.2):=by
 have key:∀ (q:Option (V × List B)),(match q with|none=>none|some (v,h')=>some (match r.d with|some d=>tset tm d v|none=>tm,h'):Option (List V × List B))=q.map fun q=>(dput r.d tm q.1,q.2):=by
  intro q;cases q<;>rfl
 have hgo:=key (evGo oc ro base tm h r.o)
 unfold evG evV
 unfold evGo at hgo ⊢
 obtain ⟨d,g,b,o⟩:=r
 simp only at hgo ⊢
 cases g with
 | none=>exact hgo
 | some p =>
  obtain ⟨s,want⟩:=p
  simp only
  cases tg tm s with
  | bool c =>
   simp only
   by_cases hc:c=want
   ·simp only [hc,if_true];exact hgo
   ·simp only [hc,if_false];rfl
  | tup l=>cases l<;>rfl
  | _=>rfl
theorem Qpz {t1 t2:List V} {x:O} (h:∀ s∈oSlots [x],tg t1 s=tg t2 s):x.ev t1=x.ev t2:=by
 cases x with
 | t n=>exact h n (by simp [oSlots])
 | c v=>rfl
 | mt tb n=>simp only [O.ev];rw [h n (by simp [oSlots])]
 | rv tb n=>simp only [O.ev];rw [h n (by simp [oSlots])]
theorem Q5h (a b:List O):oSlots (a++b)=oSlots a++oSlots b:=by
 induction a with
 | nil=>rfl
 | cons x l ih=>cases x<;>simp [oSlots,ih]
theorem Qim {x:O} {l:List O} (hx:x∈l):∀ s∈oSlots [x],s∈oSlots l:=by
 intro s hs
 obtain ⟨a,b,rfl⟩:=List.append_of_mem hx
 rw [Q5h]
 have:oSlots (x::b)=oSlots [x]++oSlots b:=Q5h [x] b
 rw [this];simp [hs]
theorem Q4a {t1 t2:List V}:∀ {xs:List O},(∀ x∈xs,x.ev t1=x.ev t2)→evs t1 xs=evs t2 xs
 | [],_=>rfl
 | x::l,h=>by simp only [evs];rw [h x (by simp),Q4a fun y hy=>h y (by simp [hy])]
theorem Q3s {t1 t2:List V}:∀ {ps:List (Nat × Nat × O)} {cs:List V},(∀ p∈ps,p.2.2.ev t1=p.2.2.ev t2)→Q4r t1 cs ps=Q4r t2 cs ps
 | [],_,_=>rfl
 | (a,b,x)::l,cs,h=>by
  have:=h (a,b,x) (by simp)
  simp only at this
  simp only [Q4r,this]
  split
  ·exact Q3s fun p hp=>h p (by simp [hp])
  ·rfl
theorem Q2g {t1 t2:List V} {x:Option O} (h:∀ y∈x.toList,y.ev t1=y.ev t2):evo t1 x=evo t2 x:=by
 cases x with
 | none=>rfl
 | some y=>simp only [evo,h y (by simp)]
theorem Q9t {t1 t2:List V} {m:M} (h:∀ x∈m.ops,x.ev t1=x.ev t2):plan base t1 m=plan base t2 m:=by
 cases m<;>simp only [M.ops,List.mem_cons,List.not_mem_nil,or_false,forall_eq_or_imp,forall_eq,jK,List.mem_map] at h<;>simp only [plan]
 all_goals first
  | rfl
  | (simp only [h];done)
  | (simp only [h.1];done)
  | (simp only [h.1,h.2.1,h.2.2];done)
  | skip
 ·rw [Q3s fun p hp=>h _ ⟨p,hp,rfl⟩]
 ·rw [Q3s fun p hp=>h _ ⟨p,hp,rfl⟩]
 ·rw [Q3s fun p hp=>h _ ⟨p,hp,rfl⟩]
 ·rw [Q4a h]
 ·rw [h.1,Q2g fun y hy=>h.2 y (.inl (.inl hy)),Q2g fun y hy=>h.2 y (.inl (.inr hy)),Q2g fun y hy=>h.2 y (.inr hy)]
 ·rw [h.1,Q2g fun y hy=>h.2 y (.inl hy),Q2g fun y hy=>h.2 y (.inr hy)]
 ·rw [h.1,Q2g fun y hy=>h.2 y (.inl (.inl hy)),Q2g fun y hy=>h.2 y (.inl (.inr hy)),Q2g fun y hy=>h.2 y (.inr hy)]
 ·rw [Q4a h]
def Sees (t1 t2:List V) (r:G):Prop:=∀ s∈r.reads,tg t1 s=tg t2 s
theorem Sees.ops {t1 t2:List V} {r:G} (h:Sees t1 t2 r):∀ x∈r.o.ops,x.ev t1=x.ev t2:=fun x hx =>
 Qpz fun s hs=>h s (by simp only [G.reads,jK];exact .inr (Qim hx s hs))
theorem Sees.guard {t1 t2:List V} {r:G} (h:Sees t1 t2 r) {s:Nat} {w:Bool} (hg:r.g=some (s,w)):tg t1 s=tg t2 s :=
 h s (by simp only [G.reads,jK,hg];exact .inl (by simp))
theorem Qh4 {t1 t2:List V} {h:List B} {m:M} (hm:∀ x∈m.ops,x.ev t1=x.ev t2):evGo oc ro base t1 h m=evGo oc ro base t2 h m:=by
 have hp:=Q9t (base:=base) hm
 unfold evGo
 split
 ·rename_i f args
  simp only [M.ops,List.mem_cons,forall_eq_or_imp] at hm
  rw [hm.1,Q4a hm.2]
 ·rw [hp]
theorem Qd2 {t1 t2:List V} {h:List B} {r:G} (hs:Sees t1 t2 r):evV oc ro base t1 h r=evV oc ro base t2 h r:=by
 unfold evV
 cases hg:r.g with
 | none=>exact Qh4 hs.ops
 | some p =>
  obtain ⟨s,w⟩:=p
  simp only
  rw [hs.guard hg,Qh4 hs.ops]
def fpGo (md:Nat→Nat) (base:Nat) (tm:List V) (o:M):Fp :=
 match o with
 | .call f args=>match mode md (f.ev tm) (evs tm args) with
  | 0=>if blos 0 (f.ev tm::evs tm args) then .no else .vws
  | 2=>.rds
  | _=>.all
 | o=>match Qb3 base o with
  | some i=>.new i
  | none=>match plan base tm o with
   | none=>.all
   | some p=>match p.rs,p.w with
    | [],none=>.no
    | rs,w=>.some rs w
theorem Qf0 (tm:List V) (r:G):fpOf md base tm r=match r.g with
 | none=>fpGo md base tm r.o
 | some (s,want)=>match tg tm s with
  | .bool b=>if b=want then fpGo md base tm r.o else .no
  | _=>.no:=by
 unfold fpOf fpGo
 cases r.g with
 | none=>rfl
 | some p=>rfl
theorem Qa2 {t1 t2:List V} {m:M} (hm:∀ x∈m.ops,x.ev t1=x.ev t2):fpGo md base t1 m=fpGo md base t2 m:=by
 have hp:=Q9t (base:=base) hm
 unfold fpGo
 split
 ·rename_i f args
  simp only [M.ops,List.mem_cons,forall_eq_or_imp] at hm
  rw [hm.1,Q4a hm.2]
 ·rw [hp]
theorem Q6g {t1 t2:List V} {r:G} (hs:Sees t1 t2 r):fpOf md base t1 r=fpOf md base t2 r:=by
 rw [Qf0,Qf0]
 cases hg:r.g with
 | none=>exact Qa2 hs.ops
 | some p =>
  obtain ⟨s,w⟩:=p
  simp only
  rw [hs.guard hg,Qa2 hs.ops]
def FpOk (ro:Nat):Fp→(List B→Option (V × List B))→Prop
 | .no,f=>∀ h v h',f h=some (v,h')→h'=h∧∀ g,f g=some (v,g)
 | .rds,f=>∀ h v h',f h=some (v,h')→h'=h
 | .vws,f=>∀ h v h',f h=some (v,h')→h'=h∧∀ id b,bget h id=some .unborn→f (bset h id b)=some (v,bset h id b)
 | .new id,f=>∀ h v h',f h=some (v,h')→bget h id=some .unborn∧∃ b,h'=bset h id b∧∀ g,bget g id=some .unborn→f g=some (v,bset g id b)
 | .some rs w,f=>∃ p:Pl,p.rs=rs∧p.w=w∧∀ h,f h=p.go ro h
 | .all,_=>True
def Qdt (md:Nat→Nat) (oc:Orc):Prop :=
 ∀ f as h v h',oc f as h=some (v,h') →
  (mode md f as=0→h'=h∧(blos 0 (f::as)=true→∀ g,oc f as g=some (v,g))∧∀ id b,bget h id=some .unborn→oc f as (bset h id b)=some (v,bset h id b))∧(mode md f as=2→h'=h)
theorem Qp5 {i:Nat} {tm:List V} {m:M} {p:Pl} (hi:Qb3 base m=some i) (hp:plan base tm m=some p):∃ v b,p=.new i v b:=by
 cases m<;>simp only [Qb3,reduceCtorEq,jA] at hi<;>subst hi<;>simp only [plan] at hp
 ·cases hp;exact ⟨_,_,rfl⟩
 ·split at hp<;>(try (cases hp;done))
  cases hp;exact ⟨_,_,rfl⟩
 ·split at hp<;>(try (cases hp;done))
  split at hp<;>(try (cases hp;done))
  split at hp<;>(try (cases hp;done))
  cases hp;exact ⟨_,_,rfl⟩
 ·cases hp;exact ⟨_,_,rfl⟩
 ·cases hp;exact ⟨_,_,rfl⟩
theorem new_go {i:Nat} {v0:V} {b0:B} {h:List B} {v:V} {h':List B} (e:(Pl.new i v0 b0).go ro h=some (v,h')):bget h i=some .unborn∧v=v0∧h'=bset h i b0∧∀ g,bget g i=some .unborn→(Pl.new i v0 b0).go ro g=some (v,bset g i b0):=by
 simp only [Pl.go,Pl.new,Q0n] at e ⊢
 cases hb:bget h i with
 | none=>rw [hb] at e;simp at e
 | some b =>
  rw [hb] at e
  cases b with
  | unborn =>
   simp only at e
   split at e<;>(try (cases e;done))
   rename_i hro
   cases e
   exact ⟨rfl,rfl,rfl,fun g hg=>by simp only [hg,hro,if_true]⟩
  | _=>simp at e
theorem Qmq (ho:Qdt md oc) (tm:List V) (m:M):FpOk ro (fpGo md base tm m) (fun h=>evGo oc ro base tm h m):=by
 unfold fpGo evGo
 split
 ·rename_i f args
  split
  ·rename_i hm
   split
   ·rename_i hb
    intro h v h' e
    have:=(ho _ _ _ _ _ e).1 hm
    exact ⟨this.1,this.2.1 hb⟩
   ·intro h v h' e
    have:=(ho _ _ _ _ _ e).1 hm
    exact ⟨this.1,this.2.2⟩
  ·rename_i hm
   intro h v h' e
   exact (ho _ _ _ _ _ e).2 hm
  ·trivial
 ·split
  ·rename_i i hi
   intro h v h' e
   simp only at e ⊢
   split at e<;>(try (cases e;done))
   rename_i p hp
   obtain ⟨v0,b0,rfl⟩:=Qp5 hi hp
   obtain ⟨h1,rfl,rfl,h2⟩:=new_go e
   exact ⟨h1,b0,rfl,h2⟩
  ·split
   ·trivial
   ·rename_i p hp
    split
    ·rename_i hrs hw
     intro h v h' e
     simp only [Pl.go,hrs,hw,Q0n] at e ⊢
     split at e<;>(try (cases e;done))
     rename_i hf
     cases e
     exact ⟨rfl,fun g=>rfl⟩
    ·exact ⟨p,rfl,rfl,fun _=>rfl⟩
theorem Qmp (ho:Qdt md oc) (tm:List V) (r:G):FpOk ro (fpOf md base tm r) (fun h=>evV oc ro base tm h r):=by
 rw [Qf0]
 unfold evV
 cases hg:r.g with
 | none=>exact Qmq ho tm r.o
 | some p =>
  obtain ⟨s,w⟩:=p
  simp only
  cases htg:tg tm s with
  | bool b =>
   simp only
   by_cases hb:b=w
   ·simp only [hb,if_true];exact Qmq ho tm r.o
   ·simp only [hb,if_false];intro h v h' e;cases e;exact ⟨rfl,fun _=>rfl⟩
  | tup l=>cases l<;>(intro h v h' e;cases e)<;>exact ⟨rfl,fun _=>rfl⟩
  | _=>intro h v h' e;cases e
theorem Q1v {h:List B} {id:Nat} {b:B}:∀ {rs:List Nat},id∉rs→Q0n (bset h id b) rs=Q0n h rs
 | [],_=>rfl
 | i::rs,hn=>by
  simp only [List.mem_cons,not_or] at hn
  simp only [Q0n,Q0g,Q1v hn.2]
  rw [if_neg (by rintro ⟨e,_⟩;exact hn.1 e)]
theorem Q60 {h:List B} {i j:Nat} {a b:B} (hn:i≠j):bset (bset h i a) j b=bset (bset h j b) i a:=by
 induction h generalizing i j with
 | nil=>rfl
 | cons c l ih =>
  cases i<;>cases j<;>simp only [bset]<;>first|rfl|(exact absurd rfl hn)|(rw [ih (by omega)])
theorem Pl.go_set {p:Pl} {h:List B} {v:V} {h':List B} (e:p.go ro h=some (v,h')):(h'=h)∨∃ id b,p.w=some id∧h'=bset h id b:=by
 obtain ⟨bs,_,h1|⟨b,id,_,h2,_,h3⟩⟩:=Pl.go_cases e
 ·exact .inl h1.2
 ·exact .inr ⟨id,b,h2,h3⟩
theorem Pl.go_none {p:Pl} {h:List B} {bs:List B} {v:V} (hb:Q0n h p.rs=some bs) (hf:p.f bs=some (v,none)):p.go ro h=some (v,h):=by
 simp only [Pl.go,hb,hf]
theorem Pl.go_some {p:Pl} {h:List B} {bs:List B} {v:V} {b:B} {id:Nat} (hb:Q0n h p.rs=some bs) (hf:p.f bs=some (v,some b)) (hw:p.w=some id) (hro:ro≤id):p.go ro h=some (v,bset h id b):=by
 simp only [Pl.go,hb,hf,hw,if_pos hro]
theorem Qiv {fx fy:Fp} {f g:List B→Option (V × List B)} (hf:FpOk ro fx f) (hg:FpOk ro fy g) (hfree:fy.free fx=true) {h h1 h2:List B} {vx vy:V}
  (e1:f h=some (vx,h1)) (e2:g h1=some (vy,h2)):∃ h1',g h=some (vy,h1')∧f h1'=some (vx,h2):=by
 have no_x:fx=.no→∃ h1',g h=some (vy,h1')∧f h1'=some (vx,h2):=by
  rintro rfl
  obtain ⟨rfl,hall⟩:=hf _ _ _ e1
  exact ⟨h2,e2,hall h2⟩
 have no_y:fy=.no→∃ h1',g h=some (vy,h1')∧f h1'=some (vx,h2):=by
  rintro rfl
  obtain ⟨rfl,hall⟩:=hg _ _ _ e2
  exact ⟨h,hall h,e1⟩
 have same:h1=h→h2=h1→∃ h1',g h=some (vy,h1')∧f h1'=some (vx,h2):=by
  rintro rfl rfl;exact ⟨_,e2,e1⟩
 have nw:∀ {p:Pl} {a b:List B} {v:V},p.w=none→p.go ro a=some (v,b)→b=a:=fun hw e=>by
  rcases Pl.go_set e with h|⟨id,b,hw',_⟩
  ·exact h
  ·rw [hw] at hw';cases hw'
 have keep:∀ {p:Pl} {a b:List B} {v:V} {i:Nat} (c:B),i∉p.rs→p.w≠some i→p.go ro a=some (v,b)→p.go ro (bset a i c)=some (v,bset b i c)∧bget b i=bget a i:=fun {p a b v i} c h1 h2 e=>by
  obtain ⟨bs,hbs,⟨hf1,rfl⟩|⟨d,id,hf1,hw,hro,rfl⟩⟩:=Pl.go_cases e
  ·exact ⟨Pl.go_none (by rw [Q1v h1];exact hbs) hf1,rfl⟩
  ·have hne:i≠id:=by rintro rfl;exact h2 hw
   refine ⟨?_,?_⟩
   ·rw [Q60 (Ne.symm hne)]
    exact Pl.go_some (by rw [Q1v h1];exact hbs) hf1 hw hro
   ·rw [Q0g,if_neg (by rintro ⟨e,_⟩;exact hne e.symm)]
 have noHit:∀ {i:Nat} {rs:List Nat} {w:Option Nat},(!hits (some i) rs w)=true→i∉rs∧w≠some i:=fun hh=>by
  simp only [hits,Bool.not_eq_true',jL,List.contains_eq_mem,jI,beq_eq_false_iff_ne] at hh
  exact hh
 cases fx with
 | no=>exact no_x rfl
 | all=>cases fy<;>simp [Fp.free] at hfree;exact no_y rfl
 | rds =>
  cases fy with
  | no=>exact no_y rfl
  | all=>simp [Fp.free] at hfree
  | rds=>exact same (hf _ _ _ e1) (hg _ _ _ e2)
  | vws=>exact same (hf _ _ _ e1) (hg _ _ _ e2).1
  | new i=>simp [Fp.free] at hfree
  | some rs w =>
   simp only [Fp.free,Option.isNone_iff_eq_none] at hfree
   obtain ⟨p,p1,p2,p3⟩:=hg
   rw [p3] at e2
   exact same (hf _ _ _ e1) (nw (p2.trans hfree) e2)
 | vws =>
  obtain ⟨rfl,hall⟩:=hf _ _ _ e1
  cases fy with
  | no=>exact no_y rfl
  | all=>simp [Fp.free] at hfree
  | rds=>exact same rfl (hg _ _ _ e2)
  | vws=>exact same rfl (hg _ _ _ e2).1
  | new i =>
   obtain ⟨hu,b,rfl,_⟩:=hg _ _ _ e2
   exact ⟨_,e2,hall _ _ hu⟩
  | some rs w =>
   simp only [Fp.free,Option.isNone_iff_eq_none] at hfree
   obtain ⟨p,p1,p2,p3⟩:=hg
   rw [p3] at e2
   exact same rfl (nw (p2.trans hfree) e2)
 | new i =>
  obtain ⟨hu,b,rfl,hall⟩:=hf _ _ _ e1
  cases fy with
  | no=>exact no_y rfl
  | all=>simp [Fp.free] at hfree
  | rds=>simp [Fp.free] at hfree
  | vws=>simp [Fp.free] at hfree
  | new j =>
   simp only [Fp.free,bne_iff_ne,ne_eq] at hfree
   obtain ⟨hu2,c,rfl,hall2⟩:=hg _ _ _ e2
   rw [Q0g,if_neg (by rintro ⟨e,_⟩;exact hfree e.symm)] at hu2
   refine ⟨bset h j c,hall2 _ hu2,?_⟩
   rw [Q60 (fun e=>hfree e.symm)]
   exact hall _ (by rw [Q0g,if_neg (by rintro ⟨e,_⟩;exact hfree e)];exact hu)
  | some rs w =>
   obtain ⟨n1,n2⟩:=noHit hfree
   obtain ⟨p,rfl,rfl,p3⟩:=hg
   rw [p3] at e2
   obtain ⟨bs,hbs,⟨hf1,rfl⟩|⟨d,id,hf1,hw,hro,rfl⟩⟩:=Pl.go_cases e2
   ·rw [Q1v n1] at hbs
    exact ⟨h,by rw [p3];exact Pl.go_none hbs hf1,e1⟩
   ·rw [Q1v n1] at hbs
    have hne:i≠id:=by rintro rfl;exact n2 hw
    refine ⟨bset h id d,by rw [p3];exact Pl.go_some hbs hf1 hw hro,?_⟩
    rw [Q60 hne]
    exact hall _ (by rw [Q0g,if_neg (by rintro ⟨e,_⟩;exact hne e.symm)];exact hu)
 | some rs w =>
  cases fy with
  | no=>exact no_y rfl
  | all=>simp [Fp.free] at hfree
  | rds =>
   simp only [Fp.free,Option.isNone_iff_eq_none] at hfree
   obtain ⟨p,p1,p2,p3⟩:=hf
   rw [p3] at e1
   exact same (nw (p2.trans hfree) e1) (hg _ _ _ e2)
  | vws =>
   simp only [Fp.free,Option.isNone_iff_eq_none] at hfree
   obtain ⟨p,p1,p2,p3⟩:=hf
   rw [p3] at e1
   exact same (nw (p2.trans hfree) e1) (hg _ _ _ e2).1
  | new i =>
   obtain ⟨n1,n2⟩:=noHit hfree
   obtain ⟨p,rfl,rfl,p3⟩:=hf
   rw [p3] at e1
   obtain ⟨hu,b,rfl,hall⟩:=hg _ _ _ e2
   obtain ⟨k1,k2⟩:=keep b n1 n2 e1
   rw [k2] at hu
   exact ⟨_,hall _ hu,by rw [p3];exact k1⟩
  | some rs' w' =>
   simp only [Fp.free,jF,Bool.not_eq_true'] at hfree
   obtain ⟨p,rfl,rfl,p3⟩:=hf
   obtain ⟨q,rfl,rfl,q3⟩:=hg
   rw [p3] at e1;rw [q3] at e2
   obtain ⟨fr1,fr2⟩:=hfree
   obtain ⟨bs,hbs,⟨hf1,rfl⟩|⟨b,id,hf1,hw,hro,rfl⟩⟩:=Pl.go_cases e1
   ·obtain ⟨cs,hcs,⟨hg1,rfl⟩|⟨c,id2,hg1,hw2,hro2,rfl⟩⟩:=Pl.go_cases e2
    ·exact ⟨_,by rw [q3];exact e2,by rw [p3];exact e1⟩
    ·rw [hw2] at fr1;simp only [hits,jL,List.contains_eq_mem,jI] at fr1
     exact ⟨_,by rw [q3];exact e2,by rw [p3];exact Pl.go_none (by rw [Q1v fr1.1];exact hbs) hf1⟩
   ·rw [hw] at fr2;simp only [hits,jL,List.contains_eq_mem,jI] at fr2
    obtain ⟨cs,hcs,hg1⟩:=Pl.go_cases e2
    rw [Q1v fr2.1] at hcs
    rcases hg1 with ⟨hg1,rfl⟩|⟨c,id2,hg1,hw2,hro2,rfl⟩
    ·exact ⟨h,by rw [q3];exact Pl.go_none hcs hg1,by rw [p3];exact e1⟩
    ·rw [hw2] at fr1;simp only [hits,jL,List.contains_eq_mem,jI] at fr1
     have hne:id≠id2:=by rintro rfl;rw [hw] at fr1;simp at fr1
     refine ⟨bset h id2 c,by rw [q3];exact Pl.go_some hcs hg1 hw2 hro2,?_⟩
     rw [p3,Q60 hne]
     exact Pl.go_some (by rw [Q1v fr1.1];exact hbs) hf1 hw hro
end Go.Dr
namespace Go.Dr
variable {md:Nat→Nat} {oc:Orc} {ro base:Nat}
theorem Q9j {l:List V} {d s:Nat} {v:V} (h:d≠s):tg (tset l d v) s=tg l s:=by
 induction l generalizing d s with
 | nil=>rfl
 | cons x l ih =>
  cases d<;>cases s<;>simp only [tset,tg]<;>first|(exact absurd rfl h)|(exact ih (by omega))
theorem Qk7 {l:List V} {d e:Nat} {v u:V} (h:d≠e):tset (tset l d v) e u=tset (tset l e u) d v:=by
 induction l generalizing d e with
 | nil=>rfl
 | cons x l ih =>
  cases d<;>cases e<;>simp only [tset]<;>first|(exact absurd rfl h)|(rw [ih (by omega)])
theorem Q6r {a b:G} (h:apart a b=true):(∀ d,a.d=some d→d∉b.names)∧(∀ d,b.d=some d→d∉a.names):=by
 unfold apart at h
 rw [jF] at h
 refine ⟨fun d hd=>?_,fun d hd=>?_⟩
 ·have:=h.1;rw [hd] at this;simpa using this
 ·have:=h.2;rw [hd] at this;simpa using this
theorem Qkr {a b:G} (h:apart a b=true) (tm:List V) (v:V):Sees tm (dput a.d tm v) b:=by
 intro s hs
 cases hd:a.d with
 | none=>rfl
 | some d =>
  have:=(Q6r h).1 d hd
  simp only [dput]
  rw [Q9j]
  rintro rfl
  exact this (by simp only [G.names,jK];exact .inr hs)
theorem Qif {a b:G} (h:apart a b=true) (tm:List V) (v:V):Sees tm (dput b.d tm v) a:=by
 intro s hs
 cases hd:b.d with
 | none=>rfl
 | some d =>
  have:=(Q6r h).2 d hd
  simp only [dput]
  rw [Q9j]
  rintro rfl
  exact this (by simp only [G.names,jK];exact .inr hs)
theorem Qn4 {a b:G} (h:apart a b=true) (tm:List V) (v u:V):dput b.d (dput a.d tm v) u=dput a.d (dput b.d tm u) v:=by
 cases ha:a.d with
 | none=>rfl
 | some d =>
  cases hb:b.d with
  | none=>rfl
  | some e =>
   simp only [dput]
   refine Qk7 ?_
   rintro rfl
   exact (Q6r h).1 d ha (by simp [G.names,hb])
theorem Qkx (ho:Qdt md oc) {x y:G} (hap:apart x y=true) {tm:List V} {h:List B} {s t:List V × List B} (e1:evG oc ro base tm h x=some s) (e2:evG oc ro base s.1 s.2 y=some t)
  (hfree:(fpOf md base s.1 y).free (fpOf md base tm x)=true) :
  ∃ u,evG oc ro base tm h y=some u∧evG oc ro base u.1 u.2 x=some t∧fpOf md base tm y=fpOf md base s.1 y∧fpOf md base u.1 x=fpOf md base tm x:=by
 rw [Qmy] at e1 e2
 obtain ⟨⟨vx,h1⟩,f1,rfl⟩:=map_some e1
 obtain ⟨⟨vy,h2⟩,f2,rfl⟩:=map_some e2
 simp only at f2 hfree ⊢
 have sy:=Qkr hap tm vx
 rw [← Qd2 sy] at f2
 obtain ⟨h1',g1,g2⟩:=Qiv (Qmp ho tm x) (Qmp ho tm y) (by rw [Q6g sy];exact hfree) f1 f2
 have sx:=Qif hap tm vy
 refine ⟨(dput y.d tm vy,h1'),by rw [Qmy,g1];rfl,?_,Q6g sy,(Q6g sx).symm⟩
 rw [Qmy,← Qd2 sx,g2]
 simp only [Option.map_some]
 rw [Qn4 hap]
abbrev Row:=Nat × G × Fp
def Run (md:Nat→Nat) (oc:Orc) (ro base:Nat):List Row→(List V × List B)→(List V × List B)→Prop
 | [],s,t=>s=t
 | x::L,s,t=>fpOf md base s.1 x.2.1=x.2.2∧∃ u,evG oc ro base s.1 s.2 x.2.1=some u∧Run md oc ro base L u t
theorem Qs0 (ho:Qdt md oc) {x:Row} {C:List Row}:∀ {A:List Row} {s t:List V × List Dr.B},(∀ a∈A,apart a.2.1 x.2.1=true∧x.2.2.free a.2.2=true)→Run md oc ro base (A++x::C) s t→Run md oc ro base (x::(A++C)) s t
 | [],_,_,_,h=>h
 | a::A,s,t,hA,h=>by
  obtain ⟨f1,u,e1,h⟩:=h
  obtain ⟨f2,w,e2,h⟩:=Qs0 ho (fun b hb=>hA b (by simp [hb])) h
  obtain ⟨ap,fr⟩:=hA a (by simp)
  obtain ⟨z,z1,z2,z3,z4⟩:=Qkx ho ap e1 e2 (by rw [f2,f1];exact fr)
  exact ⟨z3.trans f2,z,z1,z4.trans f1,w,z2,h⟩
def enum:Nat→List G→List (Nat × G)
 | _,[]=>[]
 | i,r::l=>(i,r)::enum (i+1) l
theorem Q8l {fp:Fp} {b:Nat}:∀ {seen:List (Nat × Fp)},Q6y fp b seen=true→∀ q∈seen,b.testBit q.1=true∨fp.free q.2=true
 | [],_,q,hq=>by simp at hq
 | (i,f)::l,h,q,hq=>by
  simp only [Q6y,jF,Bool.or_eq_true] at h
  rcases List.mem_cons.1 hq with rfl|hq
  ·exact h.1
  ·exact Q8l h.2 q hq
theorem Qa6:∀ {l:List G} {i:Nat} {seen:List (Nat × Fp)} {tm:List V} {h:List B} {t:List V × List B},Q1u md oc ro base i seen l tm h=some t →
  ∃ L:List Row,L.map (fun x=>(x.1,x.2.1))=enum i l∧Run md oc ro base L (tm,h) t∧(∀ x∈L,∀ q∈seen,x.2.1.b.testBit q.1=true∨x.2.2.free q.2=true) ∧
   L.Pairwise (fun a b=>b.2.1.b.testBit a.1=true∨b.2.2.free a.2.2=true)
 | [],i,seen,tm,h,t,e=>by
  simp only [Q1u,jA] at e
  exact ⟨[],rfl,e,by simp,.nil⟩
 | r::l,i,seen,tm,h,t,e=>by
  simp only [Q1u] at e
  split at e<;>(try (cases e;done))
  rename_i hf
  split at e<;>(try (cases e;done))
  rename_i tm' h' hg
  obtain ⟨L,l1,l2,l3,l4⟩:=Qa6 e
  refine ⟨(i,r,fpOf md base tm r)::L,by simp [enum,l1],⟨rfl,_,hg,l2⟩,?_,?_⟩
  ·intro x hx q hq
   rcases List.mem_cons.1 hx with rfl|hx
   ·exact Q8l hf q hq
   ·exact l3 x hx q (by simp [hq])
  ·exact .cons (fun x hx=>l3 x hx (i,_) (by simp)) l4
theorem Q6t {r:G}:∀ {l:List G} {i:Nat},Qam r i l=true→∀ q∈enum i l,r.b.testBit q.1=true∨apart q.2 r=true
 | [],_,_,q,hq=>by simp [enum] at hq
 | a::l,i,h,q,hq=>by
  simp only [Qam,jF,Bool.or_eq_true] at h
  rcases List.mem_cons.1 hq with rfl|hq
  ·exact h.1
  ·exact Q6t h.2 q hq
theorem Qfc (a b:List G):∀ (i:Nat),enum i (a++b)=enum i a++enum (i+a.length) b:=by
 induction a with
 | nil=>intro i;simp [enum]
 | cons x l ih=>intro i;simp [enum,ih];congr 1;omega
theorem Q7r:∀ {l seen:List G},Q9m seen l=true→(∀ x∈enum seen.length l,∀ q∈enum 0 seen,x.2.b.testBit q.1=true∨apart q.2 x.2=true) ∧
  (enum seen.length l).Pairwise (fun a b=>b.2.b.testBit a.1=true∨apart a.2 b.2=true)
 | [],seen,_=>⟨by simp [enum],.nil⟩
 | r::l,seen,h=>by
  simp only [Q9m,jF] at h
  obtain ⟨h1,h2⟩:=Q7r h.2
  simp only [jD,List.length_cons,List.length_nil,Nat.zero_add] at h1 h2
  rw [Qfc] at h1
  constructor
  ·intro x hx q hq
   rcases List.mem_cons.1 hx with rfl|hx
   ·exact Q6t h.1 q hq
   ·exact h1 x hx q (by simp [hq])
  ·refine .cons (fun x hx=>?_) h2
   exact h1 x hx (seen.length,r) (by simp [enum])
end Go.Dr
namespace Go.Dr
open Go.RowKit (Below)
variable {P:Program} {md:Nat→Nat} {oc:Orc} {ro base:Nat}
theorem Ev.after {m:Nat} {a b c:K} (h:Ev ro m a b) (k:Ev ro b.h.length b c):Ev ro m a c:=by
 refine ⟨k.n0.trans h.n0,k.A.trans h.A,h.low.trans (h.n0▸k.low),?_,?_,?_,?_,fun id h1 h2 b hb=>by
  have:=h.un id h1 h2 b hb
  exact k.un id h1 (Q05 this) b this,fun id hid b hc ho=>by
  obtain ⟨q1,b1,e1,k1⟩:=h.od id hid b hc ho
  obtain ⟨q2,b2,e2,k2⟩:=k.od id (Q05 e1) b1 e1 k1.odd
  exact ⟨q2.trans q1,b2,e2,k1.trans k2⟩⟩
 ·intro x hx hs
  obtain ⟨h1,h2⟩:=h.prot x hx hs
  obtain ⟨h3,h4⟩:=k.prot x h1 (Nat.lt_of_lt_of_le hs h.low.size)
  exact ⟨h3,h4.trans h2⟩
 ·intro id hid c0 dat hc
  obtain ⟨c1,e1,l1,p1⟩:=h.blk id hid c0 dat hc
  obtain ⟨c2,e2,l2,p2⟩:=k.blk id (Q05 e1) c1 dat e1
  refine ⟨c2,e2,by omega,fun e=>?_⟩
  obtain ⟨q1,q2⟩:=p1 (by omega)
  obtain ⟨q3,q4⟩:=p2 (by omega)
  exact ⟨q3.trans q1,by rw [← q2,← q1];exact q4⟩
 ·intro id hid r p tm ps x y hc
  obtain ⟨h1,r',p',h2⟩:=h.lop id hid r p tm ps x y hc
  obtain ⟨h3,r2,p2,h4⟩:=k.lop id (Q05 h2) r' p' tm ps x y h2
  exact ⟨h3.trans h1,r2,p2,h4⟩
 ·intro id h1 h2 l
  obtain ⟨q1,q2,q3⟩:=h.rd id h1 h2 l
  obtain ⟨b0,hb,hn⟩:=l
  have l':live b.h id:=⟨b0,q1.trans hb,hn⟩
  obtain ⟨r1,r2,r3⟩:=k.rd id h1 (Q05 (q1.trans hb)) l'
  exact ⟨r1.trans q1,r2.trans q2,by rw [← q3,← q2];exact r3⟩
structure RowsOk (P:Program) (ops:Array Oper) (rs:List G):Prop where
 len:rs.length=ops.size
 row:∀ i r,rs[i]?=some r→∃ o,ops[i]?=some o∧Qo8 P ops o r∧(∀ e∈o.after,Region.binds .any e=true→e.on<i) ∧
  ∀ j,r.b.testBit j=true→∃ e∈o.after,Region.binds .any e=true∧(e.on=j∨∃ r',rs[e.on]?=some r'∧r'.b.testBit j=true)
theorem Q3r {acc:List Nat} {j:Nat}:∀ {es:List Edge},(Q4l acc es).testBit j=true→∃ e∈es,Region.binds .any e=true∧(e.on=j∨(acc.getD e.on 0).testBit j=true)
 | [],h=>by simp [Q4l] at h
 | e::l,h=>by
  simp only [Q4l] at h
  by_cases hb:Region.binds .any e=true
  ·simp only [hb,if_true,Nat.testBit_or,Bool.or_eq_true] at h
   rcases h with (h|h)|h
   ·obtain ⟨e',he,h'⟩:=Q3r h
    exact ⟨e',by simp [he],h'⟩
   ·rw [Nat.testBit_two_pow] at h
    exact ⟨e,by simp,hb,.inl (by simpa using h)⟩
   ·exact ⟨e,by simp,hb,.inr h⟩
  ·simp only [hb] at h
   obtain ⟨e',he,h'⟩:=Q3r h
   exact ⟨e',by simp [he],h'⟩
theorem Qac {all:Array Oper}:∀ {l:List Oper} {i k:Nat} {acc:List Nat} {n:Nat} {rs:List G},Qfn P all i k acc l=some (n,rs)→acc.length=i→(∀ t,l[t]?=all[i+t]?) →
  rs.length=l.length∧∀ t r,rs[t]?=some r→∃ o,all[i+t]?=some o∧Qo8 P all o r∧(∀ e∈o.after,Region.binds .any e=true→e.on<i+t) ∧
   ∀ j,r.b.testBit j=true→∃ e∈o.after,Region.binds .any e=true∧(e.on=j∨((acc++rs.map (·.b)).getD e.on 0).testBit j=true)
 | [],i,k,acc,n,rs,h,_,_=>by
  simp only [Qfn,jA,jN] at h
  obtain ⟨_,rfl⟩:=h
  exact ⟨rfl,fun t r e=>by simp at e⟩
 | o::l,i,k,acc,n,rs,h,hacc,hl=>by
  simp only [Qfn] at h
  split at h<;>(try (cases h;done))
  rename_i hedge
  split at h<;>(try (cases h;done))
  rename_i m hm
  split at h<;>(try (cases h;done))
  rename_i g hg
  split at h<;>(try (cases h;done))
  rename_i n' r' hrest
  cases h
  obtain ⟨h1,h2⟩:=Qac hrest (by simp [hacc]) (fun t=>by have:=hl (t+1);simpa [Nat.add_assoc,Nat.add_comm 1 t] using this)
  have ho:all[i]?=some o:=by simpa using (hl 0).symm
  refine ⟨by simp [h1],fun t r ht=>?_⟩
  cases t with
  | zero =>
   simp only [List.getElem?_cons_zero,jA] at ht
   subst ht
   refine ⟨o,ho,⟨k,hm,rfl,?_⟩,?_,?_⟩
   ·cases hgd:o.guard with
    | none=>rw [hgd] at hg;simp only [jA] at hg;exact hg.symm
    | some q =>
     obtain ⟨j,want⟩:=q
     rw [hgd] at hg;simp only at hg
     split at hg<;>(try (cases hg;done))
     rename_i oj hj
     split at hg<;>(try (cases hg;done))
     rename_i s hs
     split at hg<;>(try (cases hg;done))
     simp only [jA] at hg
     exact ⟨oj,s,hj,hs,hg.symm⟩
   ·intro e he hb
    simp only [Qfd,List.all_eq_true] at hedge
    have:=hedge e (by simpa using he)
    rw [hb] at this;simpa using this
   ·intro j hj
    obtain ⟨e,he,hb,h'⟩:=Q3r hj
    refine ⟨e,by simpa using he,hb,h'.imp id fun h'=>?_⟩
    simp only [Qfd,List.all_eq_true] at hedge
    have:=hedge e he
    rw [hb] at this
    replace this:e.on<i:=by simpa using this
    rw [jM,List.getElem?_append_left (by omega),← jM];exact h'
  | succ t =>
   simp only [List.getElem?_cons_succ] at ht
   obtain ⟨o',q1,q2,q3,q4⟩:=h2 t r ht
   rw [show i+1+t=i+(t+1) by omega] at q1 q3
   refine ⟨o',q1,q2,q3,fun j hj=>?_⟩
   obtain ⟨e,he,hb,h'⟩:=q4 j hj
   exact ⟨e,he,hb,h'.imp id fun h'=>by simpa using h'⟩
theorem Qht [GT P] {ops:Array Oper} {n:Nat} {rs:List G} (h:Qfn P ops 0 0 [] ops.toList=some (n,rs)):RowsOk P ops rs:=by
 obtain ⟨h1,h2⟩:=Qac h rfl (fun t=>by simp)
 refine ⟨by simpa using h1,fun i r hr=>?_⟩
 obtain ⟨o,q1,q2,q3,q4⟩:=h2 i r hr
 simp only [Nat.zero_add] at q1 q3
 refine ⟨o,q1,q2,q3,fun j hj=>?_⟩
 obtain ⟨e,he,hb,h'⟩:=q4 j hj
 refine ⟨e,he,hb,h'.imp id fun h'=>?_⟩
 simp only [List.nil_append,jM,jH] at h'
 cases hr':rs[e.on]? with
 | none=>rw [hr'] at h';simp at h'
 | some r'=>rw [hr'] at h';exact ⟨r',rfl,by simpa using h'⟩
theorem Qbg [GT P] {ops:Array Oper} {fr:Option Nat} {n:Nat} {Q:Exit→Act→World→Prop} (hoc:Qfq P oc ro):∀ {l:List Oper} {rs:List G} {k:K} {tm:List V} {a:Act} {t:List V × List B},rs.length=l.length →
  (∀ (i:Nat) o r,l[i]?=some o→rs[i]?=some r→Qo8 P ops o r)→Good P k→RL k tm a.tmps.toList→Q3f oc ro base rs tm k.h=some t →
  (∀ k' a',Good P k'→k'.h=t.2→Ev ro k.h.length k k'→RL k' t.1 a'.tmps.toList→a'.defers=a.defers→Q .normal a' k'.w) →
  wpListIn (fen fr) n P ops Q l a k.w
 | [],[],k,tm,a,t,_,_,g,ht,e,hQ=>by
  simp only [Q3f,jA] at e
  subst e
  exact hQ k a g rfl (Ev.refl _ _ _) ht rfl
 | o::l,r::rs,k,tm,a,t,hlen,hrow,g,ht,e,hQ=>by
  simp only [Q3f] at e
  split at e<;>(try (cases e;done))
  rename_i tm' h' hg
  have:=Qru (fr:=fr) (n:=n) (Q:=Q) (next:=wpListIn (fen fr) n P ops Q l) hoc (hrow 0 o r rfl rfl) g ht hg (fun k' a' g' hh ev hl hd =>
   Qbg hoc (by simpa using hlen) (fun i o r h1 h2=>hrow (i+1) o r h1 h2) g' hl (by rw [hh];exact e) (fun k2 a2 g2 hh2 ev2 hl2 hd2 =>
    hQ k2 a2 g2 hh2 (ev.after ev2) hl2 (hd2.trans hd)))
  exact this
 | [],_::_,_,_,_,_,h,_,_,_,_,_=>by simp at h
 | _::_,[],_,_,_,_,h,_,_,_,_,_=>by simp at h
theorem Qo3 {m:Region.Mode} {e:Edge} (h:Region.binds .any e=true):Region.binds m e=true:=by
 unfold Region.binds at *
 split at h
 ·exact absurd h (by decide)
 ·exact absurd h (by decide)
 ·rfl
structure Left (P:Program) (ops:Array Oper) (rs:List G) (listed:Array Bool) (L:List Row):Prop where
 size:listed.size=ops.size
 un:∀ x∈L,listed.getD x.1 true=false∧rs[x.1]?=some x.2.1
 all:∀ i,i<ops.size→listed.getD i true=false→∃ x∈L,x.1=i
 sorted:L.Pairwise (fun a b=>a.1<b.1)
 loose:L.Pairwise (fun a b=>b.2.1.b.testBit a.1=true∨(apart a.2.1 b.2.1=true∧b.2.2.free a.2.2=true))
 closed:∀ i r j,rs[i]?=some r→listed.getD i true=true→r.b.testBit j=true→listed.getD j true=true
theorem Qmm {listed:Array Bool} {i:Nat} (h:i<listed.size):listed.getD i true=listed.getD i false:=by
 simp [h]
theorem Q6w {α:Type} {p:α→α→Prop} {A C:List α} {x:α} (h:(A++x::C).Pairwise p):(∀ a∈A,p a x)∧(A++C).Pairwise p:=by
 rw [List.pairwise_append] at h ⊢
 obtain ⟨h1,h2,h3⟩:=h
 rw [List.pairwise_cons] at h2
 exact ⟨fun a ha=>h3 a ha x (by simp),h1,h2.2,fun a ha b hb=>h3 a ha b (by simp [hb])⟩
theorem Q5e {m:Region.Mode} {n:Nat} {ord:List Nat}:∀ {l:List Oper} {i:Nat},Q77 m n ord i l=true→∀ t o,l[t]?=some o→∀ e∈o.after,Region.binds m e=true→e.on<n∧ord.idxOf e.on<ord.idxOf (i+t)
 | [],_,_,t,o,h=>by simp at h
 | o0::l,i,h,t,o,ht=>by
  simp only [Q77,jF] at h
  cases t with
  | zero =>
   simp only [List.getElem?_cons_zero,jA] at ht
   subst ht
   intro e he hb
   have:=h.1
   simp only [Ql0,List.all_eq_true] at this
   have:=this e (by simpa using he)
   rw [hb] at this
   simpa using this
  | succ t =>
   have:=Q5e h.2 t o (by simpa using ht)
   rw [show i+1+t=i+(t+1) by omega] at this
   exact this
theorem Qt6 {ops:Array Oper} (h:Q7x ops=true) (m:Region.Mode):∃ ord:List Nat,∀ i o,ops[i]?=some o→∀ e∈o.after,Region.binds m e=true→e.on<ops.size∧ord.idxOf e.on<ord.idxOf i:=by
 have key:∀ m,Qgp ops m=true→∃ ord:List Nat,∀ i o,ops[i]?=some o→∀ e∈o.after,Region.binds m e=true→e.on<ops.size∧ord.idxOf e.on<ord.idxOf i:=by
  intro m hm
  refine ⟨topo m ops.toList (ops.size+1) [],fun i o ho e he hb=>?_⟩
  have:=Q5e hm i o (by simpa using ho) e he hb
  rwa [Nat.zero_add] at this
 simp only [Q7x,jF] at h
 cases m
 ·exact key _ h.1.1
 ·exact key _ h.1.2
 ·exact key _ h.2
theorem any_wp [GT P] {ops:Array Oper} {rs:List G} {fr:Option Nat} {n:Nat} {Q:Exit→Act→World→Prop} {m:Region.Mode} (hr:RowsOk P ops rs) (hrk:∃ ord:List Nat,∀ i o,ops[i]?=some o→∀ e∈o.after,Region.binds m e=true→e.on<ops.size∧ord.idxOf e.on<ord.idxOf i) (hoc:Qfq P oc ro) (hfp:Qdt md oc) :
  ∀ (fuel:Nat) {listed:Array Bool} {L:List Row} {k:K} {tm:List V} {a:Act} {t:List V × List B},L.length=fuel→Left P ops rs listed L→Good P k→RL k tm a.tmps.toList→Run md oc ro base L (tm,k.h) t →
  (∀ k' a',Good P k'→k'.h=t.2→Ev ro k.h.length k k'→RL k' t.1 a'.tmps.toList→a'.defers=a.defers→Q .normal a' k'.w) →
  wpAnyIn (fen fr) n P m ops Q fuel listed a k.w:=by
 intro fuel
 induction fuel with
 | zero =>
  intro listed L k tm a t hlen hL g ht hrun hQ
  have hnil:L=[]:=List.eq_nil_of_length_eq_zero hlen
  subst hnil
  simp only [Run] at hrun
  refine ⟨?_,hQ k a g (by rw [← hrun]) (Ev.refl _ _ _) (by rw [← hrun];exact ht) rfl⟩
  apply List.eq_nil_iff_forall_not_mem.2
  intro i hi
  obtain ⟨h1,o,h2,_⟩:=mem_ready.1 hi
  obtain ⟨x,hx,_⟩:=hL.all i (jP.1 h2).1 h1
  simp at hx
 | succ fuel ih =>
  intro listed L k tm a t hlen hL g ht hrun hQ
  constructor
  ·-- something is ready
   intro hnil
   exfalso
   cases L with
   | nil=>simp at hlen
   | cons x0 L =>
    obtain ⟨ord,hord⟩:=hrk
    have hmin:∀ (k:Nat) (x:Row),x∈x0::L→ord.idxOf x.1<k→∃ y:Row,y.1∈Region.ready m ops listed:=by
     intro k
     induction k with
     | zero=>intro x _ h;omega
     | succ k ihk =>
      intro x hx hk
      obtain ⟨h1,h2⟩:=hL.un x hx
      obtain ⟨o,ho,_⟩:=hr.row _ _ h2
      by_cases hall:∀ e∈o.after,Region.binds m e=true→listed.getD e.on false=true
      ·exact ⟨x,mem_ready.2 ⟨h1,o,ho,hall⟩⟩
      ·simp only [Classical.not_forall] at hall
       obtain ⟨e,he,hb,hne⟩:=hall
       obtain ⟨q1,q2⟩:=hord _ _ ho e he hb
       have hsz:e.on<listed.size:=by rw [hL.size];exact q1
       have hf:listed.getD e.on true=false:=by
        rw [Qmm hsz];simpa using hne
       obtain ⟨y,hy,hye⟩:=hL.all e.on q1 hf
       exact ihk y hy (by rw [hye];omega)
    obtain ⟨y,hmem⟩:=hmin _ x0 (by simp) (Nat.lt_succ_self _)
    rw [hnil] at hmem;simp at hmem
  ·intro i hi
   obtain ⟨h1,o,ho,hedges⟩:=mem_ready.1 hi
   have hisz:i<ops.size:=(jP.1 ho).1
   obtain ⟨x,hx,rfl⟩:=hL.all i hisz h1
   obtain ⟨A,C,rfl⟩:=List.append_of_mem hx
   obtain ⟨_,hrx⟩:=hL.un x hx
   obtain ⟨o',ho',hrow,hlt,hmask⟩:=hr.row _ _ hrx
   rw [ho] at ho';cases ho'
   -- what it must follow is listed
   have hanc:∀ j,x.2.1.b.testBit j=true→listed.getD j true=true:=by
    intro j hj
    obtain ⟨e,he,hb,h'⟩:=hmask j hj
    have hel:=hedges e he (Qo3 hb)
    have hsz:e.on<listed.size:=by rw [hL.size];have:=hlt e he hb;omega
    rw [← Qmm hsz] at hel
    rcases h' with rfl|⟨r',hr',hbit⟩
    ·exact hel
    ·exact hL.closed e.on r' j hr' hel hbit
   obtain ⟨hmid,hpw⟩:=Q6w hL.loose
   obtain ⟨hsmid,hsw⟩:=Q6w hL.sorted
   have hbub:=Qs0 hfp (fun b hb=>by
    rcases hmid b hb with h|h
    ·have hl:=hanc _ h
     have:=(hL.un b (by simp [hb])).1
     rw [hl] at this;cases this
    ·exact h) hrun
   obtain ⟨_,u,hu,hrest⟩:=hbub
   -- what is left
   have hne:∀ y∈A++C,y.1≠x.1:=by
    have hs:=hL.sorted
    rw [List.pairwise_append,List.pairwise_cons] at hs
    intro y hy
    rcases jK.1 hy with hy|hy
    ·have:=hs.2.2 y hy x (by simp);omega
    ·have:=hs.2.1.1 y hy;omega
   have hleft:Left P ops rs (listed.setIfInBounds x.1 true) (A++C):=by
    refine ⟨by simp [hL.size],fun y hy=>?_,fun i hi hun=>?_,hsw,hpw,fun i r j hri hli hbit=>?_⟩
    ·have:=hL.un y (by rcases jK.1 hy with h|h<;>simp [h])
     exact ⟨by rw [getD_set_ne true (Ne.symm (hne y hy))];exact this.1,this.2⟩
    ·have hix:x.1≠i:=by
      rintro rfl
      have:(listed.setIfInBounds x.1 true).getD x.1 true=true:=by
       simp [Array.getElem?_setIfInBounds]
       split<;>rfl
      rw [this] at hun;cases hun
     rw [getD_set_ne true hix] at hun
     obtain ⟨y,hy,hyi⟩:=hL.all i hi hun
     refine ⟨y,?_,hyi⟩
     rcases jK.1 hy with h|h
     ·simp [h]
     ·rcases List.mem_cons.1 h with rfl|h
      ·exact absurd hyi hix
      ·simp [h]
    ·have hj:listed.getD j true=true:=by
      by_cases hix:x.1=i
      ·subst hix
       rw [hrx] at hri;cases hri
       exact hanc j hbit
      ·rw [getD_set_ne true hix] at hli
       exact hL.closed i r j hri hli hbit
     by_cases hjx:x.1=j
     ·subst hjx;simp [Array.getElem?_setIfInBounds];split<;>rfl
     ·rw [getD_set_ne true hjx];exact hj
   unfold wpOpIn
   simp only [ho]
   exact Qru (fr:=fr) hoc hrow g ht hu (fun k' a' g' hh ev hl hd =>
    ih (by simp at hlen ⊢;omega) hleft g' hl (by rw [hh];exact hrest) (fun k2 a2 g2 hh2 ev2 hl2 hd2=>hQ k2 a2 g2 hh2 (ev.after ev2) hl2 (hd2.trans hd)))
theorem Qbi:∀ {l:List G} {i:Nat} {q:Nat × G},q∈enum i l→∃ j,q.1=i+j∧l[j]?=some q.2
 | [],_,_,h=>by simp [enum] at h
 | r::l,i,q,h=>by
  rcases List.mem_cons.1 h with rfl|h
  ·exact ⟨0,rfl,rfl⟩
  ·obtain ⟨j,h1,h2⟩:=Qbi h
   exact ⟨j+1,by omega,by simpa using h2⟩
theorem Qhc:∀ {l:List G} {i j:Nat},j<l.length→∃ r,(i+j,r)∈enum i l
 | [],_,_,h=>by simp at h
 | r::l,i,0,_=>⟨r,by simp [enum]⟩
 | r::l,i,j+1,h=>by
  obtain ⟨r',h'⟩:=Qhc (l:=l) (i:=i+1) (j:=j) (by simpa using h)
  exact ⟨r',by simp only [enum,List.mem_cons];right;rw [show i+(j+1)=i+1+j by omega];exact h'⟩
theorem Q8r:∀ (l:List G) (i:Nat),(enum i l).Pairwise (fun a b=>a.1<b.1)
 | [],_=>.nil
 | r::l,i=>.cons (fun q hq=>by obtain ⟨j,h,_⟩:=Qbi hq;show i<q.1;omega) (Q8r l (i+1))
theorem Qhb:∀ (l:List G) (i:Nat),(enum i l).length=l.length
 | [],_=>rfl
 | r::l,i=>by simp [enum,Qhb l (i+1)]
theorem Quf [GT P] {id:Nat} {ops:Array Oper} {rs:List G} {fr:Option Nat} {n:Nat} {Q:Exit→Act→World→Prop} (hr:RowsOk P ops rs) (hst:Q9m [] rs=true) (hrk:Q7x ops=true) (hoc:Qfq P oc ro) (hfp:Qdt md oc)
  {k:K} {tm:List V} {a:Act} {t:List V × List B} (g:Good P k) (ht:RL k tm a.tmps.toList) (e:Q1u md oc ro base 0 [] rs tm k.h=some t)
  (hQ:∀ k' a',Good P k'→k'.h=t.2→Ev ro k.h.length k k'→RL k' t.1 a'.tmps.toList→a'.defers=a.defers→Q .normal a' k'.w) :
  (Code.region id ops true).wpIn (fen fr) n P Q a k.w:=by
 obtain ⟨L,l1,l2,_,l4⟩:=Qa6 e
 have hlen:L.length=ops.size:=by
  have:=congrArg List.length l1
  simpa [Qhb,hr.len] using this
 have hw:Below k.n0 k.w { k.w with drawn:=k.w.drawn+1 }:=⟨rfl,rfl,rfl,Nat.le_refl _,fun _ _=>rfl⟩
 obtain ⟨g1,ev1⟩:=g.world (w':={ k.w with drawn:=k.w.drawn+1 }) hw (fun _ _=>rfl) ro k.h.length
 have hsorted:L.Pairwise (fun a b=>a.1<b.1):=by
  have:=Q8r rs 0
  rw [← l1,List.pairwise_map] at this
  exact this
 have hap:L.Pairwise (fun a b=>b.2.1.b.testBit a.1=true∨apart a.2.1 b.2.1=true):=by
  have:=(Q7r hst).2
  simp only [List.length_nil] at this
  rw [← l1,List.pairwise_map] at this
  exact this
 have hmem:∀ x∈L,rs[x.1]?=some x.2.1:=fun x hx=>by
  have:(x.1,x.2.1)∈enum 0 rs:=by rw [← l1];exact List.mem_map.2 ⟨x,hx,rfl⟩
  obtain ⟨j,h1,h2⟩:=Qbi this
  simp only [Nat.zero_add] at h1 h2
  rw [h1];exact h2
 have hsize:∀ x∈L,x.1<ops.size:=fun x hx=>by
  have:=(jB.1 (hmem x hx)).1
  rw [hr.len] at this;exact this
 have hleft:Left P ops rs (Array.replicate ops.size false) L:=by
  refine ⟨by simp,fun x hx=>⟨?_,hmem x hx⟩,fun i hi _=>?_,hsorted,?_,fun i r j hri hli _=>?_⟩
  ·have:=hsize x hx
   simp [this]
  ·obtain ⟨r,h⟩:=Qhc (l:=rs) (i:=0) (j:=i) (by rw [hr.len];exact hi)
   rw [← l1] at h
   obtain ⟨x,hx,hxe⟩:=List.mem_map.1 h
   exact ⟨x,hx,by simp only [jN,Nat.zero_add] at hxe;exact hxe.1⟩
  ·exact (hap.and l4).imp fun ⟨h1,h2⟩=>by
    rcases h1 with h1|h1
    ·exact .inl h1
    ·exact h2.imp (fun h=>h) fun h2=>⟨h1,h2⟩
  ·have:=(jB.1 hri).1
   rw [hr.len] at this
   simp [this] at hli
 have key:∀ m,wpAnyIn (fen fr) n P m ops Q ops.size (Array.replicate ops.size false) a { k.w with drawn:=k.w.drawn+1 }:=fun m =>
  any_wp (m:=m) hr (Qt6 hrk m) hoc hfp ops.size hlen hleft g1 (RL.ev ev1 (RL.blos ht) ht) l2 (fun k' a' g' hh ev hl hd=>hQ k' a' g' hh (ev1.after ev) hl hd)
 refine wpIn_region_draw fun c=>?_
 unfold Region.schedule
 split
 ·exact wpAnyIn_sound ops.size c _ a _ (key _)
 ·exact wpAnyIn_sound ops.size _ _ a _ (key _)
theorem Qp6 [GT P] {id:Nat} {ops:Array Oper} {rs:List G} {fr:Option Nat} {n:Nat} {Q:Exit→Act→World→Prop} (hr:RowsOk P ops rs) (hoc:Qfq P oc ro)
  {k:K} {tm:List V} {a:Act} {t:List V × List B} (g:Good P k) (ht:RL k tm a.tmps.toList) (e:Q3f oc ro base rs tm k.h=some t)
  (hQ:∀ k' a',Good P k'→k'.h=t.2→Ev ro k.h.length k k'→RL k' t.1 a'.tmps.toList→a'.defers=a.defers→Q .normal a' k'.w) :
  (Code.region id ops false).wpIn (fen fr) n P Q a k.w:=by
 refine wpIn_region_list (Qbg hoc (by simpa using hr.len) (fun i o r h1 h2=>?_) g ht e hQ)
 obtain ⟨o',q1,q2,_⟩:=hr.row i r h2
 rw [Array.getElem?_toList,q1] at h1
 cases h1;exact q2
end Go.Dr
namespace Go.Dr
open Go.RowKit (Below)
variable {P:Program} {md:Nat→Nat} {F:Nat→Option Fc}
def X.out:X→Exit
 | .nrm=>.normal
 | .exit i=>.exit i
 | .ret=>.ret
def Marks (k:K) (n1:Nat):List Deferred→List Deferred→Prop
 | ds,ds0=>∃ ms,ds=ms++ds0∧ms.Nodup∧∀ d∈ms,∃ r,d={ target:=.collected r,args := #[] }∧n1≤r∧k.ok r∧k.w.heap[r]?=some (.deferred (some []))
theorem Marks.refl (k:K) (n1:Nat) (ds:List Deferred):Marks k n1 ds ds:=⟨[],rfl,.nil,by simp⟩
theorem Marks.trans {ro m:Nat} {k k':K} {n1:Nat} {a b c:List Deferred} (h:Marks k n1 b a) (e:Ev ro m k k') (h':Marks k' k.w.heap.size c b) (hn:n1≤k.w.heap.size):Marks k' n1 c a:=by
 obtain ⟨ms,rfl,d1,h⟩:=h
 obtain ⟨ns,rfl,d2,h'⟩:=h'
 refine ⟨ns++ms,by simp,?_,fun d hd=>?_⟩
 ·rw [List.nodup_append]
  refine ⟨d2,d1,fun x hx y hy=>?_⟩
  rintro rfl
  obtain ⟨r,h1,h2,h3,h4⟩:=h x hy
  obtain ⟨r',q1,q2,q3,q4⟩:=h' x hx
  have hlt:=(jP.1 h4).1
  rw [h1] at q1
  simp only [Deferred.mk.injEq,Target.collected.injEq] at q1
  omega
 rcases jK.1 hd with hd|hd
 ·obtain ⟨r,h1,h2,h3⟩:=h' d hd
  exact ⟨r,h1,by omega,h3⟩
 ·obtain ⟨r,h1,h2,h3,h4⟩:=h d hd
  have hlt:=(jP.1 h4).1
  obtain ⟨h5,h6⟩:=e.prot r h3 hlt
  exact ⟨r,h1,h2,h5,h6.trans h4⟩
def Lands (P:Program) [GT P] (ro:Nat) (k:K) (ds:List Deferred) (x:X) (st:St) (Q:Exit→Act→World→Prop):Prop :=
 ∀ k' a',Good P k'→k'.h=st.h→Ev ro k.h.length k k'→RL k' st.tm a'.tmps.toList→Marks k' k.w.heap.size a'.defers ds→Q x.out a' k'.w
def FrOk (k:K) (fr:Option Nat):Prop:=∀ l,fr=some l→∃ id r p tm ps a b,bget k.h id=some (.lop r p tm ps a b)∧(k.β id).1=l
theorem FrOk.ev {k k':K} {fr:Option Nat} {ro m:Nat} (h:FrOk k fr) (e:Ev ro m k k') (hm:m=k.h.length):FrOk k' fr:=by
 intro l hl
 obtain ⟨id,r,p,tm,ps,a,b,h1,h2⟩:=h l hl
 obtain ⟨q1,r',p',q2⟩:=e.lop id (by rw [hm];exact Q05 h1) r p tm ps a b h1
 exact ⟨id,r',p',tm,ps,a,b,q2,by rw [q1];exact h2⟩
theorem FrOk.none (k:K):FrOk k none:=fun _ h=>by cases h
def Walks (P:Program) [GT P] (ro:Nat) (mc:MC) (st:St) (x:X) (st':St):Prop :=
 ∀ (c:Code) (k:K) (a:Act) (fr:Option Nat) (n:Nat) (Q:Exit→Act→World→Prop),Q14 P c=some mc→Good P k→k.h=st.h→RL k st.tm a.tmps.toList→FrOk k fr→Lands P ro k a.defers x st' Q→c.wpIn (fen fr) n P Q a k.w
theorem Q29 {b:Frame} {a:Act} {k:List Item} {cs:List Frame} {w:World} {c:Code}:step P (lone (b.atR a (.code (.scope c)::k)) cs w)=.next (lone (b.atR a (.code c::.inScope c::k)) cs w) :=
 step_lone_go (by simp [stepG,stepG.exec,Frame.atR])
theorem Qal {b:Frame} {a:Act} {k:List Item} {cs:List Frame} {w:World} {c:Code}:step P (lone (b.atR a (.inScope c::k)) cs w)=.next (lone (b.atR a k) cs w) :=
 step_lone_go (by simp [stepG,stepG.exec,Frame.atR])
theorem Q9g [GT P] {F:Fence} {n:Nat} {Q:Exit→Act→World→Prop} {a:Act} {w:World} {c:Code} (h:c.wpIn F n P (Exit.noGoto Q) a w):(Code.scope c).wpIn F n P Q a w:=by
 intro b k cs hro hb hr
 have h0:(lone (b.atR a (.code (.scope c)::k)) cs w).fenced P F:=fenced_calm hb hr rfl
 obtain ⟨e,a₁,w₁,hq,harr⟩:=h b (.inScope c::k) cs hro hb hr
 cases e with
 | normal=>exact ⟨.normal,a₁,w₁,hq,.head h0 Q29 (StepsIn.trans harr (.one (fenced_calm hb hr rfl) Qal))⟩
 | exit id =>
  have hx:exitTo id (.inScope c::k)=exitTo id k:=by simp [exitTo]
  exact ⟨.exit id,a₁,w₁,hq,fun k' hk=>.head h0 Q29 (harr.1 k' (by rw [hx];exact hk)),
   fun hr' hk=>let ⟨k₁,h1,h2⟩:=harr.2 hr' (by rw [hx];exact hk);⟨k₁,h1,.head h0 Q29 h2⟩⟩
 | goto l=>exact hq.elim
 | ret=>exact ⟨_,a₁,w₁,hq,.of_steps (.one h0 Q29) harr⟩
 | panic ch=>exact ⟨_,a₁,w₁,hq,.of_steps (.one h0 Q29) harr⟩
 | outgrown=>exact ⟨_,a₁,w₁,hq,.of_steps (.one h0 Q29) harr⟩
def InLoop (F:Fence) (n:Nat) (P:Program) (c:Code) (Q:Exit→Act→World→Prop) (a:Act) (w:World):Prop :=
 ∀ (b:Frame) (k:List Item) (cs:List Frame),b.roundOf=F.round→F.fn b.fn→F.room (cs.length+1+n) →
  ∃ e a' w',Q e a' w'∧ArrivesIn (Machine.fenced P F) P (lone (b.atR a (.code c::.inLoop c::k)) cs w) b k cs e a' w'
theorem InLoop.start {F:Fence} {n:Nat} {Q:Exit→Act→World→Prop} {a:Act} {w:World} {c:Code} (h:InLoop F n P c Q a w):(Code.loop c).wpIn F n P Q a w:=by
 intro b k cs hro hb hr
 obtain ⟨e,a',w',hq,harr⟩:=h b k cs hro hb hr
 exact ⟨e,a',w',hq,.of_steps (.one (fenced_calm hb hr rfl) stepR_loop) harr⟩
theorem InLoop.round {F:Fence} {n:Nat} {Q:Exit→Act→World→Prop} {a:Act} {w:World} {c:Code} (h:c.wpIn F n P (Exit.then (InLoop F n P c Q) Q) a w):InLoop F n P c Q a w:=by
 intro b k cs hro hb hr
 obtain ⟨e,a₁,w₁,hq,harr⟩:=h b (.inLoop c::k) cs hro hb hr
 cases e with
 | normal =>
  obtain ⟨e₂,a₂,w₂,hq₂,harr₂⟩:=hq b k cs hro hb hr
  exact ⟨e₂,a₂,w₂,hq₂,.of_steps (StepsIn.trans harr (.one (fenced_calm hb hr rfl) stepR_inLoop)) harr₂⟩
 | exit id=>exact ⟨_,a₁,w₁,hq,.pass (x:=.inLoop c) rfl (fun _ _=>.inl (by simp)) harr⟩
 | goto l=>exact ⟨_,a₁,w₁,hq,.pass (x:=.inLoop c) rfl (fun _ _=>.inl (by simp)) harr⟩
 | ret=>exact ⟨_,a₁,w₁,hq,.pass (x:=.inLoop c) rfl (fun _ _=>.inl (by simp)) harr⟩
 | panic ch=>exact ⟨_,a₁,w₁,hq,.pass (x:=.inLoop c) rfl (fun _ _=>.inl (by simp)) harr⟩
 | outgrown=>exact ⟨_,a₁,w₁,hq,.pass (x:=.inLoop c) rfl (fun _ _=>.inl (by simp)) harr⟩
theorem Lands.seq [GT P] {ro:Nat} {k k1:K} {ds ds1:List Deferred} {x:X} {st:St} {Q:Exit→Act→World→Prop} (h:Lands P ro k ds x st Q) (e:Ev ro k.h.length k k1) (hm:Marks k1 k.w.heap.size ds1 ds):Lands P ro k1 ds1 x st Q :=
 fun k' a' g hh ev hl hm'=>h k' a' g hh (e.after ev) hl (hm.trans ev hm' e.low.size)
theorem Q7b {k:K}:∀ {m:List Bool} {l:List V} {xs:List Value},RL k l xs→RL k (Q0m m l) xs
 | true::m,v::l,xs,h=>by
  obtain ⟨x,r,rfl,_,hr⟩:=(by simpa [RL] using h:∃ x r,xs=x::r∧R k v x∧RL k l r)
  exact RL.cons (by simp [R]) (Q7b hr)
 | false::m,v::l,xs,h=>by
  obtain ⟨x,r,rfl,hx,hr⟩:=(by simpa [RL] using h:∃ x r,xs=x::r∧R k v x∧RL k l r)
  exact RL.cons hx (Q7b hr)
 | [],_,_,h=>by simpa [Q0m] using h
 | true::_,[],_,h=>by simpa [Q0m] using h
 | false::_,[],_,h=>by simpa [Q0m] using h
theorem Qgc [GT P] (n ro:Nat) (tm:List V):∀ (j:Nat) {k:K},Good P k→(k.h.length=n+j∨j=0)→∃ k',k'.h=Q1k n tm j k.h∧k'.w=k.w∧Good P k'∧Ev ro n k k'∧(∀ b,k.ok b→k'.ok b)∧∀ xs,RL k tm xs→RL k' tm xs
 | 0,k,g,_=>⟨k,rfl,rfl,g,Ev.refl _ _ _,fun _ h=>h,fun _ h=>h⟩
 | j+1,k,g,hj=>by
  unfold Q1k
  by_cases h2:(blos (n+j) tm&&Q0a (n+j) (k.h.take (n+j)))=true
  ·rw [if_pos h2]
   rw [jF] at h2
   obtain ⟨g1,e1⟩:=g.less (n+j) ro h2.2
   have hlen:k.h.length=n+(j+1):=hj.resolve_right (by omega)
   obtain ⟨k',q1,q2,q3,q4,q5,q6⟩:=Qgc n ro tm j (k:={ k with h:=k.h.take (n+j) }) g1 (.inl (by simp only [jQ];omega))
   refine ⟨k',q1,q2,q3,(e1.mono (Nat.le_refl _) (by omega)).trans q4,fun b hb=>q5 b ?_,fun xs h=>q6 xs (RL.ev e1 h2.1 h)⟩
   rcases hb with h|⟨h,h'⟩
   ·exact .inl h
   ·refine .inr ⟨h,fun ⟨i,⟨b0,hb0,hn⟩,e⟩=>h' ⟨i,⟨b0,?_,hn⟩,e⟩⟩
    simp only [Q1t,List.getElem?_take] at hb0 ⊢
    split at hb0<;>simp_all
  ·rw [if_neg h2]
   exact ⟨k,rfl,rfl,g,Ev.refl _ _ _,fun _ h=>h,fun _ h=>h⟩
theorem Q74 [GT P] {k:K} (g:Good P k) (n ro:Nat) (tm:List V):∃ k',k'.h=trunc n tm k.h∧k'.w=k.w∧Good P k'∧Ev ro n k k'∧(∀ b,k.ok b→k'.ok b)∧∀ xs,RL k tm xs→RL k' tm xs :=
 Qgc n ro tm _ g (by omega)
def Q2m (P:Program) [GT P] (F:Nat→Option Fc) (md:Nat→Nat) (n:Nat):Prop :=
 ∀ ro mc st x st',run F md n ro mc st=some (x,st')→Walks P ro mc st x st'
def Q63 (P:Program) [GT P] (ro:Nat) (hl:Nat) (mc:MC) (st:St) (x:X) (st':St):Prop :=
 ∀ (c:Code) (k0 k:K) (ds0:List Deferred) (a:Act) (fr:Option Nat) (n:Nat) (Q:Exit→Act→World→Prop),Q14 P c=some mc→Good P k→k.h=st.h→RL k st.tm a.tmps.toList →
  Ev ro hl k0 k→hl=k0.h.length→FrOk k0 fr→Marks k k0.w.heap.size a.defers ds0 →
  (∀ k' a',Good P k'→k'.h=st'.h→Ev ro hl k0 k'→RL k' st'.tm a'.tmps.toList→Marks k' k0.w.heap.size a'.defers ds0→Q x.out a' k'.w)→InLoop (fen fr) n P c Q a k.w
theorem Marks.same {k k':K} {n1:Nat} {a b:List Deferred} (h:Marks k n1 a b) (hok:∀ b,k.ok b→k'.ok b) (hw:k'.w=k.w):Marks k' n1 a b:=by
 obtain ⟨ms,rfl,hd,h⟩:=h
 exact ⟨ms,rfl,hd,fun d hd=>by obtain ⟨r,h1,h2,h3,h4⟩:=h d hd;exact ⟨r,h1,h2,hok r h3,by rw [hw];exact h4⟩⟩
theorem Qlw [GT P] {n:Nat} (hn:Q2m P F md n) (hl2:∀ ro m hl mc st x st',run F md n ro (.lp m hl mc) st=some (x,st')→Q63 P ro hl mc st x st') {ro:Nat} {m:List Bool} {hl:Nat} {mc:MC} {st st':St} {x:X}
  (h:run F md (n+1) ro (.lp m hl mc) st=some (x,st')):Q63 P ro hl mc st x st':=by
 intro c k0 k ds0 a fr nn Q hc g hk ht e0 hhl hfr hm hQ
 simp only [run] at h
 refine InLoop.round ?_
 split at h
 ·rename_i st1 h1
  refine hn _ _ _ _ _ h1 c k a fr nn _ hc g hk ht (hfr.ev e0 hhl) ?_
  intro k1 a1 g1 hh1 ev1 hl1 hm1
  obtain ⟨k2,t1,t2,t3,t4,t5,t6⟩:=Q74 g1 hl ro (Q0m m st1.tm)
  have:=hl2 _ _ _ _ _ _ _ h c k0 k2 ds0 a1 fr nn Q hc t3 (by rw [t1,hh1];rfl) (t6 _ (Q7b hl1)) ((e0.after ev1).trans t4) hhl hfr
   ((hm.trans ev1 hm1 e0.low.size).same t5 t2) hQ
  rw [t2] at this
  exact this
 ·rename_i hne
  have hq:∀ a w,Q x.out a w→Exit.then (InLoop (fen fr) nn P c Q) Q x.out a w:=by
   intro a w hqq
   cases x with
   | nrm=>exact absurd h (by intro h';exact hne _ h')
   | exit i=>exact hqq
   | ret=>exact hqq
  exact hn _ _ _ _ _ h c k a fr nn _ hc g hk ht (hfr.ev e0 hhl) (fun k1 a1 g1 hh1 ev1 hl1 hm1=>hq _ _ (hQ k1 a1 g1 hh1 (e0.after ev1) hl1 (hm.trans ev1 hm1 e0.low.size)))
def Qv2 (P:Program) [GT P] (F:Nat→Option Fc) (md:Nat→Nat) (n:Nat):Prop:=∀ ro,Qfq P (Q07 F md ro (run F md n)) ro∧Qdt md (Q07 F md ro (run F md n))
def Qi2 (P:Program) [GT P] (F:Nat→Option Fc) (md:Nat→Nat) (n:Nat):Prop :=
 ∀ ro (f:Operand) (ps:Array Tmp) (ca cb:Code) mc st x st',Q14 P (.rangeFunc f ps ca cb)=some mc→run F md (n+1) ro mc st=some (x,st') →
  ∀ (k:K) (a:Act) (fr:Option Nat) (nn:Nat) (Q:Exit→Act→World→Prop),Good P k→k.h=st.h→RL k st.tm a.tmps.toList→FrOk k fr→Lands P ro k a.defers x st' Q→(Code.rangeFunc f ps ca cb).wpIn (fen fr) nn P Q a k.w
theorem Qjp [GT P] {n:Nat} (hn:Q2m P F md n) (hl:∀ ro m hl mc st x st',run F md n ro (.lp m hl mc) st=some (x,st')→Q63 P ro hl mc st x st') (hc:Qv2 P F md n) (hr:Qi2 P F md n):Q2m P F md (n+1):=by
 intro ro mc st x st' h c
 induction c generalizing ro mc st x st' with
 | skip =>
  intro k a fr nn Q hcc g hk ht hfr hQ
  simp only [Q14,jA] at hcc;subst hcc
  simp only [run,jA,jN] at h
  obtain ⟨rfl,rfl⟩:=h
  exact wpIn_skip (hQ k a g hk (Ev.refl _ _ _) ht (Marks.refl _ _ _))
 | label l =>
  intro k a fr nn Q hcc g hk ht hfr hQ
  simp only [Q14,jA] at hcc;subst hcc
  simp only [run,jA,jN] at h
  obtain ⟨rfl,rfl⟩:=h
  exact wpIn_label (hQ k a g hk (Ev.refl _ _ _) ht (Marks.refl _ _ _))
 | exit id =>
  intro k a fr nn Q hcc g hk ht hfr hQ
  simp only [Q14,jA] at hcc;subst hcc
  simp only [run,jA,jN] at h
  obtain ⟨rfl,rfl⟩:=h
  exact wpIn_exit (hQ k a g hk (Ev.refl _ _ _) ht (Marks.refl _ _ _))
 | ret =>
  intro k a fr nn Q hcc g hk ht hfr hQ
  simp only [Q14,jA] at hcc;subst hcc
  simp only [run,jA,jN] at h
  obtain ⟨rfl,rfl⟩:=h
  exact wpIn_ret (hQ k a g hk (Ev.refl _ _ _) ht (Marks.refl _ _ _))
 | goto l=>intro k a fr nn Q hcc;simp [Q14] at hcc
 | refuse r=>intro k a fr nn Q hcc;simp [Q14] at hcc
 | scope c ih =>
  intro k a fr nn Q hcc g hk ht hfr hQ
  simp only [Q14] at hcc
  refine Q9g (ih ro mc st x st' h k a fr nn _ hcc g hk ht hfr ?_)
  intro k' a' g' hh e hl' hm
  have:=hQ k' a' g' hh e hl' hm
  cases x<;>exact this
 | block id c ih =>
  intro k a fr nn Q hcc g hk ht hfr hQ
  simp only [Q14] at hcc
  obtain ⟨mc',hm,rfl⟩:=map_some hcc
  simp only [run] at h
  refine wpIn_block ?_
  split at h
  ·rename_i i st1 h1
   refine hn _ _ _ _ _ h1 c k a fr nn _ hm g hk ht hfr ?_
   intro k' a' g' hh e hl' hm'
   by_cases hi:i=id
   ·simp only [hi,if_true,jA,jN] at h
    obtain ⟨rfl,rfl⟩:=h
    simp only [X.out,Exit.inBlock,hi,if_true]
    exact hQ k' a' g' hh e hl' hm'
   ·simp only [hi,if_false,jA,jN] at h
    obtain ⟨rfl,rfl⟩:=h
    simp only [X.out,Exit.inBlock,hi,if_false]
    exact hQ k' a' g' hh e hl' hm'
  ·rename_i hne
   refine hn _ _ _ _ _ h c k a fr nn _ hm g hk ht hfr ?_
   intro k' a' g' hh e hl' hm'
   have:=hQ k' a' g' hh e hl' hm'
   cases x with
   | nrm=>exact this
   | ret=>exact this
   | exit i=>exact absurd h (hne i st')
 | cond x0 c1 c2 ih1 ih2 =>
  intro k a fr nn Q hcc g hk ht hfr hQ
  simp only [Q14] at hcc
  split at hcc<;>(try (cases hcc;done))
  rename_i y m1 m2 hy h1 h2
  cases hcc
  simp only [run] at h
  split at h<;>(try (cases h;done))
  rename_i t htv
  have hyR:=cO_R ht hy
  rw [htv] at hyR;simp only [R] at hyR
  refine wpIn_cond hyR ?_
  cases t
  ·exact hn _ _ _ _ _ (by simpa using h) c2 k a fr nn Q h2 g hk ht hfr hQ
  ·exact hn _ _ _ _ _ (by simpa using h) c1 k a fr nn Q h1 g hk ht hfr hQ
 | seq c1 c2 ih1 ih2 =>
  intro k a fr nn Q hcc g hk ht hfr hQ
  simp only [Q14] at hcc
  split at hcc<;>(try (cases hcc;done))
  rename_i m1 m2 h1 h2
  cases hcc
  simp only [run] at h
  refine wpIn_seq ?_
  split at h
  ·rename_i st1 hr1
   refine hn _ _ _ _ _ hr1 c1 k a fr nn _ h1 g hk ht hfr ?_
   intro k1 a1 g1 hh1 e1 hl1 hm1
   exact hn _ _ _ _ _ h c2 k1 a1 fr nn Q h2 g1 hh1 hl1 (hfr.ev e1 rfl) (hQ.seq e1 hm1)
  ·rename_i hne
   refine hn _ _ _ _ _ h c1 k a fr nn _ h1 g hk ht hfr ?_
   intro k1 a1 g1 hh1 e1 hl1 hm1
   have:=hQ k1 a1 g1 hh1 e1 hl1 hm1
   cases x with
   | nrm=>exact absurd h (hne st')
   | ret=>exact this
   | exit i=>exact this
 | loop c ih =>
  intro k a fr nn Q hcc g hk ht hfr hQ
  simp only [Q14] at hcc
  obtain ⟨mc',hm,rfl⟩:=map_some hcc
  simp only [run] at h
  exact (hl _ _ _ _ _ _ _ h c k k a.defers a fr nn Q hm g hk ht (Ev.refl _ _ _) (by rw [hk]) hfr (Marks.refl _ _ _) (fun k' a' g' hh e hl' hm'=>hQ k' a' g' hh (by rw [hk];exact e) hl' hm')).start
 | rangeFunc f ps asg body ih1 ih2 =>
  intro k a fr nn Q hcc g hk ht hfr hQ
  exact hr _ _ _ _ _ _ _ _ _ hcc h k a fr nn Q g hk ht hfr hQ
 | region id ops draw =>
  intro k a fr nn Q hcc g hk ht hfr hQ
  simp only [Q14] at hcc
  split at hcc<;>(try (cases hcc;done))
  rename_i na l hrows
  split at hcc<;>(try (cases hcc;done))
  rename_i hst
  cases hcc
  simp only [run] at h
  split at h<;>(try (cases h;done))
  rename_i tm h' hres
  simp only [jA,jN] at h
  obtain ⟨rfl,rfl⟩:=h
  have hrs:=Qht hrows
  obtain ⟨ho1,ho2⟩:=hc ro
  -- room for the blocks that are born here
  obtain ⟨k1,a1,a2,g1,ev1,hok1⟩:∃ k1:K,k1.w=k.w∧k1.h=(if na=0 then st.h else st.h++Q0r na)∧Good P k1∧Ev ro k.h.length k k1∧∀ l xs,RL k l xs→RL k1 l xs:=by
   by_cases h0:na=0
   ·exact ⟨k,rfl,by simp [h0,hk],g,Ev.refl _ _ _,fun _ _ h=>h⟩
   ·obtain ⟨g1,e1⟩:=g.more na ro
    exact ⟨{ k with h:=k.h++Q0r na },rfl,by simp [h0,hk],g1,e1,fun l xs h=>RL.ev e1 (RL.blos h) h⟩
  rw [← a2] at hres
  have fin:∀ k' a',Good P k'→k'.h=h'→Ev ro k1.h.length k1 k'→RL k' tm a'.tmps.toList→a'.defers=a.defers→Q .normal a' k'.w:=fun k' a' g' hh e hl' hd =>
   hQ k' a' g' hh (ev1.after e) hl' (by rw [hd];exact Marks.refl _ _ _)
  rw [← a1]
  cases draw
  ·simp only [Bool.false_eq_true,if_false] at hres
   exact Qp6 hrs ho1 g1 (hok1 _ _ ht) hres fin
  ·simp only [if_true] at hres
   have hst2:Q9m [] l=true∧Q7x ops=true:=by simpa using hst
   exact Quf hrs hst2.1 hst2.2 ho1 ho2 g1 (hok1 _ _ ht) hres fin
end Go.Dr
namespace Go.Dr
open Go.RowKit (Below)
variable {P:Program} [GT P]
structure Off (w w':World) (r:Nat):Prop where
 size:w'.heap.size=w.heap.size
 same:∀ b,b≠r→w'.heap[b]?=w.heap[b]?
 os:w'.os=w.os
 tape:w'.tape=w.tape
 output:w'.output=w.output
 nocell:∀ cs T fr,w.heap[r]?≠some (.cells cs T fr)
 nomap:∀ es ck,w.heap[r]?≠some (.map es ck)
theorem Off.cells {w w':World} {r b:Nat} (h:Off w w' r) {off:Nat} {vs:List Value} (hc:cellsAt w b off vs):cellsAt w' b off vs:=by
 by_cases e:b=r
 ·subst e
  cases vs with
  | nil=>trivial
  | cons v l =>
   exfalso
   have:=hc.1
   simp only [World.cell?] at this
   split at this
   ·rename_i h1;exact h.nocell _ _ _ h1
   ·cases this
 ·exact Q1d (h.same b e) hc
theorem Off.row {w w':World} {r b n:Nat} (h:Off w w' r) (hc:Q12 w b=some n):Q12 w' b=some n:=by
 by_cases e:b=r
 ·subst e
  simp only [Q12] at hc
  split at hc
  ·rename_i h1;exact absurd h1 (h.nocell _ _ _)
  ·cases hc
 ·simp only [Q12,h.same b e];exact hc
mutual
theorem R.off {k:K} {w':World} {r:Nat} (o:Off k.w w' r):∀ {v:V} {x:Value},R k v x→R { k with w:=w' } v x
 | .bool _,_,h|.int _ _,_,h|.str _,_,h|.nilp,_,h|.nilsl,_,h|.esl,_,h|.nilmap,_,h|.nilfn,_,h|.nilif,_,h=>by simpa only [R] using h
 | .dead,_,_=>by simp [R]
 | .sl clip len cells,x,h=>by
  simp only [R] at h ⊢
  rcases h with h|⟨b,off,cap,vs,hx,hok,hc,hl,hp⟩
  ·exact .inl h
  exact .inr ⟨b,off,cap,vs,hx,hok.imp id fun h=>⟨h.1,by simp only;rw [o.size];exact h.2⟩,o.cells hc,RL.off o hl,hp⟩
 | .rp cells off,x,h=>by
  simp only [R] at h ⊢
  obtain ⟨b,o',vs,hx,hok,hc,hl,hp⟩:=h
  exact ⟨b,o',vs,hx,hok.imp id fun h=>⟨h.1,by simp only;rw [o.size];exact h.2⟩,o.cells hc,RL.off o hl,hp⟩
 | .rm ks vs,x,h=>by
  simp only [R] at h ⊢
  obtain ⟨b,kv,vv,hx,h1,h2,h3,h4,h5,h6⟩:=h
  refine ⟨b,kv,vv,hx,h1,by rw [o.size];exact h2,?_,RL.off o h4,RL.off o h5,h6⟩
  obtain ⟨es,q1,q2⟩:=h3
  refine ⟨es,?_,q2⟩
  by_cases hr:b=r
  ·subst hr;exact absurd q1 (o.nomap _ _)
  ·exact (o.same b hr).trans q1
 | .agg cs,x,h=>by simp only [R] at h ⊢;obtain ⟨vs,hx,hl⟩:=h;exact ⟨vs,hx,RL.off o hl⟩
 | .tup cs,x,h=>by simp only [R] at h ⊢;obtain ⟨vs,hx,hl⟩:=h;exact ⟨vs,hx,RL.off o hl⟩
 | .iface t v,x,h=>by simp only [R] at h ⊢;obtain ⟨y,hx,hl⟩:=h;exact ⟨y,hx,R.off o hl⟩
 | .bf t v,x,h=>by simp only [R] at h ⊢;obtain ⟨y,hx,hl⟩:=h;exact ⟨y,hx,R.off o hl⟩
 | .fn f cs,x,h=>by simp only [R] at h ⊢;obtain ⟨vs,hx,hl⟩:=h;exact ⟨vs,hx,RL.off o hl⟩
 | .ref id g off,x,h=>by simpa only [R] using h
 | .ms es id g off len clip,x,h=>by
  simp only [R] at h ⊢
  obtain ⟨b,o',cap,c,dat,h1,h2,h3,h4,h5,h6⟩:=h
  refine ⟨b,o',cap,c,dat,h1,h2,h3,h4,h5,fun e=>⟨(h6 e).1,(h6 e).2.1,fun hc=>?_⟩⟩
  obtain ⟨q1,q2,q3⟩:=(h6 e).2.2 hc
  exact ⟨q1,q2,fun a1 a2 a3=>o.row (q3 a1 a2 a3)⟩
 | .yld id,x,h=>by simpa only [R] using h
 | .mr id,x,h=>by simpa only [R] using h
 | .itr id m,x,h=>by simpa only [R] using h
 | .irr id,x,h=>by simpa only [R] using h
theorem RL.off {k:K} {w':World} {r:Nat} (o:Off k.w w' r):∀ {l:List V} {xs:List Value},RL k l xs→RL { k with w:=w' } l xs
 | [],_,h=>by simpa [RL] using h
 | v::l,xs,h=>by
  obtain ⟨x,q,rfl,hx,hr⟩:=(by simpa [RL] using h:∃ x r,xs=x::r∧R k v x∧RL k l r)
  exact RL.cons (R.off o hx) (RL.off o hr)
end
theorem OddOk.off {k:K} {w':World} {r:Nat} (o:Off k.w w' r) {id:Nat} (hs:w'.heap[(k.β id).1]?=k.w.heap[(k.β id).1]?):∀ {b:B},OddOk k id b→OddOk { k with w:=w' } id b
 | .mp ks vs,h=>by
  obtain ⟨h1,es,h2,h3,h4,h5⟩:=h
  exact ⟨h1,es,hs.trans h2,h3,RL.off o h4,RL.off o h5⟩
 | .mq st ck ks vs,h=>by
  obtain ⟨h1,es,h2,h3,h4,h5,h6,h7⟩:=h
  exact ⟨h1,es,hs.trans h2,h3,h4,h5,RL.off o h6,RL.off o h7⟩
 | .it m s t l,h=>by
  obtain ⟨h1,h2,h3,h4⟩:=h
  exact ⟨h1,h2,h3,hs.trans h4⟩
 | .ir ks vs l,h=>by
  obtain ⟨q1,b,kv,vv,h1,h2,h3,h4,h5,h6,h7,h8⟩:=h
  refine ⟨q1,b,kv,vv,h1,by rw [o.size];exact h2,?_,RL.off o h4,RL.off o h5,h6,h7,hs.trans h8⟩
  obtain ⟨es,p1,p2⟩:=h3
  refine ⟨es,?_,p2⟩
  by_cases hr:b=r
  ·subst hr;exact absurd p1 (o.nomap _ _)
  ·exact (o.same b hr).trans p1
 | .blk _ _,_|.unborn,_|.lop _ _ _ _ _ _,_=>trivial
theorem Good.off {k:K} {w':World} {r:Nat} (g:Good P k) (o:Off k.w w' r) (hr:k.ok r) (hn:k.n0≤r):Good P { k with w:=w' }:=by
 refine ⟨by have:=g.size;simp only;rw [o.size];exact this,?_,?_,g.inj,fun id b h ho=>OddOk.off o (o.same _ (Ne.symm (Qil g (Q1i h ho) hr))) (g.od id b h ho),g.tab.low (Nat.le_refl _) ⟨o.os,o.tape,o.output,Nat.le_of_eq o.size.symm,fun b hb=>o.same b (by omega)⟩⟩
 ·intro id c dat h
  obtain ⟨h1,h2,h3,h4,xs,rest,T,h5,h6⟩:=g.blk id c dat h
  exact ⟨h1,h2,h3,h4,xs,rest,T,(o.same _ (Ne.symm (Qil g (Q0i h) hr))).trans h5,RL.off o h6⟩
 ·intro id r' p tm ps a b h
  obtain ⟨h1,lp,h2,h3,h4,h5,h6⟩:=g.lop id r' p tm ps a b h
  exact ⟨h1,lp,(o.same _ (Ne.symm (Qil g (Q1j h) hr))).trans h2,h3,h4,RL.off o h5,h6⟩
theorem Ev.off {ro m:Nat} {k k':K} {w':World} {r:Nat} (g:Good P k) (e:Ev ro m k k') (o:Off k'.w w' r) (hr:k.w.heap.size≤r):Ev ro m k { k' with w:=w' }:=by
 have hs:=g.size
 refine ⟨e.n0,e.A,?_,?_,?_,e.lop,?_,e.un,e.od⟩
 ·have hl:=e.low
  exact ⟨o.os.trans hl.os,o.tape.trans hl.tape,o.output.trans hl.output,by rw [o.size];exact hl.size,fun b hb=>(o.same b (by omega)).trans (hl.block b hb)⟩
 ·intro b hb hlt
  obtain ⟨h1,h2⟩:=e.prot b hb hlt
  exact ⟨h1,(o.same b (by omega)).trans h2⟩
 ·intro id hid c dat hc
  obtain ⟨c',h1,h2,h3⟩:=e.blk id hid c dat hc
  refine ⟨c',h1,h2,fun q=>⟨(h3 q).1,?_⟩⟩
  have hlt:=(g.at (Q0i hc)).2
  have:=(h3 q).2
  simp only [Q12] at this ⊢
  rw [o.same _ (by omega)];exact this
 ·intro id h1 h2 l
  obtain ⟨q1,q2,q3⟩:=e.rd id h1 h2 l
  have hlt:=(g.at l).2
  exact ⟨q1,q2,(o.same _ (by omega)).trans q3⟩
end Go.Dr
namespace Go.Dr
open Go.RowKit (Below)
variable {P:Program} {md:Nat→Nat} {F:Nat→Option Fc}
def res1 (st:St):RV→Option V
 | .tmp t=>some (tg st.tm t)
 | .cell a agg n=>match tg st.tm a with
  | .ref id g off=>match bget st.h id with
   | some (.blk c _)=>if c.length=g then Q10 agg n off c else none
   | _=>none
  | _=>none
theorem Q6v {st:St} {r:RV} {l:List RV} {vs:List V} (h:Dr.results st (r::l)=some vs):∃ v r',vs=v::r'∧res1 st r=some v∧Dr.results st l=some r':=by
 have e:Dr.results st (r::l)=(match res1 st r,Dr.results st l with|some v,some r=>some (v::r)|_,_=>none):=by
  cases r<;>rfl
 rw [e] at h
 split at h<;>(try (cases h;done))
 rename_i v r' h1 h2
 cases h
 exact ⟨v,r',rfl,h1,h2⟩
def Q81 (tmps:Array Value):ResultVar→Sem Value
 | .tmp t=>pure (tmps.getD t undef)
 | .cell a t=>do loadVar t (← asAddr (tmps.getD a undef))
theorem Q4z [GT P] {k:K} (g:Good P k) {st:St} {tmps:Array Value} (hk:k.h=st.h) (ht:RL k st.tm tmps.toList):∀ {l:List ResultVar} {rvs:List RV} {vs:List V},cRes P l=some rvs→Dr.results st rvs=some vs →
  ∃ ys,(l.mapM (Q81 tmps)).run P k.w=.ok ys k.w∧RL k vs ys
 | [],rvs,vs,h,hr=>by
  simp only [cRes,jA] at h;subst h
  simp only [Dr.results,jA] at hr;subst hr
  exact ⟨[],by simp,RL.nil⟩
 | .tmp t::l,rvs,vs,h,hr=>by
  simp only [cRes] at h
  obtain ⟨r',h1,rfl⟩:=map_some h
  obtain ⟨v,q,rfl,hv,hq⟩:=Q6v hr
  obtain ⟨ys,h2,h3⟩:=Q4z g hk ht h1 hq
  simp only [res1,jA] at hv;subst hv
  refine ⟨tmps.getD t undef::ys,?_,RL.cons ?_ h3⟩
  ·simp only [List.mapM_cons,Q81,Sem.run_bind,Sem.run_pure,Result.andThen_ok,h2]
  ·have:=RL.get t ht
   simpa [Array.getD_eq_getD_getElem?,jM] using this
 | .cell a t::l,rvs,vs,h,hr=>by
  simp only [cRes] at h
  split at h<;>(try (cases h;done))
  rename_i ga n r' hga hn h1
  split at h<;>(try (cases h;done))
  rename_i hgn
  cases h
  obtain ⟨v,q,rfl,hv,hq⟩:=Q6v hr
  obtain ⟨ys,h2,h3⟩:=Q4z g hk ht h1 hq
  simp only [res1] at hv
  split at hv<;>(try (cases hv;done))
  rename_i id gg off ex
  split at hv<;>(try (cases hv;done))
  rename_i c dat hb
  split at hv<;>(try (cases hv;done))
  rename_i hgl
  have hA:=RL.get a ht
  rw [ex] at hA
  simp only [R] at hA
  obtain ⟨b,o',c0,dat0,hx,hbk,hgc,hpos⟩:=hA
  rw [← hk,hbk] at hb;cases hb
  obtain ⟨p1,p2⟩:=hpos hgl.symm
  unfold Q10 at hv
  split at hv<;>(try (cases hv;done))
  rename_i cs hcs
  obtain ⟨zs,hz1,hz2,hz3⟩:=Q37 g hbk hcs p2
  have hx':tmps.getD a undef=.pointer (some ⟨b,o',none⟩):=by
   rw [← hx];simp [Array.getD_eq_getD_getElem?,jM]
  have hcl:cs.length=n:=(Q0v hcs).2
  have hgn':ga=true∨n=1:=by simpa using hgn
  subst p1
  have hz:(ga=true∧v=.agg cs)∨(ga=false∧cs=[v]):=by
   cases ga with
   | true=>simp only [if_true,jA] at hv;exact .inl ⟨rfl,hv.symm⟩
   | false =>
    simp only [Bool.false_eq_true,if_false] at hv
    split at hv<;>(try (cases hv;done))
    cases hv
    exact .inr ⟨rfl,rfl⟩
  obtain ⟨y,hy,hyR⟩:=Q52 (P:=P) hga hn hgn' hz1 hz2 hcl hz
  refine ⟨y::ys,?_,RL.cons hyR h3⟩
  simp only [List.mapM_cons,Q81,Sem.run_bind,hx',asAddr,Sem.run_pure,Result.andThen_ok,hy,h2]
theorem Qik [GT P] {k:K} (g:Good P k) {st:St} {fn:Func} {tmps:Array Value} {rvs:List RV} {v:V} (hk:k.h=st.h) (ht:RL k st.tm tmps.toList) (hc:cRes P fn.results.toList=some rvs) (hr:Q0s st rvs=some v) :
  ∃ y,(Go.results fn tmps).run P k.w=.ok y k.w∧R k v y:=by
 unfold Q0s at hr
 have base:∀ vs,Dr.results st rvs=some vs→∃ ys,RL k vs ys∧(Go.results fn tmps).run P k.w=.ok (if h:(⟨ys⟩:Array Value).size=1 then (⟨ys⟩:Array Value)[0] else .tuple ⟨ys⟩) k.w:=by
  intro vs hvs
  obtain ⟨ys,h1,h2⟩:=Q4z g hk ht hc hvs
  refine ⟨ys,h2,?_⟩
  have hf:(fun x:ResultVar=>match x with
    | .tmp t=>(pure (tmps.getD t undef):Sem Value)
    | .cell a t=>do loadVar t (← asAddr (tmps.getD a undef)))=Q81 tmps:=by
   funext x;cases x<;>rfl
  have e:Go.results fn tmps=(do let vs ← fn.results.mapM (Q81 tmps);pure (if h:vs.size=1 then vs[0] else .tuple vs)):=by
   rw [← hf];rfl
  have e2:fn.results.mapM (Q81 tmps)=(do pure (← fn.results.toList.mapM (Q81 tmps)).toArray):=by
   rw [Array.mapM_eq_mapM_toList];rfl
  rw [e,e2]
  simp only [Sem.run_bind,h1,Result.andThen_ok,Sem.run_pure]
 split at hr<;>(try (cases hr;done))
 ·rename_i v0 hvs
  cases hr
  obtain ⟨ys,h2,h3⟩:=base _ hvs
  obtain ⟨y,r,rfl,hy,hr'⟩:=(by simpa [RL] using h2:∃ x r,ys=x::r∧R k v x∧r=[])
  subst hr'
  exact ⟨y,by simpa using h3,hy⟩
 ·rename_i vs hne hvs
  cases hr
  obtain ⟨ys,h2,h3⟩:=base _ hvs
  have hl:=RL.len h2
  have hn1:ys.length≠1:=by
   intro h1
   rw [hl] at h1
   match vs,h1 with
   | [v],_=>exact hne v rfl
  rw [dif_neg (by simpa using hn1)] at h3
  exact ⟨.tuple ⟨ys⟩,h3,by simp only [R];exact ⟨ys,rfl,h2⟩⟩
theorem Qm5 [GT P] {fn:Func} {rvs:List RV} {v:V} {st:St} {tmps:Array Value} {ro:Nat} {k:K} {Q:Ending→World→Prop} (g0:Good P k) (hc:cRes P fn.results.toList=some rvs) (hr:Q0s st rvs=some v)
  (hQ:∀ y k',k'.h=st.h→Good P k'→Ev ro k.h.length k k'→R k' v y→Q (.returned y) k'.w) :
  ∀ (ms:List Deferred) (k1:K),Good P k1→k1.h=st.h→Ev ro k.h.length k k1→RL k1 st.tm tmps.toList→(∀ d∈ms,∃ r,d={ target:=.collected r,args := #[] }∧k.w.heap.size≤r∧k1.ok r∧k1.w.heap[r]?=some (.deferred (some [])))→ms.Nodup →
   LeavesInM Fence.wide 0 P fn tmps Q ms .returning k1.w
 | [],k1,g,hh,e,hl,_,_=>by
  obtain ⟨y,h1,h2⟩:=Qik g hh hl hc hr
  exact ⟨y,h1,hQ y k1 hh g e h2⟩
 | d::ms,k1,g,hh,e,hl,hm,hnd=>by
  obtain ⟨r,rfl,h1,h2,h3⟩:=hm d (by simp)
  have hlt:=(jP.1 h3).1
  have o:Off k1.w (k1.w.putObj r (.deferred none)) r:=⟨by simp,fun b hb=>World.putObj_heap_other hb,rfl,rfl,rfl,fun _ _ _=>by rw [h3];simp,fun _ _=>by rw [h3];simp⟩
  refine ⟨by simp,.inl ⟨r,_,rfl,run_takeDeferred h3,?_⟩⟩
  rw [List.nodup_cons] at hnd
  exact Qm5 g0 hc hr hQ ms { k1 with w:=k1.w.putObj r (.deferred none) } (g.off o h2 (by rw [e.n0];exact Nat.le_trans g0.size h1)) hh (e.off g0 o h1) (RL.off o hl) (fun d hd=>by
   obtain ⟨r',q1,q2,q3,q4⟩:=hm d (by simp [hd])
   refine ⟨r',q1,q2,q3,?_⟩
   have hne:r'≠r:=by rintro rfl;exact hnd.1 (q1▸hd)
   exact (o.same r' hne).trans q4) hnd.2
def KnOk (P:Program) [GT P] (f np:Nat) (g:Nat→List V→List B→Option (V × List B)):Prop :=
 ∀ (ro:Nat) (k:K) (as:List V) (xs:List Value) (v:V) (h':List B),Good P k→RL k as xs→as.length=np→g ro as k.h=some (v,h') →
  ∀ Q:Ending→World→Prop,(∀ y k',k'.h=h'→Good P k'→Ev ro k.h.length k k'→R k' v y→Q (.returned y) k'.w)→Calls P f ⟨xs⟩ k.w Q
def EntryOk (P : Program) [GT P] (f : Nat) (fc : Fc) : Prop := ∃ fn, P.funcs[f]? = some fn ∧ fn.body.isSome = true ∧ fn.name ≠ "runtime.NumGoroutine" ∧
 (Q9f P fn=some fc∨∃ g,fc.kn=some g∧fc.body=.kn fc.np f∧fc.res=[.tmp 0]∧fc.ntm=fc.np∧KnOk P f fc.np g)
def Q1h (P:Program) [GT P] (F:Nat→Option Fc):Prop:=∀ f fc,F f=some fc→EntryOk P f fc
theorem Q6o {fn:Func} {fc:Fc} (h:Q9f P fn=some fc):∃ c,fn.body=some c∧Q14 P c=some fc.body∧cRes P fn.results.toList=some fc.res∧fc.ntm=fn.ntmps∧fc.np=fn.params.size+fn.nfree:=by
 unfold Q9f at h
 split at h<;>(try (cases h;done))
 rename_i c hb
 split at h<;>(try (cases h;done))
 rename_i c' r h1 h2
 cases h
 exact ⟨c,hb,h1,h2,rfl,rfl⟩
theorem deads_R {k:K} (n:Nat):RL k (Q1a n) (List.replicate n undef):=by
 induction n with
 | zero=>simp [Q1a,RL]
 | succ n ih=>simp only [Q1a,List.replicate_succ];exact RL.cons (by simp [R]) ih
theorem Quv [GT P] {n:Nat} (hn:Q2m P F md n) {ro f:Nat} {fn:Func} {fc:Fc} (hf:P.funcs[f]?=some fn) (hfc:Q9f P fn=some fc) {k:K} {as:List V} {xs:List Value} {x:X} {st':St} {v:V} (g:Good P k) (ha:RL k as xs) (hnp:as.length=fc.np)
  (hrun:run F md n ro fc.body ⟨as++Q1a (fc.ntm-fc.np),k.h⟩=some (x,st')) (hx:x=.nrm∨x=.ret) (hr:Q0s st' fc.res=some v) {Q:Ending→World→Prop}
  (hQ:∀ y k',k'.h=st'.h→Good P k'→Ev ro k.h.length k k'→R k' v y→Q (.returned y) k'.w):Calls P f ⟨xs⟩ k.w Q:=by
 obtain ⟨c,hb,hcc,hres,hntm,_⟩:=Q6o hfc
 rw [← callsIn_wide (n:=0)]
 refine callsIn_of_wp_marks hf hb trivial ?_
 have hxs:xs.length=fc.np:=by rw [RL.len ha,hnp]
 have ht:RL k (as++Q1a (fc.ntm-fc.np)) ((⟨xs⟩:Array Value)++Array.replicate (fn.ntmps-(⟨xs⟩:Array Value).size) undef).toList:=by
  simp only [Array.toList_append,Array.toList_replicate,List.size_toArray,hxs,← hntm]
  exact RL.append ha (deads_R _)
 refine hn _ _ _ _ _ hrun c k { tmps:=(⟨xs⟩:Array Value)++Array.replicate (fn.ntmps-(⟨xs⟩:Array Value).size) undef,defers:=[] } none 0 _ hcc g rfl ht (FrOk.none k) ?_
 intro k' a' g' hh e hl hm
 obtain ⟨ms,hms,hnd,hmm⟩:=hm
 simp only [List.append_nil] at hms
 have:=Qm5 (P:=P) (fn:=fn) (Q:=Q) g hres hr hQ ms k' g' hh e hl hmm hnd
 rcases hx with rfl|rfl
 ·show LeavesInM _ _ _ _ _ _ _ _ _;rw [hms];exact this
 ·show LeavesInM _ _ _ _ _ _ _ _ _;rw [hms];exact this
theorem EntryOk.comp [GT P] {f : Nat} {fc : Fc} (h : ∃ fn, P.funcs[f]? = some fn ∧ Q9f P fn = some fc ∧ fn.name ≠ "runtime.NumGoroutine") : EntryOk P f fc := by
 obtain ⟨fn,h1,h2,h3⟩:=h
 obtain ⟨c,hb,_⟩:=Q6o h2
 exact ⟨fn,h1,by rw [hb];rfl,h3,.inl h2⟩
theorem Q5z [GT P] {n:Nat} (hn:Q2m P F md n) (hF:Q1h P F) {ro f:Nat} {fc:Fc} (hf:F f=some fc) {k:K} {as:List V} {xs:List Value} {x:X} {st':St} {v:V} (g:Good P k) (ha:RL k as xs) (hnp:as.length=fc.np)
  (hrun:run F md n ro fc.body ⟨as++Q1a (fc.ntm-fc.np),k.h⟩=some (x,st')) (hx:x=.nrm∨x=.ret) (hr:Q0s st' fc.res=some v) {Q:Ending→World→Prop}
  (hQ:∀ y k',k'.h=st'.h→Good P k'→Ev ro k.h.length k k'→R k' v y→Q (.returned y) k'.w):Calls P f ⟨xs⟩ k.w Q:=by
 obtain ⟨fn,h1,h2,h3,hc|⟨gg,q1,q2,q3,q4,q5⟩⟩:=hF f fc hf
 ·exact Quv hn h1 hc g ha hnp hrun hx hr hQ
 ·rw [q2] at hrun
  cases n with
  | zero=>simp [run] at hrun
  | succ n =>
   rw [q4,Nat.sub_self] at hrun
   simp only [run,hf,q1,Q1a,List.append_nil] at hrun
   rw [List.take_of_length_le (by omega)] at hrun
   split at hrun<;>(try (cases hrun;done))
   rename_i v0 h0 hg
   cases hrun
   rw [q3] at hr
   simp only [Q0s,Dr.results,tg,jA] at hr
   subst hr
   exact q5 ro k as xs v0 h0 g ha hnp hg Q hQ
theorem Qab {f : Nat} {fn : Func} (hf : P.funcs[f]? = some fn) (hb : fn.body.isSome = true) (hnm : fn.name ≠ "runtime.NumGoroutine") (caps xs : List Value) (w : World) :
  (Q1g (.func (.func f) #[] ⟨caps⟩) ⟨xs⟩).run P w=.ok (.enter f ⟨xs++caps⟩) w:=by
 obtain ⟨c,hc⟩:=Option.isSome_iff_exists.1 hb
 simp [Q1g,Deferred.ofValue,invoke,callFunc,Sem.run_bind,hf,hc,hnm]
end Go.Dr
namespace Go.Dr
open Go.RowKit (Below)
variable {P:Program} [GT P] {md:Nat→Nat} {F:Nat→Option Fc}
theorem Qux {k k':K} {ro:Nat} (g:Good P k) (_g':Good P k') (e:Ev (max ro k.h.length) k.h.length k k') :
  Good P { k with w:=k'.w }∧Ev ro k.h.length k { k with w:=k'.w }∧∀ v x,v.blo k.h.length=true→R k' v x→R { k with w:=k'.w } v x:=by
 have same:∀ b,b<k.w.heap.size→k'.w.heap[b]?=k.w.heap[b]?:=by
  intro b hb
  by_cases h0:b<k.n0
  ·exact e.low.block b h0
  ·by_cases ho:k.own b
   ·obtain ⟨id,l,rfl⟩:=ho
    have hid:id<k.h.length:=by obtain ⟨b0,hb0,_⟩:=l;exact Q05 hb0
    exact (e.rd id (by omega) hid l).2.2
   ·exact (e.prot b (.inr ⟨by omega,ho⟩) hb).2
 obtain ⟨g1,e1⟩:=g.world e.low same ro k.h.length
 refine ⟨g1,e1,fun v x hv hx=>?_⟩
 have e2:Ev 0 k.h.length k' { k with w:=k'.w }:=by
  have hget:∀ id,id<k.h.length→∃ b,bget k.h id=some b:=fun id hid=>by
   rw [Q1t];exact ⟨_,jC hid⟩
  refine ⟨e.n0.symm,e.A.symm,Below.refl _ _,?_,?_,?_,?_,fun id h=>absurd h (by omega),fun id hid b hc ho=>by
   obtain ⟨b',hb⟩:=hget id hid
   have:=e.un id (by omega) hid b' hb
   rw [hc] at this;cases this
   obtain ⟨q1,q2,q3⟩:=e.rd id (by omega) hid (Q1i hb ho)
   exact ⟨q2.symm,_,hb,.refl ho⟩⟩
  ·intro b hb _
   refine ⟨?_,rfl⟩
   rcases hb with ⟨h1,h2⟩|⟨h1,h2⟩
   ·exact .inl ⟨by rw [e.n0] at h1;exact h1,by rw [e.A] at h2;exact h2⟩
   ·refine .inr ⟨by rw [e.n0] at h1;exact h1,?_⟩
    rintro ⟨id,l,hb⟩
    have l:live k.h id:=l
    have hid:id<k.h.length:=by obtain ⟨b0,hb0,_⟩:=l;exact Q05 hb0
    obtain ⟨q1,q2,q3⟩:=e.rd id (by omega) hid l
    exact h2 ⟨id,Q6x q1 l,by rw [q2];exact hb⟩
  ·intro id hid c dat hc
   obtain ⟨b,hb⟩:=hget id hid
   have:=e.un id (by omega) hid b hb
   rw [hc] at this;cases this
   obtain ⟨q1,q2,q3⟩:=e.rd id (by omega) hid (Q0i hb)
   exact ⟨c,hb,Nat.le_refl _,fun _=>⟨q2.symm,rfl⟩⟩
  ·intro id hid r p tm ps a b hc
   obtain ⟨b',hb⟩:=hget id hid
   have:=e.un id (by omega) hid b' hb
   rw [hc] at this;cases this
   obtain ⟨q1,q2,q3⟩:=e.rd id (by omega) hid (Q1j hb)
   exact ⟨q2.symm,r,p,hb⟩
  ·intro id h;exact absurd h (by omega)
 exact R.ev e2 hv hx
theorem Q3h {ro:Nat} {rn:Nat→MC→St→Option (X × St)} {f:Nat} {caps args:List V} {h:List B} {r:V × List B} (e:Q07 F md ro rn (.fn f caps) args h=some r) :
  ∃ fc,F f=some fc∧(args++caps).length=fc.np ∧
   ((mode md (.fn f caps) args=0∧∃ as' x st v v',Q1o h depth (args++caps)=some as'∧rn 0 fc.body ⟨as'++Q1a (fc.ntm-fc.np),[]⟩=some (x,st)∧(x=.nrm∨x=.ret)∧Q0s st fc.res=some v∧V.view st.h depth v=some v'∧(blos 0 (args++caps)=true∨v'.scalar=true∨V.fresh st.h depth v=true)∧r=(v',h)) ∨
    (mode md (.fn f caps) args=1∧∃ x st v,rn ro fc.body ⟨args++caps++Q1a (fc.ntm-fc.np),h⟩=some (x,st)∧(x=.nrm∨x=.ret)∧Q0s st fc.res=some v∧r=(v,trunc h.length [v] st.h)) ∨
    (mode md (.fn f caps) args≠0∧mode md (.fn f caps) args≠1∧∃ x st v,rn (max ro h.length) fc.body ⟨args++caps++Q1a (fc.ntm-fc.np),h⟩=some (x,st)∧(x=.nrm∨x=.ret)∧Q0s st fc.res=some v∧v.blo h.length=true∧r=(v,h))):=by
 simp only [Q07] at e
 split at e<;>(try (cases e;done))
 rename_i fc hfc
 split at e<;>(try (cases e;done))
 rename_i hnp
 refine ⟨fc,hfc,hnp,?_⟩
 split at e
 ·rename_i hm
  split at e<;>(try (cases e;done))
  rename_i as' has
  split at e<;>(try (cases e;done))
  all_goals
   rename_i st hrun
   split at e<;>(try (cases e;done))
   rename_i v hv
   split at e<;>(try (cases e;done))
   rename_i v' hv'
   split at e<;>(try (cases e;done))
   rename_i hcond
   cases e
   refine .inl ⟨hm,as',_,st,v,v',has,hrun,by simp,hv,hv',by simpa [or_assoc] using hcond,rfl⟩
 ·rename_i hm
  split at e<;>(try (cases e;done))
  all_goals
   rename_i st hrun
   split at e<;>(try (cases e;done))
   rename_i v hv
   cases e
   exact .inr (.inl ⟨hm,_,st,v,hrun,by simp,hv,rfl⟩)
 ·rename_i hm0 hm1
  split at e<;>(try (cases e;done))
  all_goals
   rename_i st hrun
   split at e<;>(try (cases e;done))
   rename_i v hv
   split at e<;>(try (cases e;done))
   rename_i hb
   cases e
   exact .inr (.inr ⟨hm0,hm1,_,st,v,hrun,by simp,hv,hb,rfl⟩)
theorem Qd1 {n:Nat} (hF:Q1h P F) (hn:Q2m P F md n) {ro f:Nat} {caps args:List V} {k:K} {fx:Value} {xs:List Value} {v:V} {h':List B} (g:Good P k) (hf:R k (.fn f caps) fx) (ha:RL k args xs)
  (e:Q07 F md ro (run F md n) (.fn f caps) args k.h=some (v,h')) (hm:mode md (.fn f caps) args≠0):∃ cvs,fx=.func (.func f) #[] ⟨cvs⟩∧(Q1g fx ⟨xs⟩).run P k.w=.ok (.enter f ⟨xs++cvs⟩) k.w∧Calls P f ⟨xs++cvs⟩ k.w (Back P ro k v h'):=by
 obtain ⟨fc,hfc,hnp,hcase⟩:=Q3h e
 obtain ⟨fn,hfn,hb,hname,_⟩:=hF f fc hfc
 simp only [R] at hf
 obtain ⟨cvs,rfl,hcaps⟩:=hf
 have has:=RL.append ha hcaps
 refine ⟨cvs,rfl,Qab hfn hb hname cvs xs k.w,?_⟩
 rcases hcase with ⟨h0,_⟩|⟨h1,x,st,v0,hrun,hx,hv,hr⟩|⟨h0,h1,x,st,v0,hrun,hx,hv,hblo,hr⟩
 ·exact absurd h0 hm
 ·simp only [jN] at hr
  obtain ⟨rfl,rfl⟩:=hr
  refine Q5z hn hF hfc g has hnp hrun hx hv fun y k' hh g' e' hy=>?_
  obtain ⟨k2,t1,t2,t3,t4,t5,t6⟩:=Q74 g' k.h.length ro [v]
  refine ⟨y,k2,rfl,t2,by rw [t1,hh],t3,e'.trans t4,?_⟩
  have:=t6 [y] (RL.cons hy RL.nil)
  exact (RL.cons_iff.1 this).1
 ·simp only [jN] at hr
  obtain ⟨rfl,rfl⟩:=hr
  refine Q5z hn hF hfc g has hnp hrun hx hv fun y k' hh g' e' hy=>?_
  obtain ⟨q1,q2,q3⟩:=Qux g g' e'
  exact ⟨y,{ k with w:=k'.w },rfl,rfl,rfl,q1,q2,q3 v y hblo hy⟩
end Go.Dr
namespace Go.Dr
open Go.RowKit (Below)
variable {P:Program} [GT P] {md:Nat→Nat} {F:Nat→Option Fc}
theorem Good.lopset {k:K} (g:Good P k) {id ro m:Nat} {r r':Bool} {p p':X} {tm:List V} {ps:List Nat} {a b:MC} (hb:bget k.h id=some (.lop r p tm ps a b)) (hro:ro≤id∨m≤id) {lp lp':Loop} (hl:k.w.heap[(k.β id).1]?=some (.loop lp))
  (ht:lp'.tmps=lp.tmps) (hps:lp'.params=lp.params) (ha:lp'.assign=lp.assign) (hbd:lp'.body=lp.body) (hst:Q4i r' p' lp'.state) (hpd:pendRel r' p' lp'.pending) :
  Good P (k.set id (.lop r' p' tm ps a b) (k.β id) (k.w.putObj (k.β id).1 (.loop lp')))∧Ev ro m k (k.set id (.lop r' p' tm ps a b) (k.β id) (k.w.putObj (k.β id).1 (.loop lp'))):=by
 obtain ⟨q1,lp0,q2,q3,q4,q5,q6,q7,q8⟩:=g.lop id r p tm ps a b hb
 rw [hl] at q2;cases q2
 have hid:=Q05 hb
 have hlt:=(g.at (Q1j hb)).2
 have hget:∀ i,bget (bset k.h id (.lop r' p' tm ps a b)) i=if i=id then some (.lop r' p' tm ps a b) else bget k.h i:=by
  intro i;rw [Q0g]
  by_cases e:id=i
  ·subst e;simp [hid]
  ·simp [e,Ne.symm e]
 have hβ:∀ i,(k.set id (.lop r' p' tm ps a b) (k.β id) (k.w.putObj (k.β id).1 (.loop lp'))).β i=k.β i:=by
  intro i;simp only [K.set];split
  ·rename_i h;rw [h]
  ·rfl
 have hlive:∀ i,live (bset k.h id (.lop r' p' tm ps a b)) i→live k.h i:=by
  rintro i ⟨b0,hb0,hn⟩
  rw [hget] at hb0
  split at hb0
  ·rename_i e;rw [e];exact Q1j hb
  ·exact ⟨b0,hb0,hn⟩
 have hother:∀ b0,b0≠(k.β id).1→(k.w.putObj (k.β id).1 (.loop lp')).heap[b0]?=k.w.heap[b0]?:=fun b0 h=>World.putObj_heap_other h
 have hne:∀ i,i≠id→live k.h i→(k.β i).1≠(k.β id).1:=fun i hi l e=>hi (g.inj i id l (Q1j hb) e)
 have evm:∀ ro m,(ro≤id∨m≤id)→Ev ro m k (k.set id (.lop r' p' tm ps a b) (k.β id) (k.w.putObj (k.β id).1 (.loop lp'))):=by
  intro ro m hrm
  refine ⟨rfl,rfl,⟨rfl,rfl,rfl,by simp [K.set],fun b0 hb0=>hother b0 (by omega)⟩,?_,?_,?_,?_,?_,fun i hi b0 hc ho=>by
   have hii:i≠id:=by rintro rfl;rw [hc] at hb;cases hb;cases ho
   exact ⟨hβ i,b0,by simp only [K.set,hget,hii,if_false];exact hc,.refl ho⟩⟩
  ·intro b0 hok hlt0
   refine ⟨?_,hother b0 (Qil g (Q1j hb) hok)⟩
   rcases hok with h|⟨h1,h2⟩
   ·exact .inl h
   ·exact .inr ⟨h1,fun ⟨i,l,e⟩=>h2 ⟨i,hlive i l,by rw [← hβ i];exact e⟩⟩
  ·intro i hi c d hc
   have hii:i≠id:=by rintro rfl;rw [hc] at hb;cases hb
   refine ⟨c,by simp only [K.set,hget,hii,if_false];exact hc,Nat.le_refl _,fun _=>⟨hβ i,?_⟩⟩
   simp only [Q12,K.set,hother _ (hne i hii (Q0i hc))]
  ·intro i hi r0 p0 tm0 ps0 a0 b0 hc
   refine ⟨hβ i,?_⟩
   by_cases hii:i=id
   ·subst hii
    rw [hc] at hb;cases hb
    exact ⟨r',p',by simp [K.set,hget]⟩
   ·exact ⟨r0,p0,by simp only [K.set,hget,hii,if_false];exact hc⟩
  ·intro i h1 h2 l
   have hii:i≠id:=by omega
   exact ⟨by simp only [K.set,hget,hii,if_false],hβ i,hother _ (hne i hii l)⟩
  ·intro i h1 h2 b0 h0
   have hii:i≠id:=by omega
   simp only [K.set,hget,hii,if_false];exact h0
 have ev:=evm 0 k.h.length (.inl (Nat.zero_le _))
 refine ⟨⟨by simp only [K.set,World.putObj_size];exact g.size,?_,?_,?_,fun i b hc ho=>by
  have hii:i≠id:=by rintro rfl;simp only [K.set,hget,if_true] at hc;cases hc;cases ho
  simp only [K.set,hget,hii,if_false] at hc
  exact OddOk.ev ev (hβ i) (hother _ (hne i hii (Q1i hc ho))) (OddOk.blo ho (g.od i b hc ho)) (g.od i b hc ho),g.tab.ev ev⟩,evm ro m hro⟩
 ·intro i c d hc
  have hii:i≠id:=by rintro rfl;simp only [K.set,hget,if_true] at hc;cases hc
  simp only [K.set,hget,hii,if_false] at hc
  obtain ⟨a1,a2,a3,a4,xs',rest',T',a5,a6⟩:=g.blk i c d hc
  refine ⟨by rw [hβ];exact a1,by rw [hβ];exact a2,a3,a4,xs',rest',T',?_,?_⟩
  ·rw [hβ];exact (hother _ (hne i hii (Q0i hc))).trans a5
  ·rw [hβ];exact RL.ev ev (RL.blos a6) a6
 ·intro i r0 p0 tm0 ps0 a0 b0 hc
  by_cases hii:i=id
  ·subst hii
   simp only [K.set,hget,if_true,jA,B.lop.injEq] at hc
   obtain ⟨rfl,rfl,rfl,rfl,rfl,rfl⟩:=hc
   refine ⟨by rw [hβ];exact q1,lp',?_,hst,hpd,?_,by rw [hps];exact q6,by rw [ha];exact q7,by rw [hbd];exact q8⟩
   ·rw [hβ];exact World.putObj_heap_same hlt
   ·rw [ht];exact RL.ev ev (RL.blos q5) q5
  ·simp only [K.set,hget,hii,if_false] at hc
   obtain ⟨a1,lp2,a2,a3,a4,a5,a6⟩:=g.lop i r0 p0 tm0 ps0 a0 b0 hc
   exact ⟨by rw [hβ];exact a1,lp2,by rw [hβ];exact (hother _ (hne i hii (Q1j hc))).trans a2,a3,a4,RL.ev ev (RL.blos a5) a5,a6⟩
 ·intro i j hi hj e
  rw [hβ,hβ] at e
  exact g.inj i j (hlive i hi) (hlive j hj) e
theorem Qkq {k:K}:∀ {ps:List Nat} {as tm tm':List V} {xs:List Value} {ts:List Value},Qaq tm ps as=some tm'→RL k as xs→RL k tm ts →
  ps.length=xs.length∧RL k tm' ((ps.zip xs).foldl (fun ts q=>ts.set q.1 q.2) ts)
 | [],[],tm,tm',xs,ts,h,ha,ht=>by
  simp only [Qaq,jA] at h;subst h
  simp only [RL] at ha;subst ha
  exact ⟨rfl,ht⟩
 | p::ps,v::as,tm,tm',xs,ts,h,ha,ht=>by
  obtain ⟨x,r,rfl,hx,hr⟩:=(by simpa [RL] using ha:∃ x r,xs=x::r∧R k v x∧RL k as r)
  simp only [Qaq] at h
  obtain ⟨h1,h2⟩:=Qkq h hr (RL.set hx p ht)
  exact ⟨by simp [h1],by simpa using h2⟩
 | [],_::_,_,_,_,_,h,_,_=>by simp [Qaq] at h
 | _::_,[],_,_,_,_,h,_,_=>by simp [Qaq] at h
def X.ready:X→Bool
 | .nrm=>true
 | _=>false
theorem Q4p {ro:Nat} {rn:Nat→MC→St→Option (X × St)} {id:Nat} {args:List V} {h:List B} {r:V × List B} (e:Q07 F md ro rn (.yld id) args h=some r) :
  ∃ p tm ps asg body tm' st p' tm2 ps2 a2 b2 x st',bget h id=some (.lop true p tm ps asg body)∧ro≤id∧Qaq tm ps args=some tm'∧rn ro asg ⟨tm',h⟩=some (.nrm,st)∧bget st.h id=some (.lop true p' tm2 ps2 a2 b2) ∧
   rn ro body ⟨st.tm,bset st.h id (.lop false .nrm tm ps asg body)⟩=some (x,st')∧r=(.bool x.ready,bset (trunc h.length [] st'.h) id (.lop x.ready x tm ps asg body)):=by
 simp only [Q07] at e
 split at e<;>(try (cases e;done))
 rename_i p tm ps asg body hb
 split at e<;>(try (cases e;done))
 rename_i hro
 split at e<;>(try (cases e;done))
 rename_i tm' hset
 split at e<;>(try (cases e;done))
 rename_i st hasg
 split at e<;>(try (cases e;done))
 rename_i p' tm2 ps2 a2 b2 hb2
 split at e<;>(try (cases e;done))
 rename_i x st' hbody
 cases e
 refine ⟨p,tm,ps,asg,body,tm',st,p',tm2,ps2,a2,b2,x,st',hb,hro,hset,hasg,hb2,hbody,?_⟩
 cases x<;>rfl
theorem Qoa {n:Nat} (hn:Q2m P F md n) {ro id:Nat} {args:List V} {k:K} {fx:Value} {xs:List Value} {v:V} {h':List B} (g:Good P k) (hf:R k (.yld id) fx) (ha:RL k args xs)
  (e:Q07 F md ro (run F md n) (.yld id) args k.h=some (v,h')):Done P ro k (Q1g fx ⟨xs⟩) v h':=by
 obtain ⟨p,tm,ps,asg,body,tm',st,p',tm2,ps2,a2,b2,x,st',hb,hro,hset,hasg,hb2,hbody,hr⟩:=Q4p e
 simp only [jN] at hr
 obtain ⟨rfl,rfl⟩:=hr
 simp only [R] at hf
 obtain ⟨rfl,_⟩:=hf
 obtain ⟨q1,lp,q2,q3,q4,q5,q6,q7,q8⟩:=g.lop id _ _ _ _ _ _ hb
 obtain ⟨s1,s2⟩:=Qkq hset ha q5
 have hsz:(⟨xs⟩:Array Value).size=lp.params.size:=by rw [← q6] at s1;simpa using s1.symm
 have hcall:(Q1g (.func (.yield (k.β id).1) #[] #[]) ⟨xs⟩).run P k.w=.ok (.round (k.β id).1 lp.fn ((lp.params.zip ⟨xs⟩).foldl (fun tmps (t,a)=>tmps.setIfInBounds t a) lp.tmps) lp.assign lp.body) k.w:=by
  simp only [Q1g,Deferred.ofValue,Sem.run_bind,Sem.run_pure,Result.andThen_ok,invoke]
  have:(#[]++(⟨xs⟩:Array Value))=⟨xs⟩:=by simp
  rw [this]
  exact run_yield q2 hsz
 refine .round _ _ _ _ _ k.w hcall fun nn=>roundIn_of_wpIn trivial ?_
 have htm:RL k tm' ((lp.params.zip ⟨xs⟩).foldl (fun tmps (t,a)=>tmps.setIfInBounds t a) lp.tmps).toList:=by
  have key:∀ (l:List (Nat × Value)) (ts:Array Value),(l.foldl (fun (tmps:Array Value) (q:Nat × Value)=>tmps.setIfInBounds q.1 q.2) ts).toList=l.foldl (fun ts q=>ts.set q.1 q.2) ts.toList:=by
   intro l
   induction l with
   | nil=>intro ts;rfl
   | cons q l ih=>intro ts;simp only [List.foldl_cons];rw [ih];simp
  rw [← Array.foldl_toList,key]
  rw [← q6] at s2
  simpa using s2
 have hfr0:FrOk k (some (k.β id).1):=fun l hl=>by cases hl;exact ⟨id,_,_,_,_,_,_,hb,rfl⟩
 refine hn _ _ _ _ _ hasg lp.assign k { tmps:=_,defers:=[] } (some (k.β id).1) nn _ q7 g rfl htm hfr0 ?_
 intro k1 a1 g1 hh1 e1 hl1 _
 -- the record, when the body begins
 obtain ⟨hβ1,r1,p1,hlop1⟩:=e1.lop id (Q05 hb) _ _ _ _ _ _ hb
 have hlop1':=hlop1
 rw [hh1,hb2] at hlop1'
 replace hlop1':=hlop1'.symm
 simp only [jA,B.lop.injEq] at hlop1'
 obtain ⟨rfl,rfl,rfl,rfl,rfl,rfl⟩:=hlop1'
 obtain ⟨t1,lp1,t2,t3,t4,t5,t6,t7,t8⟩:=g1.lop id _ _ _ _ _ _ hlop1
 have t2':=t2
 rw [hβ1] at t2'
 obtain ⟨g2,e2⟩:=g1.lopset (r':=false) (p':=.nrm) (m:=k1.h.length) hlop1 (.inl hro) t2 (lp':={ lp1 with state:=.busy }) rfl rfl rfl rfl trivial trivial
 rw [hβ1] at g2 e2
 refine ⟨_,run_beginRound t2' t3,?_⟩
 have hl2:=RL.ev e2 (RL.blos hl1) hl1
 have hbody7:Q14 P lp.body=some body:=q8
 refine hn _ _ _ _ _ hbody lp.body _ a1 (some (k.β id).1) nn _ hbody7 g2 (by simp only [K.set,hh1]) hl2 ((hfr0.ev e1 rfl).ev e2 rfl) ?_
 intro k3 a3 g3 hh3 e3 hl3 _
 have e13:Ev ro k.h.length k k3:=(e1.after e2).after e3
 obtain ⟨k4,u1,u2,u3,u4,u5,u6⟩:=Q74 g3 k.h.length ro []
 have e14:=e13.trans u4
 obtain ⟨hβ4,r4,p4,hlop4⟩:=e14.lop id (Q05 hb) _ _ _ _ _ _ hb
 obtain ⟨v1,lp4,v2,v3,v4,v5,v6,v7,v8⟩:=u3.lop id _ _ _ _ _ _ hlop4
 have v2':=v2
 rw [hβ4,u2] at v2'
 have fin:∀ (j:Option Code),Q4i x.ready x (if j.isNone then .ready else .done)→pendRel x.ready x j→j.isNone=x.ready →
   ∃ vv w',(Instr.endRound (k.β id).1 j).run P k3.w=.ok vv w'∧Back P ro k (.bool x.ready) (bset (trunc k.h.length [] st'.h) id (.lop x.ready x tm ps asg body)) (.returned vv) w':=by
  intro j hj1 hj2 hj3
  obtain ⟨g5,e5⟩:=u3.lopset (r':=x.ready) (p':=x) (m:=k4.h.length) hlop4 (.inl hro) v2 (lp':={ lp4 with state:=if j.isNone then .ready else .done,pending:=j }) rfl rfl rfl rfl hj1 hj2
  refine ⟨_,_,run_endRound j v2',.bool j.isNone,_,rfl,?_,?_,g5,e14.after e5,by simp only [R,hj3]⟩
  ·simp only [K.set,u2,hβ4]
  ·simp only [K.set,u1,hh3]
 cases x with
 | nrm=>exact fin none rfl rfl rfl
 | ret=>exact fin (some .ret) (by simp [Q4i,X.ready]) rfl rfl
 | exit i=>exact fin (some (.exit i)) (by simp [Q4i,X.ready]) rfl rfl
end Go.Dr
namespace Go.Dr
open Go.RowKit (Below)
variable {P:Program} {md:Nat→Nat} {F:Nat→Option Fc}
theorem Good.lopborn [GT P] {k:K} (g:Good P k) {id ro:Nat} {tm:List V} {ps:List Nat} {a b:MC} (hb:bget k.h id=some .unborn) (hro:id=k.h.length-1) {w':World} (hlow:Below k.n0 k.w w') (hsame:∀ b,b<k.w.heap.size→w'.heap[b]?=k.w.heap[b]?)
  {l:Nat} {lp:Loop} (hl0:k.w.heap.size≤l) (hl:w'.heap[l]?=some (.loop lp)) (hst:lp.state=.ready) (hpd:lp.pending=none) (ht:RL k tm lp.tmps.toList) (hps:lp.params.toList=ps) (ha:Q14 P lp.assign=some a) (hbd:Q14 P lp.body=some b) :
  Good P (k.set id (.lop true .nrm tm ps a b) (l,0) w')∧Ev ro id k (k.set id (.lop true .nrm tm ps a b) (l,0) w'):=by
 have hid:=Q05 hb
 have hget:∀ i,bget (bset k.h id (.lop true .nrm tm ps a b)) i=if i=id then some (.lop true .nrm tm ps a b) else bget k.h i:=by
  intro i;rw [Q0g]
  by_cases e:id=i
  ·subst e;simp [hid]
  ·simp [e,Ne.symm e]
 have hβ:∀ i,i≠id→(k.set id (.lop true .nrm tm ps a b) (l,0) w').β i=k.β i:=fun i hi=>by simp only [K.set,hi,if_false]
 have hlive:∀ i,i≠id→live (bset k.h id (.lop true .nrm tm ps a b)) i→live k.h i:=by
  rintro i hi ⟨b0,hb0,hn⟩
  rw [hget,if_neg hi] at hb0
  exact ⟨b0,hb0,hn⟩
 have hne:∀ i,live k.h i→i≠id:=by rintro i ⟨b0,hb0,hn⟩ rfl;rw [hb] at hb0;cases hb0;exact hn rfl
 have evm:∀ ro m,(ro≤id∨m≤id)→Ev ro m k (k.set id (.lop true .nrm tm ps a b) (l,0) w'):=by
  intro ro m hrm
  refine ⟨rfl,rfl,hlow,?_,?_,?_,?_,?_,fun i hi b0 hc ho=>by
   have hii:=hne i (Q1i hc ho)
   exact ⟨hβ i hii,b0,by simp only [K.set,hget,hii,if_false];exact hc,.refl ho⟩⟩
  ·intro b0 hok hlt0
   refine ⟨?_,hsame b0 hlt0⟩
   rcases hok with h|⟨h1,h2⟩
   ·exact .inl h
   ·refine .inr ⟨h1,fun ⟨i,lv,e⟩=>?_⟩
    by_cases hi:i=id
    ·simp only [K.set,hi,if_true] at e;omega
    ·exact h2 ⟨i,hlive i hi lv,by rw [← hβ i hi];exact e⟩
  ·intro i hi c d hc
   have hii:=hne i (Q0i hc)
   refine ⟨c,by simp only [K.set,hget,hii,if_false];exact hc,Nat.le_refl _,fun _=>⟨hβ i hii,?_⟩⟩
   simp only [Q12,K.set,hsame _ (g.at (Q0i hc)).2]
  ·intro i hi r0 p0 tm0 ps0 a0 b0 hc
   have hii:=hne i (Q1j hc)
   exact ⟨hβ i hii,r0,p0,by simp only [K.set,hget,hii,if_false];exact hc⟩
  ·intro i h1 h2 lv
   have hii:=hne i lv
   exact ⟨by simp only [K.set,hget,hii,if_false],hβ i hii,hsame _ (g.at lv).2⟩
  ·intro i h1 h2 b0 h0
   have hii:i≠id:=by omega
   simp only [K.set,hget,hii,if_false];exact h0
 have ev:=evm 0 k.h.length (.inl (Nat.zero_le _))
 refine ⟨⟨Nat.le_trans g.size hlow.size,?_,?_,?_,fun i b hc ho=>by
  have hii:i≠id:=by rintro rfl;simp only [K.set,hget,if_true] at hc;cases hc;cases ho
  simp only [K.set,hget,hii,if_false] at hc
  exact OddOk.ev ev (hβ i hii) (hsame _ (g.at (Q1i hc ho)).2) (OddOk.blo ho (g.od i b hc ho)) (g.od i b hc ho),g.tab.ev ev⟩,evm ro id (.inr (Nat.le_refl _))⟩
 ·intro i c d hc
  have hii:i≠id:=by rintro rfl;simp only [K.set,hget,if_true] at hc;cases hc
  simp only [K.set,hget,hii,if_false] at hc
  obtain ⟨a1,a2,a3,a4,xs',rest',T',a5,a6⟩:=g.blk i c d hc
  refine ⟨by rw [hβ i hii];exact a1,by rw [hβ i hii];exact a2,a3,a4,xs',rest',T',?_,?_⟩
  ·rw [hβ i hii];exact (hsame _ (g.at (Q0i hc)).2).trans a5
  ·rw [hβ i hii];exact RL.ev ev (RL.blos a6) a6
 ·intro i r0 p0 tm0 ps0 a0 b0 hc
  by_cases hii:i=id
  ·subst hii
   simp only [K.set,hget,if_true,jA,B.lop.injEq] at hc
   obtain ⟨rfl,rfl,rfl,rfl,rfl,rfl⟩:=hc
   refine ⟨by simp only [K.set,if_true];exact Nat.le_trans g.size hl0,lp,by simp only [K.set,if_true];exact hl,hst,hpd,RL.ev ev (RL.blos ht) ht,hps,ha,hbd⟩
  ·simp only [K.set,hget,hii,if_false] at hc
   obtain ⟨a1,lp2,a2,a3,a4,a5,a6⟩:=g.lop i r0 p0 tm0 ps0 a0 b0 hc
   exact ⟨by rw [hβ i hii];exact a1,lp2,by rw [hβ i hii];exact (hsame _ (g.at (Q1j hc)).2).trans a2,a3,a4,RL.ev ev (RL.blos a5) a5,a6⟩
 ·intro i j hi hj e
  by_cases h1:i=id<;>by_cases h2:j=id
  ·omega
  ·exfalso
   rw [hβ j h2] at e
   simp only [K.set,h1,if_true] at e
   have:=(g.at (hlive j h2 hj)).2;omega
  ·exfalso
   rw [hβ i h1] at e
   simp only [K.set,h2,if_true] at e
   have:=(g.at (hlive i h1 hi)).2;omega
  ·rw [hβ i h1,hβ j h2] at e
   exact g.inj i j (hlive i h1 hi) (hlive j h2 hj) e
theorem Q96 (h:List B) (b c:B):bset (h++[b]) h.length c=h++[c]:=by
 induction h with
 | nil=>rfl
 | cons x l ih=>simp [bset,ih]
theorem Qdo (h:List B) (b:B):bget (h++[b]) h.length=some b:=by
 induction h with
 | nil=>rfl
 | cons x l ih=>simp [bget,ih]
theorem Qlz {h:List B} {b:B} {i:Nat} (hi:i≠h.length) (l:live (bset (h++Q0r 1) h.length b) i):live h i:=by
 obtain ⟨b0,hb0,hn⟩:=l
 rw [show Q0r 1=[B.unborn] from rfl,Q96,Q56] at hb0
 split at hb0
 ·exact ⟨b0,hb0,hn⟩
 ·have:∃ j,i-h.length=j+1:=⟨i-h.length-1,by omega⟩
  obtain ⟨j,hj⟩:=this
  rw [hj] at hb0
  simp [bget] at hb0
theorem Q4y (fn:FuncId) (tmps:Array Value) (ps:Array Tmp) (assign body:Code) {l:Nat} {lp:Loop} {w:World} (h:w.heap[l]?=some (.loop lp)) :
  (Instr.enterLoop fn tmps ps assign body (some l)).run P w =
   .ok (w.heap.size,[]) (w.alloc (.loop { state:=.ready,pending:=none,fn,tmps,params:=ps,assign,body,defers:=lp.defers })):=by
 unfold Instr.enterLoop
 simp only [Sem.run_bind,run_getLoop h,run_newObj_alloc,Result.andThen,Sem.run_pure]
theorem Qec [GT P] {k:K} (g:Good P k) {ro:Nat} {fr:Option Nat} (hfr:FrOk k fr) {tm:List V} {ps:Array Tmp} {asg body:MC} {ca cb:Code} (ha:Q14 P ca=some asg) (hb:Q14 P cb=some body) {a:Act} (ht:RL k tm a.tmps.toList) (fn:FuncId) :
  ∃ (l:Nat) (mark:List Deferred) (k2:K),(Instr.enterLoop fn a.tmps ps ca cb fr).run P k.w=.ok (l,mark) k2.w∧k2.h=k.h++[.lop true .nrm tm ps.toList asg body]∧Good P k2∧Ev ro k.h.length k k2∧(k2.β k.h.length).1=l ∧
   Marks k2 k.w.heap.size (mark++a.defers) a.defers:=by
 obtain ⟨g1,e1⟩:=g.more 1 ro
 have ht1:=RL.ev e1 (RL.blos ht) ht
 have hun:bget (k.h++Q0r 1) k.h.length=some .unborn:=Qdo k.h .unborn
 cases fr with
 | none =>
  let lp:Loop:={ state:=.ready,pending:=none,fn,tmps:=a.tmps,params:=ps,assign:=ca,body:=cb,defers:=k.w.heap.size }
  have hsz:∀ (w:World) (o:Obj),(w.alloc o).heap.size=w.heap.size+1:=fun w o=>by simp [World.alloc,-World.alloc_eq]
  have hlow:Below k.n0 k.w ((k.w.alloc (.deferred (some []))).alloc (.loop lp)):=((Below.refl _ _).alloc g.size _).alloc (by rw [hsz];have:=g.size;omega) _
  have hsame:∀ b,b<k.w.heap.size→((k.w.alloc (.deferred (some []))).alloc (.loop lp)).heap[b]?=k.w.heap[b]?:=fun b hb=>by
   rw [Below.heap_alloc _ _ _ (by rw [hsz];omega),Below.heap_alloc _ _ _ hb]
  have hl:((k.w.alloc (.deferred (some []))).alloc (.loop lp)).heap[k.w.heap.size+1]?=some (.loop lp):=by
   have:=World.alloc_heap_new (k.w.alloc (.deferred (some []))) (.loop lp)
   rw [hsz] at this;exact this
  have hr:((k.w.alloc (.deferred (some []))).alloc (.loop lp)).heap[k.w.heap.size]?=some (.deferred (some [])):=by
   rw [Below.heap_alloc _ _ _ (by rw [hsz];omega)];exact World.alloc_heap_new _ _
  obtain ⟨g2,e2⟩:=Good.lopborn (ro:=ro) (tm:=tm) g1 hun (by simp [Q0r]) hlow hsame (by simp only;omega) hl rfl rfl ht1 (ps:=ps.toList) rfl ha hb
  refine ⟨k.w.heap.size+1,_,_,run_enterLoop_outer fn a.tmps ps ca cb,?_,g2,e1.trans e2,by simp [K.set],?_⟩
  ·simp only [K.set];exact Q96 k.h .unborn _
  ·refine ⟨[{ target:=.collected k.w.heap.size,args := #[] }],rfl,by simp,fun d hd=>?_⟩
   simp only [jJ] at hd
   refine ⟨k.w.heap.size,hd,Nat.le_refl _,.inr ⟨g.size,?_⟩,hr⟩
   rintro ⟨i,lv,e⟩
   by_cases hi:i=k.h.length
   ·simp only [K.set,hi,if_true] at e;omega
   ·simp only [K.set,hi,if_false] at e
    have:=(g.at (Qlz hi lv)).2
    omega
 | some l =>
  obtain ⟨id0,r0,p0,tm0,ps0,a0,b0,hq1,hq2⟩:=hfr l rfl
  obtain ⟨_,lp0,hq3,_⟩:=g.lop _ _ _ _ _ _ _ hq1
  rw [hq2] at hq3
  have hl:=World.alloc_heap_new k.w (.loop { state:=.ready,pending:=none,fn,tmps:=a.tmps,params:=ps,assign:=ca,body:=cb,defers:=lp0.defers })
  obtain ⟨g2,e2⟩:=Good.lopborn (ro:=ro) (tm:=tm) g1 hun (by simp [Q0r]) ((Below.refl _ _).alloc g.size _) (fun b hb=>Below.heap_alloc _ _ _ hb) (Nat.le_refl _) hl rfl rfl ht1 (ps:=ps.toList) rfl ha hb
  refine ⟨k.w.heap.size,[],_,Q4y fn a.tmps ps ca cb hq3,?_,g2,e1.trans e2,by simp [K.set],?_⟩
  ·simp only [K.set];exact Q96 k.h .unborn _
  ·exact Marks.refl _ _ _
theorem Marks.ev {ro m:Nat} {k k':K} {n1:Nat} {a b:List Deferred} (h:Marks k n1 a b) (e:Ev ro m k k'):Marks k' n1 a b:=by
 obtain ⟨ms,rfl,hd,h⟩:=h
 refine ⟨ms,rfl,hd,fun d hd=>?_⟩
 obtain ⟨r,h1,h2,h3,h4⟩:=h d hd
 have hlt:=(jP.1 h4).1
 obtain ⟨q1,q2⟩:=e.prot r h3 hlt
 exact ⟨r,h1,h2,q1,q2.trans h4⟩
theorem Ql1 [GT P] {n:Nat} (hF:Q1h P F) (hn:Q2m P F md n):Qi2 P F md n:=by
 intro ro f ps ca cb mc st x st' hcc h k a fr nn Q g hk ht hfr hQ
 simp only [Q14] at hcc
 split at hcc<;>(try (cases hcc;done))
 rename_i y asg body hy hca hcb
 cases hcc
 simp only [run] at h
 split at h<;>(try (cases h;done))
 rename_i v0 h1 hcall
 have hfn:∃ i caps,y.ev st.tm=.fn i caps:=by
  unfold isFn at hcall
  split at hcall
  ·rename_i i caps he;exact ⟨i,caps,he⟩
  ·cases hcall
 obtain ⟨i,caps,hfv⟩:=hfn
 simp only [hfv,isFn] at hcall
 split at h<;>(try (cases h;done))
 rename_i r p tm1 ps1 a1 b1 hb
 split at h<;>(try (cases h;done))
 rename_i x' hpend
 simp only [jA,jN] at h
 obtain ⟨rfl,rfl⟩:=h
 refine wpIn_rangeFunc fun fn _=>?_
 obtain ⟨l,mark,k2,he,hh2,g2,e2,hβ,hmk⟩:=Qec (ro:=ro) g hfr hca hcb ht fn
 have hfx:=cO_R ht hy
 rw [hfv] at hfx
 have hfx2:=R.ev e2 (R.blo hfx) hfx
 have hlop2:bget k2.h k.h.length=some (.lop true .nrm st.tm ps.toList asg body):=by rw [hh2];exact Qdo _ _
 have hyl:R k2 (.yld k.h.length) (.func (.yield l) #[] #[]):=by
  simp only [R]
  exact ⟨by rw [hβ],_,_,_,_,_,_,hlop2⟩
 have hmode:mode md (.fn i caps) [V.yld k.h.length]≠0:=by
  simp only [mode,Q6e,V.lean,Bool.false_and,Bool.and_false,Bool.false_eq_true,if_false]
  split
  ·simp
  ·simp
  ·simp
  ·simp [Qtc]
  ·simp
  ·simp [blos,V.blo]
  ·rename_i h _ _ _ _ _;exact h
 rw [← hk] at hcall hb
 have hcall2:Q07 F md ro (run F md n) (.fn i caps) [.yld k.h.length] k2.h=some (v0,h1):=by rw [hh2];exact hcall
 obtain ⟨cvs,hfx,hs,hc⟩:=Qd1 hF hn g2 hfx2 (RL.cons hyl RL.nil) hcall2 hmode
 rw [hfx] at hs
 refine ⟨l,mark,k2.w,{ target:=.fn (.func i) ⟨cvs⟩,args := #[.func (.yield l) #[] #[]] },k2.w,i,⟨[.func (.yield l) #[] #[]]++cvs⟩,k2.w,he,?_,fun _ _=>trivial,?_,by simp [fen,Fence.wide],?_⟩
 ·have e:resolve a.eval (rangeCall f l) 0=Deferred.ofValue (a.eval f) #[.func (.yield l) #[] #[]]:=by simp only [resolve,List.map_toArray,List.map_cons,List.map_nil];rfl
  rw [e,hfx]
  simp [Deferred.ofValue]
 ·simpa [Q1g,Deferred.ofValue,Sem.run_bind] using hs
 ·refine CallsIn.mono (Qdh hc) ?_
  rintro e w' ⟨yv,k3,rfl,rfl,hh3,g3,e3,_⟩
  have e13:=e2.after e3
  obtain ⟨hβ3,r3,p3,hlop3⟩:=e3.lop _ (Q05 hlop2) _ _ _ _ _ _ hlop2
  have hlop3':=hlop3
  rw [hh3,hb] at hlop3'
  replace hlop3':=hlop3'.symm
  simp only [jA,B.lop.injEq] at hlop3'
  obtain ⟨rfl,rfl,rfl,rfl,rfl,rfl⟩:=hlop3'
  obtain ⟨t1,lp1,t2,t3,t4,t5,t6,t7,t8⟩:=g3.lop _ _ _ _ _ _ _ hlop3
  have hnb:lp1.state≠.busy:=by
   revert hpend t3
   cases r3<;>cases p3<;>simp [Qcg,Q4i]<;>(intro h1 h2;rw [h2];simp)
  obtain ⟨g4,e4⟩:=g3.lopset (ro:=ro) (m:=k.h.length) (r':=false) (p':=.nrm) hlop3 (.inr (Nat.le_refl _)) t2 (lp':={ lp1 with state:=.exhausted }) rfl rfl rfl rfl trivial trivial
  have hl:(k3.β k.h.length).1=l:=by rw [hβ3,hβ]
  have hend:=run_endLoop (P:=P) t2 hnb
  rw [hl] at hend g4 e4
  have e14:=e13.trans e4
  have land:=hQ _ { a with defers:=mark++a.defers } g4 (by simp only [K.set,hh3,hk]) e14 (RL.ev e14 (RL.blos ht) ht) ((hmk.ev e3).ev e4)
  have land':Q x'.out { a with defers:=mark++a.defers } (k3.w.putObj l (.loop { lp1 with state:=.exhausted })):=land
  clear land
  refine ⟨_,_,hend,?_⟩
  generalize k3.w.putObj l (.loop { lp1 with state:=.exhausted })=W at land' ⊢
  cases r3<;>cases p3<;>simp only [Qcg,jA,reduceCtorEq] at hpend<;>subst hpend<;>simp only [pendRel] at t4<;>rw [t4]
  ·exact wpIn_exit land'
  ·exact wpIn_ret land'
  ·exact land'
end Go.Dr
namespace Go.Dr
open Go.RowKit (Below)
variable {P:Program} [GT P] {md:Nat→Nat} {F:Nat→Option Fc}
theorem okv.over {k k':K} (hsz:k.w.heap.size≤k'.w.heap.size) (hok:∀ b,k.ok b→b<k.w.heap.size→k'.ok b∧k'.w.heap[b]?=k.w.heap[b]?) {b off:Nat} {vs:List Value} (h:okv k b vs) (hc:cellsAt k.w b off vs):okv k' b vs∧cellsAt k'.w b off vs:=by
 rcases h with rfl|⟨h1,h2⟩
 ·exact ⟨.inl rfl,trivial⟩
 ·obtain ⟨p1,p2⟩:=hok b h1 h2
  exact ⟨.inr ⟨p1,Nat.lt_of_lt_of_le h2 hsz⟩,Q1d p2 hc⟩
mutual
theorem R.over {k k':K} (hsz:k.w.heap.size≤k'.w.heap.size) (hok:∀ b,k.ok b→b<k.w.heap.size→k'.ok b∧k'.w.heap[b]?=k.w.heap[b]?):∀ {v:V} {x:Value},v.blo 0=true→R k v x→R k' v x
 | .bool _,_,_,h|.int _ _,_,_,h|.str _,_,_,h|.nilp,_,_,h|.nilsl,_,_,h|.esl,_,_,h|.nilmap,_,_,h|.nilfn,_,_,h|.nilif,_,_,h=>by simpa only [R] using h
 | .dead,_,_,_=>by simp [R]
 | .sl clip len cells,x,hb,h=>by
  simp only [R] at h ⊢
  rcases h with h|⟨b,off,cap,vs,hx,hk,hc,hl,hp,h1,h2⟩
  ·exact .inl h
  obtain ⟨p1,p2⟩:=hk.over hsz hok hc
  exact .inr ⟨b,off,cap,vs,hx,p1,p2,RL.over hsz hok hp.2 hl,hp,h1,h2⟩
 | .rp cells off,x,hb,h=>by
  simp only [R] at h ⊢
  obtain ⟨b,o,vs,hx,hk,hc,hl,hp⟩:=h
  obtain ⟨p1,p2⟩:=hk.over hsz hok hc
  exact ⟨b,o,vs,hx,p1,p2,RL.over hsz hok hp.2 hl,hp⟩
 | .agg cs,x,hb,h=>by
  simp only [R] at h ⊢;obtain ⟨vs,hx,hl⟩:=h;exact ⟨vs,hx,RL.over hsz hok (by simpa [V.blo] using hb) hl⟩
 | .tup cs,x,hb,h=>by
  simp only [R] at h ⊢;obtain ⟨vs,hx,hl⟩:=h;exact ⟨vs,hx,RL.over hsz hok (by simpa [V.blo] using hb) hl⟩
 | .iface t v,x,hb,h=>by
  simp only [R] at h ⊢;obtain ⟨y,hx,hl⟩:=h;exact ⟨y,hx,R.over hsz hok (by simpa [V.blo] using hb) hl⟩
 | .bf t v,x,hb,h=>by
  simp only [R] at h ⊢;obtain ⟨y,hx,hl⟩:=h;exact ⟨y,hx,R.over hsz hok (by simpa [V.blo] using hb) hl⟩
 | .fn f cs,x,hb,h=>by
  simp only [R] at h ⊢;obtain ⟨vs,hx,hl⟩:=h;exact ⟨vs,hx,RL.over hsz hok (by simpa [V.blo] using hb) hl⟩
 | .ref id g off,x,hb,h=>by simp [V.blo] at hb
 | .ms es id g off len clip,x,hb,h=>by simp [V.blo] at hb
 | .yld id,x,hb,h=>by simp [V.blo] at hb
 | .mr id,x,hb,h=>by simp [V.blo] at hb
 | .rm ks vs,x,hb,h=>by
  simp only [R] at h ⊢
  obtain ⟨b,kv,vv,hx,h1,h2,h3,h4,h5,h6,h7⟩:=h
  obtain ⟨p1,p2⟩:=hok b h1 h2
  exact ⟨b,kv,vv,hx,p1,Nat.lt_of_lt_of_le h2 hsz,h3.same p2,RL.over hsz hok h6 h4,RL.over hsz hok h7 h5,h6,h7⟩
 | .itr id m,x,hb,h=>by simp [V.blo] at hb
 | .irr id,x,hb,h=>by simp [V.blo] at hb
theorem RL.over {k k':K} (hsz:k.w.heap.size≤k'.w.heap.size) (hok:∀ b,k.ok b→b<k.w.heap.size→k'.ok b∧k'.w.heap[b]?=k.w.heap[b]?):∀ {l:List V} {xs:List Value},Dr.blos 0 l=true→RL k l xs→RL k' l xs
 | [],_,_,h=>by simpa [RL] using h
 | v::l,xs,hb,h=>by
  simp only [Dr.blos,jF] at hb
  obtain ⟨x,r,rfl,hx,hr⟩:=(by simpa [RL] using h:∃ x r,xs=x::r∧R k v x∧RL k l r)
  exact RL.cons (R.over hsz hok hb.1 hx) (RL.over hsz hok hb.2 hr)
end
mutual
theorem Q76 {k k':K}:∀ {v:V} {x:Value},v.scalar=true→R k v x→R k' v x
 | .bool _,_,_,h|.int _ _,_,_,h|.str _,_,_,h|.nilp,_,_,h|.nilsl,_,_,h|.esl,_,_,h|.nilmap,_,_,h|.nilfn,_,_,h|.nilif,_,_,h=>by simpa only [R] using h
 | .dead,_,hb,_=>by simp [V.scalar] at hb
 | .sl clip len cells,x,hb,h=>by simp [V.scalar] at hb
 | .rp cells off,x,hb,h=>by simp [V.scalar] at hb
 | .agg cs,x,hb,h=>by
  simp only [R] at h ⊢;obtain ⟨vs,hx,hl⟩:=h;exact ⟨vs,hx,Q5d (by simpa [V.scalar] using hb) hl⟩
 | .tup cs,x,hb,h=>by
  simp only [R] at h ⊢;obtain ⟨vs,hx,hl⟩:=h;exact ⟨vs,hx,Q5d (by simpa [V.scalar] using hb) hl⟩
 | .iface t v,x,hb,h=>by
  simp only [R] at h ⊢;obtain ⟨y,hx,hl⟩:=h;exact ⟨y,hx,Q76 (by simpa [V.scalar] using hb) hl⟩
 | .bf t v,x,hb,h=>by
  simp only [R] at h ⊢;obtain ⟨y,hx,hl⟩:=h;exact ⟨y,hx,Q76 (by simpa [V.scalar] using hb) hl⟩
 | .fn f cs,x,hb,h=>by
  simp only [R] at h ⊢;obtain ⟨vs,hx,hl⟩:=h;exact ⟨vs,hx,Q5d (by simpa [V.scalar] using hb) hl⟩
 | .ref id g off,x,hb,h=>by simp [V.scalar] at hb
 | .ms es id g off len clip,x,hb,h=>by simp [V.scalar] at hb
 | .yld id,x,hb,h=>by simp [V.scalar] at hb
 | .mr id,x,hb,h=>by simp [V.scalar] at hb
 | .rm ks vs,x,hb,h=>by simp [V.scalar] at hb
 | .itr id m,x,hb,h=>by simp [V.scalar] at hb
 | .irr id,x,hb,h=>by simp [V.scalar] at hb
theorem Q5d {k k':K}:∀ {l:List V} {xs:List Value},scalars l=true→RL k l xs→RL k' l xs
 | [],_,_,h=>by simpa [RL] using h
 | v::l,xs,hb,h=>by
  simp only [scalars,jF] at hb
  obtain ⟨x,r,rfl,hx,hr⟩:=(by simpa [RL] using h:∃ x r,xs=x::r∧R k v x∧RL k l r)
  exact RL.cons (Q76 hb.1 hx) (Q5d hb.2 hr)
end
theorem Q7c {f:V→Option V}:∀ {l l':List V},mapO f l=some l'→l'.length=l.length
 | [],l',e=>by simp only [mapO,jA] at e;rw [← e]
 | v::l,l',e=>by
  simp only [mapO] at e
  split at e<;>(try (cases e;done))
  split at e<;>(try (cases e;done))
  rename_i r hr
  cases e
  simp [Q7c hr]
theorem Qjz {h:List B} {n:Nat} {l l':List V} (e:Q1o h n l=some l'):l'.length=l.length:=Q7c e
theorem Q5n {f g:V→Option V} (hfg:∀ v v',f v=some v'→v.blo 0=true→g v=some v'):∀ {l l':List V},mapO f l=some l'→blos 0 l=true→mapO g l=some l'
 | [],l',e,_=>by simp only [mapO,jA] at e ⊢;exact e
 | v::l,l',e,hb=>by
  simp only [blos,jF] at hb
  simp only [mapO] at e ⊢
  split at e<;>(try (cases e;done))
  rename_i x hx
  split at e<;>(try (cases e;done))
  rename_i r hr
  cases e
  rw [hfg _ _ hx hb.1,Q5n hfg hr hb.2]
theorem Qg2 {h g:List B}:∀ {n:Nat} {v v':V},V.view h n v=some v'→v.blo 0=true→V.view g n v=some v'
 | 0,_,_,e,_=>by simp [V.view] at e
 | n+1,v,v',e,hb=>by
  have ih:∀ v v',V.view h n v=some v'→v.blo 0=true→V.view g n v=some v':=fun v v'=>Qg2
  cases v with
  | ms es id gg off len clip=>simp [V.blo] at hb
  | ref id gg off=>simp [V.blo] at hb
  | yld id=>simp [V.blo] at hb
  | mr id=>simp [V.blo] at hb
  | itr id m=>simp [V.blo] at hb
  | irr id=>simp [V.blo] at hb
  | dead=>simp [V.view] at e
  | agg cs =>
   simp only [V.view] at e ⊢
   obtain ⟨r,h1,rfl⟩:=map_some e
   rw [Q5n ih h1 (by simpa [V.blo] using hb)];rfl
  | tup cs =>
   simp only [V.view] at e ⊢
   obtain ⟨r,h1,rfl⟩:=map_some e
   rw [Q5n ih h1 (by simpa [V.blo] using hb)];rfl
  | iface t y =>
   simp only [V.view] at e ⊢
   obtain ⟨r,h1,rfl⟩:=map_some e
   rw [ih _ _ h1 (by simpa [V.blo] using hb)];rfl
  | bf t y =>
   simp only [V.view] at e ⊢
   obtain ⟨r,h1,rfl⟩:=map_some e
   rw [ih _ _ h1 (by simpa [V.blo] using hb)];rfl
  | fn f cs =>
   simp only [V.view] at e ⊢
   obtain ⟨r,h1,rfl⟩:=map_some e
   rw [Q5n ih h1 (by simpa [V.blo] using hb)];rfl
  | _=>simp only [V.view,jA] at e ⊢;exact e
theorem Qk0 {h g:List B} {n:Nat} {l l':List V} (e:Q1o h n l=some l') (hb:blos 0 l=true):Q1o g n l=some l' :=
 Q5n (fun _ _=>Qg2) e hb
theorem Q20 {f g:V→Option V} (hfg:∀ v v',f v=some v'→g v=some v'):∀ {l l':List V},mapO f l=some l'→mapO g l=some l'
 | [],l',e=>by simp only [mapO,jA] at e ⊢;exact e
 | v::l,l',e=>by
  simp only [mapO] at e ⊢
  split at e<;>(try (cases e;done))
  rename_i x hx
  split at e<;>(try (cases e;done))
  rename_i r hr
  cases e
  rw [hfg _ _ hx,Q20 hfg hr]
theorem Qc3 {h:List B} {id:Nat} {b:B} (hu:bget h id=some .unborn):∀ {n:Nat} {v v':V},V.view h n v=some v'→V.view (bset h id b) n v=some v'
 | 0,_,_,e=>by simp [V.view] at e
 | n+1,v,v',e=>by
  have ih:∀ v v',V.view h n v=some v'→V.view (bset h id b) n v=some v':=fun v v'=>Qc3 hu
  cases v with
  | ms es i gg off len clip =>
   simp only [V.view] at e ⊢
   have hne:id≠i:=by rintro rfl;rw [hu] at e;simp at e
   rw [Q0g,if_neg (by rintro ⟨e,_⟩;exact hne e)]
   split at e<;>(try (cases e;done))
   rename_i c d hb
   split at e<;>(try (cases e;done))
   rename_i hc
   simp only [hc,if_true] at e ⊢
   split at e<;>(try (cases e;done))
   rename_i cs hcs
   split at e<;>(try (cases e;done))
   rename_i r hr
   cases e
   simp only [Q20 ih hr]
  | ref i gg off =>
   simp only [V.view] at e ⊢
   have hne:id≠i:=by rintro rfl;rw [hu] at e;simp at e
   rw [Q0g,if_neg (by rintro ⟨e,_⟩;exact hne e)]
   split at e<;>(try (cases e;done))
   rename_i c d hb
   split at e<;>(try (cases e;done))
   rename_i hc
   simp only [hc,if_true] at e ⊢
   split at e<;>(try (cases e;done))
   rename_i cs hcs
   split at e<;>(try (cases e;done))
   rename_i r hr
   cases e
   simp only [Q20 ih hr]
  | yld i=>simp [V.view] at e
  | dead=>simp [V.view] at e
  | mr i =>
   simp only [V.view] at e ⊢
   have hne:id≠i:=by rintro rfl;rw [hu] at e;simp at e
   rw [Q0g,if_neg (by rintro ⟨e,_⟩;exact hne e)]
   split at e<;>(try (cases e;done))
   rename_i ks vs hb
   split at e<;>(try (cases e;done))
   rename_i a ha
   split at e<;>(try (cases e;done))
   rename_i b' hb'
   cases e
   simp only [Q20 ih ha,Q20 ih hb']
  | itr id m=>simp [V.view] at e
  | irr id=>simp [V.view] at e
  | agg cs =>
   simp only [V.view] at e ⊢
   obtain ⟨r,h1,rfl⟩:=map_some e
   rw [Q20 ih h1];rfl
  | tup cs =>
   simp only [V.view] at e ⊢
   obtain ⟨r,h1,rfl⟩:=map_some e
   rw [Q20 ih h1];rfl
  | iface t y =>
   simp only [V.view] at e ⊢
   obtain ⟨r,h1,rfl⟩:=map_some e
   rw [ih _ _ h1];rfl
  | bf t y =>
   simp only [V.view] at e ⊢
   obtain ⟨r,h1,rfl⟩:=map_some e
   rw [ih _ _ h1];rfl
  | fn f cs =>
   simp only [V.view] at e ⊢
   obtain ⟨r,h1,rfl⟩:=map_some e
   rw [Q20 ih h1];rfl
  | _=>simp only [V.view,jA] at e ⊢;exact e
theorem Qi7 {h:List B} {id:Nat} {b:B} (hu:bget h id=some .unborn) {n:Nat} {l l':List V} (e:Q1o h n l=some l'):Q1o (bset h id b) n l=some l' :=
 Q20 (fun _ _=>Qc3 hu) e
theorem Q5o {k k0:K} {A:Prop} {f:V→Option V} (hf:∀ v v' x,(v.blo 0=true∨A)→f v=some v'→R k v x→R k0 v' x∧(v.one=true→v'.one=true)∧v'.blo 0=true):∀ {l l':List V} {xs:List Value},(blos 0 l=true∨A)→mapO f l=some l'→RL k l xs →
  RL k0 l' xs∧(ones l=true→ones l'=true)∧blos 0 l'=true
 | [],l',xs,ho,e,hx=>by
  simp only [mapO,jA] at e;subst e
  simp only [RL] at hx;subst hx
  exact ⟨RL.nil,fun h=>h,rfl⟩
 | v::l,l',xs,ho,e,hx=>by
  obtain ⟨x,r0,rfl,hx,hr0⟩:=(by simpa [RL] using hx:∃ x r,xs=x::r∧R k v x∧RL k l r)
  simp only [mapO] at e
  split at e<;>(try (cases e;done))
  rename_i y hy
  split at e<;>(try (cases e;done))
  rename_i r hr
  cases e
  obtain ⟨q1,q2,q3⟩:=hf _ _ _ (ho.imp (fun h=>by simp only [blos,jF] at h;exact h.1) id) hy hx
  obtain ⟨q4,q5,q6⟩:=Q5o hf (ho.imp (fun h=>by simp only [blos,jF] at h;exact h.2) id) hr hr0
  refine ⟨RL.cons q1 q4,fun h=>?_,?_⟩
  ·simp only [ones,jF] at h ⊢;exact ⟨q2 h.1,q5 h.2⟩
  ·simp only [blos,jF];exact ⟨q3,q6⟩
theorem Qc4 {k k0:K} (g:Good P k) (hw:k0.w=k.w) (hok:∀ b,b<k.w.heap.size→k.ok b→k0.ok b):∀ {n:Nat} {v v':V} {x:Value},(v.blo 0=true∨∀ b,b<k.w.heap.size→k.own b→k0.ok b)→V.view k.h n v=some v'→R k v x →
  R k0 v' x∧(v.one=true→v'.one=true)∧v'.blo 0=true
 | 0,_,_,_,_,e,_=>by simp [V.view] at e
 | n+1,v,v',x,ho,e,hx=>by
  have ih:∀ v v' x,(v.blo 0=true∨∀ b,b<k.w.heap.size→k.own b→k0.ok b)→V.view k.h n v=some v'→R k v x→R k0 v' x∧(v.one=true→v'.one=true)∧v'.blo 0=true:=fun v v' x=>Qc4 g hw hok
  have hov:∀ (c:List V) (ys:List Value),V.pure c→RL k c ys→RL k0 c ys:=fun c ys hp hl =>
   RL.over (k:=k) (k':=k0) (by rw [hw];exact Nat.le_refl _) (fun b h1 h2=>⟨hok b h2 h1,by rw [hw]⟩) hp.2 hl
  cases v with
  | ms es id gg off len clip =>
   simp only [V.view] at e
   split at e<;>(try (cases e;done))
   rename_i c dat0 hbk
   split at e<;>(try (cases e;done))
   rename_i hcg
   split at e<;>(try (cases e;done))
   rename_i cs hcs
   split at e<;>(try (cases e;done))
   rename_i r hr
   cases e
   simp only [R] at hx
   obtain ⟨b,o',cap,c0,dat,rfl,hbk0,hgc,hlc,hclip,hpos⟩:=hx
   rw [hbk] at hbk0;cases hbk0
   obtain ⟨p1,p0,p2⟩:=hpos hcg.symm
   obtain ⟨_,_,hones,_⟩:=g.blk id c dat0 hbk
   obtain ⟨rfl,hl⟩:=Q0v hcs
   have hat:=g.at (Q0i hbk)
   rw [p0] at hat
   have hokb:k0.ok b:=(ho.resolve_left (by simp [V.blo])) b hat.2 ⟨id,Q0i hbk,p0⟩
   have hsz:b<k0.w.heap.size:=by rw [hw];exact hat.2
   by_cases hc0:cap=0
   ·have hn0:len=0:=by omega
    subst hn0
    have hr0:=Q7c hr
    simp only [Nat.zero_mul,List.take_zero,List.length_nil] at hr0
    have hr1:r=[]:=List.eq_nil_of_length_eq_zero hr0
    subst hr1
    refine ⟨?_,fun _=>rfl,rfl⟩
    simp only [R]
    exact .inr ⟨b,o',cap,[],rfl,.inl rfl,trivial,RL.nil,⟨rfl,rfl⟩,hlc,hclip⟩
   ·obtain ⟨p3,p4,p5⟩:=p2 hc0
    obtain ⟨vs,c1,c2,c3⟩:=Q37 g hbk hcs p4
    obtain ⟨q1,q2,q3⟩:=Q5o ih (.inr (ho.resolve_left (by simp [V.blo]))) hr c2
    refine ⟨?_,fun _=>rfl,rfl⟩
    simp only [R]
    rw [p3,← hw] at c1
    exact .inr ⟨b,o',cap,vs,rfl,okv.mk hokb hsz,c1,q1,⟨q2 (ones_take (ones_drop hones _) _),q3⟩,hlc,hclip⟩
  | ref id gg off =>
   simp only [V.view] at e
   split at e<;>(try (cases e;done))
   rename_i c dat0 hbk
   split at e<;>(try (cases e;done))
   rename_i hcg
   split at e<;>(try (cases e;done))
   rename_i cs hcs
   split at e<;>(try (cases e;done))
   rename_i r hr
   cases e
   simp only [R] at hx
   obtain ⟨b,o',c',dat,rfl,hb',hg,hpos⟩:=hx
   rw [hbk] at hb';cases hb'
   obtain ⟨p0,p4⟩:=hpos hcg.symm
   obtain ⟨_,_,hones,_⟩:=g.blk id c dat0 hbk
   obtain ⟨rfl,hl⟩:=Q0v hcs
   have hat:=g.at (Q0i hbk)
   rw [p0] at hat
   have hokb:k0.ok b:=(ho.resolve_left (by simp [V.blo])) b hat.2 ⟨id,Q0i hbk,p0⟩
   have hsz:b<k0.w.heap.size:=by rw [hw];exact hat.2
   obtain ⟨vs,c1,c2,c3⟩:=Q37 g hbk hcs p4
   obtain ⟨q1,q2,q3⟩:=Q5o ih (.inr (ho.resolve_left (by simp [V.blo]))) hr c2
   refine ⟨?_,fun _=>rfl,rfl⟩
   simp only [R]
   rw [p0,← hw] at c1
   exact ⟨b,o',vs,rfl,okv.mk hokb hsz,c1,q1,q2 (ones_take (ones_drop hones _) _),q3⟩
  | yld id=>simp [V.view] at e
  | dead=>simp [V.view] at e
  | mr id =>
   simp only [V.view] at e
   split at e<;>(try (cases e;done))
   rename_i ks vs hb
   split at e<;>(try (cases e;done))
   rename_i a ha
   split at e<;>(try (cases e;done))
   rename_i b' hb'
   cases e
   simp only [R] at hx
   obtain ⟨rfl,_⟩:=hx
   obtain ⟨o1,es,o2,o3,o4,o5⟩:=g.mp id ks vs hb
   have hat:=g.at (Qm0 hb)
   have hokb:k0.ok (k.β id).1:=(ho.resolve_left (by simp [V.blo])) _ hat.2 ⟨id,Qm0 hb,rfl⟩
   obtain ⟨q1,_,q3⟩:=Q5o ih (.inr (ho.resolve_left (by simp [V.blo]))) ha o4
   obtain ⟨r1,_,r3⟩:=Q5o ih (.inr (ho.resolve_left (by simp [V.blo]))) hb' o5
   refine ⟨?_,fun _=>rfl,rfl⟩
   simp only [R]
   exact ⟨_,_,_,rfl,hokb,by rw [hw];exact hat.2,⟨es,by rw [hw];exact o2,o3,rfl,rfl⟩,q1,r1,q3,r3⟩
  | rm ks vs =>
   simp only [V.view,jA] at e;subst e
   simp only [R] at hx ⊢
   obtain ⟨b,kv,vv,hx,h1,h2,h3,h4,h5,h6,h7⟩:=hx
   exact ⟨⟨b,kv,vv,hx,hok b h2 h1,by rw [hw];exact h2,h3.same (by rw [hw]),RL.over (k:=k) (k':=k0) (by rw [hw];exact Nat.le_refl _) (fun b h1 h2=>⟨hok b h2 h1,by rw [hw]⟩) h6 h4,RL.over (k:=k) (k':=k0) (by rw [hw];exact Nat.le_refl _) (fun b h1 h2=>⟨hok b h2 h1,by rw [hw]⟩) h7 h5,h6,h7⟩,fun h=>h,rfl⟩
  | itr id m=>simp [V.view] at e
  | irr id=>simp [V.view] at e
  | agg cs =>
   simp only [V.view] at e
   obtain ⟨r,h1,rfl⟩:=map_some e
   simp only [R] at hx ⊢
   obtain ⟨vs,hx,hl⟩:=hx
   obtain ⟨q1,q2,q3⟩:=Q5o ih (by simpa [V.blo] using ho) h1 hl
   exact ⟨⟨vs,hx,q1⟩,fun h=>by simp [V.one] at h,by simpa [V.blo] using q3⟩
  | tup cs =>
   simp only [V.view] at e
   obtain ⟨r,h1,rfl⟩:=map_some e
   simp only [R] at hx ⊢
   obtain ⟨vs,hx,hl⟩:=hx
   obtain ⟨q1,q2,q3⟩:=Q5o ih (by simpa [V.blo] using ho) h1 hl
   exact ⟨⟨vs,hx,q1⟩,fun h=>by simp [V.one] at h,by simpa [V.blo] using q3⟩
  | iface t y =>
   simp only [V.view] at e
   obtain ⟨r,h1,rfl⟩:=map_some e
   simp only [R] at hx ⊢
   obtain ⟨vs,hx,hl⟩:=hx
   obtain ⟨q1,q2,q3⟩:=ih _ _ _ (by simpa [V.blo] using ho) h1 hl
   exact ⟨⟨vs,hx,q1⟩,fun _=>rfl,by simpa [V.blo] using q3⟩
  | bf t y =>
   simp only [V.view] at e
   obtain ⟨r,h1,rfl⟩:=map_some e
   simp only [R] at hx ⊢
   obtain ⟨vs,hx,hl⟩:=hx
   obtain ⟨q1,q2,q3⟩:=ih _ _ _ (by simpa [V.blo] using ho) h1 hl
   exact ⟨⟨vs,hx,q1⟩,fun _=>rfl,by simpa [V.blo] using q3⟩
  | fn f cs =>
   simp only [V.view] at e
   obtain ⟨r,h1,rfl⟩:=map_some e
   simp only [R] at hx ⊢
   obtain ⟨vs,hx,hl⟩:=hx
   obtain ⟨q1,q2,q3⟩:=Q5o ih (by simpa [V.blo] using ho) h1 hl
   exact ⟨⟨vs,hx,q1⟩,fun _=>rfl,by simpa [V.blo] using q3⟩
  | sl clip len cells =>
   simp only [V.view,jA] at e;subst e
   simp only [R] at hx ⊢
   rcases hx with hx|⟨b,off,cap,vs,hx,hk,hc,hl,hp,h1,h2⟩
   ·exact ⟨.inl hx,fun h=>h,rfl⟩
   exact ⟨.inr ⟨b,off,cap,vs,hx,hk.imp id fun h=>⟨hok b h.2 h.1,by rw [hw];exact h.2⟩,by rw [hw];exact hc,hov _ _ hp hl,hp,h1,h2⟩,fun h=>h,rfl⟩
  | rp cells off =>
   simp only [V.view,jA] at e;subst e
   simp only [R] at hx ⊢
   obtain ⟨b,o,vs,hx,hk,hc,hl,hp⟩:=hx
   exact ⟨⟨b,o,vs,hx,hk.imp id fun h=>⟨hok b h.2 h.1,by rw [hw];exact h.2⟩,by rw [hw];exact hc,hov _ _ hp hl,hp⟩,fun h=>h,rfl⟩
  | nilsl =>
   simp only [V.view,jA] at e;subst e
   simp only [R] at hx ⊢
   exact ⟨.inl ⟨none,by simp [hx]⟩,fun _=>rfl,rfl⟩
  | esl =>
   simp only [V.view,jA] at e;subst e
   simp only [R] at hx ⊢
   obtain ⟨a,cap,rfl,hca⟩:=hx
   refine ⟨?_,fun _=>rfl,rfl⟩
   rcases hca with rfl|hs
   ·exact .inl ⟨some a,rfl,trivial,trivial⟩
   ·obtain ⟨b,o,s⟩:=a
    simp only at hs;subst hs
    exact .inr ⟨b,o,cap,[],rfl,.inl rfl,trivial,RL.nil,⟨rfl,rfl⟩,Nat.zero_le _,fun h=>by cases h⟩
  | _=>simp only [V.view,jA] at e;subst e;exact ⟨by simpa only [R] using hx,fun h=>h,rfl⟩
theorem Qdy {k k0:K} (g:Good P k) (hw:k0.w=k.w) (hok:∀ b,b<k.w.heap.size→k.ok b→k0.ok b) {n:Nat} {l l':List V} {xs:List Value} (ho:blos 0 l=true∨∀ b,b<k.w.heap.size→k.own b→k0.ok b) (e:Q1o k.h n l=some l') (hx:RL k l xs) :
  RL k0 l' xs∧(ones l=true→ones l'=true)∧blos 0 l'=true:=Q5o (fun _ _ _=>Qc4 g hw hok) ho e hx
theorem Qct {k k0:K} {p:V→Bool} {f:V→Option V} (hf:∀ v v' x,p v=true→f v=some v'→R k v x→R k0 v' x∧(v.one=true→v'.one=true)∧v'.blo 0=true):∀ {l l':List V} {xs:List Value},allB p l=true→mapO f l=some l'→RL k l xs →
  RL k0 l' xs∧(ones l=true→ones l'=true)∧blos 0 l'=true
 | [],l',xs,_,e,hx=>by
  simp only [mapO,jA] at e;subst e
  simp only [RL] at hx;subst hx
  exact ⟨RL.nil,fun h=>h,rfl⟩
 | v::l,l',xs,ho,e,hx=>by
  obtain ⟨x,r0,rfl,hx,hr0⟩:=(by simpa [RL] using hx:∃ x r,xs=x::r∧R k v x∧RL k l r)
  simp only [allB,jF] at ho
  simp only [mapO] at e
  split at e<;>(try (cases e;done))
  rename_i y hy
  split at e<;>(try (cases e;done))
  rename_i r hr
  cases e
  obtain ⟨q1,q2,q3⟩:=hf _ _ _ ho.1 hy hx
  obtain ⟨q4,q5,q6⟩:=Qct hf ho.2 hr hr0
  refine ⟨RL.cons q1 q4,fun h=>?_,?_⟩
  ·simp only [ones,jF] at h ⊢;exact ⟨q2 h.1,q5 h.2⟩
  ·simp only [blos,jF];exact ⟨q3,q6⟩
theorem Qmo {k k0:K} (g:Good P k) (hw:k0.w=k.w) (hown:∀ b,b<k.w.heap.size→k.own b→k0.ok b):∀ {n:Nat} {v v':V} {x:Value},V.view k.h n v=some v'→V.fresh k.h n v=true→R k v x →
  R k0 v' x∧(v.one=true→v'.one=true)∧v'.blo 0=true
 | 0,_,_,_,e,_,_=>by simp [V.view] at e
 | n+1,v,v',x,e,hf,hx=>by
  have ih:∀ v v' x,V.fresh k.h n v=true→V.view k.h n v=some v'→R k v x→R k0 v' x∧(v.one=true→v'.one=true)∧v'.blo 0=true:=fun v v' x h1 h2=>Qmo g hw hown h2 h1
  cases v with
  | ms es id gg off len clip =>
   simp only [V.view] at e
   split at e<;>(try (cases e;done))
   rename_i c dat0 hbk
   split at e<;>(try (cases e;done))
   rename_i hcg
   split at e<;>(try (cases e;done))
   rename_i cs hcs
   split at e<;>(try (cases e;done))
   rename_i r hr
   cases e
   simp only [V.fresh,hbk,hcg,if_true,hcs] at hf
   simp only [R] at hx
   obtain ⟨b,o',cap,c0,dat,rfl,hbk0,hgc,hlc,hclip,hpos⟩:=hx
   rw [hbk] at hbk0;cases hbk0
   obtain ⟨p1,p0,p2⟩:=hpos hcg.symm
   obtain ⟨_,_,hones,_⟩:=g.blk id c dat0 hbk
   obtain ⟨rfl,hl⟩:=Q0v hcs
   have hat:=g.at (Q0i hbk)
   rw [p0] at hat
   have hokb:k0.ok b:=hown b hat.2 ⟨id,Q0i hbk,p0⟩
   have hsz:b<k0.w.heap.size:=by rw [hw];exact hat.2
   by_cases hc0:cap=0
   ·have hn0:len=0:=by omega
    subst hn0
    have hr0:=Q7c hr
    simp only [Nat.zero_mul,List.take_zero,List.length_nil] at hr0
    have hr1:r=[]:=List.eq_nil_of_length_eq_zero hr0
    subst hr1
    refine ⟨?_,fun _=>rfl,rfl⟩
    simp only [R]
    exact .inr ⟨b,o',cap,[],rfl,.inl rfl,trivial,RL.nil,⟨rfl,rfl⟩,hlc,hclip⟩
   ·obtain ⟨p3,p4,p5⟩:=p2 hc0
    obtain ⟨vs,c1,c2,c3⟩:=Q37 g hbk hcs p4
    obtain ⟨q1,q2,q3⟩:=Qct ih hf hr c2
    refine ⟨?_,fun _=>rfl,rfl⟩
    simp only [R]
    rw [p3,← hw] at c1
    exact .inr ⟨b,o',cap,vs,rfl,okv.mk hokb hsz,c1,q1,⟨q2 (ones_take (ones_drop hones _) _),q3⟩,hlc,hclip⟩
  | ref id gg off=>simp [V.fresh] at hf
  | yld id=>simp [V.view] at e
  | dead=>simp [V.view] at e
  | mr id=>simp [V.fresh] at hf
  | rm ks vs=>simp [V.fresh] at hf
  | itr id m=>simp [V.view] at e
  | irr id=>simp [V.view] at e
  | agg cs =>
   simp only [V.view] at e
   simp only [V.fresh] at hf
   obtain ⟨r,h1,rfl⟩:=map_some e
   simp only [R] at hx ⊢
   obtain ⟨vs,hx,hl⟩:=hx
   obtain ⟨q1,q2,q3⟩:=Qct ih hf h1 hl
   exact ⟨⟨vs,hx,q1⟩,fun h=>by simp [V.one] at h,by simpa [V.blo] using q3⟩
  | tup cs =>
   simp only [V.view] at e
   simp only [V.fresh] at hf
   obtain ⟨r,h1,rfl⟩:=map_some e
   simp only [R] at hx ⊢
   obtain ⟨vs,hx,hl⟩:=hx
   obtain ⟨q1,q2,q3⟩:=Qct ih hf h1 hl
   exact ⟨⟨vs,hx,q1⟩,fun h=>by simp [V.one] at h,by simpa [V.blo] using q3⟩
  | iface t y =>
   simp only [V.view] at e
   simp only [V.fresh] at hf
   obtain ⟨r,h1,rfl⟩:=map_some e
   simp only [R] at hx ⊢
   obtain ⟨vs,hx,hl⟩:=hx
   obtain ⟨q1,q2,q3⟩:=ih _ _ _ hf h1 hl
   exact ⟨⟨vs,hx,q1⟩,fun _=>rfl,by simpa [V.blo] using q3⟩
  | bf t y =>
   simp only [V.view] at e
   simp only [V.fresh] at hf
   obtain ⟨r,h1,rfl⟩:=map_some e
   simp only [R] at hx ⊢
   obtain ⟨vs,hx,hl⟩:=hx
   obtain ⟨q1,q2,q3⟩:=ih _ _ _ hf h1 hl
   exact ⟨⟨vs,hx,q1⟩,fun _=>rfl,by simpa [V.blo] using q3⟩
  | fn f cs =>
   simp only [V.view] at e
   simp only [V.fresh] at hf
   obtain ⟨r,h1,rfl⟩:=map_some e
   simp only [R] at hx ⊢
   obtain ⟨vs,hx,hl⟩:=hx
   obtain ⟨q1,q2,q3⟩:=Qct ih hf h1 hl
   exact ⟨⟨vs,hx,q1⟩,fun _=>rfl,by simpa [V.blo] using q3⟩
  | sl clip len cells =>
   simp only [V.view,jA] at e;subst e
   simp only [V.fresh,List.isEmpty_iff] at hf
   subst hf
   simp only [R] at hx ⊢
   rcases hx with hx|⟨b,off,cap,vs,hx,hk,hc,hl,hp,h1,h2⟩
   ·exact ⟨.inl hx,fun h=>h,rfl⟩
   have hvs:vs=[]:=by simpa [RL] using hl
   subst hvs
   exact ⟨.inr ⟨b,off,cap,[],hx,.inl rfl,trivial,RL.nil,hp,h1,h2⟩,fun h=>h,rfl⟩
  | rp cells off=>simp [V.fresh] at hf
  | nilsl =>
   simp only [V.view,jA] at e;subst e
   simp only [R] at hx ⊢
   exact ⟨.inl ⟨none,by simp [hx]⟩,fun _=>rfl,rfl⟩
  | esl =>
   simp only [V.view,jA] at e;subst e
   simp only [R] at hx ⊢
   obtain ⟨a,cap,rfl,hca⟩:=hx
   refine ⟨?_,fun _=>rfl,rfl⟩
   rcases hca with rfl|hs
   ·exact .inl ⟨some a,rfl,trivial,trivial⟩
   ·obtain ⟨b,o,s⟩:=a
    simp only at hs;subst hs
    exact .inr ⟨b,o,cap,[],rfl,.inl rfl,trivial,RL.nil,⟨rfl,rfl⟩,Nat.zero_le _,fun h=>by cases h⟩
  | _=>simp only [V.view,jA] at e;subst e;exact ⟨by simpa only [R] using hx,fun h=>h,rfl⟩
def K.bare (A:Nat→Prop) (w:World):K:={ n0:=w.heap.size,A:=A,h:=[],β:=fun _=>(0,0),w:=w }
theorem Q61 (A:Nat→Prop) (w:World) (ht:GT.bs P≤w.heap.size∧GT.ok P w):Good P (K.bare A w) :=
 ⟨Nat.le_refl _,fun id c dat h=>by simp [K.bare,bget] at h,fun id r p tm ps a b h=>by simp [K.bare,bget] at h,fun i j h _ _=>by obtain ⟨b,hb,_⟩:=h;simp [K.bare,bget] at hb,fun id b h _=>by simp [K.bare,bget] at h,ht⟩
theorem Qu9 {n:Nat} (hF:Q1h P F) (hn:Q2m P F md n) {ro f:Nat} {caps args:List V} {k:K} {fx:Value} {xs:List Value} {v:V} {h':List B} (g:Good P k) (hf:R k (.fn f caps) fx) (ha:RL k args xs)
  (e:Q07 F md ro (run F md n) (.fn f caps) args k.h=some (v,h')) (hm:mode md (.fn f caps) args=0):∃ cvs,fx=.func (.func f) #[] ⟨cvs⟩∧(Q1g fx ⟨xs⟩).run P k.w=.ok (.enter f ⟨xs++cvs⟩) k.w∧Calls P f ⟨xs++cvs⟩ k.w (Back P ro k v h'):=by
 obtain ⟨fc,hfc,hnp,hcase⟩:=Q3h e
 obtain ⟨fn,hfn,hb,hname,_⟩:=hF f fc hfc
 simp only [R] at hf
 obtain ⟨cvs,rfl,hcaps⟩:=hf
 have has:=RL.append ha hcaps
 refine ⟨cvs,rfl,Qab hfn hb hname cvs xs k.w,?_⟩
 rcases hcase with ⟨_,as',x,st,v0,v1,hvs,hrun,hx,hv,hv',hcond,hr⟩|⟨h1,_⟩|⟨h0,_⟩
 rotate_left
 ·rw [hm] at h1;cases h1
 ·exact absurd hm h0
 simp only [jN] at hr
 obtain ⟨rfl,rfl⟩:=hr
 have hlen:as'.length=fc.np:=by rw [Qjz hvs];exact hnp
 by_cases hz:blos 0 (args++caps)=true
 ·have g0:=Q61 (P:=P) k.ok k.w (g.tab.low (k':=K.bare k.ok k.w) g.size (.refl _ _))
  obtain ⟨h0,_,_⟩:=Qdy (k0:=K.bare k.ok k.w) g rfl (fun b hb h=>.inl ⟨hb,h⟩) (.inl hz) hvs has
  refine Q5z (k:=K.bare k.ok k.w) hn hF hfc g0 h0 hlen hrun hx hv fun y k1 hh g1 e1 hy=>?_
  have hbel:Below k.w.heap.size k.w k1.w:=e1.low
  obtain ⟨g2,e2⟩:=g.world (hbel.mono g.size) (fun b hb=>hbel.block b hb) ro k.h.length
  have hown:∀ b,k.own b→b<k.w.heap.size:=by rintro b ⟨id,l,rfl⟩;exact (g.at l).2
  rw [← hh] at hv'
  have hall:∀ b,b<k1.w.heap.size→k1.ok b∨k1.own b→K.ok { k with w:=k1.w } b:=fun b hb hbo=>by
   have hn1:k1.n0=k.w.heap.size:=e1.n0
   have hA1:k1.A=k.ok:=e1.A
   have hge:k.w.heap.size≤b→K.ok { k with w:=k1.w } b:=fun h=>.inr ⟨Nat.le_trans g.size h,fun ho=>by have:=hown b ho;omega⟩
   rcases hbo with (⟨h1,h2⟩|⟨h1,_⟩)|⟨id,l,rfl⟩
   ·rw [hA1] at h2;exact h2
   ·exact hge (by omega)
   ·exact hge (by have:=(g1.at l).1;omega)
  obtain ⟨q1,_,_⟩:=Qc4 (k0:={ k with w:=k1.w }) g1 rfl (fun b hb h=>hall b hb (.inl h)) (.inr fun b hb h=>hall b hb (.inr h)) hv' hy
  exact ⟨y,{ k with w:=k1.w },rfl,rfl,rfl,g2,e2,q1⟩
 ·have hsc:=hcond.resolve_left hz
  rcases hsc with hsc|hfr
  rotate_left
  ·have g0:=Q61 (P:=P) (fun _=>True) k.w (g.tab.low (k':=K.bare (fun _=>True) k.w) g.size (.refl _ _))
   obtain ⟨h0,_,_⟩:=Qdy (k0:=K.bare (fun _=>True) k.w) g rfl (fun b hb _=>.inl ⟨hb,trivial⟩) (.inr fun b hb _=>.inl ⟨hb,trivial⟩) hvs has
   refine Q5z (k:=K.bare (fun _=>True) k.w) hn hF hfc g0 h0 hlen hrun hx hv fun y k1 hh g1 e1 hy=>?_
   have hbel:Below k.w.heap.size k.w k1.w:=e1.low
   obtain ⟨g2,e2⟩:=g.world (hbel.mono g.size) (fun b hb=>hbel.block b hb) ro k.h.length
   have hown:∀ b,k.own b→b<k.w.heap.size:=by rintro b ⟨id,l,rfl⟩;exact (g.at l).2
   rw [← hh] at hv' hfr
   obtain ⟨q1,_,_⟩:=Qmo (k0:={ k with w:=k1.w }) g1 rfl (fun b hb hbo=>by
    have hn1:k1.n0=k.w.heap.size:=e1.n0
    obtain ⟨id,l,rfl⟩:=hbo
    have hge:k.w.heap.size≤(k1.β id).1:=by have:=(g1.at l).1;omega
    exact .inr ⟨Nat.le_trans g.size hge,fun ho=>by have:=hown _ ho;omega⟩) hv' hfr hy
   exact ⟨y,{ k with w:=k1.w },rfl,rfl,rfl,g2,e2,q1⟩
  have g0:=Q61 (P:=P) (fun _=>True) k.w (g.tab.low (k':=K.bare (fun _=>True) k.w) g.size (.refl _ _))
  obtain ⟨h0,_,_⟩:=Qdy (k0:=K.bare (fun _=>True) k.w) g rfl (fun b hb _=>.inl ⟨hb,trivial⟩) (.inr fun b hb _=>.inl ⟨hb,trivial⟩) hvs has
  refine Q5z (k:=K.bare (fun _=>True) k.w) hn hF hfc g0 h0 hlen hrun hx hv fun y k1 hh g1 e1 hy=>?_
  have hbel:Below k.w.heap.size k.w k1.w:=e1.low
  obtain ⟨g2,e2⟩:=g.world (hbel.mono g.size) (fun b hb=>hbel.block b hb) ro k.h.length
  rw [← hh] at hv'
  obtain ⟨q1,_,_⟩:=Qc4 (k0:=K.bare (fun _=>True) k1.w) g1 rfl (fun b hb _=>.inl ⟨hb,trivial⟩) (.inr fun b hb _=>.inl ⟨hb,trivial⟩) hv' hy
  exact ⟨y,{ k with w:=k1.w },rfl,rfl,rfl,g2,e2,Q76 hsc q1⟩
theorem Qmr {n:Nat} (hF:Q1h P F) (hn:Q2m P F md n) {ro f:Nat} {caps args:List V} {k:K} {fx:Value} {xs:List Value} {v:V} {h':List B} (g:Good P k) (hf:R k (.fn f caps) fx) (ha:RL k args xs)
  (e:Q07 F md ro (run F md n) (.fn f caps) args k.h=some (v,h')):∃ cvs,fx=.func (.func f) #[] ⟨cvs⟩∧(Q1g fx ⟨xs⟩).run P k.w=.ok (.enter f ⟨xs++cvs⟩) k.w∧Calls P f ⟨xs++cvs⟩ k.w (Back P ro k v h'):=by
 by_cases hm:mode md (.fn f caps) args=0
 ·exact Qu9 hF hn g hf ha e hm
 ·exact Qd1 hF hn g hf ha e hm
theorem Qrf {n:Nat} (hF:Q1h P F) (hn:Q2m P F md n) (ro:Nat):Qfq P (Q07 F md ro (run F md n)) ro:=by
 intro k fv as fx xs v h' g hf ha e
 cases fv with
 | fn f caps =>
  obtain ⟨cvs,_,h1,h2⟩:=Qmr hF hn g hf ha e
  exact .called f _ k.w h1 h2
 | bf f v0 =>
  simp only [R] at hf
  obtain ⟨y,rfl,hy⟩:=hf
  obtain ⟨cvs,hc,h1,h2⟩:=Qmr hF hn (fx:=.func (.func f) #[] ⟨[]⟩) g (by simp only [R];exact ⟨[],rfl,by simp [RL]⟩) (RL.cons hy ha) e
  refine .called f _ k.w ?_ h2
  rw [← h1]
  simp [Q1g,Deferred.ofValue]
 | yld id=>exact Qoa hn g hf ha e
 | _=>simp [Q07] at e
theorem Qck {n ro:Nat} (f:Nat) (caps as:List V) (h:List B) (v:V) (h':List B) (e:Q07 F md ro (run F md n) (.fn f caps) as h=some (v,h')) :
  (mode md (.fn f caps) as=0→h'=h∧(blos 0 (.fn f caps::as)=true→∀ g,Q07 F md ro (run F md n) (.fn f caps) as g=some (v,g))∧∀ id b,bget h id=some .unborn→Q07 F md ro (run F md n) (.fn f caps) as (bset h id b)=some (v,bset h id b))∧(mode md (.fn f caps) as=2→h'=h):=by
 obtain ⟨fc,hfc,hnp,hcase⟩:=Q3h e
 refine ⟨fun hm=>?_,fun hm=>?_⟩
 ·rcases hcase with ⟨_,as',x,st,v0,v',hvs,hrun,hx,hv,hv',hcond,hr⟩|⟨h1,_⟩|⟨h0,_⟩
  ·simp only [jN] at hr
   obtain ⟨rfl,rfl⟩:=hr
   refine ⟨rfl,fun hb g=>?_,fun id b hu=>?_⟩
   ·have hb':blos 0 (as++caps)=true:=by
     rw [Q3w]
     simp only [blos,V.blo,jF] at hb ⊢
     exact ⟨hb.2,hb.1⟩
    have q2:=Qk0 (g:=g) hvs hb'
    simp only [Q07,hfc,hnp,if_true,hm,q2]
    rcases hx with rfl|rfl<;>simp only [hrun,hv,hv',hb',Bool.true_or,if_true]
   ·have q2:=Qi7 (b:=b) hu hvs
    have hc2:(blos 0 (as++caps)||v.scalar||V.fresh st.h depth v0)=true:=by rcases hcond with h|h|h<;>simp [h]
    simp only [Q07,hfc,hnp,if_true,hm,q2]
    rcases hx with rfl|rfl<;>simp only [hrun,hv,hv',hc2,if_true]
  ·rw [hm] at h1;cases h1
  ·exact absurd hm h0
 ·rcases hcase with ⟨h0,_⟩|⟨h1,_⟩|⟨_,_,x,st,v0,_,_,_,_,hr⟩
  ·rw [hm] at h0;cases h0
  ·rw [hm] at h1;cases h1
  ·simp only [jN] at hr;exact hr.2
theorem orc_fp {n ro:Nat}:Qdt md (Q07 F md ro (run F md n)):=by
 intro fv as h v h' e
 cases fv with
 | fn f caps=>exact Qck f caps as h v h' e
 | bf f v0 =>
  obtain ⟨q1,q2⟩:=Qck f [] (v0::as) h v h' e
  refine ⟨fun hm=>?_,q2⟩
  obtain ⟨r1,r2,r3⟩:=q1 hm
  exact ⟨r1,fun hb=>r2 (by simpa [blos,V.blo] using hb),r3⟩
 | yld id=>exact ⟨fun h=>by simp [mode] at h,fun h=>by simp [mode] at h⟩
 | _=>simp [Q07] at e
theorem Q62 (hF:Q1h P F):∀ n,Q2m P F md n∧(∀ ro m hl mc st x st',run F md n ro (.lp m hl mc) st=some (x,st')→Q63 P ro hl mc st x st')
 | 0=>⟨fun ro mc st x st' h=>by simp [run] at h,fun ro m hl mc st x st' h=>by simp [run] at h⟩
 | n+1=>by
  obtain ⟨h1,h2⟩:=Q62 hF n
  exact ⟨Qjp h1 h2 (fun ro=>⟨Qrf hF h1 ro,orc_fp⟩) (Ql1 hF h1),fun ro m hl mc st x st' h=>Qlw h1 h2 h⟩
theorem Qfm (hF:Q1h P F) {n f:Nat} {args:List V} {v:V} {xs:List Value} {w:World} (ht:GT.bs P≤w.heap.size∧GT.ok P w) (e:Qj8 F md n f args=some v) (ha:RL (K.bare (fun _=>True) w) args xs) :
  Calls P f ⟨xs⟩ w fun en w'=>∃ y k',en=.returned y∧k'.w=w'∧Below w.heap.size w w'∧R k' v y:=by
 unfold Qj8 at e
 split at e<;>(try (cases e;done))
 rename_i v0 h' he
 cases e
 have hf:R (K.bare (fun _=>True) w) (.fn f []) (.func (.func f) #[] #[]):=by simp only [R];exact ⟨[],rfl,RL.nil⟩
 obtain ⟨cvs,hc,_,h2⟩:=Qmr hF (Q62 hF n).1 (Q61 (fun _=>True) w ht) hf ha he
 simp only [Value.func.injEq] at hc
 obtain ⟨_,_,hc⟩:=hc
 cases hc
 rw [List.append_nil] at h2
 refine h2.mono ?_
 rintro en w' ⟨y,k',rfl,rfl,_,_,ev,hy⟩
 exact ⟨y,k',rfl,rfl,ev.low,hy⟩
end Go.Dr
