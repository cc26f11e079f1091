/- The door: how arguments that are data are read: as values of their types. -/
import Derived.Test.YtbnmdlnkhghbpaaGreatDoorDrD
import Derived.ChangeArms
import Derived.OpenShut
import Derived.DataReads
import Derived.Carry
import Derived.ChangeSame
import Derived.JoinedCond
import Derived.ChangeCalls
namespace Go.Dr
open Go.RowKit (Below)
inductive Ty where
 | bool
 | int (k:IntKind)
 | str
 | slice (n:Nat) (e:Ty)
 | agg (l:List Ty)
mutual
def Ty.has:Ty→List V→(ex:Bool:=false)→Prop
 | .bool,l,_=>∃ b,l=[.bool b]
 | .int k,l,_=>∃ n,l=[.int k n]∧k.min≤n∧n≤k.max
 | .str,l,_=>∃ s,l=[.str s]
 | .slice n e,l,false=>∃ xs:List (List V),l=[.sl false xs.length xs.flatten]∧∀ x∈xs,x.length=n∧Ty.has e x false
 | .slice n e,l,true=>l=[.nilsl]∨l=[.esl]∨∃ xs:List (List V),xs≠[]∧l=[.sl false xs.length xs.flatten]∧∀ x∈xs,x.length=n∧Ty.has e x false
 | .agg ts,l,ex=>Ty.hasAll ts l ex
def Ty.hasAll:List Ty→List V→(ex:Bool:=false)→Prop
 | [],l,_=>l=[]
 | t::ts,l,ex=>∃ a b,l=a++b∧Ty.has t a ex∧Ty.hasAll ts b ex
end
def Ty.val (T:Ty) (v:V) (ex:Bool:=false):Prop :=
 match T with
 | .agg ts=>∃ l,v=.agg l∧Ty.hasAll ts l ex
 | T=>Ty.has T [v] ex
mutual
def V.bulk:V→Nat
 | .str s=>s.length+1
 | .sl _ _ cs=>bulks cs+1
 | .agg cs=>bulks cs
 | _=>1
def bulks:List V→Nat
 | []=>0
 | v::l=>v.bulk+bulks l
end
theorem Q4e (a b:List V):bulks (a++b)=bulks a+bulks b:=by
 induction a with
 | nil=>simp [bulks]
 | cons v l ih=>simp only [List.cons_append,bulks,ih];omega
structure Bulk (H:Type) where
 bk:DataW H→Nat
 bks:List (DataW H)→Nat
 one:∀ d,1≤bk d
 str:∀ s,s.length+1≤bk (.lit (.string s))
 slice:∀ e s,bks e+1≤bk (.slice e s)
 agg:∀ p,bks p≤bk (.agg p)
 nil:bks []=0
 cons:∀ d r,bks (d::r)=bk d+bks r
mutual
def Q6p {H:Type}:DataW H→Nat
 | .lit (.string s)=>s.length+1
 | .slice e _=>Qad e+1
 | .agg p=>Qad p+1
 | _=>1
def Qad {H:Type}:List (DataW H)→Nat
 | []=>0
 | d::r=>Q6p d+Qad r
end
theorem Qqr {H:Type} (d:DataW H):1≤Q6p d:=by
 cases d with
 | lit l=>cases l<;>simp [Q6p]
 | slice e s=>simp [Q6p]
 | agg p=>simp [Q6p]
 | _=>simp [Q6p]
theorem Qqq {H:Type} (s:List UInt8):s.length+1≤Q6p (DataW.lit (H:=H) (.string s)):=by simp [Q6p]
theorem Qj9 {H:Type} (e s:List (DataW H)):Qad e+1≤Q6p (.slice e s):=by simp [Q6p]
theorem Qqs {H:Type} (p:List (DataW H)):Qad p≤Q6p (.agg p):=by simp [Q6p]
variable {P:Program} {ex:Bool}
def tyFs (P:Program) (ty:Nat→Option Ty) (tot:Nat):Nat→List Field→Option (List Ty)
 | acc,[]=>if acc=tot then some [] else none
 | acc,f::fs=>if f.offset=acc then
   match ty f.type with
   | some T=>match tyFs P ty tot (acc+P.cellsOf f.type) fs with
    | some r=>some (T::r)
    | none=>none
   | none=>none
  else none
def tyOf (P:Program):Nat→Nat→Option Ty
 | 0,_=>none
 | n+1,t=>match P.underlying t with
  | some .bool=>some .bool
  | some (.int k)=>some (.int k)
  | some .string=>some .str
  | some (.slice e)=>if P.cellsOf e=0 then none else (tyOf P n e).map (.slice (P.cellsOf e))
  | some (.struct fs)=>(tyFs P (tyOf P n) (P.cellsOf t) 0 fs.toList).map .agg
  | some (.array m e)=>if m*P.cellsOf e=P.cellsOf t then (tyOf P n e).map fun T=>.agg (List.replicate m T) else none
  | _=>none
section
variable {H:Type} {enc:TypeId × Value→H} {w:World}
theorem Q91 {a:Addr} {v:Value} (h:w.cell? a=some v):a.spot=none∧a.block<w.heap.size∧w.cell? ⟨a.block,a.off,none⟩=some v:=by
 have h':=h
 unfold World.cell? at h
 split at h<;>(try (cases h;done))
 rename_i c T fr hb
 split at h<;>(try (cases h;done))
 rename_i hs
 have hsp:a.spot=none:=by simpa using hs
 obtain ⟨b,o,s⟩:=a
 simp only at hsp;subst hsp
 exact ⟨rfl,(jP.1 hb).1,h'⟩
theorem Qds (a:Addr) (n:Nat):(a.add n).block=a.block:=by unfold Addr.add;split<;>rfl
theorem Qo7 (a:Addr) (n:Nat):(a.add n).off=a.off+n:=by
 unfold Addr.add;split
 ·rename_i h;simp [h]
 ·rfl
theorem cellsAt_of {b:Nat}:∀ {cs:List Value} {off:Nat},(∀ i,i<cs.length→w.cell? ⟨b,off+i,none⟩=cs[i]?)→cellsAt w b off cs
 | [],_,_=>trivial
 | c::cs,off,h=>⟨by simpa using h 0 (by simp),cellsAt_of fun i hi=>by
   have:=h (i+1) (by simp;omega)
   rw [show off+1+i=off+(i+1) by omega];simpa using this⟩
structure Rd (ex:Bool) (w:World) (T:Ty) (cs:List Value) (n:Nat) (l:List V):Prop where
 has:Ty.has T l ex
 rl:RL (K.bare (fun _=>True) w) l cs
 ones:ones l=true
 blos:blos 0 l=true
 bulk:bulks l≤n
structure RdAll (ex:Bool) (w:World) (Ts:List Ty) (cs:List Value) (n:Nat) (l:List V):Prop where
 has:Ty.hasAll Ts l ex
 rl:RL (K.bare (fun _=>True) w) l cs
 ones:ones l=true
 blos:blos 0 l=true
 bulk:bulks l≤n
theorem Qn2 (B:Bulk H) {n e:Nat} {T:Ty} {C:Nat} {a:Addr} (ih:∀ cs x,DataW.trod enc P w 0 (fun _=>true) true n e cs=some x→∃ l,Rd ex w T cs (B.bk x.1) l) :
  ∀ (elems:List (DataW H × List MemPlace)) (o:Nat),(∀ i,i<elems.length→(w.cells? 0 (a.add ((o+i)*C)) C).bind (DataW.trod enc P w 0 (fun _=>true) true n e)=elems[i]?) →
   ∃ (xs:List (List V)) (vs:List Value),xs.length=elems.length∧cellsAt w a.block (a.off+o*C) vs∧RL (K.bare (fun _=>True) w) xs.flatten vs∧ones xs.flatten=true∧blos 0 xs.flatten=true∧bulks xs.flatten≤B.bks (elems.map (·.1))∧∀ x∈xs,x.length=C∧Ty.has T x ex
 | [],o,_=>⟨[],[],rfl,trivial,RL.nil,rfl,rfl,by simp [bulks],by simp⟩
 | x::elems,o,h=>by
  have h0:=h 0 (by simp)
  simp only [Nat.add_zero,List.getElem?_cons_zero] at h0
  obtain ⟨cs,hc,hx⟩:=Option.bind_eq_some_iff.1 h0
  obtain ⟨l,hl⟩:=ih cs x hx
  obtain ⟨xs,vs,q1,q2,q3,q4,q5,q6,q7⟩:=Qn2 B ih elems (o+1) (fun i hi=>by
   have:=h (i+1) (by simp;omega)
   rw [show o+1+i=o+(i+1) by omega];simpa using this)
  obtain ⟨_,hcl,hat⟩:=World.cells?_some hc
  have hlen:=RL.len hl.rl
  refine ⟨l::xs,cs++vs,by simp [q1],cellsAt_append.2 ⟨cellsAt_of fun i hi=>?_,?_⟩,?_,?_,?_,?_,?_⟩
  ·have h1:=hat i (by omega)
   have h2:cs[i]?=some cs[i]:=jC hi
   rw [h2] at h1 ⊢
   obtain ⟨_,_,h3⟩:=Q91 h1
   rw [Qds,Qo7,Qds,Qo7] at h3
   exact h3
  ·rw [hcl,Nat.add_assoc,show o*C+C=(o+1)*C by rw [Nat.add_mul];omega];exact q2
  ·simpa using RL.append hl.rl q3
  ·simp only [List.flatten_cons,ones_append,hl.ones,q4,Bool.and_self]
  ·simp only [List.flatten_cons,Q3w,hl.blos,q5,Bool.and_self]
  ·simp only [List.flatten_cons,Q4e,List.map_cons,B.cons];have:=hl.bulk;omega
  ·intro y hy
   rcases List.mem_cons.1 hy with rfl|hy
   ·exact ⟨by omega,hl.has⟩
   ·exact q7 y hy
theorem Qh8 (B:Bulk H) {n tot:Nat} {ty:Nat→Option Ty} (ih:∀ t T,ty t=some T→∀ cs x,DataW.trod enc P w 0 (fun _=>true) true n t cs=some x→∃ l,Rd ex w T cs (B.bk x.1) l) {cs:List Value} (hcs:cs.length=tot) :
  ∀ (fs:List Field) (acc:Nat) (Ts:List Ty) (xs:List (DataW H × List MemPlace)),tyFs P ty tot acc fs=some Ts→xs.length=fs.length →
   (∀ (i:Nat) (f:Field),fs[i]?=some f→DataW.trod enc P w 0 (fun _=>true) true n f.type ((cs.drop f.offset).take (P.cellsOf f.type))=xs[i]?) →
   ∃ l,RdAll ex w Ts (cs.drop acc) (B.bks (xs.map (·.1))) l
 | [],acc,Ts,xs,h,hx,_=>by
  simp only [tyFs] at h
  split at h<;>(try (cases h;done))
  rename_i ha
  cases h
  exact ⟨[],⟨rfl,by rw [List.drop_of_length_le (by omega)];exact RL.nil,rfl,rfl,by simp [bulks]⟩⟩
 | f::fs,acc,Ts,xs,h,hx,hf=>by
  simp only [tyFs] at h
  split at h<;>(try (cases h;done))
  rename_i ho
  split at h<;>(try (cases h;done))
  rename_i T hT
  split at h<;>(try (cases h;done))
  rename_i r hr
  cases h
  cases xs with
  | nil=>simp at hx
  | cons x xs =>
   have h0:=hf 0 f rfl
   simp only [List.getElem?_cons_zero] at h0
   obtain ⟨l,hl⟩:=ih _ _ hT _ _ h0
   obtain ⟨l2,hl2⟩:=Qh8 B ih hcs fs (acc+P.cellsOf f.type) r xs hr (by simpa using hx) (fun i g hg=>by have:=hf (i+1) g (by simpa using hg);simpa using this)
   refine ⟨l++l2,⟨⟨l,l2,rfl,hl.has,hl2.has⟩,?_,?_,?_,?_⟩⟩
   ·have:=RL.append hl.rl hl2.rl
    rw [ho,← List.drop_drop,List.take_append_drop] at this;exact this
   ·simp only [ones_append,hl.ones,hl2.ones,Bool.and_self]
   ·simp only [Q3w,hl.blos,hl2.blos,Bool.and_self]
   ·simp only [Q4e,List.map_cons,B.cons];have:=hl.bulk;have:=hl2.bulk;omega
theorem Qmb (B:Bulk H) {n e:Nat} {T:Ty} {C:Nat} {cs:List Value} (ih:∀ cs x,DataW.trod enc P w 0 (fun _=>true) true n e cs=some x→∃ l,Rd ex w T cs (B.bk x.1) l) :
  ∀ (xs:List (DataW H × List MemPlace)) (o:Nat),cs.length=(o+xs.length)*C→(∀ i,i<xs.length→DataW.trod enc P w 0 (fun _=>true) true n e ((cs.drop ((o+i)*C)).take C)=xs[i]?) →
   ∃ l,RdAll ex w (List.replicate xs.length T) (cs.drop (o*C)) (B.bks (xs.map (·.1))) l
 | [],o,hc,_=>⟨[],⟨rfl,by rw [List.drop_of_length_le (by simp at hc;omega)];exact RL.nil,rfl,rfl,by simp [bulks]⟩⟩
 | x::xs,o,hc,h=>by
  have h0:=h 0 (by simp)
  simp only [Nat.add_zero,List.getElem?_cons_zero] at h0
  obtain ⟨l,hl⟩:=ih _ _ h0
  obtain ⟨l2,hl2⟩:=Qmb B ih xs (o+1) (by rw [hc];congr 1;simp;omega) (fun i hi=>by
   have:=h (i+1) (by simp;omega)
   rw [show o+1+i=o+(i+1) by omega];simpa using this)
  refine ⟨l++l2,⟨?_,?_,?_,?_,?_⟩⟩
  ·rw [List.length_cons,List.replicate_succ];exact ⟨l,l2,rfl,hl.has,hl2.has⟩
  ·have:=RL.append hl.rl hl2.rl
   rw [show (o+1)*C=o*C+C by rw [Nat.add_mul];omega,← List.drop_drop,List.take_append_drop] at this;exact this
  ·simp only [ones_append,hl.ones,hl2.ones,Bool.and_self]
  ·simp only [Q3w,hl.blos,hl2.blos,Bool.and_self]
  ·simp only [Q4e,List.map_cons,B.cons];have:=hl.bulk;have:=hl2.bulk;omega
theorem Qg8 [GT P] (B:Bulk H):∀ (ex:Bool) (m t:Nat) (T:Ty),tyOf P m t=some T→∀ (n:Nat) (cs:List Value) (x:DataW H × List MemPlace),DataW.trod enc P w 0 (fun _=>true) true n t cs=some x→∃ l,Rd ex w T cs (B.bk x.1) l
 | _,0,_,_,h=>by simp [tyOf] at h
 | ex,m+1,t,T,h=>by
  intro n cs x hx
  simp only [tyOf] at h
  split at h<;>(try (cases h;done))
  ·rename_i hu
   cases h
   obtain ⟨b,rfl,rfl⟩:=DataW.trod_bool hu hx
   exact ⟨[.bool b],⟨b,rfl⟩,RL.cons (by simp [R]) RL.nil,rfl,rfl,by simp only [bulks,V.bulk];have:=B.one (.lit (.bool b));omega⟩
  ·rename_i k hu
   cases h
   obtain ⟨i,rfl,rfl,hw⟩:=DataW.trod_int hu hx
   exact ⟨[.int k i],⟨i,rfl,by simpa [Lit.wf] using hw⟩,RL.cons (by simp [R]) RL.nil,rfl,rfl,by simp only [bulks,V.bulk];have:=B.one (.lit (.int k i));omega⟩
  ·rename_i hu
   cases h
   obtain ⟨s,rfl,rfl,hw⟩:=DataW.trod_string hu hx
   exact ⟨[.str s.data.toList],⟨_,rfl⟩,RL.cons (by simp only [R]) RL.nil,rfl,rfl,by simp only [bulks,V.bulk];have:=B.str s.data.toList;omega⟩
  ·rename_i e hu
   split at h<;>(try (cases h;done))
   rename_i hC
   obtain ⟨Te,hTe,rfl⟩:=Option.map_eq_some_iff.1 h
   rcases DataW.trod_slice hu hx with ⟨rfl,rfl⟩|⟨a,len,cap,elems,rest,n',_,rfl,rfl,_,hlc,_,hel,hread,hsp,_⟩
   ·have h1:=B.one (H:=H) .nil
    cases ex with
    | false=>exact ⟨[.sl false 0 []],by simp only [Ty.has];exact ⟨[],rfl,by simp⟩,RL.cons (by simp only [R];exact .inl ⟨none,by simp⟩) RL.nil,rfl,rfl,by simp only [bulks,V.bulk];omega⟩
    | true=>exact ⟨[.nilsl],by simp only [Ty.has];exact .inl trivial,RL.cons (by simp only [R]) RL.nil,rfl,rfl,by simp only [bulks,V.bulk];omega⟩
   ·obtain ⟨xs,vs,q1,q2,q3,q4,q5,q6,q7⟩:=Qn2 (ex:=false) (enc:=enc) (P:=P) B (a:=a) (C:=P.cellsOf e) (fun cs x=>Qg8 B false m e Te hTe n' cs x) elems 0 (fun i hi=>by
     rw [Nat.zero_add];exact hread i (by omega))
    have hsl:xs.length=len:=by omega
    have hbk:=B.slice (elems.map (·.1)) (rest.map (·.1))
    have hcell:cap≠0→∃ v,w.cell? a=some v:=by
     intro hc0
     have key:∀ z,(w.cells? 0 a (P.cellsOf e)).bind (DataW.trod enc P w 0 (fun _=>true) true n' e)=some z→∃ v,w.cell? a=some v:=by
      intro z hz
      obtain ⟨cs,hcs,_⟩:=Option.bind_eq_some_iff.1 hz
      obtain ⟨_,h1,h2⟩:=World.cells?_some hcs
      have:=h2 0 (by omega)
      have h3:cs[0]?=some cs[0]:=jC (by omega)
      rw [h3] at this
      exact ⟨_,by simpa [Addr.add] using this⟩
     by_cases hl0:len=0
     ·subst hl0
      obtain ⟨r1,r2⟩:=hsp rfl
      have:=r2 0 (by omega)
      have h3:rest[0]?=some rest[0]:=jC (by omega)
      rw [h3] at this
      exact key _ (by simpa [Addr.add] using this)
     ·have:=hread 0 (by omega)
      have h3:elems[0]?=some elems[0]:=jC (by omega)
      rw [h3] at this
      exact key _ (by simpa [Addr.add] using this)
    have hR:R (K.bare (fun _=>True) w) (.sl false xs.length xs.flatten) (.slice (some a) len cap):=by
     simp only [R]
     by_cases hc0:cap=0
     ·have h0:len=0:=by omega
      have hxs:xs=[]:=List.eq_nil_of_length_eq_zero (by omega)
      subst h0 hc0 hxs
      exact .inl ⟨a,rfl,rfl,rfl⟩
     ·obtain ⟨v,hv⟩:=hcell hc0
      obtain ⟨s1,s2,_⟩:=Q91 hv
      obtain ⟨b,o,s⟩:=a
      simp only at s1 s2;subst s1
      exact .inr ⟨b,o,cap,vs,by rw [hsl],okv.mk (.inl ⟨s2,trivial⟩) s2,by have:=q2;simp only [Nat.zero_mul,Nat.add_zero] at this;exact this,q3,⟨q4,q5⟩,by omega,fun h=>by cases h⟩
    cases ex with
    | false=>exact ⟨[.sl false xs.length xs.flatten],by simp only [Ty.has];exact ⟨xs,rfl,q7⟩,RL.cons hR RL.nil,rfl,rfl,by simp only [bulks,V.bulk];omega⟩
    | true =>
     by_cases hxs:xs=[]
     ·subst hxs
      refine ⟨[.esl],by simp only [Ty.has];exact .inr (.inl trivial),RL.cons ?_ RL.nil,rfl,rfl,by simp only [bulks,V.bulk];omega⟩
      simp only [R]
      have h0:len=0:=by simpa using hsl.symm
      refine ⟨a,cap,by rw [h0],?_⟩
      by_cases hc0:cap=0
      ·exact .inl hc0
      ·obtain ⟨v,hv⟩:=hcell hc0
       exact .inr (Q91 hv).1
     ·exact ⟨[.sl false xs.length xs.flatten],by simp only [Ty.has];exact .inr (.inr ⟨xs,hxs,rfl,q7⟩),RL.cons hR RL.nil,rfl,rfl,by simp only [bulks,V.bulk];omega⟩
  ·rename_i fs hu
   obtain ⟨Ts,hTs,rfl⟩:=Option.map_eq_some_iff.1 h
   obtain ⟨xs,n',_,rfl,hl,hxl,hf⟩:=DataW.trod_struct hu hx
   obtain ⟨l,hl'⟩:=Qh8 (enc:=enc) B (fun t T hT cs x=>Qg8 B ex m t T hT n' cs x) hl fs.toList 0 Ts xs hTs (by simpa using hxl) (fun i f hf'=>hf i f (by simpa using hf'))
   exact ⟨l,hl'.has,by simpa using hl'.rl,hl'.ones,hl'.blos,Nat.le_trans hl'.bulk (B.agg _)⟩
  ·rename_i q e hu
   split at h<;>(try (cases h;done))
   rename_i hq
   obtain ⟨Te,hTe,rfl⟩:=Option.map_eq_some_iff.1 h
   obtain ⟨xs,n',_,rfl,hl,hxl,hf⟩:=DataW.trod_array hu hx
   obtain ⟨l,hl'⟩:=Qmb (enc:=enc) (P:=P) B (C:=P.cellsOf e) (cs:=cs) (fun cs x=>Qg8 B ex m e Te hTe n' cs x) xs 0 (by rw [hl,← hq,hxl,Nat.zero_add]) (fun i hi=>by rw [Nat.zero_add];exact hf i (by omega))
   rw [hxl] at hl'
   exact ⟨l,hl'.has,by simpa using hl'.rl,hl'.ones,hl'.blos,Nat.le_trans hl'.bulk (B.agg _)⟩
end
def Qk4 (P:Program):List Nat→Option (List Ty)
 | []=>some []
 | t::ts=>match tyOf P 64 t,Qk4 P ts with
  | some T,some r=>some (T::r)
  | _,_=>none
def Ty.vals:List Ty→List V→(ex:Bool:=false)→Prop
 | [],l,_=>l=[]
 | T::ts,l,ex=>∃ v r,l=v::r∧Ty.val T v ex∧Ty.vals ts r ex
section
variable {H:Type} {enc:TypeId × Value→H} {w:World}
theorem Qpa {t base:Nat} {v:Value} {r:Reach} (hok:Value.okWide P w r base t v) (h1:∀ fs,P.underlying t≠some (.struct fs)) (h2:∀ n e,P.underlying t≠some (.array n e)) (h3:∀ m,P.underlying t≠some (.interface m)):v.cells.toList=[v]:=by
 cases v with
 | agg cs =>
  exfalso
  unfold Value.okWide at hok
  split at hok
  ·rename_i fs h;exact h1 _ h
  ·rename_i n e h;exact h2 _ _ h
  ·unfold Cell.okWide at hok
   split at hok<;>(try simp_all)<;>(unfold Cell.ok at hok;split at hok<;>simp_all)
 | _=>rfl
def V.short:V→Prop
 | .sl _ n _=>n≤9223372036854775807
 | _=>True
theorem Qcl {t base:Nat} {r:Reach} {q:Option Addr} {n cap:Nat} (h:Value.okWide P w r base t (.slice q n cap)):n≤9223372036854775807:=by
 have key:Cell.okWide P w r base t (.slice q n cap)→n≤9223372036854775807:=fun h=>by
  unfold Cell.okWide at h
  split at h<;>first
   | (rename_i h1;cases h1;done)
   | (rename_i _ h1;cases h1;done)
   | skip
  unfold Cell.ok at h
  split at h<;>first
   | (rename_i h1;cases h1;done)
   | (rename_i _ h1;cases h1;done)
   | skip
  ·rename_i heq
   simp only [Value.slice.injEq] at heq
   omega
  ·rename_i heq
   simp only [Value.slice.injEq] at heq
   obtain ⟨_,rfl,rfl⟩:=heq
   have h2:((cap:Nat):Int)≤9223372036854775807:=by simpa [IntKind.max,IntKind.signed,IntKind.bits] using h.2.1
   have:=h.1
   omega
  ·exact h.elim
 unfold Value.okWide at h
 split at h
 ·obtain ⟨cs,e,_⟩:=h;cases e
 ·obtain ⟨cs,e,_⟩:=h;cases e
 ·exact key h
theorem Qoy [GT P] {t base:Nat} {r:Reach} {k:K} {a:V} {v:Value} (h:Value.okWide P w r base t v) (hR:R k a v):a.short:=by
 cases a with
 | sl c n cs =>
  simp only [R] at hR
  rcases hR with ⟨q,rfl,rfl,_⟩|⟨b,off,cap,vs,rfl,_⟩
  ·exact Nat.zero_le _
  ·exact Qcl h
 | _=>trivial
theorem arg_R [GT P] (B:Bulk H) {m t base:Nat} {T:Ty} {r:Reach} {v:Value} {d:DataW H} {ps:List MemPlace} (hT:tyOf P m t=some T) (hok:Value.okWide P w r base t v) (h:DataW.Trod enc P w 0 (fun _=>true) true t v d ps) :
  ∃ a,(Ty.val T a ex∧R (K.bare (fun _=>True) w) a v∧a.bulk≤B.bk d)∧a.short:=by
 obtain ⟨n,hn⟩:=h
 suffices hh:∃ a,Ty.val T a ex∧R (K.bare (fun _=>True) w) a v∧a.bulk≤B.bk d by
  obtain ⟨a,h1,h2,h3⟩:=hh
  exact ⟨a,⟨h1,h2,h3⟩,Qoy hok h2⟩
 obtain ⟨l,hl⟩:=Qg8 B ex m t T hT n _ _ hn
 have hagg:∀ Ts,T=.agg Ts→(∃ cs,v=.agg cs)→∃ a,Ty.val T a ex∧R (K.bare (fun _=>True) w) a v∧a.bulk≤B.bk d:=by
  rintro Ts rfl ⟨cs,rfl⟩
  refine ⟨.agg l,⟨l,rfl,hl.has⟩,?_,by simpa only [V.bulk] using hl.bulk⟩
  simp only [R]
  exact ⟨cs.toList,rfl,hl.rl⟩
 have hone:(∀ fs,P.underlying t≠some (.struct fs))→(∀ n e,P.underlying t≠some (.array n e))→(∀ m,P.underlying t≠some (.interface m))→(∀ Ts,T≠.agg Ts)→∃ a,Ty.val T a ex∧R (K.bare (fun _=>True) w) a v∧a.bulk≤B.bk d:=by
  intro h1 h2 h3 h4
  have hc:=Qpa hok h1 h2 h3
  have hrl:=hl.rl
  rw [hc] at hrl
  cases l with
  | nil=>simp [RL] at hrl
  | cons a l =>
   obtain ⟨q1,q2⟩:=RL.cons_iff.1 hrl
   have hl0:l=[]:=List.eq_nil_of_length_eq_zero (by have:=RL.len q2;simpa using this.symm)
   subst hl0
   refine ⟨a,?_,q1,by have:=hl.bulk;simp only [bulks] at this;omega⟩
   have hh:=hl.has
   cases T with
   | agg Ts=>exact absurd rfl (h4 Ts)
   | _=>exact hh
 cases m with
 | zero=>simp [tyOf] at hT
 | succ m =>
  simp only [tyOf] at hT
  split at hT<;>(try (cases hT;done))
  ·rename_i hu;cases hT;exact hone (by simp [hu]) (by simp [hu]) (by simp [hu]) (by simp)
  ·rename_i hu;cases hT;exact hone (by simp [hu]) (by simp [hu]) (by simp [hu]) (by simp)
  ·rename_i hu;cases hT;exact hone (by simp [hu]) (by simp [hu]) (by simp [hu]) (by simp)
  ·rename_i hu
   split at hT<;>(try (cases hT;done))
   obtain ⟨Te,_,rfl⟩:=Option.map_eq_some_iff.1 hT
   exact hone (by simp [hu]) (by simp [hu]) (by simp [hu]) (by simp)
  ·rename_i hu
   obtain ⟨Te,_,rfl⟩:=Option.map_eq_some_iff.1 hT
   simp only [Value.okWide,hu] at hok
   obtain ⟨cs,h1,_⟩:=hok
   exact hagg _ rfl ⟨cs,h1⟩
  ·rename_i hu
   split at hT<;>(try (cases hT;done))
   obtain ⟨Te,_,rfl⟩:=Option.map_eq_some_iff.1 hT
   simp only [Value.okWide,hu] at hok
   obtain ⟨cs,h1,_⟩:=hok
   exact hagg _ rfl ⟨cs,h1⟩
theorem Qs3 [GT P] (B:Bulk H) {base:Nat} {r:Reach}:∀ {ts:List Nat} {Ts:List Ty} {vs:List Value} {ds:List (DataW H)} {ps:List MemPlace},Qk4 P ts=some Ts →
  (∀ (j:Nat) t v,ts[j]?=some t→vs[j]?=some v→Value.okWide P w r base t v)→DataW.TrodAll enc P w 0 (fun _=>true) true ts vs ds ps→∃ as,(Ty.vals Ts as ex∧RL (K.bare (fun _=>True) w) as vs∧bulks as≤B.bks ds)∧∀ v∈as,v.short
 | [],Ts,vs,ds,ps,hT,hok,h=>by
  simp only [Qk4,jA] at hT;subst hT
  cases vs<;>cases ds<;>simp [DataW.TrodAll] at h
  exact ⟨[],⟨rfl,RL.nil,by simp [bulks]⟩,by simp⟩
 | t::ts,Ts,vs,ds,ps,hT,hok,h=>by
  simp only [Qk4] at hT
  split at hT<;>(try (cases hT;done))
  rename_i T r' h1 h2
  cases hT
  cases vs<;>cases ds<;>simp [DataW.TrodAll] at h
  rename_i v vs d ds
  obtain ⟨p,hd,q,hq,rfl⟩:=h
  obtain ⟨a,⟨q1,q2,q3⟩,q7⟩:=arg_R B h1 (hok 0 t v rfl rfl) hd
  obtain ⟨as,⟨q4,q5,q6⟩,q8⟩:=Qs3 B h2 (fun j t v h1 h2=>hok (j+1) t v (by simpa using h1) (by simpa using h2)) hq
  exact ⟨a::as,⟨⟨a,as,rfl,q1,q4⟩,RL.cons q2 q5,by simp only [bulks,B.cons];omega⟩,fun v hv=>by
   rcases List.mem_cons.1 hv with rfl|hv
   ·exact q7
   ·exact q8 v hv⟩
theorem Q59 (hl:laidOutB P=true) {w':World} (hb:Below w.heap.size w w'):∀ {ts:List Nat} {vs:List Value} {ds:List (DataW H)} {ps:List MemPlace},(∀ t∈ts,P.readableRec t=true∧t<P.types.size) →
  (∀ p∈ps,p.block<w.heap.size)→DataW.TrodAll enc P w 0 (fun _=>true) true ts vs ds ps→DataW.TrodAll enc P w' 0 (fun b=>decide (b<w.heap.size)) true ts vs ds ps
 | [],vs,ds,ps,_,_,h=>by cases vs<;>cases ds<;>simp [DataW.TrodAll] at h ⊢;exact h
 | t::ts,vs,ds,ps,ht,hlt,h=>by
  cases vs<;>cases ds<;>simp [DataW.TrodAll] at h ⊢
  rename_i v vs d ds
  obtain ⟨p,hd,q,hq,rfl⟩:=h
  refine ⟨p,?_,q,?_,rfl⟩
  ·exact Go.RowKit.Below.trod hl (ht t (by simp)).1 (ht t (by simp)).2 hd hb (fun x hx=>hlt x (by simp [hx]))
  ·exact Q59 hl hb (fun t h=>ht t (by simp [h])) (fun x hx=>hlt x (by simp [hx])) hq
end
theorem Qbj [GT P] {md:Nat→Nat} {F:Nat→Option Fc} {fn:Func} {f bt N:Nat} {spec:ChangeSpec} {Ts:List Ty} (hF:Q1h P F) (hl:laidOutB P=true) (hv:spec.vars=[]) (hres:fn.resultTypes = #[bt]) (hbt:P.underlying bt=some .bool)
  (hpar:∀ t∈fn.params.toList,P.readableRec t=true∧t<P.types.size) (hty:Qk4 P fn.params.toList=some Ts) (law:∀ as,Ty.vals Ts as ex→bulks as≤N→(∀ v∈as,v.short)→∃ n,Qj8 F md n f as=some (.bool true))
  {H:Type} {enc:TypeId × Value→H} (hs:∀ ds:List (DataW H),ds.length=fn.params.size→spec.fn H ds={ results:=[.lit (.bool true)],args:=ds }) (B:Bulk H) {W:World} {base:Nat} {args:Array Value} {ds gs:List (DataW H)} {before:List MemPlace}
  (hval:∀ (j:Nat) t v,fn.params[j]?=some t→args[j]?=some v→Value.okWide P W .any base t v) (hW:DataW.Whole enc P fn.params.toList spec.vars false W args.toList ds gs before) (hbulk:B.bks ds≤N) (ht:GT.bs P≤W.heap.size∧GT.ok P W) :
  Calls P f args W fun e W'=>∃ v,e=.returned v∧spec.post enc P fn false true false false W args v W':=by
 have hW':=hW
 obtain ⟨p,q,hA,hV,hpq,hfz,hnd⟩:=hW
 rw [hv] at hV
 have hgs:gs=[]∧q=[]:=by cases gs<;>simp [DataW.TrodVars] at hV;exact ⟨rfl,hV⟩
 obtain ⟨rfl,rfl⟩:=hgs
 obtain ⟨as,⟨h1,h2,h3⟩,h4⟩:=Qs3 B hty (fun j t v ht hv=>hval j t v (by simpa using ht) (by simpa using hv)) hA
 obtain ⟨n,hn⟩:=law as h1 (by omega) h4
 have hc:=Qfm hF ht hn h2
 have hargs:(⟨args.toList⟩:Array Value)=args:=rfl
 rw [hargs] at hc
 refine hc.mono ?_
 rintro e W' ⟨y,k',rfl,rfl,hb,hy⟩
 simp only [R] at hy
 subst hy
 have hlen:ds.length=fn.params.size:=by have:=(Go.trodAll_length hA).2;simpa using this
 have hsp:spec.fn H (ds++[])={ results:=[.lit (.bool true)],args:=ds }:=by rw [List.append_nil];exact hs ds hlen
 refine ⟨_,rfl,ds,[],before,[],p,[],hW',?_,?_,?_,?_,fun h=>by cases h⟩
 ·rw [hres,hsp]
  exact ⟨[],[],⟨1,by simp [DataW.trod,hbt,Value.cells]⟩,rfl,rfl⟩
 ·rw [hsp]
  exact Q59 hl hb hpar (fun x hx=>hA.lt x hx) hA
 ·rw [hsp,hv];rfl
 ·exact hb.frame _
end Go.Dr
