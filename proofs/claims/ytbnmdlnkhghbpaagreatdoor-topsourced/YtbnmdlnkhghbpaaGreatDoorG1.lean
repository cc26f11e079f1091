/- Chapter 06: heaps in general: what norm and trunc keep. -/
import Derived.Test.YtbnmdlnkhghbpaaGreatDoorDrF
import Derived.Test.YtbnmdlnkhghbpaaGreatDoorDrH
import Derived.Test.YtbnmdlnkhghbpaaGreatDoorDrG
import Derived.Test.YtbnmdlnkhghbpaaGreatDoorG0
namespace Go.Dr.T
theorem fB.i2 {h g:List B} {K:List B→Prop} (hk:fB g fun r=>K (h++r)):fB (if 2=0 then h else h++g) K:=by rw [if_neg (by decide)];exact fB.tail hk
theorem fB.i1 {h g:List B} {K:List B→Prop} (hk:fB g fun r=>K (h++r)):fB (if 1=0 then h else h++g) K:=by rw [if_neg (by decide)];exact fB.tail hk
theorem fB.i0 {h g:List B} {K:List B→Prop} (hk:K h):fB (if 0=0 then h else g) K:=fB.mk (by rw [if_pos rfl];exact hk)
theorem Q8j {n:Nat} {c:B}:∀ {L:List B},Q0a n L=true→c.blo n=true→Q0a n (L++[c])=true
 | [],_,h=>by simp [Q0a,h]
 | x::L,h,hc=>by
  simp only [Q0a,jF,List.cons_append] at h ⊢
  exact ⟨h.1,Q8j h.2 hc⟩
inductive Hid (p:Prop):Prop where
 | mk:p→Hid p
theorem Qo0 {n:Nat}:∀ {tm:List V} {i:Nat},blos n tm=true→(tg tm i).blo n=true
 | [],_,_=>by simp [tg,V.blo]
 | v::l,0,h=>by simp only [blos,jF] at h;exact h.1
 | v::l,i+1,h=>by simp only [blos,jF] at h;exact Qo0 (tm:=l) (i:=i) h.2
theorem Q9l {n i id:Nat} {tm:List V} {b:B} (hv:∀ k,(tg tm i).blo k=true→id<k):∀ {j:Nat} {h:List B},h.length=n+j→bget h id=some b→bget (Q1k n tm j h) id=some b
 | 0,h,_,e=>e
 | j+1,h,hl,e=>by
  unfold Q1k
  split
  ·rename_i hc
   rw [jF] at hc
   have hid:=hv _ (Qo0 (i:=i) hc.1)
   exact Q9l hv (by rw [jQ];omega) (by rw [Q09 hid];exact e)
  ·exact e
theorem Q1y {n:Nat} {tm:List V}:∀ {j:Nat} {h:List B},h.length=n+j→n≤(Q1k n tm j h).length
 | 0,h,hl=>by unfold Q1k;omega
 | j+1,h,hl=>by
  unfold Q1k
  split
  ·exact Q1y (by rw [jQ];omega)
  ·omega
theorem Q44 {m:List Bool} {n i id:Nat} {s:St} {b:B} (hn:n≤s.h.length) (hv:∀ k,(tg (Q0m m s.tm) i).blo k=true→id<k) (e:bget s.h id=some b):bget (norm m n s).h id=some b :=
 Q9l (i:=i) hv (by omega) e
theorem Q2c {m:List Bool} {n:Nat} {s:St} (hn:n≤s.h.length):n≤(norm m n s).h.length:=Q1y (by omega)
theorem NextP.of {α:Type} {P:α→Prop} {I:α→St} {μ:α→Nat} {a:α} {s:St} (f:List B→α) (h1:P (f s.h)) (h2:μ (f s.h)<μ a) (h3:s=I (f s.h)):NextP P I μ a s:=⟨f s.h,h1,h2,h3⟩
theorem fLen.as {h:List B} {n:Nat} {K:Nat→Prop} (e:h.length=n) (hk:K (n+0)):fLen h 0 K:=by subst e;exact fLen.mk hk
theorem Qqt {h:List B} {n:Nat} {a b:B}:bset (bset h n a) n b=bset h n b:=by rw [Q1m,Q1m,Q1m,List.set_set]
def Cl (h:List B):Prop:=Q0a h.length h=true
theorem Q1n {n m:Nat} (h:n≤m):∀ (b:B),b.blo n=true→b.blo m=true
 | .blk c dat,e=>by
  simp only [B.blo,Bool.or_eq_true] at e ⊢
  rcases e with e|e
  ·exact .inl e
  ·exact .inr (Q0o h _ e)
 | .unborn,_=>rfl
 | .lop _ _ tm _ _ _,e=>Q0o h tm e
 | .mp ks vs,e=>by simp only [B.blo,jF] at e ⊢;exact ⟨Q0o h _ e.1,Q0o h _ e.2⟩
 | .mq _ _ ks vs,e=>by simp only [B.blo,jF] at e ⊢;exact ⟨Q0o h _ e.1,Q0o h _ e.2⟩
 | .it a _ _ _,e=>by simp only [B.blo,jG] at e ⊢;omega
 | .ir _ _ _,_=>rfl
theorem Q8k {n m:Nat} (h:n≤m):∀ (l:List B),Q0a n l=true→Q0a m l=true
 | [],_=>rfl
 | b::l,e=>by simp only [Q0a,jF] at e ⊢;exact ⟨Q1n h b e.1,Q8k h l e.2⟩
theorem Cl.app {h:List B} {b:B} (c:Cl h) (e:b.blo h.length=true):Cl (h++[b]):=by
 unfold Cl
 rw [jD]
 exact Q8k (Nat.le_add_right _ _) _ (Q8j c e)
theorem Qa0 {m:Nat} {b:B} (e:b.blo m=true):∀ {h:List B} {n:Nat},Q0a m h=true→Q0a m (bset h n b)=true
 | [],n,_=>by cases n<;>rfl
 | a::l,0,c=>by simp only [bset,Q0a,jF] at c ⊢;exact ⟨e,c.2⟩
 | a::l,n+1,c=>by simp only [bset,Q0a,jF] at c ⊢;exact ⟨c.1,Qa0 e c.2⟩
theorem Cl.set {h:List B} {n:Nat} {b:B} (c:Cl h) (e:b.blo h.length=true):Cl (bset h n b):=by
 unfold Cl;rw [Q03];exact Qa0 e c
theorem Qak {n:Nat} {tm:List V}:∀ {j:Nat} {h:List B},h.length=n+j→Cl h→Cl (Q1k n tm j h)
 | 0,h,_,c=>c
 | j+1,h,hl,c=>by
  unfold Q1k
  split
  ·rename_i hc
   rw [jF] at hc
   have hl':(h.take (n+j)).length=n+j:=by rw [jQ];omega
   exact Qak hl' (by unfold Cl;rw [hl'];exact hc.2)
  ·exact c
theorem Q45 {m:List Bool} {n:Nat} {s:St} (hn:n≤s.h.length) (c:Cl s.h):Cl (norm m n s).h:=Qak (by omega) c
theorem fB.as {l l':List B} {K:List B→Prop} (e:l=l') (h:K l'):fB l K:=fB.mk (e▸h)
theorem fV.as {l l':List V} {K:List V→Prop} (e:l=l') (h:K l'):fV l K:=fV.mk (e▸h)
end Go.Dr.T
namespace Go.Dr.T
theorem Q31:∀ {l:List V} {n:Nat},Q0h l n=l[n]?
 | [],n=>by cases n<;>rfl
 | _::l,0=>rfl
 | _::l,n+1=>by simpa [Q0h] using Q31 (l:=l) (n:=n)
theorem Q78:∀ {l:List V} {i:Nat} {v:V},over l i [v]=l.set i v
 | [],i,v=>by cases i<;>rfl
 | _::l,0,v=>by cases l<;>rfl
 | _::l,i+1,v=>by simp only [over,List.set_cons_succ,Q78 (l:=l)]
theorem Qhy {k:Nat}:∀ {l:List V} {v:V},blos k l=true→v∈l→v.blo k=true
 | x::l,v,h,hm=>by
  simp only [blos,jF] at h
  rcases List.mem_cons.1 hm with e|e
  ·subst e;exact h.1
  ·exact Qhy h.2 e
theorem Qo1:∀ {k:Nat} {l:List V},(∀ v∈l,v.blo k=true)→blos k l=true
 | k,[],_=>rfl
 | k,x::l,h=>by simp only [blos,jF];exact ⟨h x (by simp),Qo1 fun v hv=>h v (by simp [hv])⟩
theorem Qpd {mk:List Bool} {n o r:Nat} {tm:List V} {h:List B} {b:B} (hr:h.length=r+1) (hn:n≤r) (ho:o<n) (hb:bget h o=some b) (hv:∀ k,b.blo k=true→r<k):norm mk n ⟨tm,h⟩=⟨Q0m mk tm,h⟩:=by
 unfold norm trunc
 dsimp only
 obtain ⟨d,hd⟩:∃ d,h.length-n=d+1:=⟨h.length-n-1,by omega⟩
 rw [hd]
 unfold Q1k
 rw [show n+d=r by omega]
 have:Q0a r (h.take r)=false:=by
  cases hc:Q0a r (h.take r) with
  | false=>rfl
  | true =>
   have h1:bget (h.take r) o=some b:=by rw [Q09 (by omega)];exact hb
   have hm:b∈h.take r:=by
    have key:∀ {l:List B} {i:Nat} {b:B},bget l i=some b→b∈l:=by
     intro l
     induction l with
     | nil=>intro i b e;cases e
     | cons x l ih =>
      intro i b e
      cases i with
      | zero=>simp only [bget,jA] at e;subst e;simp
      | succ i=>exact List.mem_cons_of_mem _ (ih e)
    exact key h1
   exact absurd (hv r (Q08 hc hm)) (Nat.lt_irrefl r)
 rw [this,Bool.and_false]
 rfl
theorem VwLF.ints {h:List B} {d:Nat}:∀ l:List Int,VwLF h (d+1) (Q00 l) (Q00 l)
 | []=>VwLF.nil
 | _::l=>VwLF.cons (VwF.int rfl) (VwLF.ints l)
def hasc:Nat→List B→Prop
 | _,[]=>True
 | n,b::l=>b.blo n=true∧hasc (n+1) l
theorem Q27:∀ {A H:List B},Cl H→hasc H.length A→Cl (H++A)
 | [],H,c,_=>by rw [List.append_nil];exact c
 | b::A,H,c,h=>by
  have:=Q27 (A:=A) (H:=H++[b]) (c.app h.1) (by rw [jD];exact h.2)
  rwa [jO] at this
theorem Q0p:∀ {l:List B} {i:Nat} {b:B},bget l i=some b→b∈l
 | [],_,_,e=>nomatch e
 | x::l,0,b,e=>by simp only [bget,jA] at e;subst e;simp
 | x::l,i+1,b,e=>List.mem_cons_of_mem _ (Q0p e)
end Go.Dr.T
namespace Go.Dr.T
theorem Q7p:∀ {l:List V} {j:Nat} {v:V},l[j]?=some v→tg l j=v
 | _::_,0,_,h=>by simpa [tg] using h
 | _::l,j+1,_,h=>Q7p (l:=l) (by simpa using h)
theorem Q3p {m:List Bool} {hl:Nat} {st:St} {tm:List V} {h:List B} (h1:Q0m m st.tm=tm) (h2:st.h.length=hl+1) (h5:st.h.take hl=h) (h3:blos hl tm=true) (h4:Q0a hl h=true):norm m hl st=⟨tm,h⟩:=by
 unfold norm trunc
 rw [h1,h2,Nat.add_sub_cancel_left]
 unfold Q1k
 simp only [Nat.add_zero,h5,h3,h4,Bool.and_self,if_true,Q1k]
theorem Qg7:∀ {l:List V} {i:Nat} {v:V},tset l i v=l.set i v
 | [],i,v=>by cases i<;>rfl
 | _::l,0,v=>rfl
 | x::l,i+1,v=>by simp only [tset,List.set_cons_succ,Qg7]
abbrev outB (n lo hi:Int):Bool:=decide (n<lo)||decide (n>hi)
theorem Q0z {n lo hi:Int}:Fun FB md 36 [.int .i64 n,.int .i64 lo,.int .i64 hi] (.bool (outB n lo hi)):=by
 refine Q04 rfl rfl ?_
 by_cases h1:n<lo<;>by_cases h2:n>hi
 all_goals
  repeat' ((conv=>whnf);first|refine zT ?_|refine zF ?_|refine Get.mk _ rfl ?_|refine Leaves.of ?_|refine Vw.bool ?_)
  all_goals simp [outB,h1,h2]
structure Vt where
 who:List UInt8
 step:Int
 yes:Bool
def vtC:List Vt→List V
 | []=>[]
 | v::l=>.str v.who::.int .i64 v.step::.bool v.yes::vtC l
theorem Q9h:∀ l,(vtC l).length=l.length*3
 | []=>rfl
 | _::l=>by simp only [vtC,List.length_cons,Q9h l];omega
theorem Qp8 {l:List V} {n:Nat} {a b c:V} {r:List V} (h:l.drop n=a::b::c::r):part l n 3=some [a,b,c]:=by
 unfold part
 simp only [Q3m,Q2r,h]
 rfl
theorem Qg1:∀ {l:List Vt} {i:Nat} {v:Vt},l[i]?=some v→(vtC l).drop (i*3)=.str v.who::.int .i64 v.step::.bool v.yes::vtC (l.drop (i+1))
 | w::l,0,v,h=>by simp only [List.getElem?_cons_zero,jA] at h;subst h;rfl
 | w::l,i+1,v,h=>by
  rw [show (i+1)*3=i*3+1+1+1 by omega]
  simp only [vtC,List.drop_succ_cons]
  exact Qg1 (l:=l) (by simpa using h)
theorem Qof {l:List Vt} {i:Nat} {v:Vt} (h:l[i]?=some v):part (vtC l) (i*3) 3=some [.str v.who,.int .i64 v.step,.bool v.yes]:=Qp8 (Qg1 h)
def vtE (n:Int) (v:Vt):Int:=if nmOk v.who=false then 6 else if outB v.step 0 (n-1)=true then 4 else 0
def vtF (n:Int):List Vt→Int
 | []=>0
 | v::l=>if vtE n v≠0 then vtE n v else vtF n l
theorem Qaf {n:Int}:∀ {l:List Vt} {i:Nat},(∀ j v,j<i→l[j]?=some v→vtE n v=0)→vtF n l=vtF n (l.drop i)
 | l,0,_=>rfl
 | [],i+1,_=>rfl
 | w::l,i+1,h=>by
  rw [vtF,if_neg (fun e=>e (h 0 w (Nat.succ_pos _) rfl)),List.drop_succ_cons]
  exact Qaf fun j v hj hv=>h (j+1) v (by omega) (by simpa using hv)
abbrev En:=(List UInt8 × Int) × Bool
def updE (k:List UInt8 × Int) (b:Bool):List En→List En
 | []=>[(k,b)]
 | e::r=>if k=e.1 then (k,b)::r else e::updE k b r
def lasE (l:List Vt):List En:=l.foldl (fun E v=>updE (v.who,v.step) v.yes E) []
theorem Qcu (l:List Vt) (v:Vt):lasE (l++[v])=updE (v.who,v.step) v.yes (lasE l):=by unfold lasE;rw [List.foldl_append];rfl
def kV (e:En):V:=.agg [.str e.1.1,.int .i64 e.1.2]
def bV (e:En):V:=.bool e.2
def mapB (E:List En):B:=.mq (List.range E.length) E.length (E.map kV) (E.map bV)
theorem Qg4 {k:List UInt8 × Int} {b:Bool}:∀ {E:List En},(∀ e∈E,e.1≠k)→updE k b E=E++[(k,b)]
 | [],_=>rfl
 | e::r,h=>by
  rw [updE,if_neg (fun q=>h e (by simp) q.symm),Qg4 fun x hx=>h x (by simp [hx])]
  rfl
theorem Qk3 {k:List UInt8 × Int} {b:Bool}:∀ {E:List En} {j:Nat} {e:En},E[j]?=some e→e.1=k→(∀ i x,i<j→E[i]?=some x→x.1≠k)→updE k b E=E.set j (k,b)
 | x::r,0,e,h,hk,_=>by
  simp only [List.getElem?_cons_zero,jA] at h
  subst h
  rw [updE,if_pos hk.symm]
  rfl
 | x::r,j+1,e,h,hk,hn=>by
  rw [updE,if_neg (fun q=>hn 0 x (Nat.succ_pos _) rfl q.symm),List.set_cons_succ,Qk3 (E:=r) (j:=j) (by simpa using h) hk fun i y hi hy=>hn (i+1) y (by omega) (by simpa using hy)]
theorem Qrp:kdks 11=[2,0]:=by decide
theorem Qfb (a b:List UInt8) (s t:Int):eq1 11 (.agg [.str a,.int .i64 s]) (.agg [.str b,.int .i64 t])=some (decide ((a,s)=(b,t))):=by
 show eqc0 (kdks (8+3)) _ _=_
 rw [show kdks (8+3)=[2,0] from Qrp]
 simp only [eqc0,eq0,if_true,Bool.and_true,jA,jN]
 rw [Bool.eq_iff_iff]
 simp
theorem Qcq {w:List UInt8} {s:Int}:∀ {E:List En} {i:Nat},(∀ e∈E,e.1≠(w,s))→Q0w 11 (.agg [.str w,.int .i64 s]) (E.map kV) i=some none
 | [],i,_=>by
  have hk:Q53 11 (.agg [.str w,.int .i64 s])=true:=by
   show kinds (kdks (8+3)) _=true
   rw [show kdks (8+3)=[2,0] from Qrp]
   rfl
  simp only [List.map_nil,Q0w,hk,if_true]
 | e::r,i,h=>by
  have he:eq1 11 (.agg [.str w,.int .i64 s]) (kV e)=some false:=by
   unfold kV
   rw [Qfb,decide_eq_false (fun q=>h e (by simp) q.symm)]
  simp only [List.map_cons,Q0w,he]
  exact Qcq fun x hx=>h x (by simp [hx])
theorem Q89 {w:List UInt8} {s:Int}:∀ {E:List En} {i:Nat},¬ (∀ e∈E,e.1≠(w,s))→∃ j e,E[j]?=some e∧e.1=(w,s)∧(∀ i x,i<j→E[i]?=some x→x.1≠(w,s))∧Q0w 11 (.agg [.str w,.int .i64 s]) (E.map kV) i=some (some (i+j))
 | [],i,h=>absurd (fun e he=>nomatch he) h
 | e::r,i,h=>by
  by_cases hk:e.1=(w,s)
  ·have he:eq1 11 (.agg [.str w,.int .i64 s]) (kV e)=some true:=by
    unfold kV
    rw [Qfb,decide_eq_true hk.symm]
   exact ⟨0,e,rfl,hk,fun i x hi=>absurd hi (Nat.not_lt_zero _),by simp only [List.map_cons,Q0w,he,Nat.add_zero]⟩
  ·have he:eq1 11 (.agg [.str w,.int .i64 s]) (kV e)=some false:=by
    unfold kV
    rw [Qfb,decide_eq_false (fun q=>hk q.symm)]
   obtain ⟨j,x,h1,h2,h3,h4⟩:=Q89 (E:=r) (i:=i+1) fun hn=>h fun x hx=>by
    rcases List.mem_cons.1 hx with rfl|hx
    ·exact hk
    ·exact hn x hx
   refine ⟨j+1,x,by simpa using h1,h2,fun a y ha hy=>?_,?_⟩
   ·cases a with
    | zero=>simp only [List.getElem?_cons_zero,jA] at hy;subst hy;exact hk
    | succ a=>exact h3 a y (by omega) (by simpa using hy)
   ·simp only [List.map_cons,Q0w,he]
    rw [h4]
    congr 2
    omega
theorem Qpn {w:List UInt8} {s:Int} {b:Bool} {E:List En} (h:∀ e∈E,e.1≠(w,s)):B.mq (List.range E.length++[E.length]) (E.length+1) (E.map kV++[.agg [.str w,.int .i64 s]]) (E.map bV++[.bool b])=mapB (updE (w,s) b E):=by
 rw [Qg4 h]
 unfold mapB
 rw [jD,List.map_append,List.map_append]
 show _=B.mq (List.range (E.length+1)) (E.length+1) _ _
 rw [List.range_succ]
 rfl
theorem Qti {w:List UInt8} {s:Int} {b:Bool} {E:List En} {j:Nat} {e:En} (h:E[j]?=some e) (hk:e.1=(w,s)) (hn:∀ i x,i<j→E[i]?=some x→x.1≠(w,s)):B.mq (List.range E.length) E.length (E.map kV) (tset (E.map bV) j (.bool b))=mapB (updE (w,s) b E):=by
 rw [Qk3 h hk hn]
 unfold mapB
 rw [List.length_set,Qg7,List.map_set,List.map_set]
 congr 1
 refine (List.ext_getElem? fun i=>?_)
 rw [List.getElem?_set]
 split
 ·rename_i e'
  subst e'
  split
  ·rw [jH,h]
   simp only [Option.map_some,kV]
   rw [hk]
  ·rename_i hl
   rw [List.getElem?_eq_none (by simpa using hl)]
 ·rfl
theorem Q7d (E:List En) (n:Nat):(mapB E).blo n=true:=by
 have h1:blos n (E.map kV)=true:=by
  induction E with
  | nil=>rfl
  | cons e r ih=>simp only [List.map_cons,blos,kV,V.blo,Bool.true_and,Bool.and_true];exact ih
 have h2:blos n (E.map bV)=true:=by
  clear h1
  induction E with
  | nil=>rfl
  | cons e r ih=>simp only [List.map_cons,blos,bV,V.blo,Bool.true_and];exact ih
 simp only [mapB,B.blo,h1,h2,Bool.and_self]
theorem Qg5 {k:List UInt8 × Int} {b:Bool}:∀ {E:List En} {e:En},e∈updE k b E→e=(k,b)∨e∈E
 | [],e,h=>by simp only [updE,jJ] at h;exact .inl h
 | x::r,e,h=>by
  unfold updE at h
  split at h
  ·rcases List.mem_cons.1 h with rfl|h
   ·exact .inl rfl
   ·exact .inr (by simp [h])
  ·rcases List.mem_cons.1 h with rfl|h
   ·exact .inr (by simp)
   ·rcases Qg5 h with rfl|h
    ·exact .inl rfl
    ·exact .inr (by simp [h])
theorem Qg6 {k:List UInt8 × Int} {b:Bool}:∀ {E:List En},(updE k b E).length≤E.length+1
 | []=>Nat.le_refl _
 | x::r=>by
  unfold updE
  split
  ·simp
  ·simp only [List.length_cons];have:=Qg6 (k:=k) (b:=b) (E:=r);omega
end Go.Dr.T
namespace Go.Dr.T
def yesN (S:List En) (s:Nat):Nat:=(S.filter fun e=>e.2&&decide (e.1.2=(s:Int))).length
def noN (S:List En) (s:Nat):Bool:=S.any fun e => !e.2&&decide (e.1.2=(s:Int))
def yesC (S:List En):List V:=(List.range 20).map fun s=>.int .i64 (yesN S s:Nat)
def noC (S:List En):List V:=(List.range 20).map fun s=>.bool (noN S s)
def acc (S:List En) (need:Int) (n:Nat):List Int:=((List.range n).filter fun s=>decide ((yesN S s:Int)≥need) && !noN S s).map fun s:Nat=>(s:Int)
theorem Qjf {S:List En} {m:Nat} (h:m<20):Q0h (yesC S) (0+m*1)=some (.int .i64 (yesN S m:Nat)):=by
 rw [Q31,Nat.zero_add,Nat.mul_one,yesC,jH,List.getElem?_range h];rfl
theorem Qrg {S:List En} {m:Nat} (h:m<20):Q0h (noC S) (0+m*1)=some (.bool (noN S m)):=by
 rw [Q31,Nat.zero_add,Nat.mul_one,noC,jH,List.getElem?_range h];rfl
theorem Qc1 (S:List En) (e:En) (s:Nat):yesN (S++[e]) s=yesN S s+if e.2=true∧e.1.2=(s:Int) then 1 else 0:=by
 unfold yesN
 rw [List.filter_append,jD]
 congr 1
 simp only [List.filter_cons,List.filter_nil]
 by_cases h:e.2=true∧e.1.2=(s:Int)
 ·rw [if_pos h,h.1,decide_eq_true h.2];rfl
 ·rw [if_neg h]
  cases h2:e.2 with
  | false=>rfl
  | true=>rw [decide_eq_false fun q=>h ⟨h2,q⟩];rfl
theorem Qgw (S:List En) (e:En) (s:Nat):noN (S++[e]) s=(noN S s||(!e.2&&decide (e.1.2=(s:Int)))):=by
 unfold noN
 rw [List.any_append]
 simp
theorem Qcj {l:List V} {i:Nat} {v:V} (h:i<l.length):over l (0+i*1) [v]=l.set i v:=by
 rw [Nat.zero_add,Nat.mul_one,Q43 _ _ _ (show i+1≤l.length by omega)]
 simp only [List.length_cons,List.length_nil,Nat.zero_add]
 exact (List.set_eq_take_append_cons_drop.trans (by rw [if_pos h];simp)).symm
theorem Qob {S:List En} {e:En} {m:Nat} (hm:m<20) (h2:e.2=true) (h1:e.1.2=(m:Int)):over (yesC S) (0+m*1) [.int .i64 ((yesN S m:Nat)+1)]=yesC (S++[e])∧noC S=noC (S++[e]):=by
 constructor
 ·rw [Qcj (by simpa [yesC] using hm)]
  refine List.ext_getElem? fun i=>?_
  rw [List.getElem?_set]
  unfold yesC
  simp only [jH,List.length_map,List.length_range]
  by_cases hi:i<20
  ·rw [List.getElem?_range hi]
   simp only [Option.map_some,Qc1,h2,h1,true_and]
   by_cases e':m=i
   ·subst e';rw [if_pos rfl,if_pos hm,if_pos rfl];rfl
   ·rw [if_neg e',if_neg (by omega)];rfl
  ·rw [List.getElem?_eq_none (l:=List.range 20) (by simpa using Nat.le_of_not_lt hi),if_neg (by omega)];rfl
 ·unfold noC
  refine List.map_congr_left fun s _=>?_
  rw [Qgw,h2];simp
theorem noC_no {S:List En} {e:En} {m:Nat} (hm:m<20) (h2:e.2=false) (h1:e.1.2=(m:Int)):over (noC S) (0+m*1) [.bool true]=noC (S++[e])∧yesC S=yesC (S++[e]):=by
 constructor
 ·rw [Qcj (by simpa [noC] using hm)]
  refine List.ext_getElem? fun i=>?_
  rw [List.getElem?_set]
  unfold noC
  simp only [jH,List.length_map,List.length_range]
  by_cases hi:i<20
  ·rw [List.getElem?_range hi]
   simp only [Option.map_some,Qgw,h2,h1,Bool.not_false,Bool.true_and]
   by_cases e':m=i
   ·subst e';rw [if_pos rfl,if_pos hm];simp
   ·rw [if_neg e',decide_eq_false (by omega),Bool.or_false]
  ·rw [List.getElem?_eq_none (l:=List.range 20) (by simpa using Nat.le_of_not_lt hi),if_neg (by omega)];rfl
 ·unfold yesC
  refine List.map_congr_left fun s _=>?_
  rw [Qc1,if_neg (fun q=>by rw [h2] at q;exact absurd q.1 (by decide))];rfl
theorem Qs6 (S:List En) (s:Nat):yesN S s≤S.length:=List.length_filter_le ..
def metE (E:List En) (seen:List Nat):List En:=seen.filterMap (E[·]?)
theorem Qlt {E:List En} {seen:List Nat} {j:Nat} {e:En} (h:E[j]?=some e):metE E (seen++[j])=metE E seen++[e]:=by unfold metE;rw [List.filterMap_append];simp [h]
theorem Qpk (E:List En):metE E (List.range E.length)=E:=by
 unfold metE
 induction E with
 | nil=>rfl
 | cons e r ih =>
  rw [List.length_cons,List.range_succ_eq_map,List.filterMap_cons]
  simp only [List.getElem?_cons_zero,List.filterMap_map]
  exact congrArg (e :: ·) ih
theorem Qlu {E:List En} {seen:List Nat} (h1:seen.Nodup) (h2:∀ s∈seen,s<E.length) (h3:∀ s,s<E.length→s∈seen):(metE E seen).Perm E:=by
 have hp:seen.Perm (List.range E.length):=(List.perm_ext_iff_of_nodup h1 List.nodup_range).2 fun a=>by rw [List.mem_range];exact ⟨h2 a,h3 a⟩
 have:=hp.filterMap (E[·]?)
 rwa [show (List.range E.length).filterMap (E[·]?)=E from Qpk E] at this
theorem Qje {S T:List En} (h:S.Perm T) (s:Nat):yesN S s=yesN T s:=(h.filter _).length_eq
theorem Qpe {S T:List En} (h:S.Perm T) (s:Nat):noN S s=noN T s:=by
 unfold noN
 rw [Bool.eq_iff_iff,List.any_eq_true,List.any_eq_true]
 exact ⟨fun ⟨x,hx,q⟩=>⟨x,h.mem_iff.1 hx,q⟩,fun ⟨x,hx,q⟩=>⟨x,h.mem_iff.2 hx,q⟩⟩
theorem Qr3 {S T:List En} (h:S.Perm T) (need:Int) (n:Nat):acc S need n=acc T need n:=by
 unfold acc
 congr 1
 refine List.filter_congr fun s _=>?_
 rw [Qje h,Qpe h]
theorem acc_t {S:List En} {need:Int} {n:Nat} (h1:(yesN S n:Int)≥need) (h2:noN S n=false):acc S need (n+1)=acc S need n++[(n:Int)]:=by
 unfold acc
 rw [List.range_succ,List.filter_append,List.map_append]
 simp [h1,h2]
theorem acc_f {S:List En} {need:Int} {n:Nat} (h:¬ ((yesN S n:Int)≥need∧noN S n=false)):acc S need (n+1)=acc S need n:=by
 unfold acc
 rw [List.range_succ,List.filter_append,List.map_append]
 have:(decide ((yesN S n:Int)≥need) && !noN S n)=false:=by
  rw [Bool.eq_false_iff]
  intro q
  rw [jF,jG,Bool.not_eq_true'] at q
  exact h q
 simp [this]
theorem Qv1 (S:List En) (need:Int) (n:Nat):(acc S need n).length≤n:=by
 unfold acc
 rw [List.length_map]
 have:=List.length_filter_le (fun s=>decide ((yesN S s:Int)≥need) && !noN S s) (List.range n)
 rwa [List.length_range] at this
theorem Q1z:∀ {n:Nat} {l:List Nat},l.Nodup→(∀ x∈l,x<n)→l.length≤n
 | 0,[],_,_=>Nat.le_refl _
 | 0,x::l,_,h=>absurd (h x (by simp)) (Nat.not_lt_zero _)
 | n+1,l,hd,h=>by
  by_cases hn:n∈l
  ·have h1:=Q1z (n:=n) (l:=l.erase n) (hd.erase n) (fun x hx=>by
    have:=h x (List.mem_of_mem_erase hx)
    have hne:x≠n:=fun e=>by subst e;exact ((List.Nodup.mem_erase_iff hd).1 hx).1 rfl
    omega)
   rw [List.length_erase_of_mem hn] at h1
   omega
  ·exact Nat.le_succ_of_le (Q1z hd fun x hx=>by
    have:=h x hx
    have hne:x≠n:=fun e=>hn (e▸hx)
    omega)
theorem Qlf {m:List Bool} {hl:Nat} {st:St} {tm:List V} {h:List B} (h1:Q0m m st.tm=tm) (h2:st.h.length=hl+2) (h5:st.h.take (hl+1)=h) (h3:blos (hl+1) tm=true) (h4:Q0a (hl+1) h=true) (h6:blos hl tm=false):norm m hl st=⟨tm,h⟩:=by
 unfold norm trunc
 rw [h1,h2,Nat.add_sub_cancel_left]
 unfold Q1k
 simp only [h5,h3,h4,Bool.and_self,if_true]
 unfold Q1k
 simp only [Nat.add_zero,h6,Bool.false_and,Bool.false_eq_true,if_false]
theorem lastO_snoc:∀ {l:List Nat} {s:Nat},lastO (l++[s])=some s
 | [],_=>rfl
 | [a],s=>rfl
 | a::b::l,s=>by simpa only [List.cons_append,lastO] using lastO_snoc (l:=b::l) (s:=s)
theorem Quo {E:List En} {sn:List Nat} {s:Nat} {e:En} (h:E[s]?=some e):mcur (0+0) [.it 0 E.length E.length (sn++[s]),mapB E]=some (.tup [.agg [.str e.1.1,.int .i64 e.1.2],.bool e.2],none):=by
 have hs:=(jB.1 h).1
 have hid:(List.range E.length).idxOf s=s:=by
  have:=List.nodup_range.idxOf_getElem (xs:=List.range E.length) s (by simpa using hs)
  simpa using this
 simp only [mcur,if_true,lastO_snoc,mapB,B.ents,hid,List.length_range,hs,decide_true,Bool.and_self]
 rw [Q7p (l:=E.map kV) (v:=kV e) (by simp [h]),Q7p (l:=E.map bV) (v:=bV e) (by simp [h])]
 rfl
theorem Qfu (S:List En) (n:Nat):blos n (yesC S)=true:=by
 unfold yesC
 induction List.range 20 with
 | nil=>rfl
 | cons a r ih=>simp only [List.map_cons,blos,V.blo,Bool.true_and];exact ih
theorem Qli (S:List En) (n:Nat):blos n (noC S)=true:=by
 unfold noC
 induction List.range 20 with
 | nil=>rfl
 | cons a r ih=>simp only [List.map_cons,blos,V.blo,Bool.true_and];exact ih
theorem Qft (S:List En):(yesC S).length=20:=by simp [yesC]
theorem Qlh (S:List En):(noC S).length=20:=by simp [noC]
def lvI (id:Nat):List Int→V
 | []=>.nilsl
 | x::l=>.ms 1 id (l.length+1) 0 (l.length+1) false
def acB:List Int→List B
 | []=>[]
 | x::l=>[.blk (Q00 (x::l)) true]
def VEnds (res:List RV) (A:List Int) (e:Int) (x:X) (s:St):Prop :=
 (x=.nrm∨x=.ret)∧((A=[]∧Q0s s res=some (.tup [.nilsl,.int .i64 e]))∨(A≠[]∧∃ id,Q0s s res=some (.tup [.ms 1 id A.length 0 A.length false,.int .i64 e])∧bget s.h id=some (.blk (Q00 A) true)))
def votE (n:Int) (l:List Vt) (need:Int):Int:=if outB n 0 20=true∨outB need 1 200=true then 7 else if 200<l.length then 3 else vtF n l
def votA (n:Int) (l:List Vt) (need:Int):List Int:=if votE n l need≠0 then [] else acc (lasE l) need n.toNat
end Go.Dr.T
namespace Go.Dr.T
end Go.Dr.T
