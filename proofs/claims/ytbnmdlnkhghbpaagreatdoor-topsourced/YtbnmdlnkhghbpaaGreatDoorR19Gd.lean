/- Top, of chapter 08: films in blocks; changes. -/
import Derived.Test.YtbnmdlnkhghbpaaGreatDoorR19Gb
namespace Go.Dr.T
def fmG (g:Nat→Fm→V):Nat→List Fm→List V
 | _,[]=>[]
 | k,f::l=>.int .i64 f.w::.int .i64 f.h::g k f::fmG g (k+1) l
theorem Q1p {g:Nat→Fm→V}:∀ {l:List Fm} {k:Nat},(fmG g k l).length=l.length*3
 | [],_=>rfl
 | _::l,k=>by simp only [fmG,List.length_cons,Q1p (l:=l)];omega
theorem Q6h {g g':Nat→Fm→V}:∀ {l:List Fm} {k:Nat},(∀ j f,l[j]?=some f→g (k+j) f=g' (k+j) f)→fmG g k l=fmG g' k l
 | [],_,_=>rfl
 | f::l,k,h=>by
  have h0:g k f=g' k f:=h 0 f rfl
  have ih:=Q6h (g:=g) (g':=g') (l:=l) (k:=k+1) fun j u hu=>by
   have:=h (j+1) u (by simpa using hu)
   rwa [show k+1+j=k+(j+1) by omega]
  simp only [fmG,h0,ih]
theorem Qpx:∀ {l:List Fm} {k:Nat},fmC l=fmG (fun _ f=>.sl f.c f.p.length (ofBytes f.p)) k l
 | [],_=>rfl
 | f::l,k=>by rw [fmC,fmG,← Qpx (l:=l)]
theorem Q7f {g:Nat→Fm→V}:∀ {l:List Fm} {k i:Nat} {f:Fm},l[i]?=some f→(fmG g k l).drop (i*3)=.int .i64 f.w::.int .i64 f.h::g (k+i) f::fmG g (k+i+1) (l.drop (i+1))
 | u::l,k,0,f,h=>by simp only [List.getElem?_cons_zero,jA] at h;subst h;rfl
 | u::l,k,i+1,f,h=>by
  rw [show (i+1)*3=i*3+1+1+1 by omega,show k+(i+1)=k+1+i by omega]
  simp only [fmG,List.drop_succ_cons]
  exact Q7f (l:=l) (by simpa using h)
theorem Qf1 {g:Nat→Fm→V} {l:List Fm} {k i:Nat} {f:Fm} (h:l[i]?=some f):Q0h (fmG g k l) (i*3+0)=some (.int .i64 f.w)∧Q0h (fmG g k l) (i*3+1)=some (.int .i64 f.h)∧Q0h (fmG g k l) (i*3+2)=some (g (k+i) f) :=
 ⟨Q1r (Q7f h) rfl,Q1r (Q7f h) rfl,Q1r (Q7f h) rfl⟩
theorem Qms {g:Nat→Fm→V} {v:V}:∀ {l:List Fm} {k i:Nat},i<l.length→over (fmG g k l) (i*3+2) [v]=fmG (fun j f=>if j=k+i then v else g j f) k l
 | f::l,k,0,h=>by
  rw [Q78]
  simp only [fmG,Nat.zero_mul,Nat.zero_add,Nat.add_zero,if_true]
  show _::_::v::fmG g (k+1) l=_
  congr 3
  exact Q6h fun j u _=>by rw [if_neg (by omega)]
 | f::l,k,i+1,h=>by
  have ih:=Qms (g:=g) (v:=v) (l:=l) (k:=k+1) (i:=i) (by simpa using h)
  rw [Q78] at ih ⊢
  rw [show (i+1)*3+2=(i*3+2)+1+1+1 by omega]
  simp only [fmG,List.set_cons_succ]
  rw [ih,if_neg (by omega)]
  congr 3
  exact Q6h fun j u _=>by
   by_cases e:k+1+j=k+1+i
   ·rw [if_pos e,if_pos (by omega)]
   ·rw [if_neg e,if_neg (by omega)]
theorem Qbb {g:Nat→Fm→V} {n:Nat}:∀ {l:List Fm} {k:Nat},(∀ j f,l[j]?=some f→(g (k+j) f).blo n=true)→blos n (fmG g k l)=true
 | [],_,_=>rfl
 | f::l,k,h=>by
  simp only [fmG,blos,V.blo,Bool.true_and,jF]
  refine ⟨h 0 f rfl,Qbb fun j u hu=>?_⟩
  have:=h (j+1) u (by simpa using hu)
  rwa [show k+1+j=k+(j+1) by omega]
theorem Qba {g:Nat→Fm→V} {n:Nat} {l:List Fm} {k i:Nat} {f:Fm} (hb:blos n (fmG g k l)=true) (h:l[i]?=some f):(g (k+i) f).blo n=true:=by
 have hc:=(Qf1 (g:=g) (k:=k) h).2.2
 rw [Q31] at hc
 exact Qhy hb (jE hc)
def piV (P:Nat→Nat) (j:Nat) (f:Fm):V:=.ms 1 (P j) f.p.length 0 f.p.length false
structure FH (N M:Nat) (l:List Fm) (A:Nat→List UInt8) (o:Nat) (P:Nat→Nat) (h:List B):Prop where
 oN:N≤o∧o<M
 PN:∀ j,j<l.length→N≤P j∧P j<M∧P j≠o
 inj:∀ i j,i<l.length→j<l.length→P i=P j→i=j
 out:bget h o=some (.blk (fmG (piV P) 0 l) false)
 pic:∀ j,j<l.length→bget h (P j)=some (.blk (ofBytes (A j)) true)
 len:∀ j f,l[j]?=some f→(A j).length=f.p.length
section
variable {N M:Nat} {l:List Fm} {A:Nat→List UInt8} {o:Nat} {P:Nat→Nat} {h:List B}
theorem FH.app {g:List B} (e:FH N M l A o P h):FH N M l A o P (h++g) :=
 ⟨e.oN,e.PN,e.inj,Q01 e.out,fun j hj=>Q01 (e.pic j hj),e.len⟩
theorem FH.other {k:Nat} {b:B} (e:FH N M l A o P h) (hk:k<N∨M≤k):FH N M l A o P (bset h k b):=by
 refine ⟨e.oN,e.PN,e.inj,?_,fun j hj=>?_,e.len⟩
 ·have:=e.oN
  rw [Q02 (by omega)];exact e.out
 ·have:=e.PN j hj
  rw [Q02 (by omega)];exact e.pic j hj
theorem FH.put {i m:Nat} {u:UInt8} (e:FH N M l A o P h) (hi:i<l.length):FH N M l (fun j=>if j=i then (A i).set m u else A j) o P (bset h (P i) (.blk (ofBytes ((A i).set m u)) true)):=by
 refine ⟨e.oN,e.PN,e.inj,?_,fun j hj=>?_,fun j f hf=>?_⟩
 ·have:=(e.PN i hi).2.2
  rw [Q02 this];exact e.out
 ·by_cases hji:j=i
  ·subst hji
   rw [if_pos rfl,Q0b (Q05 (e.pic j hj))]
  ·rw [if_neg hji,Q02 (fun q=>hji (e.inj _ _ hj hi q.symm))]
   exact e.pic j hj
 ·by_cases hji:j=i
  ·subst hji
   rw [if_pos rfl,List.length_set]
   exact e.len j f hf
  ·rw [if_neg hji];exact e.len j f hf
end
theorem Q4k {mk:List Bool} {n:Nat} {tm:List V} {h:List B} (hn:n≤h.length) (c:Cl h):∃ k,n≤k∧norm mk n ⟨tm,h⟩=⟨Q0m mk tm,h.take k⟩∧Cl (h.take k)∧(k=h.length∨blos k (Q0m mk tm)=true):=by
 obtain ⟨j,h1,h2,h3⟩:=Q4h (n:=n) (tm:=Q0m mk tm) (k:=h.length-n) (h:=h) (by omega)
 have e:(norm mk n ⟨tm,h⟩).h=h.take j:=h2
 have c':=Q45 (m:=mk) (n:=n) (s:=⟨tm,h⟩) hn c
 rw [e] at c'
 refine ⟨j,h1,?_,c',?_⟩
 ·show (⟨Q0m mk tm,trunc n (Q0m mk tm) h⟩:St)=_
  congr 1
 ·rcases h3 with h3|h3
  ·exact .inl h3
  ·exact .inr h3.1
theorem Q19 {n:Nat} {tm:List V} {h:List B} (hn:n≤h.length) (c:Cl h):∃ k,n≤k∧trunc n tm h=h.take k∧Cl (h.take k)∧(k=h.length∨blos k tm=true):=by
 obtain ⟨j,h1,h2,h3⟩:=Q4h (n:=n) (tm:=tm) (k:=h.length-n) (h:=h) (by omega)
 have c':Cl (trunc n tm h):=Qak (by omega) c
 have e:trunc n tm h=h.take j:=h2
 rw [e] at c'
 refine ⟨j,h1,e,c',?_⟩
 rcases h3 with h3|h3
 ·exact .inl h3
 ·exact .inr h3.1
structure Cg where
 f:Int
 p:Int
 o:UInt8
 n:UInt8
def cgV (x:Cg):List V:=[.int .i64 x.f,.int .i64 x.p,.int .u8 x.o.toNat,.int .u8 x.n.toNat]
def cgC:List Cg→List V
 | []=>[]
 | x::l=>.int .i64 x.f::.int .i64 x.p::.int .u8 x.o.toNat::.int .u8 x.n.toNat::cgC l
theorem Q3i:∀ l,(cgC l).length=l.length*4
 | []=>rfl
 | _::l=>by simp only [cgC,List.length_cons,Q3i l];omega
theorem cgC_append:∀ l m,cgC (l++m)=cgC l++cgC m
 | [],_=>rfl
 | x::l,m=>by simp only [cgC,List.cons_append,cgC_append l m]
theorem Qql (l:List Cg) (x:Cg):cgC (l++[x])=cgC l++cgV x:=cgC_append l [x]
theorem Qho:∀ {l:List Cg} {i:Nat} {x:Cg},l[i]?=some x→(cgC l).drop (i*4)=.int .i64 x.f::.int .i64 x.p::.int .u8 x.o.toNat::.int .u8 x.n.toNat::cgC (l.drop (i+1))
 | g::l,0,f,h=>by simp only [List.getElem?_cons_zero,jA] at h;subst h;rfl
 | g::l,i+1,f,h=>by
  rw [show (i+1)*4=i*4+1+1+1+1 by omega]
  simp only [cgC,List.drop_succ_cons]
  exact Qho (l:=l) (by simpa using h)
theorem Q7l {l:List Cg} {i:Nat} {x:Cg} (h:l[i]?=some x):part (cgC l) (i*4) 4=some (cgV x):=part4 (Qho h)
theorem VwLF.cgC {h:List B} {d:Nat}:∀ l:List Cg,VwLF h (d+1) (cgC l) (cgC l)
 | []=>VwLF.nil
 | x::l=>VwLF.cons (VwF.int rfl) (VwLF.cons (VwF.int rfl) (VwLF.cons (VwF.int rfl) (VwLF.cons (VwF.int rfl) (VwLF.cgC l))))
def cgL (l:List Cg):V:=.sl (decide (l=[])) l.length (cgC l)
def CL (M:Nat) (h:List B) (l:List Cg) (v:V):Prop:=(l=[]∧v=.nilsl)∨∃ q,M≤q∧l≠[]∧v=.ms 4 q (l.length*4) 0 l.length false∧bget h q=some (.blk (cgC l) true)
section
variable {M:Nat} {h:List B} {l:List Cg} {v:V}
theorem CL.app {g:List B} (e:CL M h l v):CL M (h++g) l v:=by
 rcases e with e|⟨q,e1,e2,e3,e4⟩
 ·exact .inl e
 ·exact .inr ⟨q,e1,e2,e3,Q01 e4⟩
theorem CL.other {k:Nat} {b:B} (e:CL M h l v) (hk:k<M):CL M (bset h k b) l v:=by
 rcases e with e|⟨q,e1,e2,e3,e4⟩
 ·exact .inl e
 ·exact .inr ⟨q,e1,e2,e3,by rw [Q02 (by omega)];exact e4⟩
theorem CL.take {k:Nat} (e:CL M h l v) (hv:v.blo k=true):CL M (h.take k) l v:=by
 rcases e with e|⟨q,e1,e2,rfl,e4⟩
 ·exact .inl e
 ·exact .inr ⟨q,e1,e2,rfl,by rw [Q09 (of_decide_eq_true hv)];exact e4⟩
theorem CL.vw {d:Nat} (e:CL M h l v):VwF h (d+1+1) v (cgL l):=by
 unfold cgL
 rcases e with ⟨rfl,rfl⟩|⟨q,e1,e2,rfl,e4⟩
 ·exact VwF.nil
 ·rw [decide_eq_false e2]
  exact VwF.ms e4 (Q3i l) (Q0y (Q3i l)) (VwLF.cgC l)
theorem CL.blo {k:Nat} (e:CL M h l v) (hk:h.length≤k):v.blo k=true:=by
 rcases e with ⟨_,rfl⟩|⟨q,_,_,rfl,e4⟩
 ·rfl
 ·exact decide_eq_true (by have:=Q05 e4;omega)
end
def mixP (NU:Nat→UInt8) (p:List UInt8) (m:Nat):List UInt8:=(List.range m).map NU++p.drop m
theorem Q7a {NU:Nat→UInt8} {p:List UInt8} {m:Nat} (h:m≤p.length):(mixP NU p m).length=p.length:=by
 unfold mixP;simp;omega
theorem Qri {NU:Nat→UInt8} {p:List UInt8}:mixP NU p 0=p:=rfl
theorem Qpi {NU:Nat→UInt8} {p:List UInt8} {m:Nat} (h:m<p.length):(mixP NU p m).set m (NU m)=mixP NU p (m+1):=by
 unfold mixP
 rw [List.range_succ,List.map_append,List.set_append_right _ _ (by simp)]
 simp
 rw [List.drop_eq_getElem_cons h]
 rfl
theorem Qco {NU:Nat→UInt8} {p:List UInt8} {m:Nat} (h:m<p.length) (e:NU m=p.getD m 0):mixP NU p (m+1)=mixP NU p m:=by
 unfold mixP
 have e2:NU m=p[m]:=by rw [e,jM,jC h];rfl
 rw [List.drop_eq_getElem_cons h,List.range_succ,List.map_append,← e2]
 simp
def mA (NU:Nat→Nat→UInt8) (l:List Fm) (i m:Nat) (j:Nat):List UInt8 :=
 match l[j]? with
 | some f=>if j<i then mixP (NU j) f.p f.p.length else if j=i then mixP (NU j) f.p m else f.p
 | none=>[]
theorem Qit {NU:Nat→Nat→UInt8} {l:List Fm} {i m:Nat} {f:Fm} (h:l[i]?=some f):mA NU l i m i=mixP (NU i) f.p m:=by
 unfold mA;rw [h];dsimp only;rw [if_neg (Nat.lt_irrefl i),if_pos rfl]
theorem Qlv {NU:Nat→Nat→UInt8} {l:List Fm} {i:Nat} {f:Fm} (h:l[i]?=some f):mA NU l i f.p.length=mA NU l (i+1) 0:=by
 funext j
 unfold mA
 cases hj:l[j]? with
 | none=>rfl
 | some g =>
  dsimp only
  by_cases h1:j<i
  ·rw [if_pos h1,if_pos (by omega)]
  ·rw [if_neg h1]
   by_cases h2:j=i
   ·subst h2
    rw [h] at hj
    cases hj
    rw [if_pos rfl,if_pos (by omega)]
   ·rw [if_neg h2,if_neg (by omega)]
    by_cases h3:j=i+1
    ·rw [if_pos h3,Qri]
    ·rw [if_neg h3]
theorem Qrk {NU:Nat→Nat→UInt8} {l:List Fm} {i m:Nat} {f:Fm} (h:l[i]?=some f) (hm:m<f.p.length):(fun j=>if j=i then (mA NU l i m i).set m (NU i m) else mA NU l i m j)=mA NU l i (m+1):=by
 funext j
 by_cases e:j=i
 ·subst e
  rw [if_pos rfl,Qit h,Qit h,Qpi hm]
 ·rw [if_neg e]
  unfold mA
  cases l[j]? with
  | none=>rfl
  | some g =>
   dsimp only
   by_cases h1:j<i
   ·rw [if_pos h1,if_pos h1]
   ·rw [if_neg h1,if_neg h1,if_neg e,if_neg e]
theorem Qtk {NU:Nat→Nat→UInt8} {l:List Fm} {i m:Nat} {f:Fm} (h:l[i]?=some f) (hm:m<f.p.length) (e:NU i m=f.p.getD m 0):mA NU l i m=mA NU l i (m+1):=by
 funext j
 by_cases ej:j=i
 ·subst ej
  rw [Qit h,Qit h,Qco hm e]
 ·unfold mA
  cases l[j]? with
  | none=>rfl
  | some g =>
   dsimp only
   by_cases h1:j<i
   ·rw [if_pos h1,if_pos h1]
   ·rw [if_neg h1,if_neg h1,if_neg ej,if_neg ej]
theorem Qlq {NU:Nat→UInt8} {p:List UInt8}:∀ {m:Nat},m≤p.length→(∀ k,k<m→NU k=p.getD k 0)→mixP NU p m=p
 | 0,_,_=>rfl
 | m+1,h,e=>by rw [Qco h (e m (by omega)),Qlq (by omega) fun k hk=>e k (by omega)]
def cgM (NU:Nat→UInt8) (i:Nat) (p:List UInt8):Nat→List Cg
 | 0=>[]
 | m+1=>if NU m=p.getD m 0 then cgM NU i p m else cgM NU i p m++[⟨i,m,p.getD m 0,NU m⟩]
def cgA (NU:Nat→Nat→UInt8) (l:List Fm):Nat→List Cg
 | 0=>[]
 | i+1=>cgA NU l i++(match l[i]? with
  | some f=>cgM (NU i) i f.p f.p.length
  | none=>[])
theorem Qry {NU:Nat→UInt8} {i:Nat} {p:List UInt8}:∀ {m:Nat},(∀ k,k<m→NU k=p.getD k 0)→cgM NU i p m=[]
 | 0,_=>rfl
 | m+1,e=>by rw [cgM,if_pos (e m (by omega)),Qry fun k hk=>e k (by omega)]
theorem Qqm {NU:Nat→Nat→UInt8} {l:List Fm} {i:Nat} {f:Fm} (h:l[i]?=some f):cgA NU l (i+1)=cgA NU l i++cgM (NU i) i f.p f.p.length:=by rw [cgA,h]
theorem Qbn {NU:Nat→Nat→UInt8} {l:List Fm} {i:Nat}:∀ {k:Nat},(∀ j f m,i≤j→j<i+k→l[j]?=some f→m<f.p.length→NU j m=f.p.getD m 0)→cgA NU l (i+k)=cgA NU l i
 | 0,_=>rfl
 | k+1,e=>by
  rw [← Nat.add_assoc,cgA,Qbn (k:=k) fun j f m h1 h2=>e j f m h1 (by omega)]
  cases hj:l[i+k]? with
  | none=>simp
  | some f =>
   dsimp only
   rw [Qry fun m hm=>e (i+k) f m (by omega) (by omega) hj hm,List.append_nil]
theorem Qel {NU:Nat→Nat→UInt8} {l:List Fm} {i:Nat}:∀ {k:Nat},(∀ j f m,i≤j→j<i+k→l[j]?=some f→m<f.p.length→NU j m=f.p.getD m 0)→mA NU l (i+k) 0=mA NU l i 0
 | 0,_=>rfl
 | k+1,e=>by
  rw [← Qel (k:=k) fun j f m h1 h2=>e j f m h1 (by omega)]
  cases hj:l[i+k]? with
  | some f =>
   show mA NU l (i+k+1) 0=_
   rw [← Qlv hj]
   funext j
   by_cases ej:j=i+k
   ·subst ej
    rw [Qit hj,Qit hj,Qri]
    exact Qlq (Nat.le_refl _) fun m hm=>e (i+k) f m (by omega) (by omega) hj hm
   ·unfold mA
    cases l[j]? with
    | none=>rfl
    | some g =>
     dsimp only
     by_cases h1:j<i+k
     ·rw [if_pos h1,if_pos h1]
     ·rw [if_neg h1,if_neg h1,if_neg ej,if_neg ej]
  | none =>
   have hl:l.length≤i+k:=List.getElem?_eq_none_iff.1 hj
   funext j
   unfold mA
   cases hg:l[j]? with
   | none=>rfl
   | some g =>
    have:=(jB.1 hg).1
    dsimp only
    rw [if_pos (show j<i+(k+1) by omega),if_pos (show j<i+k by omega)]
theorem Qso (z:Int):((UInt8.ofNat (IntKind.u8.wrap z).toNat).toNat:Int)=IntKind.u8.wrap z:=by
 have h:0≤IntKind.u8.wrap z∧IntKind.u8.wrap z<256:=by
  unfold IntKind.wrap
  simp only [IntKind.bits,IntKind.signed]
  constructor<;>(first|omega|(split<;>omega)|(simp;omega))
 generalize IntKind.u8.wrap z=w at *
 have e:(UInt8.ofNat w.toNat).toNat=w.toNat:=by
  rw [UInt8.toNat_ofNat']
  exact Nat.mod_eq_of_lt (by omega)
 rw [e]
 omega
def newU (l:List Fm) (W H:Nat) (s:Sp) (i n:Nat):UInt8:=UInt8.ofNat (IntKind.u8.wrap (newP l W H s i (n%W) (n/W))).toNat
theorem Qjk {n:Nat} (h:n<256):IntKind.u8.wrap (n:Int)=n:=by
 unfold IntKind.wrap
 simp only [IntKind.bits,IntKind.signed]
 first|omega|(split<;>omega)|(simp;omega)
theorem Q5k {l:List Fm} {W H:Nat} {s:Sp} {i n:Nat} {f:Fm} (hf:l[i]?=some f) (h:Q35 s i (n%W:Nat) (n/W:Nat)=true):newU l W H s i n=f.p.getD n 0:=by
 have e:n/W*W+n%W=n:=Nat.div_add_mod' n W
 unfold newU newP
 rw [if_pos h,e,Qjk Qee,Qaz hf]
 simp
def doF (l:List Fm) (W H:Nat) (s:Sp):List Fm:=l.mapIdx fun i f=>⟨false,f.w,f.h,mixP (newU l W H s i) f.p f.p.length⟩
def doC (l:List Fm) (W H:Nat) (s:Sp):List Cg:=cgA (newU l W H s) l l.length
theorem Q2z {l:List Fm} {W H:Nat} {s:Sp}:(doF l W H s).length=l.length:=by simp [doF]
theorem Qbk {l:List Fm} {W H i:Nat} {s:Sp} {f:Fm} (h:l[i]?=some f):(doF l W H s)[i]?=some ⟨false,f.w,f.h,mixP (newU l W H s i) f.p f.p.length⟩:=by
 unfold doF
 rw [List.getElem?_mapIdx,h]
 rfl
theorem Qrw {l:List Fm} {W H:Nat} {s:Sp} (o:FOk l W H):FOk (doF l W H s) W H:=by
 refine ⟨by rw [Q2z];exact o.n0,by rw [Q2z];exact o.n12,o.w,o.h,fun f hf=>?_⟩
 obtain ⟨i,hi⟩:=List.getElem?_of_mem hf
 have hl:=(jB.1 hi).1
 rw [Q2z] at hl
 obtain ⟨g,hg,h1,h2,h3⟩:=o.at hl
 rw [Qbk hg] at hi
 cases hi
 exact ⟨h1,h2,(Q7a (Nat.le_refl _)).trans h3⟩
theorem FH.vw {N M:Nat} {l l':List Fm} {A:Nat→List UInt8} {o:Nat} {P:Nat→Nat} {h:List B} {d:Nat} (e:FH N M l A o P h) (hl:l'.length=l.length) (hA:∀ (j:Nat) (f:Fm),l[j]?=some f→l'[j]?=some (Fm.mk false f.w f.h (A j))):VwF h (d+1+1+1) (.ms 3 o (l.length*3) 0 l.length false) (.sl false l'.length (fmC l')):=by
 rw [hl]
 refine VwF.ms e.out Q1p (Q0y Q1p) ?_
 rw [Qpx (k:=0)]
 have key:∀ (m:List Fm) (m':List Fm) (k:Nat),m'.length=m.length→(∀ (j:Nat) (f:Fm),m[j]?=some f→bget h (P (k+j))=some (.blk (ofBytes (A (k+j))) true)∧(A (k+j)).length=f.p.length∧m'[j]?=some (Fm.mk false f.w f.h (A (k+j))))→VwLF h (d+1+1) (fmG (piV P) k m) (fmG (fun _ f=>.sl f.c f.p.length (ofBytes f.p)) k m'):=by
  intro m
  induction m with
  | nil =>
   intro m' k hm _
   rw [List.eq_nil_of_length_eq_zero hm]
   exact VwLF.nil
  | cons f m ih =>
   intro m' k hm hh
   cases m' with
   | nil=>simp at hm
   | cons f' m' =>
    obtain ⟨h1,h2,h3⟩:=hh 0 f rfl
    simp only [List.getElem?_cons_zero,jA,Nat.add_zero] at h1 h2 h3
    subst h3
    refine VwLF.cons (VwF.int rfl) (VwLF.cons (VwF.int rfl) (VwLF.cons ?_ (ih m' (k+1) (by simpa using hm) fun j g hj=>?_)))
    ·exact VwF.bytes (l:=A k) h1 h2.symm h2.symm rfl rfl
    ·have:=hh (j+1) g (by simpa using hj)
     rw [show k+(j+1)=k+1+j by omega] at this
     simpa using this
 exact key l l' 0 hl fun j f hf=>by
  rw [Nat.zero_add]
  exact ⟨e.pic j (jB.1 hf).1,e.len j f hf,hA j f hf⟩
end Go.Dr.T
