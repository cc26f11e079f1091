/- Chapter 08: is a pixel among the changes? -/
import Derived.Test.YthihdpbgmhnloaaGreatDoorG10
namespace Go.Dr.T
def atB (i q:Int) (x:Cg):Bool:=decide (x.f=i) && decide (x.p=q)
def cgJ (p:Cg→Bool):List Cg→Nat→Int
 | [],_ => -1
 | x :: l,i=>if p x=true then (i:Int) else cgJ p l (i+1)
theorem cgJ_drop {p:Cg→Bool}:∀ {l:List Cg} {i n:Nat},(∀ j x,j<i→l[j]?=some x→p x=false)→cgJ p l n=cgJ p (l.drop i) (n+i)
 | l,0,n,_=>rfl
 | [],i+1,n,_=>rfl
 | f :: l,i+1,n,hh=>by
  rw [cgJ,if_neg (by rw [hh 0 f (Nat.succ_pos _) rfl];decide),List.drop_succ_cons,cgJ_drop (l:=l) (i:=i) (n:=n+1) fun j g hj hg=>hh (j+1) g (by omega) (by simpa using hg)]
  congr 1
  omega
theorem cgJ_any {p:Cg→Bool}:∀ {l:List Cg} {n:Nat},decide (cgJ p l n ≥ 0)=l.any p
 | [],n=>rfl
 | x :: l,n=>by
  rw [cgJ,List.any_cons]
  cases e:p x
  ·rw [if_neg (by decide),cgJ_any (l:=l),Bool.false_or]
  ·rw [if_pos rfl,Bool.true_or]
   exact decide_eq_true (by omega)
set_option maxRecDepth 100000 in
set_option maxHeartbeats 20000000 in
theorem chat_ok {x:Cg} {i q z:Int}:Fun FB md 57 [.agg (cgV x),.rp [.int .i64 i] 0,.rp [.int .i64 z,.int .i64 q] 0] (.bool (atB i q x)):=by
 unfold atB cgV
 refine fun_of rfl rfl ?_
 by_cases h1:x.f=i
 ·rw [decide_eq_true h1,Bool.true_and]
  repeat' (first
 | (conv=>whnf)
   first
   | (refine Br.decT ?_ ?_;(focus first | assumption | omega))
   | refine Get.mk _ rfl ?_
   | refine Leaves.of ?_
   | refine Vw.bool ?_
   | (refine Req.mk ?_ ?_;(focus first | rfl | decide | exact ⟨rfl,rfl⟩ | exact ⟨rfl,by decide⟩ | exact (fun _=>rfl) | exact (fun h=>nomatch h) | (simp;done) | omega | (simp [big];done) | exact le_big (by omega) | exact lt_big (by omega))))
  all_goals first | rfl | (exfalso;omega;done)
 ·rw [decide_eq_false h1,Bool.false_and]
  repeat' (first
 | (conv=>whnf)
   first
   | (refine Br.decF ?_ ?_;(focus first | assumption | omega))
   | refine Get.mk _ rfl ?_
   | refine Leaves.of ?_
   | refine Vw.bool ?_
   | (refine Req.mk ?_ ?_;(focus first | rfl | decide | exact ⟨rfl,rfl⟩ | exact ⟨rfl,by decide⟩ | exact (fun _=>rfl) | exact (fun h=>nomatch h) | (simp;done) | omega | (simp [big];done) | exact le_big (by omega) | exact lt_big (by omega))))
  all_goals first | rfl | (exfalso;omega;done)
set_option maxRecDepth 100000 in
set_option maxHeartbeats 20000000 in
theorem atI_ok {i q z:Int} {d:Bool} {cs:List Cg} (hl:cs.length≤30000):Fun FB md 96 [.sl d cs.length (cgC cs),.fn 57 [.rp [.int .i64 i] 0,.rp [.int .i64 z,.int .i64 q] 0]] (.int .i64 (cgJ (atB i q) cs 0)):=by
 refine fun_of rfl rfl ?_
 skip
 all_goals try (exfalso;omega;done)
 refine LoopP.by (fun k:Nat=>k≤cs.length∧∀ j z,j<k→cs[j]?=some z→atB i q z=false) (fun k=>[(8,.int .i64 (k:Nat))]) (fun k=>[]) (fun k=>cs.length - k) 0 ⟨Nat.zero_le _,fun j v h=>absurd h (Nat.not_lt_zero _)⟩ rfl ?_
 rintro j ⟨w1,w2⟩
 dsimp only
 by_cases hi:j<cs.length
 ·obtain ⟨y,hx⟩:∃ z,cs[j]?=some z:=⟨_,List.getElem?_eq_getElem hi⟩
  have hp:=cgC_part hx
  have k1:=chat_ok (x:=y) (i:=i) (q:=q) (z:=z)
  have hiw:IntKind.i64.wrap ((j:Int)+1)=((j+1:Nat):Int):=by rw [wrap_i64 (by omega) (by omega)];omega
  have hil:j≤cs.length - 1:=by omega
  have h0l:0<cs.length:=by omega
  have hnx:atB i q y=false→∀ k u,k<j+1→cs[k]?=some u→atB i q u=false:=fun e k u hj hu=>by
   by_cases e' : k=j
   ·subst e'; rw [hx] at hu;cases hu;exact e
   ·exact w2 k u (by omega) hu
  cases e1:atB i q y <;> rw [e1] at k1
  ·have hnx:=hnx e1
   repeat' (first
 | (conv=>whnf)
   first
   | refine Bnd.eq hiw ?_
   | refine Br.f ?_
   | (refine Br.decT ?_ ?_;(focus first | assumption | omega))
   | refine Get.mk _ hp ?_
   | refine call_fun rfl rfl k1 (.inl rfl) ?_
   | refine Idx.nat hil ?_
   | refine Req.mk h0l ?_)
   all_goals first | (exfalso;omega;done) | exact NextP.mk (j+1) ⟨hi,hnx⟩ (by omega) rfl
  ·have hE:cgJ (atB i q) cs 0=(j:Int):=by
    obtain ⟨hi', hg⟩:=List.getElem?_eq_some_iff.1 hx
    rw [cgJ_drop w2,List.drop_eq_getElem_cons hi', hg,cgJ,if_pos e1,Nat.zero_add]
   rw [hE]
   repeat' (first
 | (conv=>whnf)
   first
   | refine Br.t ?_
   | (refine Br.decT ?_ ?_;(focus first | assumption | omega))
   | refine Get.mk _ hp ?_
   | refine call_fun rfl rfl k1 (.inl rfl) ?_
   | refine Idx.nat hil ?_
   | refine Req.mk h0l ?_
   | refine Get.mk _ rfl ?_
   | refine Leaves.of ?_
   | refine Vw.int ?_)
   all_goals first | rfl | (exfalso;omega;done)
 obtain rfl:j=cs.length:=by omega
 have hE:cgJ (atB i q) cs 0 = -1:=by rw [cgJ_drop w2,List.drop_length];rfl
 rw [hE]
 repeat' (first
 | (conv=>whnf)
   first
   | (refine Br.decF ?_ ?_;(focus first | assumption | omega))
   | refine Get.mk _ rfl ?_
   | refine Leaves.of ?_
   | refine Vw.int ?_)
 all_goals first | rfl | (exfalso;omega;done)
set_option maxRecDepth 100000 in
set_option maxHeartbeats 20000000 in
theorem atA_ok {i q z:Int} {d:Bool} {cs:List Cg} (hl:cs.length≤30000):Fun FB md 56 [.sl d cs.length (cgC cs),.fn 57 [.rp [.int .i64 i] 0,.rp [.int .i64 z,.int .i64 q] 0]] (.bool (cs.any (atB i q))):=by
 have k1:=atI_ok (i:=i) (q:=q) (z:=z) (d:=d) hl
 have k2:=cgJ_any (p:=atB i q) (l:=cs) (n:=0)
 generalize cgJ (atB i q) cs 0=z at *
 rw [← k2]
 refine fun_of rfl rfl ?_
 repeat' (first
 | (conv=>whnf)
   first
   | refine call_fun rfl rfl k1 (.inl rfl) ?_
   | refine Get.mk _ rfl ?_
   | refine Leaves.of ?_
   | refine Vw.bool ?_)
 all_goals first | rfl | (exfalso;omega;done)
theorem cgM_any {NU:Nat→UInt8} {i:Nat} {p:List UInt8} {i' q:Nat}:∀ {m:Nat},(cgM NU i p m).any (atB i' q)=(decide (i=i') && (decide (q<m) && !decide (NU q=p.getD q 0)))
 | 0=>by simp [cgM]
 | m+1=>by
  have ih:=cgM_any (NU:=NU) (i:=i) (p:=p) (i' := i') (q:=q) (m:=m)
  rw [cgM]
  by_cases e:NU m=p.getD m 0
  ·rw [if_pos e,ih]
   by_cases h:q=m
   ·subst h;simp [e]
   ·rw [show decide (q<m+1)=decide (q<m) from decide_eq_decide.2 (by omega)]
  ·rw [if_neg e,List.any_append,ih]
   simp only [List.any_cons,List.any_nil,Bool.or_false,atB]
   by_cases h:q=m
   ·subst h
    rw [decide_eq_false e]
    by_cases hi:i=i'
    ·subst hi;simp
    ·have:¬ (i:Int)=(i' : Int):=by omega
     simp [hi,this]
   ·rw [show decide (q<m+1)=decide (q<m) from decide_eq_decide.2 (by omega),show decide ((m:Int)=(q:Int))=false from decide_eq_false (by omega),Bool.and_false,Bool.or_false]
theorem cgA_any {NU:Nat→Nat→UInt8} {l:List Fm} {i' q:Nat}:∀ {n:Nat},(cgA NU l n).any (atB i' q)=(decide (i' < n) && (match l[i']? with
  | some f=>decide (q<f.p.length) && !decide (NU i' q=f.p.getD q 0)
  | none=>false))
 | 0=>by simp [cgA]
 | n+1=>by
  rw [cgA,List.any_append,cgA_any (n:=n)]
  by_cases h:i' = n
  ·subst h
   rw [decide_eq_false (Nat.lt_irrefl i'),Bool.false_and,Bool.false_or,decide_eq_true (Nat.lt_succ_self i'),Bool.true_and]
   cases l[i']? with
   | none=>rfl
   | some f=>dsimp only;rw [cgM_any];simp
  ·rw [show decide (i' < n+1)=decide (i' < n) from decide_eq_decide.2 (by omega)]
   cases l[n]? with
   | none=>exact Bool.or_false _
   | some f=>dsimp only;rw [cgM_any,show decide (n=i')=false from decide_eq_false (fun e=>h e.symm),Bool.false_and];exact Bool.or_false _
theorem doC_any {l:List Fm} {W H:Nat} {s:Sp} {i q:Nat} {f:Fm} (hf:l[i]?=some f) (hq:q<f.p.length):(doC l W H s).any (atB i q) = !decide (newU l W H s i q=f.p.getD q 0):=by
 unfold doC
 rw [cgA_any,decide_eq_true (List.getElem?_eq_some_iff.1 hf).1,hf]
 dsimp only
 rw [decide_eq_true hq,Bool.true_and,Bool.true_and]
end Go.Dr.T
namespace Go.Dr.T
def tY (F:List Fm) (W H:Nat) (s:Sp) (i q:Nat):Bool :=
 if s.k=1 then !keepB s i (q % W:Nat) (q / W:Nat) && !(decide (s.a=0) && decide (s.b=0)) else !decide (newU F W H s i q=(pxL F i).getD q 0)
def tO (N W H:Nat) (s:Sp) (i q:Nat):Bool:=oldB N W H i ((q % W:Nat) - s.a) ((q / W:Nat) - s.b)
def tQ (W:Nat) (s:Sp) (q:Nat):Nat:=((q:Int) - (s.b * W+s.a)).toNat
structure Tr where
 q:Nat
 b:List Int
def fK (W H:Nat) (l:List Fm) (ss:List Sp) (k:Nat):List Fm:=rnF W H (czF l) (ss.take k)
def tr (W H:Nat) (l:List Fm) (ss:List Sp) (i q:Nat):Nat→Tr
 | 0=>⟨q,[]⟩
 | k+1=>match ss[ss.length - (k+1)]? with
  | none=>tr W H l ss i q k
  | some s=>if tY (fK W H l ss (ss.length - (k+1))) W H s i (tr W H l ss i q k).q=true then ⟨if s.k=1 then tQ W s (tr W H l ss i q k).q else (tr W H l ss i q k).q,(tr W H l ss i q k).b++[((ss.length - (k+1):Nat):Int)]⟩ else tr W H l ss i q k
def trOk (W H:Nat) (l:List Fm) (ss:List Sp) (i q:Nat) (k:Nat):Prop:=∀ s,ss[ss.length - (k+1)]?=some s→s.k=1→tY (fK W H l ss (ss.length - (k+1))) W H s i (tr W H l ss i q k).q=true→tO l.length W H s i (tr W H l ss i q k).q=true
section
variable {W H:Nat} {l:List Fm} {ss:List Sp} {i q:Nat}
theorem tr_at {k:Nat} {s:Sp} (h:ss[ss.length - (k+1)]?=some s):tr W H l ss i q (k+1)=if tY (fK W H l ss (ss.length - (k+1))) W H s i (tr W H l ss i q k).q=true then ⟨if s.k=1 then tQ W s (tr W H l ss i q k).q else (tr W H l ss i q k).q,(tr W H l ss i q k).b++[((ss.length - (k+1):Nat):Int)]⟩ else tr W H l ss i q k:=by
 rw [tr,h]
theorem tr_no {k:Nat} {s:Sp} (h:ss[ss.length - (k+1)]?=some s) (hy:tY (fK W H l ss (ss.length - (k+1))) W H s i (tr W H l ss i q k).q=false):tr W H l ss i q (k+1)=tr W H l ss i q k:=by
 rw [tr_at h,if_neg (by rw [hy];decide)]
theorem tr_len:∀ {k:Nat},(tr W H l ss i q k).b.length≤k
 | 0=>Nat.le_refl _
 | k+1=>by
  have ih:=tr_len (k:=k)
  rw [tr]
  split
  ·omega
  ·split
   ·simp only [List.length_append,List.length_cons,List.length_nil];omega
   ·omega
theorem tQ_in {N:Nat} {s:Sp} {i q:Nat} (hW:1≤W) (h:tO N W H s i q=true):tQ W s q<W * H∧((tQ W s q:Nat):Int)=q - (s.b * W+s.a):=by
 unfold tO oldB outB at h
 simp only [Bool.not_eq_true', Bool.or_eq_false_iff,decide_eq_false_iff_not,Int.not_lt] at h
 have e:(((q / W * W+q % W:Nat):Nat):Int)=(q:Int):=by rw [Nat.div_add_mod']
 rw [Int.natCast_add,Int.natCast_mul] at e
 obtain ⟨⟨_,h1,h2⟩,h3,h4⟩:=h
 generalize hy:((q / W:Nat):Int) - s.b=y at *
 generalize hx:((q % W:Nat):Int) - s.a=x at *
 obtain ⟨y,rfl⟩:∃ n:Nat,y=n:=⟨y.toNat,by omega⟩
 obtain ⟨x,rfl⟩:∃ n:Nat,x=n:=⟨x.toNat,by omega⟩
 have e2:(q:Int) - (s.b * W+s.a)=((y * W+x:Nat):Int):=by
  rw [← e,Int.natCast_add,Int.natCast_mul, ← hy, ← hx,Int.sub_mul]
  omega
 unfold tQ
 rw [e2]
 refine ⟨?_,by omega⟩
 have:y * W+x<W * H:=by
  have h5:y+1≤H:=by omega
  have h6:(y+1) * W≤H * W:=Nat.mul_le_mul_right W h5
  rw [Nat.succ_mul,Nat.mul_comm H W] at h6
  omega
 omega
theorem tr_lt (hW:1≤W) (hq:q<W * H):∀ {k:Nat},(∀ j,j<k→trOk W H l ss i q j)→(tr W H l ss i q k).q<W * H
 | 0,_=>hq
 | k+1,h=>by
  have ih:=tr_lt hW hq (k:=k) fun j hj=>h j (by omega)
  have hk:=h k (Nat.lt_succ_self k)
  rw [tr]
  split
  ·exact ih
  ·rename_i s hs
   split
   ·rename_i hy
    dsimp only
    split
    ·rename_i h1
     exact (tQ_in hW (hk s hs h1 hy)).1
    ·exact ih
   ·exact ih
end
def IL (M:Nat) (h:List B) (L:List Int) (v:V):Prop:=(L=[]∧v = .nilsl)∨∃ q,M≤q∧L≠[]∧v = .ms 1 q L.length 0 L.length false∧bget h q=some (.blk (ofInts L) true)
theorem ints_blos (n:Nat):∀ l:List Int,blos n (ofInts l)=true
 | []=>rfl
 | _ :: l=>by have:=ints_blos n l;simp only [ofInts,List.map_cons,blos,V.blo,Bool.true_and] at this ⊢; exact this
def inL (L:List Int):V:=.sl (decide (L=[])) L.length (ofInts L)
section
variable {M:Nat} {h:List B} {L:List Int} {v:V}
theorem IL.app {g:List B} (e:IL M h L v):IL M (h++g) L v:=by
 rcases e with e | ⟨q,e1,e2,e3,e4⟩
 ·exact .inl e
 ·exact .inr ⟨q,e1,e2,e3,bget_app e4⟩
theorem IL.other {k:Nat} {b:B} (e:IL M h L v) (hk:k<M):IL M (bset h k b) L v:=by
 rcases e with e | ⟨q,e1,e2,e3,e4⟩
 ·exact .inl e
 ·exact .inr ⟨q,e1,e2,e3,by rw [bset_other (by omega)];exact e4⟩
theorem IL.take {k:Nat} (e:IL M h L v) (hv:v.blo k=true):IL M (h.take k) L v:=by
 rcases e with e | ⟨q,e1,e2,rfl,e4⟩
 ·exact .inl e
 ·exact .inr ⟨q,e1,e2,rfl,by rw [bget_take (of_decide_eq_true hv)];exact e4⟩
theorem IL.vw {d:Nat} (e:IL M h L v):VwF h (d+1+1) v (inL L):=by
 unfold inL
 rcases e with ⟨rfl,rfl⟩ | ⟨q,e1,e2,rfl,e4⟩
 ·exact VwF.nil
 ·rw [decide_eq_false e2]
  exact VwF.ms e4 (by simp [ofInts]) (part_all (by simp [ofInts])) (VwLF.ints L)
theorem IL.frm (e:IL M h L v):v = .nilsl∨∃ q,v = .ms 1 q L.length 0 L.length false:=by
 rcases e with ⟨_,rfl⟩ | ⟨q,_,_,rfl,_⟩
 ·exact .inl rfl
 ·exact .inr ⟨q,rfl⟩
theorem IL.blo {k:Nat} (e:IL M h L v) (hk:h.length≤k):v.blo k=true:=by
 rcases e with ⟨_,rfl⟩ | ⟨q,_,_,rfl,e4⟩
 ·rfl
 ·exact decide_eq_true (by have:=bget_lt e4;omega)
end
structure TH (vl:V) (i a b:Int) (lg:V) (lp:B) (L:List Int) (v:V) (G:List B):Prop where
 cl:Cl G
 le:7≤G.length
 b0:bget G 0=some (.blk [vl] false)
 b1:bget G 1=some (.blk [.int .i64 i] false)
 b2:bget G 2=some (.blk [.int .i64 a,.int .i64 b] false)
 b3:bget G 3=some (.blk [v] false)
 b4:bget G 4=some (.blk [.int .i64 0] false)
 b5:bget G 5=some (.blk [lg] false)
 lop:bget G 6=some lp
 il:IL 7 G L v
section
variable {vl lg v:V} {i a b:Int} {lp:B} {L:List Int} {G:List B}
theorem TH.take {k:Nat} (e:TH vl i a b lg lp L v G) (hk:7≤k) (hc:Cl (G.take k)):TH vl i a b lg lp L v (G.take k):=by
 have hl:=e.le
 have hb3:bget (G.take k) 3=some (.blk [v] false):=by rw [bget_take (by omega)];exact e.b3
 have hv:v.blo (G.take k).length=true:=by
  have:=blo_of_hbelow hc (mem_bget hb3)
  simpa [B.blo,blos] using this
 have hv' : v.blo k=true:=by
  by_cases hkl:k≤G.length
  ·rwa [List.length_take,Nat.min_eq_left hkl] at hv
  ·exact e.il.blo (by omega)
 exact ⟨hc,by rw [List.length_take];omega,by rw [bget_take (by omega)];exact e.b0,by rw [bget_take (by omega)];exact e.b1,by rw [bget_take (by omega)];exact e.b2,hb3,by rw [bget_take (by omega)];exact e.b4,by rw [bget_take (by omega)];exact e.b5,by rw [bget_take (by omega)];exact e.lop,e.il.take hv'⟩
theorem TH.trunc {tm:List V} {n:Nat} (e:TH vl i a b lg lp L v G) (hn:7≤n) (hn2:n≤G.length):TH vl i a b lg lp L v (trunc n tm G):=by
 obtain ⟨k,h1,h2,h3,h4⟩:=trunc_cut (tm:=tm) hn2 e.cl
 rw [h2]
 exact e.take (by omega) h3
theorem TH.app {x:B} (e:TH vl i a b lg lp L v G) (hb:x.blo G.length=true):TH vl i a b lg lp L v (G++[x]) :=
 ⟨e.cl.app hb,by rw [List.length_append];have:=e.le;omega,bget_app e.b0,bget_app e.b1,bget_app e.b2,bget_app e.b3,bget_app e.b4,bget_app e.b5,bget_app e.lop,e.il.app⟩
theorem TH.high {x:B} {k:Nat} (e:TH vl i a b lg lp L v G) (hk:7≤k) (hv:∀ q n,v = .ms 1 q n 0 n false→q≠k) (hb:x.blo G.length=true):TH vl i a b lg lp L v (bset G k x):=by
 refine ⟨e.cl.set hb,by rw [bset_len];exact e.le,by rw [bset_other (by omega)];exact e.b0,by rw [bset_other (by omega)];exact e.b1,by rw [bset_other (by omega)];exact e.b2,by rw [bset_other (by omega)];exact e.b3,by rw [bset_other (by omega)];exact e.b4,by rw [bset_other (by omega)];exact e.b5,by rw [bset_other (by omega)];exact e.lop,?_⟩
 rcases e.il with h | ⟨q,e1,e2,e3,e4⟩
 ·exact .inl h
 ·exact .inr ⟨q,e1,e2,e3,by rw [bset_other (Ne.symm (hv q _ e3))];exact e4⟩
theorem TH.setlop {lp' : B} (e:TH vl i a b lg lp L v G) (hb:lp'.blo G.length=true):TH vl i a b lg lp' L v (bset G 6 lp') :=
 ⟨e.cl.set hb,by rw [bset_len];exact e.le,by rw [bset_other (by omega)];exact e.b0,by rw [bset_other (by omega)];exact e.b1,by rw [bset_other (by omega)];exact e.b2,by rw [bset_other (by omega)];exact e.b3,by rw [bset_other (by omega)];exact e.b4,by rw [bset_other (by omega)];exact e.b5,bget_same (by have:=e.le;omega),e.il.other (by omega)⟩
theorem fB.lopT {lp' : B} {K:List B→Prop} (e:TH vl i a b lg lp L v G) (hb:lp'.blo G.length=true) (hk:∀ G', G'.length=G.length→(∀ k,k≠6→bget G' k=bget G k)→TH vl i a b lg lp' L v G' → K G'):fB (bset G 6 lp') K :=
 fB.mk (hk _ (bset_len ..) (fun k hk=>bset_other (Ne.symm hk)) (e.setlop hb))
theorem TH.from {a' b' : Int} (e:TH vl i a b lg lp L v G):TH vl i a' b' lg lp L v (bset G 2 (.blk [.int .i64 a', .int .i64 b'] false)) :=
 ⟨e.cl.set rfl,by rw [bset_len];exact e.le,by rw [bset_other (by omega)];exact e.b0,by rw [bset_other (by omega)];exact e.b1,bget_same (by have:=e.le;omega),by rw [bset_other (by omega)];exact e.b3,by rw [bset_other (by omega)];exact e.b4,by rw [bset_other (by omega)];exact e.b5,by rw [bset_other (by omega)];exact e.lop,e.il.other (by omega)⟩
theorem TH.put0 {y:Int} (e:TH vl i a b lg lp [] .nilsl G):TH vl i a b lg lp [y] (.ms 1 G.length 1 0 1 false) (bset (G++[.blk [.int .i64 y] true]) 3 (.blk [.ms 1 G.length 1 0 1 false] false)):=by
 have hl:=e.le
 have hlen:(G++[B.blk [.int .i64 y] true]).length=G.length+1:=by rw [List.length_append];rfl
 have e1:=e.app (x:=.blk [.int .i64 y] true) rfl
 refine ⟨e1.cl.set ?_,by rw [bset_len];exact e1.le,by rw [bset_other (by omega)];exact e1.b0,by rw [bset_other (by omega)];exact e1.b1,by rw [bset_other (by omega)];exact e1.b2,bget_same (by omega),by rw [bset_other (by omega)];exact e1.b4,by rw [bset_other (by omega)];exact e1.b5,by rw [bset_other (by omega)];exact e1.lop,.inr ⟨G.length,hl,by simp,rfl,?_⟩⟩
 ·rw [hlen]
  simp [B.blo,blos,V.blo]
 ·rw [bset_other (by omega)]
  exact bget_new (i:=0)
theorem TH.putS {y:Int} {q n:Nat} (e:TH vl i a b lg lp L (.ms 1 q L.length 0 L.length false) G) (hn:n=L.length+1):TH vl i a b lg lp (L++[y]) (.ms 1 q n 0 n false) (bset (bset (G++[.unborn]) q (.blk (ofInts L++[.int .i64 y]) true)) 3 (.blk [.ms 1 q n 0 n false] false)):=by
 subst hn
 have hl:=e.le
 have hlen:(G++[B.unborn]).length=G.length+1:=by rw [List.length_append];rfl
 have e1:=e.app (x:=.unborn) rfl
 obtain ⟨hq7,hql⟩:7≤q∧q<G.length:=by
  rcases e.il with ⟨_,h⟩ | ⟨q', h1,_,h2,h3⟩
  ·cases h
  ·cases h2;exact ⟨h1,bget_lt h3⟩
 have hi:ofInts L++[.int .i64 y]=ofInts (L++[y]):=by simp [ofInts]
 rw [hi]
 have o:∀ k x,k<7→k≠3→bget (G++[B.unborn]) k=some x→bget (bset (bset (G++[.unborn]) q (.blk (ofInts (L++[y])) true)) 3 (.blk [.ms 1 q (L.length+1) 0 (L.length+1) false] false)) k=some x:=fun k x h1 h2 h3=>by
  rw [bset_other (Ne.symm h2),bset_other (by omega)];exact h3
 refine ⟨(e1.cl.set (by simp only [B.blo,ints_blos,Bool.or_self])).set ?_,by rw [bset_len,bset_len];exact e1.le,o _ _ (by omega) (by omega) e1.b0,o _ _ (by omega) (by omega) e1.b1,o _ _ (by omega) (by omega) e1.b2,bget_same (by rw [bset_len];omega),o _ _ (by omega) (by omega) e1.b4,o _ _ (by omega) (by omega) e1.b5,o _ _ (by omega) (by omega) e1.lop,.inr ⟨q,hq7,by simp,by simp,?_⟩⟩
 ·rw [bset_len,hlen]
  simp [B.blo,blos,V.blo]
  omega
 ·rw [bset_other (by omega)]
  exact bget_same (by omega)
theorem TH.rev {q:Nat} (e:TH vl i a b lg lp L (.ms 1 q L.length 0 L.length false) G):TH vl i a b lg lp L.reverse (.ms 1 q L.length 0 L.length false) (bset G q (.blk (ofInts L.reverse) true)):=by
 have hl:=e.le
 obtain ⟨hq7,hql,hne⟩:7≤q∧q<G.length∧L≠[]:=by
  rcases e.il with ⟨_,h⟩ | ⟨q', h1,h4,h2,h3⟩
  ·cases h
  ·cases h2;exact ⟨h1,bget_lt h3,h4⟩
 exact ⟨e.cl.set (by simp only [B.blo,ints_blos,Bool.or_self]),by rw [bset_len];exact hl,by rw [bset_other (by omega)];exact e.b0,by rw [bset_other (by omega)];exact e.b1,by rw [bset_other (by omega)];exact e.b2,by rw [bset_other (by omega)];exact e.b3,by rw [bset_other (by omega)];exact e.b4,by rw [bset_other (by omega)];exact e.b5,by rw [bset_other (by omega)];exact e.lop,.inr ⟨q,hq7,by simpa using hne,by simp,bget_same hql⟩⟩
end
theorem trOk_no {W H:Nat} {l:List Fm} {ss:List Sp} {i q k:Nat} {s:Sp} (hcs:ss[ss.length - (k+1)]?=some s) (h:¬ trOk W H l ss i q k):s.k=1∧tY (fK W H l ss (ss.length - (k+1))) W H s i (tr W H l ss i q k).q=true∧tO l.length W H s i (tr W H l ss i q k).q=false:=by
 refine ⟨Classical.byContradiction fun h1=>h fun t ht hk => ?_,?_,?_⟩
 ·rw [hcs] at ht;cases ht;exact absurd hk h1
 ·cases hy:tY (fK W H l ss (ss.length - (k+1))) W H s i (tr W H l ss i q k).q with
  | true=>rfl
  | false=>exact absurd (fun t ht _ hy2=>by rw [hcs] at ht;cases ht;rw [hy] at hy2;cases hy2) h
 ·cases hy:tO l.length W H s i (tr W H l ss i q k).q with
  | false=>rfl
  | true=>exact absurd (fun t ht _ _=>by rw [hcs] at ht;cases ht;exact hy) h
theorem tr_first {W H:Nat} {l:List Fm} {ss:List Sp} {i q:Nat} (h:¬ ∀ k,k<ss.length→trOk W H l ss i q k):∃ k,k<ss.length∧(∀ j,j<k→trOk W H l ss i q j)∧¬ trOk W H l ss i q k:=by
 classical
 suffices HS:∀ n,(∃ k,k<n∧k<ss.length∧¬ trOk W H l ss i q k)→∃ k,k<ss.length∧(∀ j,j<k→trOk W H l ss i q j)∧¬ trOk W H l ss i q k by
  have h2:∃ k,k<ss.length∧¬ trOk W H l ss i q k:=Classical.byContradiction fun h2=>h fun k hk=>Classical.byContradiction fun h3=>h2 ⟨k,hk,h3⟩
  obtain ⟨k,h3,h4⟩:=h2
  exact HS _ ⟨k,h3,h3,h4⟩
 intro n
 induction n with
 | zero=>exact fun ⟨k,hk,_⟩=>absurd hk (Nat.not_lt_zero _)
 | succ n ih =>
  rintro ⟨k,hk,h1,h2⟩
  by_cases h3:∃ k,k<n∧k<ss.length∧¬ trOk W H l ss i q k
  ·exact ih h3
  ·have hpre:∀ j,j<n→j<ss.length→trOk W H l ss i q j:=fun j hj hj2=>Classical.byContradiction fun h4=>h3 ⟨j,hj,hj2,h4⟩
   have ek:k=n:=by
    rcases Nat.lt_or_ge k n with h5 | h5
    ·exact absurd (hpre k h5 h1) h2
    ·omega
   subst ek
   exact ⟨k,h1,fun j hj=>hpre j hj (by omega),h2⟩
end Go.Dr.T
