/- Top, of chapter 08: the reference's step, done. -/
import Derived.Test.YtbnmdlnkhghbpaaGreatDoorG7
set_option maxRecDepth 100000
set_option maxHeartbeats 20000000
namespace Go.Dr.T
theorem Qfi {NU:Nat→UInt8} {i:Nat} {p:List UInt8}:∀ {m:Nat},(cgM NU i p m).length≤m
 | 0=>Nat.le_refl _
 | m+1=>by
  have ih:=Qfi (NU:=NU) (i:=i) (p:=p) (m:=m)
  rw [cgM]
  split
  ·omega
  ·rw [jD]
   simp only [List.length_cons,List.length_nil]
   omega
theorem Qfl {NU:Nat→Nat→UInt8} {l:List Fm} (h:∀ f∈l,f.p.length≤2304):∀ {i:Nat},(cgA NU l i).length≤i*2304
 | 0=>Nat.le_refl _
 | i+1=>by
  have ih:=Qfl (NU:=NU) h (i:=i)
  rw [cgA,jD]
  cases hf:l[i]? with
  | none=>rw [Nat.add_mul];exact Nat.le_trans ih (Nat.le_add_right _ _)
  | some f =>
   have h1:=h f (jE hf)
   have h2:=Qfi (NU:=NU i) (i:=i) (p:=f.p) (m:=f.p.length)
   rw [Nat.add_mul]
   show _+(cgM (NU i) i f.p f.p.length).length≤_
   omega
def csT (NU:Nat→Nat→UInt8) (l:List Fm) (i m:Nat):List Cg:=cgA NU l i++cgM (NU i) i (pxL l i) m
theorem Qqg {NU:Nat→Nat→UInt8} {l:List Fm} {i:Nat}:csT NU l i 0=cgA NU l i:=by unfold csT cgM;rw [List.append_nil]
theorem Qqe {NU:Nat→Nat→UInt8} {l:List Fm} {i m:Nat} {f:Fm} (hf:l[i]?=some f) (e:NU i m=f.p.getD m 0):csT NU l i (m+1)=csT NU l i m:=by
 unfold csT
 rw [Q25 hf,cgM,if_pos e]
theorem Qnn {NU:Nat→Nat→UInt8} {l:List Fm} {i m:Nat} {f:Fm} (hf:l[i]?=some f) (e:¬ NU i m=f.p.getD m 0):csT NU l i (m+1)=csT NU l i m++[⟨i,m,f.p.getD m 0,NU i m⟩]:=by
 unfold csT
 rw [Q25 hf,cgM,if_neg e,jO]
theorem Qqf {NU:Nat→Nat→UInt8} {l:List Fm} {i:Nat} {f:Fm} (hf:l[i]?=some f):csT NU l i f.p.length=csT NU l (i+1) 0:=by
 rw [Qqg,Qqm hf]
 unfold csT
 rw [Q25 hf]
theorem Qup {NU:Nat→Nat→UInt8} {l:List Fm} {W H i m:Nat} (o:FOk l W H) (hi:i<l.length) (hm:m≤W*H):(csT NU l i m).length≤30000:=by
 have h1:=o.nn
 have h2:=o.n12
 have h3:=Qfl (NU:=NU) (l:=l) (fun f hf=>by rw [(o.all f hf).2.2];exact h1.2) (i:=i)
 have h4:=Qfi (NU:=NU i) (i:=i) (p:=pxL l i) (m:=m)
 unfold csT
 rw [jD]
 have:i*2304≤11*2304:=Nat.mul_le_mul_right _ (by omega)
 omega
section
variable {M:Nat} {G:List B} {cs:List Cg} {v:V} {x:Cg}
theorem CL.new (hM:M≤G.length):CL M (G++[.blk (cgV x) true]) [x] (.ms 4 G.length (1*4) 0 1 false) :=
 .inr ⟨G.length,by omega,by simp,rfl,bget_new (i:=0)⟩
theorem CL.grow {q:Nat} {c:List V} (e:CL M G cs (.ms 4 q (cs.length*4) 0 cs.length false)) (hc:c=cgC cs++cgV x):CL M (bset G q (.blk c true)) (cs++[x]) (.ms 4 q ((cs.length+1)*4) 0 (cs.length+1) false):=by
 subst hc
 rcases e with ⟨_,h⟩|⟨q',h1,h2,h3,h4⟩
 ·cases h
 ·simp only [V.ms.injEq] at h3
  obtain ⟨_,rfl,_⟩:=h3
  exact .inr ⟨q,h1,by simp,by simp,by rw [Q0b (Q05 h4),Qql]⟩
end
theorem Q6c {u:UInt8}:∀ {p:List UInt8} {m:Nat},over (ofBytes p) (0+m*1) [.int .u8 u.toNat]=ofBytes (p.set m u):=by
 intro p m
 rw [Nat.zero_add,Nat.mul_one,Q78]
 induction p generalizing m with
 | nil=>cases m<;>rfl
 | cons x p ih =>
  cases m with
  | zero=>rfl
  | succ m=>simp only [ofBytes,List.set_cons_succ,ih]
theorem CL.frm {M:Nat} {G:List B} {cs:List Cg} {v:V} (e:CL M G cs v):v=.nilsl∨∃ q,v=.ms 4 q (cs.length*4) 0 cs.length false:=by
 rcases e with ⟨_,h⟩|⟨q,_,_,h,_⟩
 ·exact .inl h
 ·exact .inr ⟨q,h⟩
structure EH (N M:Nat) (l:List Fm) (NU:Nat→Nat→UInt8) (o:Nat) (P:Nat→Nat) (i m:Nat) (v:V) (G:List B):Prop where
 cl:Cl G
 le:M≤G.length
 fh:FH N M l (mA NU l i m) o P G
 ch:CL M G (csT NU l i m) v
section
variable {N M:Nat} {l:List Fm} {NU:Nat→Nat→UInt8} {o:Nat} {P:Nat→Nat} {i m:Nat} {v:V} {G:List B} {f:Fm}
theorem EH.same (e:EH N M l NU o P i m v G) (hf:l[i]?=some f) (hm:m<f.p.length) (hE:NU i m=f.p.getD m 0):EH N M l NU o P i (m+1) v G :=
 ⟨e.cl,e.le,by rw [← Qtk hf hm hE];exact e.fh,by rw [Qqe hf hE];exact e.ch⟩
theorem EH.nextF (e:EH N M l NU o P i f.p.length v G) (hf:l[i]?=some f):EH N M l NU o P (i+1) 0 v G :=
 ⟨e.cl,e.le,by rw [← Qlv hf];exact e.fh,by rw [← Qqf hf];exact e.ch⟩
theorem FH.cap {N M:Nat} {l:List Fm} {A:Nat→List UInt8} {o:Nat} {P:Nat→Nat} {h:List B} {k:Nat} (e:FH N M l A o P h) (hk:M≤k):FH N M l A o P (h.take k) :=
 ⟨e.oN,e.PN,e.inj,by have:=e.oN;rw [Q09 (by omega)];exact e.out,fun j hj=>by have:=e.PN j hj;rw [Q09 (by omega)];exact e.pic j hj,e.len⟩
theorem EH.take {k:Nat} (e:EH N M l NU o P i m v G) (hk:M≤k) (hv:k=G.length∨v.blo k=true) (c:Cl (G.take k)):EH N M l NU o P i m v (G.take k):=by
 rcases hv with rfl|hv
 ·rw [List.take_length];exact e
 ·exact ⟨c,by rw [jQ];have:=e.le;omega,e.fh.cap hk,e.ch.take hv⟩
theorem EH.put0 {x:Cg} {c:List V} (e:EH N M l NU o P i m .nilsl G) (hf:l[i]?=some f) (hm:m<f.p.length) (hE:¬ NU i m=f.p.getD m 0) (hcs:csT NU l i m=[]) (hx:x=⟨i,m,f.p.getD m 0,NU i m⟩) (hc:c=cgV x):EH N M l NU o P i (m+1) (.ms 4 G.length (1*4) 0 1 false) (bset (G++[.blk c true]) (P i) (.blk (ofBytes ((mA NU l i m i).set m (NU i m))) true)):=by
 subst hc
 have hi:=(jB.1 hf).1
 have hP:=e.fh.PN i hi
 have hl:(G++[B.blk (cgV x) true]).length=G.length+1:=by rw [jD];rfl
 have hle:=e.le
 refine ⟨(Q27 (A:=[.blk (cgV x) true]) e.cl ⟨rfl,trivial⟩).set rfl,by rw [Q03,hl];omega,?_,?_⟩
 ·rw [← Qrk hf hm]
  exact (e.fh.app (g:=[.blk (cgV x) true])).put hi
 ·rw [Qnn hf hE,hcs,← hx]
  exact (CL.new hle).other hP.2.1
theorem EH.putS {x:Cg} {q:Nat} {c:List V} (e:EH N M l NU o P i m (.ms 4 q ((csT NU l i m).length*4) 0 (csT NU l i m).length false) G) (hf:l[i]?=some f) (hm:m<f.p.length) (hE:¬ NU i m=f.p.getD m 0) (hq:M≤q) (hx:x=⟨i,m,f.p.getD m 0,NU i m⟩) (hc:c=cgC (csT NU l i m)++cgV x):EH N M l NU o P i (m+1) (.ms 4 q (((csT NU l i m).length+1)*4) 0 ((csT NU l i m).length+1) false) (bset (bset (G++[.unborn]) q (.blk c true)) (P i) (.blk (ofBytes ((mA NU l i m i).set m (NU i m))) true)):=by
 have hi:=(jB.1 hf).1
 have hP:=e.fh.PN i hi
 have hl:(G++[B.unborn]).length=G.length+1:=by rw [jD];rfl
 have hle:=e.le
 refine ⟨((Q27 (A:=[.unborn]) e.cl ⟨rfl,trivial⟩).set rfl).set rfl,by rw [Q03,Q03,hl];omega,?_,?_⟩
 ·rw [← Qrk hf hm]
  exact ((e.fh.app (g:=[.unborn])).other (.inr hq)).put hi
 ·rw [Qnn hf hE,← hx]
  exact ((e.ch.app (g:=[.unborn])).grow hc).other hP.2.1
end
end Go.Dr.T
namespace Go.Dr.T
structure DoH (s:Sp) (c:Bool) (l:List Fm) (NU:Nat→Nat→UInt8) (lp:B) (i m:Nat) (v:V) (G:List B):Prop where
 eh:EH 3 (l.length+8) l NU 4 (fun j=>3+2+j) i m v G
 b1:bget G 1=some (.blk [.ms 3 4 (l.length*3) 0 l.length false] false)
 b2:bget G 2=some (.blk [v] false)
 wk:∃ a x y k,bget G (l.length+5)=some (.blk (wkC s c l a x y k) false)
 bx:bget G (l.length+6)=some (.blk [.ref (l.length+5) 13 0] false)
 lop:bget G (l.length+7)=some lp
section
variable {s:Sp} {c:Bool} {l:List Fm} {NU:Nat→Nat→UInt8} {lp:B} {i m:Nat} {v:V} {G:List B} {f:Fm}
theorem FH.other' {N M:Nat} {l:List Fm} {A:Nat→List UInt8} {o:Nat} {P:Nat→Nat} {h:List B} {k:Nat} {b:B} (e:FH N M l A o P h) (hk:k≠o) (hP:∀ j,j<l.length→k≠P j):FH N M l A o P (bset h k b) :=
 ⟨e.oN,e.PN,e.inj,by rw [Q02 hk];exact e.out,fun j hj=>by rw [Q02 (hP j hj)];exact e.pic j hj,e.len⟩
theorem EH.app {N M:Nat} {o:Nat} {P:Nat→Nat} {b:B} (e:EH N M l NU o P i m v G) (hb:b.blo G.length=true):EH N M l NU o P i m v (G++[b]) :=
 ⟨e.cl.app hb,by rw [jD];have:=e.le;omega,e.fh.app,e.ch.app⟩
theorem EH.other {N M:Nat} {o:Nat} {P:Nat→Nat} {b:B} {k:Nat} (e:EH N M l NU o P i m v G) (hb:b.blo G.length=true) (hM:k<M) (hk:k≠o) (hP:∀ j,j<l.length→k≠P j):EH N M l NU o P i m v (bset G k b) :=
 ⟨e.cl.set hb,by rw [Q03];exact e.le,e.fh.other' hk hP,e.ch.other hM⟩
theorem DoH.lt (e:DoH s c l NU lp i m v G):l.length+8≤G.length:=e.eh.le
theorem DoH.take {k:Nat} (e:DoH s c l NU lp i m v G) (hk:l.length+8≤k) (hc:Cl (G.take k)):DoH s c l NU lp i m v (G.take k):=by
 have hl:=e.lt
 have hb2:bget (G.take k) 2=some (.blk [v] false):=by rw [Q09 (by omega)];exact e.b2
 have hv:v.blo (G.take k).length=true:=by
  have:=Q08 hc (Q0p hb2)
  simpa [B.blo,blos] using this
 have hv':k=G.length∨v.blo k=true:=by
  by_cases hkl:k≤G.length
  ·right
   rwa [jQ,Nat.min_eq_left hkl] at hv
  ·right
   rw [jQ,Nat.min_eq_right (by omega)] at hv
   exact e.eh.ch.blo (by omega)
 refine ⟨e.eh.take hk hv' hc,by rw [Q09 (by omega)];exact e.b1,hb2,?_,by rw [Q09 (by omega)];exact e.bx,by rw [Q09 (by omega)];exact e.lop⟩
 obtain ⟨a,x,y,k',h⟩:=e.wk
 exact ⟨a,x,y,k',by rw [Q09 (by omega)];exact h⟩
theorem DoH.norm {mk:List Bool} {tm:List V} {n:Nat} (e:DoH s c l NU lp i m v G) (hn:l.length+8≤n) (hn2:n≤G.length):DoH s c l NU lp i m v (norm mk n ⟨tm,G⟩).h:=by
 obtain ⟨k,h1,h2,h3,h4⟩:=Q4k (mk:=mk) (tm:=tm) hn2 e.eh.cl
 rw [h2]
 exact e.take (by omega) h3
theorem DoH.trunc {tm:List V} {n:Nat} (e:DoH s c l NU lp i m v G) (hn:l.length+8≤n) (hn2:n≤G.length):DoH s c l NU lp i m v (trunc n tm G):=by
 obtain ⟨k,h1,h2,h3,h4⟩:=Q19 (tm:=tm) hn2 e.eh.cl
 rw [h2]
 exact e.take (by omega) h3
theorem DoH.app {b:B} (e:DoH s c l NU lp i m v G) (hb:b.blo G.length=true):DoH s c l NU lp i m v (G++[b]):=by
 obtain ⟨a,x,y,k,h⟩:=e.wk
 exact ⟨e.eh.app hb,Q01 e.b1,Q01 e.b2,⟨a,x,y,k,Q01 h⟩,Q01 e.bx,Q01 e.lop⟩
theorem DoH.look {a x y k:Int} (e:DoH s c l NU lp i m v G):DoH s c l NU lp i m v (bset G (l.length+5) (.blk (wkC s c l a x y k) false)):=by
 have hl:=e.lt
 exact ⟨e.eh.other rfl (by omega) (by omega) (fun j hj=>by omega),by rw [Q02 (by omega)];exact e.b1,by rw [Q02 (by omega)];exact e.b2,⟨a,x,y,k,Q0b (by omega)⟩,by rw [Q02 (by omega)];exact e.bx,by rw [Q02 (by omega)];exact e.lop⟩
theorem DoH.setlop {lp':B} (e:DoH s c l NU lp i m v G) (hb:lp'.blo G.length=true):DoH s c l NU lp' i m v (bset G (l.length+7) lp'):=by
 have hl:=e.lt
 obtain ⟨a,x,y,k,h⟩:=e.wk
 exact ⟨e.eh.other hb (by omega) (by omega) (fun j hj=>by omega),by rw [Q02 (by omega)];exact e.b1,by rw [Q02 (by omega)];exact e.b2,⟨a,x,y,k,by rw [Q02 (by omega)];exact h⟩,by rw [Q02 (by omega)];exact e.bx,Q0b (by omega)⟩
theorem DoH.same (e:DoH s c l NU lp i m v G) (hf:l[i]?=some f) (hm:m<f.p.length) (hE:NU i m=f.p.getD m 0):DoH s c l NU lp i (m+1) v G :=
 ⟨e.eh.same hf hm hE,e.b1,e.b2,e.wk,e.bx,e.lop⟩
theorem DoH.nextF (e:DoH s c l NU lp i f.p.length v G) (hf:l[i]?=some f):DoH s c l NU lp (i+1) 0 v G :=
 ⟨e.eh.nextF hf,e.b1,e.b2,e.wk,e.bx,e.lop⟩
end
theorem Qdv {s:Sp} {c:Bool} {l:List Fm} {a x y n:Int} {h:List B} {w d:Nat} {dat:Bool} (hb:bget h w=some (.blk (wkC s c l a x y n) dat)):Vw h (d+2) (.ref w 13 0) (.rp (wkC s c l a x y n) 0) :=
 Vw.ref hb rfl rfl (VwL.cons (Vw.int rfl) (VwL.cons (Vw.int rfl) (VwL.cons (Vw.int rfl) (VwL.cons Vw.sl (VwL.cons (Vw.int rfl) (VwL.cons (Vw.int rfl) (VwL.cons (Vw.int rfl) (VwL.cons Vw.sl (VwL.cons Vw.sl (VwL.cons (Vw.int rfl) (VwL.cons (Vw.int rfl) (VwL.cons (Vw.int rfl) (VwL.cons (Vw.int rfl) VwL.nil)))))))))))))
theorem Q1x {s:Sp} {c:Bool} {l:List Fm} {a x y n:Int} {h:List B} {w:Nat} {dat:Bool} (hb:bget h w=some (.blk (wkC s c l a x y n) dat)):Q1o h depth [.ref w 13 0]=some [.rp (wkC s c l a x y n) 0] :=
 (VwL.cons (Qdv (d:=62) hb) VwL.nil).1
theorem Qjm {s:Sp} {c:Bool} {l:List Fm} {a x y n z:Int} {h:List B} {w:Nat} {dat:Bool} (hb:bget h w=some (.blk (wkC s c l a x y n) dat)):Q1o h depth [.ref w 13 0,.int .i64 z]=some [.rp (wkC s c l a x y n) 0,.int .i64 z] :=
 (VwL.cons (Qdv (d:=62) hb) (VwL.cons (Vw.int rfl) VwL.nil)).1
theorem Q3a {s:Sp} {c:Bool} {l:List Fm} {W H:Nat} {a x y n:Int} {i m w:Nat} {G:List B} {K:V→List B→Prop} (o:FOk l W H) (hm:m<W*H) (hb:bget G w=some (.blk (wkC s c l a x y n) false)) (hk:K (.tup []) (bset G w (.blk (wkC s c l i (m%W:Nat) (m/W:Nat) m) false))):CallP FB md 0 (.fn 38 []) [.ref w 13 0,.int .i64 (i:Nat),.int .i64 (m:Nat)] G K:=by
 obtain ⟨f0,hf0,h0w,_,_⟩:=o.at o.n0
 obtain ⟨b0,_,_⟩:=fm_c hf0
 rw [h0w] at b0
 have hn0:=o.n0
 have hnn:=o.nn
 have o3:=o.w
 have hW0:(W:Int)≠0:=by omega
 have hlt:=Q05 hb
 have hmod:(m:Int).tmod (W:Int)=((m%W:Nat):Int):=by rw [Int.ofNat_tmod]
 have hdiv:IntKind.i64.wrap ((m:Int).tdiv (W:Int))=((m/W:Nat):Int):=by
  have e:(m:Int).tdiv (W:Int)=((m/W:Nat):Int):=by rw [Int.ofNat_tdiv]
  have h1:m/W≤m:=Nat.div_le_self _ _
  rw [e]
  generalize m/W=d at *
  exact wrap_i64 (by omega) (by omega)
 refine Q16 rfl rfl rfl ?_
 repeat' ((conv=>whnf);first|refine Bnd.eq hmod ?_|refine Bnd.eq hdiv ?_|refine fLen.mk ?_|refine fB.i0 ?_|refine fB.as Qqt ?_|refine Get.mk _ (Q0b hlt) ?_|refine Get.mk _ hb ?_|refine Get.mk _ b0 ?_|refine Req.mk hn0 ?_|refine Req.mk hW0 ?_|refine Req.mk ⟨rfl,Nat.le_of_ble_eq_true rfl⟩ ?_|refine fB.as (Q28 (Q03 ..)) ?_|refine fB.mk ?_|refine zI ?_|refine Get.mk _ rfl ?_|refine Ends.of ?_|refine zR ?_)
 all_goals try (exfalso;omega)
 exact hk
structure GI where
 i:Nat
 v:V
 G:List B
theorem Qqk {s:Sp} {c:Bool} {l:List Fm} {W H F:Nat} {lp:B} {v0:V} {G0:List B} {K:V→List B→Prop} (o:FOk l W H) (p:SOk s l.length W H) (hF:s.fr=(F:Int)) (h0:DoH s c l (newU l W H s) lp F 0 v0 G0) (hG0:G0.length=l.length+8)
  (hy:∀ (i m:Nat) (f:Fm) (v:V) (G:List B) (K:V→List B→Prop),l[i]?=some f→m<f.p.length→¬ newU l W H s i m=f.p.getD m 0→DoH s c l (newU l W H s) lp i m v G→(∀ v' G',G.length≤G'.length→DoH s c l (newU l W H s) lp i (m+1) v' G'→K (.bool true) G')→CallP FB md 0 (.yld (l.length+7)) [.agg (cgV ⟨i,m,f.p.getD m 0,newU l W H s i m⟩)] G K)
  (hk:∀ v G,DoH s c l (newU l W H s) lp (s.un.toNat+1) 0 v G→K (.tup []) G):CallP FB md 0 (.fn 94 [.ref (l.length+6) 1 0]) [.yld (l.length+7)] G0 K:=by
 have hn0:=o.n0
 have hn12:=o.n12
 have hnn:=o.nn
 have o3:=o.w
 have o4:=o.h
 have pk:=p.k
 have pf:=p.fr
 have pu:=p.un
 obtain ⟨a,x,y,k,hw0⟩:=h0.wk
 have hbx:=h0.bx
 have kk:=Qro
 have hk0:0≤s.k:=by omega
 have hk6:s.k≤((6:Nat):Int):=by omega
 have hkp:=Qm9 (K:=s.k.toNat) (by omega) (by omega)
 have hcF:∀ {a x y n:Int},Q0h (wkC s c l a x y n) 1=some (.int .i64 (F:Nat)):=by intro a x y n;rw [← hF];rfl
 refine Q16 rfl rfl rfl ?_
 repeat' ((conv=>whnf);first|refine fLen.mk ?_|refine fB.i0 ?_|refine Get.mk _ hbx ?_|refine Get.mk _ hw0 ?_|refine Get.mk _ hcF ?_|refine Get.mk _ hkp ?_|refine Idx.int hk0 hk6 ?_|refine zC kk ?_|refine Get.mk _ rfl ?_|refine zR ?_)
 all_goals try (exfalso;omega)
 have hnl:∀ {i m:Nat} {v:V} {G:List B},DoH s c l (newU l W H s) lp i m v G→G0.length≤G.length:=fun e=>by rw [hG0];exact e.lt
 refine LoopP.by (fun a:GI=>F≤a.i∧(a.i:Int)≤s.un+1∧DoH s c l (newU l W H s) lp a.i 0 a.v a.G) (fun a=>[(4,.int .i64 (a.i:Nat))]) (fun a=>a.G) (fun a=>s.un.toNat+1-a.i) ⟨F,v0,G0⟩ ⟨Nat.le_refl _,by dsimp only;omega,h0⟩ rfl ?_
 rintro ⟨i,v,G⟩ ⟨w0,w1,w2⟩
 dsimp only at w0 w1 w2 ⊢
 clear hw0 hbx
 obtain ⟨a1,x1,y1,k1,hw0⟩:=w2.wk
 have hbx:=w2.bx
 have hGl:=hnl w2
 by_cases hi:(i:Int)≤s.un
 rotate_left
 ·obtain rfl:i=s.un.toNat+1:=by omega
  repeat' ((conv=>whnf);first|refine Br.decF hi ?_|refine fLen.mk ?_|refine fB.i0 ?_|refine Get.mk _ hbx ?_|refine Get.mk _ hw0 ?_|refine fB.mk ?_|refine Get.mk _ rfl ?_|refine Ends.of ?_|refine zR ?_)
  all_goals try (exfalso;omega)
  exact hk _ _ (w2.trunc (by omega) hGl)
 have hil':i<l.length:=by omega
 obtain ⟨f,hf,hfw,_,hfp⟩:=o.at hil'
 obtain ⟨a0,_,a2⟩:=fm_c hf
 have hiw:IntKind.i64.wrap ((i:Int)+1)=((i+1:Nat):Int):=by rw [wrap_i64 (by omega) (by omega)];omega
 have hil:i≤l.length-1:=by omega
 repeat' ((conv=>whnf);first|refine Br.decT hi ?_|refine fLen.mk ?_|refine fB.i0 ?_|refine Get.mk _ hbx ?_|refine Get.mk _ hw0 ?_|refine Get.mk _ a2 ?_|refine Idx.nat hil ?_|refine Req.mk hn0 ?_|refine fB.mk ?_|refine Get.mk _ rfl ?_|refine zR ?_)
 all_goals try (exfalso;omega)
 refine LoopP.by (fun a:GI=>a.i≤f.p.length∧G.length≤a.G.length∧DoH s c l (newU l W H s) lp i a.i a.v a.G) (fun a=>[(39,.int .i64 (a.i:Nat))]) (fun a=>a.G) (fun a=>f.p.length-a.i) ⟨0,v,G⟩ ⟨Nat.zero_le _,Nat.le_refl _,w2⟩ rfl ?_
 rintro ⟨m,u,g⟩ ⟨v1,v2,v3⟩
 dsimp only at v1 v2 v3 ⊢
 clear hw0 hbx
 obtain ⟨a3,x3,y3,k3,hw0⟩:=v3.wk
 have hbx:=v3.bx
 by_cases hm:m<f.p.length
 rotate_left
 ·obtain rfl:m=f.p.length:=by omega
  have v5:=v3.nextF hf
  repeat' ((conv=>whnf);first|refine Bnd.eq hiw ?_|refine zF ?_|refine fLen.mk ?_|refine fB.i0 ?_|refine fB.mk ?_)
  all_goals try (exfalso;omega)
  exact NextP.of (fun h=>⟨i+1,u,h⟩) ⟨by dsimp only;omega,by dsimp only;omega,v5.norm (by omega) (by show _≤g.length;omega)⟩ (by dsimp only;omega) rfl
 have hmw:IntKind.i64.wrap ((m:Int)+1)=((m+1:Nat):Int):=by rw [wrap_i64 (by omega) (by omega)];omega
 have hpx:=Q5f hm
 have hml:m≤f.p.length-1:=by omega
 have hp0:0<f.p.length:=by omega
 have hlk:∀ {K:V→List B→Prop},K (.tup []) (bset g (l.length+5) (.blk (wkC s c l i (m%W:Nat) (m/W:Nat) m) false))→CallP FB md 0 (.fn 38 []) [.ref (l.length+5) 13 0,.int .i64 (i:Nat),.int .i64 (m:Nat)] g K:=fun h=>Q3a o (by omega) hw0 h
 have v6:=v3.look (a:=i) (x:=(m%W:Nat)) (y:=(m/W:Nat)) (k:=m)
 have hw6:bget (bset g (l.length+5) (.blk (wkC s c l i (m%W:Nat) (m/W:Nat) m) false)) (l.length+5)=some (.blk (wkC s c l i (m%W:Nat) (m/W:Nat) m) false):=Q0b (Q05 hw0)
 have hg6:G.length≤(bset g (l.length+5) (.blk (wkC s c l i (m%W:Nat) (m/W:Nat) m) false)).length:=by rw [Q03];exact v2
 generalize bset g (l.length+5) (.blk (wkC s c l i (m%W:Nat) (m/W:Nat) m) false)=g6 at *
 have hbx6:=v6.bx
 have hk53:=Q4n (s:=s) (c:=c) (l:=l) (i:=i) (x:=(m%W:Nat)) (y:=(m/W:Nat)) (n:=m) p.kp
 have hx:m%W<W:=Nat.mod_lt _ (by omega)
 have hy':m/W<H:=by
  rw [Nat.div_lt_iff_lt_mul (by omega),Nat.mul_comm]
  omega
 have hlt:=UInt8.toNat_lt (f.p.getD m 0)
 cases hK:Q35 s i (m%W:Nat) (m/W:Nat) with
 | true =>
  rw [hK] at hk53
  have v7:=v6.same hf hm (Q5k hf hK)
  repeat' ((conv=>whnf);first|refine Bnd.eq hmw ?_|refine Br.t ?_|refine zT ?_|refine fLen.mk ?_|refine fB.i0 ?_|refine Get.mk _ hbx ?_|refine Get.mk _ hbx6 ?_|refine Get.mk _ hpx ?_|refine Idx.nat hml ?_|refine Req.mk hp0 ?_|refine hlk ?_|refine Q06 rfl (Q1x hw6) hk53 (.inr rfl) ?_|refine fB.mk ?_|refine Get.mk _ rfl ?_|refine zR ?_)
  all_goals try (exfalso;omega)
  exact NextP.of (fun h=>⟨m+1,u,h⟩) ⟨hm,Q2c (s:=⟨_,g6⟩) hg6,v7.norm (by omega) hg6⟩ (by dsimp only;omega) rfl
 | false =>
  rw [hK] at hk53
  have hd:=Qug (s:=s) (c:=c) (K:=s.k.toNat) (n:=m) (v:=(f.p.getD m 0).toNat) o p (by omega) hil' hx hy' (by omega) hlt
  have hm144:∀ {w:Nat} {z:Int},mode md (.fn (120+s.k.toNat) []) [.ref w 13 0,.int .i64 z]=0:=by
   intro w z
   have h6:s.k.toNat=1∨s.k.toNat=2∨s.k.toNat=3∨s.k.toNat=4∨s.k.toNat=5∨s.k.toNat=6:=by omega
   rcases h6 with h|h|h|h|h|h
   all_goals
    rw [h]
    rfl
  have hu8:IntKind.u8.wrap (newK l W H s i (m%W) (m/W) m (f.p.getD m 0).toNat)=(((newU l W H s i m).toNat:Nat):Int):=by
   have e:m/W*W+m%W=m:=Nat.div_add_mod' m W
   have h2:=Qso (newP l W H s i (m%W) (m/W))
   unfold newU
   rw [h2]
   unfold newP
   rw [hK,if_neg (by decide),e,Qaz hf]
  generalize newK l W H s i (m%W) (m/W) m (f.p.getD m 0).toNat=z at *
  have hwv:∀ {Z:List B} {z:Int},Q1o (g6++Z) depth [.ref (l.length+5) 13 0,.int .i64 z]=some [.rp (wkC s c l i (m%W:Nat) (m/W:Nat) m) 0,.int .i64 z]:=fun {Z z}=>Qjm (Q01 hw6)
  have v8:=v6.app (b:=.blk [.int .i64 (i:Nat),.int .i64 (m:Nat),.int .u8 ((f.p.getD m 0).toNat:Nat),.int .u8 ((newU l W H s i m).toNat:Nat)] false) rfl
  by_cases hE:newU l W H s i m=f.p.getD m 0
  ·have hEi:(((f.p.getD m 0).toNat:Nat):Int)=(((newU l W H s i m).toNat:Nat):Int):=by rw [hE]
   have v9:=v8.same hf hm hE
   have hg8:∀ b:B,G.length≤(g6++[b]).length:=fun b=>by rw [jD];omega
   clear hE
   generalize (newU l W H s i m).toNat=a at *
   repeat' ((conv=>whnf);first|refine Br.decT hEi ?_|refine Bnd.eq hmw ?_|refine Bnd.eq hu8 ?_|refine Br.f ?_|refine zT ?_|refine Br.not ?_|refine zB ?_|refine fLen.mk ?_|refine fB.i0 ?_|refine fB.i1 ?_|refine Get.newj 0 rfl rfl ?_|refine fB.newj 0 rfl ?_|refine Get.mk _ hbx ?_|refine Get.mk _ hbx6 ?_|refine Get.mk _ hpx ?_|refine Idx.nat hml ?_|refine Req.mk hp0 ?_|refine hlk ?_|refine Q06 rfl (Q1x hw6) hk53 (.inr rfl) ?_|refine Q06 hm144 hwv hd (.inr rfl) ?_|refine Get.mk _ (Q01 hbx6) ?_|refine fB.mk ?_|refine Get.mk _ rfl ?_|refine zR ?_)
   all_goals try (exfalso;omega)
   exact NextP.of (fun h=>⟨m+1,u,h⟩) ⟨hm,Q2c (s:=⟨_,_⟩) (hg8 _),v9.norm (by omega) (hg8 _)⟩ (by dsimp only;omega) rfl
  ·have hEi:¬ (((f.p.getD m 0).toNat:Nat):Int)=(((newU l W H s i m).toNat:Nat):Int):=fun h=>hE (UInt8.toNat_inj.1 (Int.ofNat.inj h)).symm
   have hyy:∀ {K:V→List B→Prop},(∀ v' G',G.length≤G'.length→DoH s c l (newU l W H s) lp i (m+1) v' G'→K (.bool true) G')→CallP FB md 0 (.yld (l.length+7)) [.agg [.int .i64 (i:Nat),.int .i64 (m:Nat),.int .u8 ((f.p.getD m 0).toNat:Nat),.int .u8 ((newU l W H s i m).toNat:Nat)]] (g6++[.blk [.int .i64 (i:Nat),.int .i64 (m:Nat),.int .u8 ((f.p.getD m 0).toNat:Nat),.int .u8 ((newU l W H s i m).toNat:Nat)] false]) K:=fun h=>hy i m f u _ _ hf hm hE v8 fun v' G' q1 q2=>h v' G' (by rw [jD] at q1;omega) q2
   repeat' ((conv=>whnf);first|refine Br.decF hEi ?_|refine Bnd.eq hmw ?_|refine Bnd.eq hu8 ?_|refine Br.f ?_|refine zT ?_|refine Br.not ?_|refine zB ?_|refine fLen.mk ?_|refine fB.i0 ?_|refine fB.i1 ?_|refine Get.newj 0 rfl rfl ?_|refine fB.newj 0 rfl ?_|refine Get.mk _ hbx ?_|refine Get.mk _ hbx6 ?_|refine Get.mk _ hpx ?_|refine Idx.nat hml ?_|refine Req.mk hp0 ?_|refine hlk ?_|refine Q06 rfl (Q1x hw6) hk53 (.inr rfl) ?_|refine Q06 hm144 hwv hd (.inr rfl) ?_|refine Get.mk _ (Q01 hbx6) ?_|(refine hyy ?_;intro v' G' q1 q2)|refine fB.mk ?_|refine Get.mk _ rfl ?_|refine zR ?_)
   all_goals try (exfalso;omega)
   exact NextP.of (fun h=>⟨m+1,v',h⟩) ⟨hm,Q2c (s:=⟨_,G'⟩) q1,q2.norm (by omega) q1⟩ (by dsimp only;omega) rfl
end Go.Dr.T
