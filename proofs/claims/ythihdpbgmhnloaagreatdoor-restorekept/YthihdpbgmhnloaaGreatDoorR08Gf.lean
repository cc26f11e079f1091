/- Chapter 08: the reference's step, done. -/
import Derived.Test.YthihdpbgmhnloaaGreatDoorR08Ge
namespace Go.Dr.T
theorem cgM_len {NU:Nat→UInt8} {i:Nat} {p:List UInt8}:∀ {m:Nat},(cgM NU i p m).length≤m
 | 0=>Nat.le_refl _
 | m+1=>by
  have ih:=cgM_len (NU:=NU) (i:=i) (p:=p) (m:=m)
  rw [cgM]
  split
  ·omega
  ·rw [List.length_append]
   simp only [List.length_cons,List.length_nil]
   omega
set_option maxRecDepth 100000 in
theorem cgA_len {NU:Nat→Nat→UInt8} {l:List Fm} (h:∀ f∈l,f.p.length≤2304):∀ {i:Nat},(cgA NU l i).length≤i * 2304
 | 0=>Nat.le_refl _
 | i+1=>by
  have ih:=cgA_len (NU:=NU) h (i:=i)
  rw [cgA,List.length_append]
  cases hf:l[i]? with
  | none=>rw [Nat.add_mul];exact Nat.le_trans ih (Nat.le_add_right _ _)
  | some f =>
   have h1:=h f (List.mem_of_getElem? hf)
   have h2:=cgM_len (NU:=NU i) (i:=i) (p:=f.p) (m:=f.p.length)
   rw [Nat.add_mul]
   show _+(cgM (NU i) i f.p f.p.length).length≤_
   omega
def csT (NU:Nat→Nat→UInt8) (l:List Fm) (i m:Nat):List Cg:=cgA NU l i++cgM (NU i) i (pxL l i) m
theorem csT_0 {NU:Nat→Nat→UInt8} {l:List Fm} {i:Nat}:csT NU l i 0=cgA NU l i:=by unfold csT cgM;rw [List.append_nil]
theorem csT_same {NU:Nat→Nat→UInt8} {l:List Fm} {i m:Nat} {f:Fm} (hf:l[i]?=some f) (e:NU i m=f.p.getD m 0):csT NU l i (m+1)=csT NU l i m:=by
 unfold csT
 rw [pxL_at hf,cgM,if_pos e]
theorem csT_new {NU:Nat→Nat→UInt8} {l:List Fm} {i m:Nat} {f:Fm} (hf:l[i]?=some f) (e:¬ NU i m=f.p.getD m 0):csT NU l i (m+1)=csT NU l i m++[⟨i,m,f.p.getD m 0,NU i m⟩]:=by
 unfold csT
 rw [pxL_at hf,cgM,if_neg e,List.append_assoc]
theorem csT_next {NU:Nat→Nat→UInt8} {l:List Fm} {i:Nat} {f:Fm} (hf:l[i]?=some f):csT NU l i f.p.length=csT NU l (i+1) 0:=by
 rw [csT_0,cgA_next hf]
 unfold csT
 rw [pxL_at hf]
theorem csT_len {NU:Nat→Nat→UInt8} {l:List Fm} {W H i m:Nat} (o:FOk l W H) (hi:i<l.length) (hm:m≤W * H):(csT NU l i m).length≤30000:=by
 have h1:=o.nn
 have h2:=o.n12
 have h3:=cgA_len (NU:=NU) (l:=l) (fun f hf=>by rw [(o.all f hf).2.2];exact h1.2) (i:=i)
 have h4:=cgM_len (NU:=NU i) (i:=i) (p:=pxL l i) (m:=m)
 unfold csT
 rw [List.length_append]
 have:i * 2304≤11 * 2304:=Nat.mul_le_mul_right _ (by omega)
 omega
section
variable {M:Nat} {G:List B} {cs:List Cg} {v:V} {x:Cg}
theorem CL.new (hM:M≤G.length):CL M (G++[.blk (cgV x) true]) [x] (.ms 4 G.length (1 * 4) 0 1 false) :=
 .inr ⟨G.length,by omega,by simp,rfl,bget_new (i:=0)⟩
theorem CL.grow {q:Nat} {c:List V} (e:CL M G cs (.ms 4 q (cs.length * 4) 0 cs.length false)) (hc:c=cgC cs++cgV x):CL M (bset G q (.blk c true)) (cs++[x]) (.ms 4 q ((cs.length+1) * 4) 0 (cs.length+1) false):=by
 subst hc
 rcases e with ⟨_,h⟩ | ⟨q', h1,h2,h3,h4⟩
 ·cases h
 ·simp only [V.ms.injEq] at h3
  obtain ⟨_,rfl,_⟩:=h3
  exact .inr ⟨q,h1,by simp,by simp,by rw [bget_same (bget_lt h4),cgC_snoc]⟩
theorem CL.ms {cs:List Cg} {v:V} (e:CL M G cs v) (h:cs≠[]):∃ q,M≤q∧v = .ms 4 q (cs.length * 4) 0 cs.length false∧bget G q=some (.blk (cgC cs) true):=by
 rcases e with ⟨h1,_⟩ | ⟨q,h1,h2,h3,h4⟩
 ·exact absurd h1 h
 ·exact ⟨q,h1,h3,h4⟩
theorem CL.nil' {v:V} (e:CL M G [] v):v = .nilsl:=by
 rcases e with ⟨_,h⟩ | ⟨q,h1,h2,h3,h4⟩
 ·exact h
 ·exact absurd rfl h2
end
theorem over_bytes {u:UInt8}:∀ {p:List UInt8} {m:Nat},over (ofBytes p) (0+m * 1) [.int .u8 u.toNat]=ofBytes (p.set m u):=by
 intro p m
 rw [Nat.zero_add,Nat.mul_one,over_one]
 induction p generalizing m with
 | nil=>cases m <;> rfl
 | cons x p ih =>
  cases m with
  | zero=>rfl
  | succ m=>simp only [ofBytes,List.set_cons_succ,ih]
theorem CL.frm {M:Nat} {G:List B} {cs:List Cg} {v:V} (e:CL M G cs v):v = .nilsl∨∃ q,v = .ms 4 q (cs.length * 4) 0 cs.length false:=by
 rcases e with ⟨_,h⟩ | ⟨q,_,_,h,_⟩
 ·exact .inl h
 ·exact .inr ⟨q,h⟩
structure EH (N M:Nat) (l:List Fm) (NU:Nat→Nat→UInt8) (o:Nat) (P:Nat→Nat) (i m:Nat) (v:V) (G:List B):Prop where
 cl:Cl G
 le:M≤G.length
 fh:FH N M l (mA NU l i m) o P G
 ch:CL M G (csT NU l i m) v
section
variable {N M:Nat} {l:List Fm} {NU:Nat→Nat→UInt8} {o:Nat} {P:Nat→Nat} {i m:Nat} {v:V} {G:List B} {f:Fm}
theorem EH.same (e:EH N M l NU o P i m v G) (hf:l[i]?=some f) (hm:m<f.p.length) (hE:NU i m=f.p.getD m 0):EH N M l NU o P i (m+1) v G :=
 ⟨e.cl,e.le,by rw [← mA_same hf hm hE];exact e.fh,by rw [csT_same hf hE];exact e.ch⟩
theorem EH.nextF (e:EH N M l NU o P i f.p.length v G) (hf:l[i]?=some f):EH N M l NU o P (i+1) 0 v G :=
 ⟨e.cl,e.le,by rw [← mA_next hf];exact e.fh,by rw [← csT_next hf];exact e.ch⟩
theorem FH.cap {N M:Nat} {l:List Fm} {A:Nat→List UInt8} {o:Nat} {P:Nat→Nat} {h:List B} {k:Nat} (e:FH N M l A o P h) (hk:M≤k):FH N M l A o P (h.take k) :=
 ⟨e.oN,e.PN,e.inj,by have:=e.oN;rw [bget_take (by omega)];exact e.out,fun j hj=>by have:=e.PN j hj;rw [bget_take (by omega)];exact e.pic j hj,e.len⟩
theorem EH.take {k:Nat} (e:EH N M l NU o P i m v G) (hk:M≤k) (hv:k=G.length∨v.blo k=true) (c:Cl (G.take k)):EH N M l NU o P i m v (G.take k):=by
 rcases hv with rfl | hv
 ·rw [List.take_length];exact e
 ·exact ⟨c,by rw [List.length_take];have:=e.le;omega,e.fh.cap hk,e.ch.take hv⟩
theorem EH.norm {mk:List Bool} {tm:List V} {n j:Nat} (e:EH N M l NU o P i m v G) (hn:M≤n) (hn2:n≤G.length) (hv:tg (masked mk tm) j=v):EH N M l NU o P i m v (norm mk n ⟨tm,G⟩).h:=by
 obtain ⟨k,h1,h2,h3,h4⟩:=norm_cut (mk:=mk) (tm:=tm) hn2 e.cl
 rw [h2]
 refine e.take (by omega) ?_ h3
 rcases h4 with h4 | h4
 ·exact .inl h4
 ·have:=blos_tg (i:=j) h4
  rw [hv] at this
  exact .inr this
theorem EH.put0 {x:Cg} {c:List V} (e:EH N M l NU o P i m .nilsl G) (hf:l[i]?=some f) (hm:m<f.p.length) (hE:¬ NU i m=f.p.getD m 0) (hcs:csT NU l i m=[]) (hx:x=⟨i,m,f.p.getD m 0,NU i m⟩) (hc:c=cgV x):EH N M l NU o P i (m+1) (.ms 4 G.length (1 * 4) 0 1 false) (bset (G++[.blk c true]) (P i) (.blk (ofBytes ((mA NU l i m i).set m (NU i m))) true)):=by
 subst hc
 have hi:=(List.getElem?_eq_some_iff.1 hf).1
 have hP:=e.fh.PN i hi
 have hl:(G++[B.blk (cgV x) true]).length=G.length+1:=by rw [List.length_append];rfl
 have hle:=e.le
 refine ⟨(cl_asc (A:=[.blk (cgV x) true]) e.cl ⟨rfl,trivial⟩).set rfl,by rw [bset_len,hl];omega,?_,?_⟩
 ·rw [← mA_put hf hm]
  exact (e.fh.app (g:=[.blk (cgV x) true])).put hi
 ·rw [csT_new hf hE,hcs, ← hx]
  exact (CL.new hle).other hP.2.1
theorem EH.putS {x:Cg} {q:Nat} {c:List V} (e:EH N M l NU o P i m (.ms 4 q ((csT NU l i m).length * 4) 0 (csT NU l i m).length false) G) (hf:l[i]?=some f) (hm:m<f.p.length) (hE:¬ NU i m=f.p.getD m 0) (hq:M≤q) (hx:x=⟨i,m,f.p.getD m 0,NU i m⟩) (hc:c=cgC (csT NU l i m)++cgV x):EH N M l NU o P i (m+1) (.ms 4 q (((csT NU l i m).length+1) * 4) 0 ((csT NU l i m).length+1) false) (bset (bset (G++[.unborn]) q (.blk c true)) (P i) (.blk (ofBytes ((mA NU l i m i).set m (NU i m))) true)):=by
 have hi:=(List.getElem?_eq_some_iff.1 hf).1
 have hP:=e.fh.PN i hi
 have hl:(G++[B.unborn]).length=G.length+1:=by rw [List.length_append];rfl
 have hle:=e.le
 refine ⟨((cl_asc (A:=[.unborn]) e.cl ⟨rfl,trivial⟩).set rfl).set rfl,by rw [bset_len,bset_len,hl];omega,?_,?_⟩
 ·rw [← mA_put hf hm]
  exact ((e.fh.app (g:=[.unborn])).other (.inr hq)).put hi
 ·rw [csT_new hf hE, ← hx]
  exact ((e.ch.app (g:=[.unborn])).grow hc).other hP.2.1
end
structure GE where
 i:Nat
 v:V
 G:List B
set_option maxRecDepth 100000 in
set_option maxHeartbeats 20000000 in
theorem done_ok {c:Bool} {l:List Fm} {s:Sp} {W H:Nat} (o:FOk l W H) (p:SOk s l.length W H):FunF FB md 46 [.sl c l.length (fmC l),.agg (spV s)] (.tup [.sl false (doF l W H s).length (fmC (doF l W H s)),cgL (doC l W H s)]):=by
 have hn0:=o.n0
 have hn12:=o.n12
 have hnn:=o.nn
 have o3:=o.w
 have o4:=o.h
 have hW0:(W:Int)≠0:=by omega
 have hcp:∀ {K:V→List B→Prop},(∀ G P,Cl G→(∀ m b,bget [B.blk (spV s) false] m=some b→bget G m=some b)→[B.blk (spV s) false].length≤G.length→FH [B.blk (spV s) false].length G.length l (pxL l) ([B.blk (spV s) false].length+2) P G→K (.ms 3 ([B.blk (spV s) false].length+2) (l.length * 3) 0 l.length false) G)→CallP FB md 0 (.fn 49 []) [.sl c l.length (fmC l)] [.blk (spV s) false] K:=fun h=>copy_call o rfl h
 refine funF_of rfl rfl ?_
 repeat' (first
 | (conv=>whnf)
   first
   | refine fLen.mk ?_
   | refine fB.i0 ?_
   | (refine hcp ?_;intro G0 P c1 c2 c3 c4)
   | refine Get.mk _ rfl ?_
   | (refine Req.mk ?_ ?_;(focus first | rfl | decide | exact ⟨rfl,rfl⟩ | exact ⟨rfl,by decide⟩ | exact (fun _=>rfl) | exact (fun h=>nomatch h) | (simp;done) | omega | (simp [big];done) | exact le_big (by omega) | exact lt_big (by omega))))
 all_goals try (exfalso;omega;done)
 have c5:bget G0 0=some (.blk (spV s) false):=c2 0 _ rfl
 have hM0:=bget_lt c5
 have e0:EH 1 G0.length l (newU l W H s) 3 P 0 0 .nilsl G0:=⟨c1,Nat.le_refl _,by rw [← pxL_mA];exact c4,.inl ⟨rfl,rfl⟩⟩
 clear c1 c2 c3 c4 hcp
 refine LoopP.by (fun a:GE=>a.i≤l.length∧bget a.G 0=some (.blk (spV s) false)∧EH 1 G0.length l (newU l W H s) 3 P a.i 0 a.v a.G) (fun a=>[(7,a.v),(8,.int .i64 (a.i:Nat))]) (fun a=>a.G) (fun a=>l.length - a.i) ⟨0,.nilsl,G0⟩ ⟨Nat.zero_le _,c5,e0⟩ rfl ?_
 rintro ⟨i,v,G⟩ ⟨w1,w2,w3⟩
 dsimp only at w1 w2 w3 ⊢
 by_cases hi:i<l.length
 rotate_left
 ·obtain rfl:i=l.length:=by omega
  have hF:VwF G (0+1+1+1+60) (.ms 3 3 (l.length * 3) 0 l.length false) (.sl false (doF l W H s).length (fmC (doF l W H s))):=by
   refine w3.fh.vw (d:=60) doF_len fun j f hf => ?_
   rw [doF_get hf]
   congr 2
   unfold mA
   rw [hf]
   dsimp only
   rw [if_pos (List.getElem?_eq_some_iff.1 hf).1]
  have hC:VwF G (0+1+1+61) v (cgL (doC l W H s)):=by
   have:=w3.ch
   rw [csT_0] at this
   exact this.vw
  rcases w3.ch.frm with rfl | ⟨q,rfl⟩
  all_goals
   repeat' (first
 | (conv=>whnf)
   first
   | (refine Br.decF ?_ ?_;(focus first | assumption | omega))
   | refine fLen.mk ?_
   | refine fB.i0 ?_
   | refine fB.mk ?_
   | exact hF
   | exact hC
   | refine Get.mk _ rfl ?_
   | refine LeavesF.of ?_
   | refine VwF.tup ?_
   | refine VwLF.cons ?_ ?_
   | refine VwLF.nil)
   all_goals try (exfalso;omega;done)
 obtain ⟨f,hf,hfw,_,hfp⟩:=o.at hi
 obtain ⟨a0,a1,a2⟩:=fm_c hf
 rw [hfw] at a0
 have hiw:IntKind.i64.wrap ((i:Int)+1)=((i+1:Nat):Int):=by rw [wrap_i64 (by omega) (by omega)];omega
 have hil:i≤l.length - 1:=by omega
 have hle:=w3.le
 rcases w3.ch.frm with rfl | ⟨q0,rfl⟩
 all_goals
  repeat' (first
 | (conv=>whnf)
   first
   | (refine Br.decT ?_ ?_;(focus first | assumption | omega))
   | refine fLen.mk ?_
   | refine fB.i0 ?_
   | refine fB.mk ?_)
  all_goals try (exfalso;omega;done)
  refine LoopP.by (fun a:GE=>a.i≤f.p.length∧G.length≤a.G.length∧bget a.G 0=some (.blk (spV s) false)∧EH 1 G0.length l (newU l W H s) 3 P i a.i a.v a.G) (fun a=>[(7,a.v),(9,.int .i64 (a.i:Nat))]) (fun a=>a.G) (fun a=>f.p.length - a.i) ⟨0,_,G⟩ ⟨Nat.zero_le _,Nat.le_refl _,w2,w3⟩ rfl ?_
  rintro ⟨m,u,g⟩ ⟨v1,v2,v3,v4⟩
  dsimp only at v1 v2 v3 v4 ⊢
  have hnk:∀ {n:Nat} {h:List B} {mk:List Bool} {tm:List V},0<n→n≤h.length→bget h 0=some (.blk (spV s) false)→bget (norm mk n ⟨tm,h⟩).h 0=some (.blk (spV s) false):=fun {n h mk tm} h0 h1 h2=>by
   obtain ⟨j,k1,k2,k3⟩:=strip_spec (n:=n) (tm:=masked mk tm) (k:=h.length - n) (h:=h) (by omega)
   show bget (strip n (masked mk tm) (h.length - n) h) 0=_
   rw [k2,bget_take (by omega)]
   exact h2
  by_cases hm:m<f.p.length
  rotate_left
  ·obtain rfl:m=f.p.length:=by omega
   have v5:=v4.nextF hf
   rcases v4.ch.frm with rfl | ⟨q,rfl⟩
   all_goals
    repeat' (first
 | (conv=>whnf)
   first
   | refine Bnd.eq hiw ?_
   | (refine Br.decF ?_ ?_;(focus first | assumption | omega))
   | refine fLen.mk ?_
   | refine fB.i0 ?_
   | refine fB.mk ?_
   | refine Idx.nat hil ?_
   | refine Req.mk hn0 ?_
   | refine Get.mk _ a2 ?_)
    all_goals try (exfalso;omega;done)
    exact NextP.of (fun h=>⟨i+1,_,h⟩) ⟨hi,hnk hM0 (by show _≤g.length;omega) v3,v5.norm (j:=7) (Nat.le_refl _) (by show _≤g.length;omega) rfl⟩ (by dsimp only;omega) rfl
  have hmw:IntKind.i64.wrap ((m:Int)+1)=((m+1:Nat):Int):=by rw [wrap_i64 (by omega) (by omega)];omega
  have hmod:(m:Int).tmod (W:Int)=((m % W:Nat):Int):=by rw [Int.ofNat_tmod]
  have hdiv:IntKind.i64.wrap ((m:Int).tdiv (W:Int))=((m / W:Nat):Int):=by
   have e:(m:Int).tdiv (W:Int)=((m / W:Nat):Int):=by rw [Int.ofNat_tdiv]
   have h1:m / W≤m:=Nat.div_le_self _ _
   rw [e]
   generalize m / W=d at *
   exact wrap_i64 (by omega) (by omega)
  have hx:m % W<W:=Nat.mod_lt _ (by omega)
  have hy:m / W<H:=by
   rw [Nat.div_lt_iff_lt_mul (by omega),Nat.mul_comm]
   omega
  have kv:=value_ok (c:=c) o p hi hx hy
  have hu8:IntKind.u8.wrap (newP l W H s i (m % W) (m / W))=(((newU l W H s i m).toNat:Nat):Int):=(u8_cell _).symm
  have hpx:=pix_cell hm
  have hml:m≤f.p.length - 1:=by omega
  have hp0:0<f.p.length:=by omega
  have hcl:=csT_len (NU:=newU l W H s) (i:=i) (m:=m) o hi (by omega)
  generalize newP l W H s i (m % W) (m / W)=z at *
  by_cases hE:newU l W H s i m=f.p.getD m 0
  ·have v5:=v4.same hf hm hE
   have hEi:(((newU l W H s i m).toNat:Nat):Int)=(((f.p.getD m 0).toNat:Nat):Int):=by rw [hE]
   rcases v4.ch.frm with rfl | ⟨q,rfl⟩
   all_goals
    repeat' (first
 | (conv=>whnf)
   first
   | refine Br.decT hEi ?_
   | refine Bnd.eq hmw ?_
   | refine Bnd.eq hmod ?_
   | refine Bnd.eq hdiv ?_
   | refine Bnd.eq hu8 ?_
   | (refine Br.decT ?_ ?_;(focus first | assumption | omega))
   | refine Br.not ?_
   | refine fLen.mk ?_
   | refine fB.i0 ?_
   | refine fB.mk ?_
   | refine Get.mk _ v3 ?_
   | refine Get.mk _ a0 ?_
   | refine Get.mk _ a2 ?_
   | refine Get.mk _ hpx ?_
   | refine Idx.nat hil ?_
   | refine Idx.nat hml ?_
   | refine Req.mk hn0 ?_
   | refine Req.mk hp0 ?_
   | refine Req.mk hW0 ?_
   | refine call_fun rfl rfl kv (.inl rfl) ?_
   | refine Get.mk _ rfl ?_
   | (refine Req.mk ?_ ?_;(focus first | rfl | decide | exact ⟨rfl,rfl⟩ | exact ⟨rfl,by decide⟩ | exact (fun _=>rfl) | exact (fun h=>nomatch h) | (simp;done) | omega | (simp [big];done) | exact le_big (by omega) | exact lt_big (by omega))))
    all_goals try (exfalso;omega;done)
    exact NextP.of (fun h=>⟨m+1,_,h⟩) ⟨hm,norm_len (s:=⟨_,g⟩) v2,hnk (by omega) v2 v3,v5.norm (j:=7) hle v2 rfl⟩ (by dsimp only;omega) rfl
  have hEi:¬ (((newU l W H s i m).toNat:Nat):Int)=(((f.p.getD m 0).toNat:Nat):Int):=fun h=>hE (UInt8.toNat_inj.1 (Int.ofNat.inj h))
  have hP:=v4.fh.PN i hi
  have hAl:(ofBytes (mA (newU l W H s) l i m i)).length=f.p.length:=by rw [ofBytes_length];exact v4.fh.len i f hf
  have hAs:(ofBytes (mA (newU l W H s) l i m i)).length=f.p.length∧0+m * 1+1≤(ofBytes (mA (newU l W H s) l i m i)).length:=⟨hAl,by omega⟩
  have hov:=over_bytes (u:=newU l W H s i m) (p:=mA (newU l W H s) l i m i) (m:=m)
  have hpc:cellAt (fmG (piV P) 0 l) (0+i * 3+2)=some (.ms 1 (P i) f.p.length 0 f.p.length false):=by
   have:=(fmG_c (g:=piV P) (k:=0) hf).2.2
   rw [Nat.zero_add] at this
   rw [Nat.zero_add]
   exact this
  have hol:(fmG (piV P) 0 l).length=l.length * 3:=fmG_length
  rcases v4.ch with ⟨hcs,rfl⟩ | ⟨q,hq1,hq2,rfl,hq4⟩
  ·have v5:=v4.put0 (c:=[]++cgV ⟨i,m,f.p.getD m 0,newU l W H s i m⟩) hf hm hE hcs rfl rfl
   repeat' (first
 | (conv=>whnf)
   first
   | refine Br.decF hEi ?_
   | refine Bnd.eq hmw ?_
   | refine Bnd.eq hmod ?_
   | refine Bnd.eq hdiv ?_
   | refine Bnd.eq hu8 ?_
   | (refine Br.decT ?_ ?_;(focus first | assumption | omega))
   | refine Br.not ?_
   | refine fLen.mk ?_
   | refine fB.i0 ?_
   | refine fB.i1 ?_
   | refine Req.mk (bget_new (i:=0)) ?_
   | refine Get.newj 0 rfl rfl ?_
   | refine fB.newj 0 rfl ?_
   | refine fB.mk ?_
   | refine fV.as hov ?_
   | refine Get.mk _ v3 ?_
   | refine Get.mk _ a0 ?_
   | refine Get.mk _ a2 ?_
   | refine Get.mk _ hpx ?_
   | refine Get.mk _ (bget_app v4.fh.out) ?_
   | refine Get.mk _ (bget_app (v4.fh.pic i hi)) ?_
   | refine Get.mk _ hpc ?_
   | refine Idx.nat hil ?_
   | refine Idx.nat hml ?_
   | refine Req.mk hol ?_
   | refine Req.mk hAs ?_
   | refine Req.mk hn0 ?_
   | refine Req.mk hp0 ?_
   | refine Req.mk hW0 ?_
   | refine call_fun rfl rfl kv (.inl rfl) ?_
   | (refine Ifz.pos ?_ ?_;(focus omega))
   | refine Get.mk _ rfl ?_
   | (refine Req.mk ?_ ?_;(focus first | rfl | decide | exact ⟨rfl,rfl⟩ | exact ⟨rfl,by decide⟩ | exact (fun _=>rfl) | exact (fun h=>nomatch h) | (simp;done) | omega | (simp [big];done) | exact le_big (by omega) | exact lt_big (by omega))))
   all_goals try (exfalso;omega;done)
   have hX:∀ (Z:List B) (b:B),G.length≤(bset (g++Z) (P i) b).length:=fun Z b=>by rw [bset_len,List.length_append];omega
   have h00:∀ (Z:List B) (b:B),bget (bset (g++Z) (P i) b) 0=some (.blk (spV s) false):=fun Z b=>(bset_other (by omega)).trans (bget_app v3)
   exact NextP.of (fun h=>⟨m+1,.ms 4 g.length (1 * 4) 0 1 false,h⟩) ⟨hm,norm_len (s:=⟨_,_⟩) (hX _ _),hnk (by omega) (hX _ _) (h00 _ _),v5.norm (j:=7) hle (hX _ _) rfl⟩ (by dsimp only;omega) rfl
  ·have v5:=v4.putS (c:=cgC (csT (newU l W H s) l i m)++cgV ⟨i,m,f.p.getD m 0,newU l W H s i m⟩) hf hm hE hq1 rfl rfl
   have hqs:0+(csT (newU l W H s) l i m).length * 4=(csT (newU l W H s) l i m).length * 4∧((cgC (csT (newU l W H s) l i m)).length+[V.int .i64 i,.int .i64 m,.int .u8 ((f.p.getD m 0).toNat:Nat),.int .u8 ((newU l W H s i m).toNat:Nat)].length) * (24+1)<big:=⟨Nat.zero_add _,by rw [cgC_length];unfold big;simp;omega⟩
   have hqo:q≠3:=by have:=v4.fh.oN;omega
   have hqP:q≠P i:=by omega
   repeat' (first
 | (conv=>whnf)
   first
   | refine Br.decF hEi ?_
   | refine Bnd.eq hmw ?_
   | refine Bnd.eq hmod ?_
   | refine Bnd.eq hdiv ?_
   | refine Bnd.eq hu8 ?_
   | (refine Br.decT ?_ ?_;(focus first | assumption | omega))
   | refine Br.not ?_
   | refine fLen.mk ?_
   | refine fB.i0 ?_
   | refine fB.i1 ?_
   | refine fB.mk ?_
   | refine fV.as hov ?_
   | refine Get.mk _ v3 ?_
   | refine Get.mk _ a0 ?_
   | refine Get.mk _ a2 ?_
   | refine Get.mk _ hpx ?_
   | refine Get.mk _ (bget_app hq4) ?_
   | refine Get.mk _ ((bset_other hqo).trans (bget_app v4.fh.out)) ?_
   | refine Get.mk _ ((bset_other hqP).trans (bget_app (v4.fh.pic i hi))) ?_
   | refine Get.mk _ hpc ?_
   | refine Idx.nat hil ?_
   | refine Idx.nat hml ?_
   | refine Req.mk hol ?_
   | refine Req.mk hAs ?_
   | refine Req.mk (cgC_length _) ?_
   | refine Req.mk hqs ?_
   | refine Req.mk hn0 ?_
   | refine Req.mk hp0 ?_
   | refine Req.mk hW0 ?_
   | refine call_fun rfl rfl kv (.inl rfl) ?_
   | (refine Ifz.pos ?_ ?_;(focus omega))
   | refine Get.mk _ rfl ?_
   | (refine Req.mk ?_ ?_;(focus first | rfl | decide | exact ⟨rfl,rfl⟩ | exact ⟨rfl,by decide⟩ | exact (fun _=>rfl) | exact (fun h=>nomatch h) | (simp;done) | omega | (simp [big];done) | exact le_big (by omega) | exact lt_big (by omega))))
   all_goals try (exfalso;omega;done)
   have hX:∀ (Z:List B) (b b' : B),G.length≤(bset (bset (g++Z) q b') (P i) b).length:=fun Z b b' => by rw [bset_len,bset_len,List.length_append];omega
   have h00:∀ (Z:List B) (b b' : B),bget (bset (bset (g++Z) q b') (P i) b) 0=some (.blk (spV s) false):=fun Z b b' => (bset_other (by omega)).trans ((bset_other (by omega)).trans (bget_app v3))
   have e5:∀ a b c d:V,(csT (newU l W H s) l i m).length * 4+[a,b,c,d].length=((csT (newU l W H s) l i m).length+1) * 4:=fun _ _ _ _=>by simp;omega
   rw [e5]
   exact NextP.of (fun h=>⟨m+1,.ms 4 q (((csT (newU l W H s) l i m).length+1) * 4) 0 ((csT (newU l W H s) l i m).length+1) false,h⟩) ⟨hm,norm_len (s:=⟨_,_⟩) (hX _ _ _),hnk (by omega) (hX _ _ _) (h00 _ _ _),v5.norm (j:=7) hle (hX _ _ _) rfl⟩ (by dsimp only;omega) rfl
end Go.Dr.T
