/- Top: law TopSourced, walked: the film. -/
import Derived.Test.YtbnmdlnkhghbpaaGreatDoorG27
import Derived.Test.YtbnmdlnkhghbpaaGreatDoorG10
import Derived.Test.YtbnmdlnkhghbpaaGreatDoorG2
set_option maxRecDepth 100000
set_option maxHeartbeats 20000000
namespace Go.Dr.T
structure PI where
 i:Nat
 v:V
 G:List B
theorem Qov {c cs d:Bool} {l:List T6.El} {s:List Int} {ss:List Sp} {wd hg px:Nat} {P:List T6.T3} {n:Int} {g:Bool} (hwd:wd≤255) (hhg:hg≤255) (hg':T6.gapV P=.sl g P.length (T6.trC P)) (k4:Fun FB1 md 4 [T6.elsV c l,.sl cs s.length (Q00 s)] (.tup [T6.gapV P,.int .i64 n,.int .i64 0])) (hP:1≤P.length∧P.length≤12) (hw:wd%8≠0) (hh:hg%8≠0) (hll:l.length≤1000000) (hsl:∀ x∈l,x.l.length≤1000000) (hpk:∀ t∈P,PkOk l t)
  (hrest:∀ v G,PF [.int .u8 (wd:Nat),.int .u8 (hg:Nat),.sl d ss.length (spC ss),.int .u8 (px:Nat)] (pkFs (wd%8) (hg%8) P) v G→wp FB1 md 0 RA ⟨TMa c cs d l s ss wd hg px P n g v,G⟩ (Leaves c3z.res (.bool true))):Fun FB1 md 3 [T6.elsV c l,.sl cs s.length (Q00 s),.agg [.int .u8 (wd:Nat),.int .u8 (hg:Nat),.sl d ss.length (spC ss),.int .u8 (px:Nat)]] (.bool true):=by
 rw [hg'] at k4
 unfold T6.elsV at k4 ⊢
 have hw8:((wd:Nat):Int).tmod 8=((wd%8:Nat):Int):=by rw [Int.ofNat_tmod];rfl
 have hh8:((hg:Nat):Int).tmod 8=((hg%8:Nat):Int):=by rw [Int.ofNat_tmod];rfl
 have hww:IntKind.i64.wrap ((wd:Nat):Int)=(wd:Int):=wrap_i64 (by omega) (by omega)
 have hhw:IntKind.i64.wrap ((hg:Nat):Int)=(hg:Int):=wrap_i64 (by omega) (by omega)
 have h1:1≤wd%8∧wd%8≤7:=by omega
 have h2:1≤hg%8∧hg%8≤7:=by omega
 refine Q04 c3_eq rfl ?_
 repeat' ((conv=>whnf);first|refine Bnd.eq hw8 ?_|refine Bnd.eq hh8 ?_|refine Bnd.eq hww ?_|refine Bnd.eq hhw ?_|refine Br.f ?_|refine zF ?_|refine zC k4 ?_|refine Get.mk _ rfl ?_|refine zR ?_)
 all_goals try (exfalso;omega)
 refine LoopP.by (fun x:PI=>x.i≤P.length∧PF [.int .u8 (wd:Nat),.int .u8 (hg:Nat),.sl d ss.length (spC ss),.int .u8 (px:Nat)] (pkFs (wd%8) (hg%8) (P.take x.i)) x.v x.G) (fun x=>[(12,x.v),(13,.int .i64 (x.i:Nat))]) (fun x=>x.G) (fun x=>P.length-x.i) ⟨0,.nilsl,_⟩ ⟨Nat.zero_le _,?_,?_,rfl,.inl ⟨rfl,rfl⟩⟩ rfl ?_
 ·rfl
 ·exact Nat.le_of_ble_eq_true rfl
 rintro ⟨i,v,G⟩ ⟨u1,u2⟩
 dsimp only at u1 u2 ⊢
 have hle:=u2.le
 have hiw:IntKind.i64.wrap ((i:Int)+1)=((i+1:Nat):Int):=by rw [wrap_i64 (by omega) (by omega)];omega
 by_cases hi:i<P.length
 ·obtain ⟨t,ht⟩:∃ t,P[i]?=some t:=⟨_,jC hi⟩
  repeat' ((conv=>whnf);first|refine zT ?_|refine fLen.mk ?_|refine fB.i0 ?_|refine fB.mk ?_)
  all_goals try (exfalso;omega)
  refine bodyF h1 h2 hP.2 hll hsl ht (hpk t (jE ht)) rfl u2 ?_
  rintro tm' v' G' w' hl ⟨Y,rfl⟩
  unfold TMFY
  repeat' ((conv=>whnf);first|refine Bnd.eq hiw ?_|refine fLen.mk ?_|refine fB.i0 ?_)
  all_goals try (exfalso;omega)
  exact NextP.of (fun h=>PI.mk (i+1) v' h) ⟨hi,w'.norm (j:=12) (by exact Nat.le_of_ble_eq_true rfl) w'.le rfl⟩ (by dsimp only;omega) rfl
 ·obtain rfl:i=P.length:=by omega
  rw [List.take_length] at u2
  repeat' ((conv=>whnf);first|refine zF ?_|refine fLen.mk ?_|refine fB.i0 ?_|refine fB.mk ?_)
  all_goals try (exfalso;omega)
  conv=>whnf
  exact hrest _ _ u2
end Go.Dr.T
namespace Go.Dr.T
theorem Qku {H0:List B} {fid:Nat} {d:Bool} {l:List Fm} {ss:List Sp} {W H:Nat} {K:V→List B→Prop} (o:FOk l W H) (hs20:ss.length≤20) (p:∀ s∈ss,SOk s l.length W H) (he:(csE l ss).2=0) (h0:0<ss.length) (hc:Cl H0) (hb:bget H0 fid=some (.blk (fmC l) false))
  (hk:∀ G q,Cl G→H0.length≤G.length→H0.length≤q→(∀ m b,m<H0.length→bget H0 m=some b→bget G m=some b)→bget G q=some (.blk (lgC (rnC W H (czF l) ss)) false)→K (.tup [.sl false l.length (fmC (rnF W H (czF l) ss)),.ms 1 q ss.length 0 ss.length false,.int .i64 0]) G):CallP FB md 0 (.fn 7 []) [.ms 3 fid (l.length*3) 0 l.length false,.sl d ss.length (spC ss)] H0 K:=by
 have k1:=Q4b (c:=false) (d:=d) (l:=l) (ss:=ss)
 rw [he] at k1
 generalize (csE l ss).1=z1 at *
 have hn0:=o.n0
 have hn12:=o.n12
 have hvw:Q1o H0 depth [.ms 3 fid (l.length*3) 0 l.length false,.sl d ss.length (spC ss)]=some [.sl false l.length (fmC l),.sl d ss.length (spC ss)]:=(VwL.cons (Vw.ms (d:=62+1) hb (Q0e l) (Q0y (Q0e l)) (Q6z l)) (VwL.cons Vw.sl VwL.nil)).1
 refine Q16 rfl rfl rfl ?_
 repeat' ((conv=>whnf);first|refine Br.f ?_|refine fLen.mk ?_|refine fB.i0 ?_|refine Q06 rfl hvw k1 (.inr rfl) ?_|refine Get.mk _ rfl ?_)
 all_goals try (exfalso;omega)
 refine Q8y o hc hb ?_
 intro G0 c1 c2 c3 c4
 clear k1 hvw
 repeat' ((conv=>whnf);first|refine fLen.mk ?_|refine fB.i0 ?_)
 all_goals try (exfalso;omega)
 have hG0:H0.length≤G0.length:=by omega
 refine LoopP.by (fun a:RS=>a.i≤ss.length∧RJ W H l ss G0 (H0.length+1) a.i a.fv a.lv a.G) (fun a=>[(4,a.fv),(5,a.lv),(24,.int .i64 (a.i:Nat))]) (fun a=>a.G) (fun a=>ss.length-a.i) ⟨0,_,_,G0⟩ ⟨Nat.zero_le _,.inl ⟨rfl,rfl,rfl,rfl⟩⟩ rfl ?_
 rintro ⟨i,fv,lv,G⟩ ⟨w1,w2⟩
 dsimp only at w1 w2 ⊢
 by_cases hi:i<ss.length
 rotate_left
 ·obtain rfl:i=ss.length:=by omega
  rcases w2 with ⟨h0',_⟩|⟨_,rfl,q,hq0,rfl,hq,hcl,hgl,hlow⟩
  ·omega
  ·rw [List.take_length] at *
   have hql:=Q05 hq
   repeat' ((conv=>whnf);first|refine zF ?_|refine fLen.mk ?_|refine fB.i0 ?_|refine fB.mk ?_|refine Get.mk _ rfl ?_|refine Ends.of ?_)
   all_goals try (exfalso;omega)
   obtain ⟨k,k1,k2,k3,k4⟩:=Q19 (n:=H0.length) (tm:=[.tup [.sl false l.length (fmC (rnF W H (czF l) ss)),.ms 1 q ss.length 0 ss.length false,.int .i64 0]]) (h:=G) (by omega) hcl
   show K (.tup [.sl false l.length (fmC (rnF W H (czF l) ss)),.ms 1 q ss.length 0 ss.length false,.int .i64 0]) (trunc H0.length [.tup [.sl false l.length (fmC (rnF W H (czF l) ss)),.ms 1 q ss.length 0 ss.length false,.int .i64 0]] G)
   have hqk:q<k:=by
    have:=k4
    simp [blos,V.blo] at this
    omega
   rw [k2]
   exact hk _ q k3 (by rw [jQ];omega) (by omega) (fun m b hm hb2=>by rw [Q09 (by omega)];exact hlow m b (by omega) (c2 m b hb2)) (by rw [Q09 hqk];exact hq)
 obtain ⟨s,hs⟩:∃ s,ss[i]?=some s:=⟨_,jC hi⟩
 have hp:=Q5c hs
 have ps:=p s (jE hs)
 have hiw:IntKind.i64.wrap ((i:Int)+1)=((i+1:Nat):Int):=by rw [wrap_i64 (by omega) (by omega)];omega
 have hil:i≤ss.length-1:=by omega
 have h0l:0<ss.length:=by omega
 rcases w2 with ⟨h0',rfl,rfl,rfl⟩|⟨h0',rfl,q,hq0,rfl,hq,hcl,hgl,hlow⟩
 ·subst h0'
  have kd:=Qq3 (c:=false) (l:=czF l) (Q4v o) (by rw [Q0u];exact ps)
  rw [Q0u,Q2z,Q0u,Qhf,Qhg] at kd
  have hvw:∀ X:List B,Q1o (G++X) depth [.ms 3 (H0.length+1) (l.length*3) 0 l.length false,.agg (spV s)]=some [.sl false l.length (fmC (czF l)),.agg (spV s)]:=fun X=>(VwL.cons (VwF.vw ((c4.app (g:=X)).cz (d:=61))) (VwL.cons (Qgh (d:=62)) VwL.nil)).1
  repeat' ((conv=>whnf);first|refine Bnd.eq hiw ?_|refine zT ?_|refine fLen.mk ?_|refine fB.i0 ?_|refine fB.i1 ?_|refine Get.mk _ hp ?_|refine Idx.nat hil ?_|refine Req.mk h0l ?_|refine Q17 rfl (hvw _) kd ?_|refine Req.mk (bget_new (i:=1)) ?_|refine Get.newj 0 rfl rfl ?_|refine Get.newj 1 rfl rfl ?_|refine fB.newj 0 rfl ?_|refine fB.newj 1 rfl ?_|refine fB.mk ?_|refine zZ ?_|refine Get.mk _ rfl ?_|refine zR ?_)
  all_goals try (exfalso;omega)
  rw [jO]
  exact NextP.of (fun h=>⟨1,_,_,h⟩) ⟨hi,RJ.first (j:=5) c1 hs rfl (by rw [jD];omega) ⟨rfl,rfl,rfl,trivial⟩ (by rw [jD];exact bget_new (i:=2)) rfl⟩ (by dsimp only;omega) rfl
 ·have kd:=Qq3 (c:=false) (Q6u (ss:=ss.take i) (Q4v o)) (by rw [Q2u,Q0u];exact ps)
  rw [Q2u,Q0u,Q2z,Q2u,Q0u] at kd
  have hll:(lgC (rnC W H (czF l) (ss.take i))).length=i:=by rw [Q2t,Q2j,jQ];omega
  have hsz:∀ a:V,0+i*1=i∧((lgC (rnC W H (czF l) (ss.take i))).length+[a].length)*(24+1)<big:=fun a=>⟨by omega,by rw [hll];unfold big;simp;omega⟩
  have hq':=Q05 hq
  have hvw:∀ X:List B,Q1o X depth [.sl false l.length (fmC (rnF W H (czF l) (ss.take i))),.agg (spV s)]=some [.sl false l.length (fmC (rnF W H (czF l) (ss.take i))),.agg (spV s)]:=fun X=>(VwL.cons Vw.sl (VwL.cons (Qgh (d:=62)) VwL.nil)).1
  repeat' ((conv=>whnf);first|refine Bnd.eq hiw ?_|refine zT ?_|refine fLen.mk ?_|refine fB.i0 ?_|refine fB.i1 ?_|refine Get.mk _ hp ?_|refine Idx.nat hil ?_|refine Req.mk h0l ?_|refine Q17 rfl (hvw _) kd ?_|refine Get.mk _ (Q01 (Q01 hq)) ?_|refine Req.mk hll ?_|refine Req.mk (hsz _) ?_|refine Get.newj 0 rfl rfl ?_|refine fB.newj 0 rfl ?_|refine fB.mk ?_|refine zZ ?_|refine Get.mk _ rfl ?_|refine zR ?_)
  all_goals try (exfalso;omega)
  rw [jO]
  exact NextP.of (fun h=>⟨i+1,_,_,h⟩) ⟨hi,RJ.more (j:=5) h0' hcl hgl hlow hs rfl hq0 ⟨rfl,rfl,rfl,trivial⟩ hq' rfl⟩ (by dsimp only;omega) rfl
theorem Qkw {H0:List B} {fid:Nat} {l:List Fm} {d:Bool} {W H:Nat} {K:V→List B→Prop} (o:FOk l W H) (he:(csE l []).2=0) (hc:Cl H0) (hb:bget H0 fid=some (.blk (fmC l) false))
  (hk:∀ G,Cl G→(∀ m b,bget H0 m=some b→bget G m=some b)→H0.length≤G.length→FH H0.length G.length l (pxL l) (H0.length+1) (fun j=>H0.length+2+j) G→K (.tup [.ms 3 (H0.length+1) (l.length*3) 0 l.length false,.nilsl,.int .i64 0]) G):CallP FB md 0 (.fn 7 []) [.ms 3 fid (l.length*3) 0 l.length false,.sl d 0 []] H0 K:=by
 have k1:Fun FB md 27 [.sl false l.length (fmC l),.sl d 0 []] _:=Q4b (c:=false) (d:=d) (l:=l) (ss:=[])
 rw [he] at k1
 generalize (csE l []).1=z1 at *
 have hn0:=o.n0
 have hn12:=o.n12
 have hvw:Q1o H0 depth [.ms 3 fid (l.length*3) 0 l.length false,.sl d 0 []]=some [.sl false l.length (fmC l),.sl d 0 []]:=(VwL.cons (Vw.ms (d:=62+1) hb (Q0e l) (Q0y (Q0e l)) (Q6z l)) (VwL.cons Vw.sl VwL.nil)).1
 refine Q16 rfl rfl rfl ?_
 repeat' ((conv=>whnf);first|refine Br.f ?_|refine fLen.mk ?_|refine fB.i0 ?_|refine Q06 rfl hvw k1 (.inr rfl) ?_|refine Get.mk _ rfl ?_)
 all_goals try (exfalso;omega)
 refine Q8y o hc hb ?_
 intro G0 c1 c2 c3 c4
 clear k1 hvw
 repeat' ((conv=>whnf);first|refine fLen.mk ?_|refine fB.i0 ?_)
 all_goals try (exfalso;omega)
 refine LoopP.by (fun _:Unit=>True) (fun _=>[]) (fun _=>G0) (fun _=>0) () trivial rfl ?_
 intro _ _
 dsimp only
 repeat' ((conv=>whnf);first|refine Br.f ?_|refine fLen.mk ?_|refine fB.i0 ?_|refine fB.mk ?_|refine Get.mk _ rfl ?_|refine Ends.of ?_)
 all_goals try (exfalso;omega)
 have ht:trunc H0.length [.tup [.ms 3 (H0.length+1) (l.length*3) 0 l.length false,.nilsl,.int .i64 0]] G0=G0:=by
  obtain ⟨i,hi⟩:∃ i,l.length=i+1:=⟨l.length-1,by omega⟩
  refine Q7n (r:=H0.length+2+i) (o:=H0.length+1) (by omega) (by omega) c1 (fun k hk=>by simp [blos,V.blo] at hk;omega) c4.out fun k hk=>?_
  have hk:blos k _=true:=hk
  have h2:=Qba (i:=i) hk (jC (by omega))
  rw [Nat.zero_add] at h2
  exact of_decide_eq_true h2
 show K (.tup [.ms 3 (H0.length+1) (l.length*3) 0 l.length false,.nilsl,.int .i64 0]) (trunc H0.length [.tup [.ms 3 (H0.length+1) (l.length*3) 0 l.length false,.nilsl,.int .i64 0]] G0)
 rw [ht]
 exact hk _ c1 c2 (by omega) c4
theorem Qkv {H0:List B} {fid:Nat} {l:List Fm} {ss:List Sp} {d:Bool} {K:V→List B→Prop} (he:(csE l ss).2≠0) (hb:bget H0 fid=some (.blk (fmC l) false))
  (hk:K (.tup [.nilsl,.nilsl,.int .i64 (csE l ss).2]) H0):CallP FB md 0 (.fn 7 []) [.ms 3 fid (l.length*3) 0 l.length false,.sl d ss.length (spC ss)] H0 K:=by
 have k1:=Q4b (c:=false) (d:=d) (l:=l) (ss:=ss)
 generalize csE l ss=e at *
 obtain ⟨e1,e2⟩:=e
 dsimp only at *
 have hvw:Q1o H0 depth [.ms 3 fid (l.length*3) 0 l.length false,.sl d ss.length (spC ss)]=some [.sl false l.length (fmC l),.sl d ss.length (spC ss)]:=(VwL.cons (Vw.ms (d:=62+1) hb (Q0e l) (Q0y (Q0e l)) (Q6z l)) (VwL.cons Vw.sl VwL.nil)).1
 refine Q16 rfl rfl rfl ?_
 repeat' ((conv=>whnf);first|refine zF ?_|refine Br.not ?_|refine fLen.mk ?_|refine fB.i0 ?_|refine fB.mk ?_|refine Q06 rfl hvw k1 (.inr rfl) ?_|refine Get.mk _ rfl ?_|refine Ends.of ?_)
 all_goals try (exfalso;omega)
 have ht:trunc H0.length [.tup [.nilsl,.nilsl,.int .i64 e2]] H0=H0:=by
  unfold trunc
  rw [Nat.sub_self]
  rfl
 show K (.tup [.nilsl,.nilsl,.int .i64 e2]) (trunc H0.length [.tup [.nilsl,.nilsl,.int .i64 e2]] H0)
 rw [ht]
 exact hk
end Go.Dr.T
namespace Go.Dr.T
theorem Q2y {n lo hi:Int}:Fun FB md 65 [.int .i64 n,.int .i64 lo,.int .i64 hi] (.bool (!outB n lo hi)):=by
 refine Q04 rfl rfl ?_
 by_cases h1:n≥lo<;>by_cases h2:n≤hi
 all_goals
  repeat' ((conv=>whnf);first|refine zT ?_|refine zF ?_|refine Get.mk _ rfl ?_|refine Leaves.of ?_|refine Vw.bool ?_)
  all_goals first|(simp [outB,h1,h2];done)|(simp [outB,h1,h2];omega)
theorem Qns {c:Bool} {l:List Fm}:Fun FB md 64 [.sl c l.length (fmC l)] (.tup [.int .i64 (flE l).1,.int .i64 (flE l).2]):=by
 have h1:=Q2y (n:=(l.length:Int)) (lo:=1) (hi:=12)
 by_cases hl:1≤l.length∧l.length≤12
 rotate_left
 ·have hE:flE l=(0,3):=by
   cases l with
   | nil=>rfl
   | cons f l=>rw [flE,if_pos (by simp only [List.length_cons] at hl ⊢;omega)]
  rw [hE]
  have:outB (l.length:Int) 1 12=true:=by simp only [outB,Bool.or_eq_true,jG];omega
  rw [this] at h1
  refine Q04 rfl rfl ?_
  repeat' ((conv=>whnf);first|refine Br.t ?_|refine zC h1 ?_|refine Get.mk _ rfl ?_|refine Leaves.of ?_|refine Vw.int ?_|refine Vw.tup ?_|refine VwL.cons ?_ ?_|refine VwL.nil)
  all_goals first|rfl|(exfalso;omega)
 have hlen:=hl
 have hb:outB (l.length:Int) 1 12=false:=by simp only [outB,jL,jI];omega
 rw [hb] at h1
 obtain ⟨f0,h0,hE⟩:∃ f0,l[0]?=some f0∧flE l=flF f0.w f0.h l 0:=by
  cases l with
  | nil=>exact absurd hl.1 (by decide)
  | cons f l=>exact ⟨f,rfl,by rw [flE,if_neg (by omega)]⟩
 rw [hE]
 clear hE hb hl
 have hn:=hlen
 refine Q04 rfl rfl ?_
 repeat' ((conv=>whnf);first|refine Br.f ?_|refine zC h1 ?_)
 all_goals try (exfalso;omega)
 refine LoopP.by (fun i:Nat=>i≤l.length∧∀ j f,j<i→l[j]?=some f→fmE f0.w f0.h f=0) (fun i=>[(4,.int .i64 (i:Nat))]) (fun i=>[]) (fun i=>l.length-i) 0 ⟨Nat.zero_le _,fun j v h=>absurd h (Nat.not_lt_zero _)⟩ rfl ?_
 rintro i ⟨w1,w2⟩
 dsimp only
 by_cases hi:i<l.length
 ·obtain ⟨f,hf⟩:∃ f,l[i]?=some f:=⟨_,jC hi⟩
  have hp:=Qbc hf
  obtain ⟨a0,a1,a2⟩:=fm_c hf
  obtain ⟨b0,b1,b2⟩:=fm_c h0
  have k1:=Q2y (n:=f.w) (lo:=1) (hi:=48)
  have k2:=Q2y (n:=f.h) (lo:=1) (hi:=48)
  have hiw:IntKind.i64.wrap ((i:Int)+1)=((i+1:Nat):Int):=by rw [wrap_i64 (by omega) (by omega)];omega
  have hil:i≤l.length-1:=by omega
  have h0l:0<l.length:=by omega
  have hlc':i*3+3≤(fmC l).length:=by rw [Q0e];omega
  have hz:0≤l.length-1:=by omega
  have hres:fmE f0.w f0.h f≠0→flF f0.w f0.h l 0=((i:Int),fmE f0.w f0.h f):=fun e=>Qrs w2 hf e
  have hnx:fmE f0.w f0.h f=0→∀ j u,j<i+1→l[j]?=some u→fmE f0.w f0.h u=0:=fun h j u hj hu=>by
   by_cases e:j=i
   ·subst e;rw [hf] at hu;cases hu;exact h
   ·exact w2 j u (by omega) hu
  cases e1:outB f.w 1 48<;>rw [e1] at k1
  rotate_left
  ·have hE:fmE f0.w f0.h f=7:=by unfold fmE;rw [if_pos (.inl e1)]
   rw [hres (by rw [hE];decide),hE]
   repeat' ((conv=>whnf);first|refine Br.t ?_|refine zT ?_|refine Get.mk _ a0 ?_|refine zC k1 ?_|refine Idx.nat hil ?_|refine Req.mk h0l ?_|refine Get.mk _ rfl ?_|refine Leaves.of ?_|refine Vw.int ?_|refine Vw.tup ?_|refine VwL.cons ?_ ?_|refine VwL.nil)
   all_goals first|rfl|(exfalso;omega)
  cases e2:outB f.h 1 48<;>rw [e2] at k2
  rotate_left
  ·have hE:fmE f0.w f0.h f=7:=by unfold fmE;rw [if_pos (.inr e2)]
   rw [hres (by rw [hE];decide),hE]
   repeat' ((conv=>whnf);first|refine Br.t ?_|refine Br.f ?_|refine zT ?_|refine Get.mk _ a0 ?_|refine Get.mk _ a1 ?_|refine zC k1 ?_|refine zC k2 ?_|refine Idx.nat hil ?_|refine Req.mk h0l ?_|refine Get.mk _ rfl ?_|refine Leaves.of ?_|refine Vw.int ?_|refine Vw.tup ?_|refine VwL.cons ?_ ?_|refine VwL.nil)
   all_goals first|rfl|(exfalso;omega)
  have hE:fmE f0.w f0.h f=if (f.p.length:Int)≠f.w*f.h then 2 else if f.w≠f0.w∨f.h≠f0.h then 180 else 0:=by unfold fmE;rw [if_neg (by rw [e1,e2];decide)]
  have hwr:IntKind.i64.wrap (f.w*f.h)=f.w*f.h:=by
   simp only [outB,jL,jI] at e1 e2
   have q1:f.w*f.h≤48*48:=Int.mul_le_mul (by omega) (by omega) (by omega) (by omega)
   have q2:0≤f.w*f.h:=Int.mul_nonneg (by omega) (by omega)
   exact wrap_i64 (by omega) (by omega)
  by_cases e3:(f.p.length:Int)=f.w*f.h
  rotate_left
  ·rw [if_pos e3] at hE
   rw [hres (by rw [hE];decide),hE]
   repeat' ((conv=>whnf);first|refine Bnd.eq hwr ?_|refine Br.f ?_|refine zT ?_|refine zF ?_|refine Br.not ?_|refine Get.mk _ a0 ?_|refine Get.mk _ a1 ?_|refine Get.mk _ a2 ?_|refine zC k1 ?_|refine zC k2 ?_|refine Idx.nat hil ?_|refine Req.mk h0l ?_|refine Get.mk _ rfl ?_|refine Leaves.of ?_|refine Vw.int ?_|refine Vw.tup ?_|refine VwL.cons ?_ ?_|refine VwL.nil)
   all_goals first|rfl|(exfalso;omega)|(exact absurd ‹_› e3)
  rw [if_neg (fun h=>h e3)] at hE
  by_cases e4:f.w=f0.w
  rotate_left
  ·rw [if_pos (.inl e4)] at hE
   rw [hres (by rw [hE];decide),hE]
   repeat' ((conv=>whnf);first|refine Bnd.eq hwr ?_|refine Br.t ?_|refine Br.f ?_|refine zT ?_|refine zF ?_|refine Br.not ?_|refine Get.mk _ a0 ?_|refine Get.mk _ a1 ?_|refine Get.mk _ a2 ?_|refine Get.mk _ b0 ?_|refine zC k1 ?_|refine zC k2 ?_|refine Idx.nat hil ?_|refine Req.mk h0l ?_|refine zN ?_|refine Get.mk _ rfl ?_|refine Leaves.of ?_|refine Vw.int ?_|refine Vw.tup ?_|refine VwL.cons ?_ ?_|refine VwL.nil)
   all_goals first|rfl|(exfalso;omega)|(exact absurd ‹_› e4)
  by_cases e5:f.h=f0.h
  rotate_left
  ·rw [if_pos (.inr e5)] at hE
   rw [hres (by rw [hE];decide),hE]
   repeat' ((conv=>whnf);first|refine Bnd.eq hwr ?_|refine Br.f ?_|refine zT ?_|refine zF ?_|refine Br.not ?_|refine Get.mk _ a0 ?_|refine Get.mk _ a1 ?_|refine Get.mk _ a2 ?_|refine Get.mk _ b0 ?_|refine Get.mk _ b1 ?_|refine zC k1 ?_|refine zC k2 ?_|refine Idx.nat hil ?_|refine Req.mk h0l ?_|refine zN ?_|refine Get.mk _ rfl ?_|refine Leaves.of ?_|refine Vw.int ?_|refine Vw.tup ?_|refine VwL.cons ?_ ?_|refine VwL.nil)
   all_goals first|rfl|(exfalso;omega)|(exact absurd ‹_› e5)
  rw [if_neg (fun h=>h.elim (fun g=>g e4) fun g=>g e5)] at hE
  have hnx:=hnx hE
  repeat' ((conv=>whnf);first|refine Bnd.eq hwr ?_|refine Bnd.eq hiw ?_|refine Br.f ?_|refine zT ?_|refine Br.not ?_|refine Get.mk _ a0 ?_|refine Get.mk _ a1 ?_|refine Get.mk _ a2 ?_|refine Get.mk _ b0 ?_|refine Get.mk _ b1 ?_|refine zC k1 ?_|refine zC k2 ?_|refine Idx.nat hil ?_|refine Req.mk h0l ?_|refine zN ?_)
  all_goals first|(exfalso;omega)|exact NextP.mk (i+1) ⟨hi,hnx⟩ (by omega) rfl
 obtain rfl:i=l.length:=by omega
 rw [Qf2 w2]
 repeat' ((conv=>whnf);first|refine zF ?_|refine Get.mk _ rfl ?_|refine Leaves.of ?_|refine Vw.int ?_|refine Vw.tup ?_|refine VwL.cons ?_ ?_|refine VwL.nil)
 all_goals first|rfl|(exfalso;omega)
end Go.Dr.T
