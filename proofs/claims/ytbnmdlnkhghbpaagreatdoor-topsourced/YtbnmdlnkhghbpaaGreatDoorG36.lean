/- Top, of chapter 08: the reference's CheckSteps. -/
import Derived.Test.YtbnmdlnkhghbpaaGreatDoorG4
import Derived.Test.YtbnmdlnkhghbpaaGreatDoorG35
import Derived.Test.YtbnmdlnkhghbpaaGreatDoorG33
import Derived.Test.YtbnmdlnkhghbpaaGreatDoorG34
import Derived.Test.YtbnmdlnkhghbpaaGreatDoorG9
import Derived.Test.YtbnmdlnkhghbpaaGreatDoorG1
import Derived.Test.YtbnmdlnkhghbpaaGreatDoorDrE
import Derived.Test.YtbnmdlnkhghbpaaGreatDoorG2
set_option maxRecDepth 100000
set_option maxHeartbeats 20000000
namespace Go.Dr.T
theorem Qk2 {c:Bool} {l:List Fm}:Fun FB md 30 [.sl c l.length (fmC l)] (.int .i64 (flE l).2):=by
 have k1:=Qns (c:=c) (l:=l)
 refine Q04 rfl rfl ?_
 repeat' ((conv=>whnf);first|refine zC k1 ?_|refine Get.mk _ rfl ?_|refine Leaves.of ?_|refine Vw.int ?_)
 all_goals first|rfl|(exfalso;omega)
theorem Qj6 {c d:Bool} {l:List Fm} {ss:List Sp}:Fun FB md 8 [.sl c l.length (fmC l),.sl d ss.length (spC ss)] (.tup [.int .i64 (csE l ss).1,.int .i64 (csE l ss).2]):=by
 have k1:=Qk2 (c:=c) (l:=l)
 by_cases hE:(flE l).2=0
 rotate_left
 ·unfold csE
  rw [if_pos hE]
  generalize flE l=z at *
  obtain ⟨z1,z2⟩:=z
  dsimp only at *
  refine Q04 rfl rfl ?_
  repeat' ((conv=>whnf);first|refine Br.f ?_|refine zF ?_|refine Br.not ?_|refine zC k1 ?_|refine Get.mk _ rfl ?_|refine Leaves.of ?_|refine Vw.int ?_|refine Vw.tup ?_|refine VwL.cons ?_ ?_|refine VwL.nil)
  all_goals first|rfl|(exfalso;omega)
 obtain ⟨f,hf,hl,hall⟩:=Qbe hE
 obtain ⟨hw,hh,_⟩:=Q7g (hall f (jE hf))
 unfold csE
 rw [if_neg (fun q=>q hE)]
 rw [hE] at k1
 generalize (flE l).1=z1 at *
 by_cases h2:20<ss.length
 ·rw [if_pos h2]
  refine Q04 rfl rfl ?_
  repeat' ((conv=>whnf);first|refine Br.t ?_|refine zT ?_|refine zC k1 ?_|refine Get.mk _ rfl ?_|refine Leaves.of ?_|refine Vw.int ?_|refine Vw.tup ?_|refine VwL.cons ?_ ?_|refine VwL.nil)
  all_goals first|rfl|(exfalso;omega)
 rw [if_neg h2]
 rw [Qno hf]
 refine Q04 rfl rfl ?_
 repeat' ((conv=>whnf);first|refine Br.t ?_|refine Br.f ?_|refine zF ?_|refine zC k1 ?_)
 all_goals try (exfalso;omega)
 refine LoopP.by (fun i:Nat=>i≤ss.length∧∀ j s,j<i→ss[j]?=some s→spE l.length f.w f.h s=0) (fun i=>[(7,.int .i64 (i:Nat))]) (fun i=>[]) (fun i=>ss.length-i) 0 ⟨Nat.zero_le _,fun j v h=>absurd h (Nat.not_lt_zero _)⟩ rfl ?_
 rintro i ⟨w1,w2⟩
 dsimp only
 by_cases hi:i<ss.length
 ·obtain ⟨s,hs⟩:∃ s,ss[i]?=some s:=⟨_,jC hi⟩
  have hp:=Q5c hs
  have k3:=Qor (c:=c) (s:=s) hf hl hw hh
  have hiw:IntKind.i64.wrap ((i:Int)+1)=((i+1:Nat):Int):=by rw [wrap_i64 (by omega) (by omega)];omega
  have hil:i≤ss.length-1:=by omega
  have h0l:0<ss.length:=by omega
  have hlc:i*8+8≤(spC ss).length:=by rw [Q67];omega
  have hnx:spE l.length f.w f.h s=0→∀ j u,j<i+1→ss[j]?=some u→spE l.length f.w f.h u=0:=fun q j u hj hu=>by
   by_cases e:j=i
   ·subst e;rw [hs] at hu;cases hu;exact q
   ·exact w2 j u (by omega) hu
  have hat:spE l.length f.w f.h s≠0→csF l.length f.w f.h ss 0=((i:Int),spE l.length f.w f.h s):=fun q=>by
   obtain ⟨hi',hg⟩:=jB.1 hs
   rw [Q5y w2,List.drop_eq_getElem_cons hi',hg,csF,if_pos q,Nat.zero_add]
  generalize spE l.length f.w f.h s=e at *
  by_cases he:e=0
  ·have hny:=hnx he
   subst he
   repeat' ((conv=>whnf);first|refine Bnd.eq hiw ?_|refine Br.f ?_|refine zT ?_|refine Get.mk _ hp ?_|refine Idx.nat hil ?_|refine Req.mk h0l ?_|refine zC k3 ?_)
   all_goals first|(exfalso;omega)|exact NextP.mk (i+1) ⟨hi,hny⟩ (by omega) rfl
  ·rw [hat he]
   repeat' ((conv=>whnf);first|refine zT ?_|refine zF ?_|refine Br.not ?_|refine Get.mk _ hp ?_|refine Idx.nat hil ?_|refine Req.mk h0l ?_|refine zC k3 ?_|refine Get.mk _ rfl ?_|refine Leaves.of ?_|refine Vw.int ?_|refine Vw.tup ?_|refine VwL.cons ?_ ?_|refine VwL.nil)
   all_goals first|rfl|(exfalso;omega)
 obtain rfl:i=ss.length:=by omega
 have hz:csF l.length f.w f.h ss 0=(0,0):=by rw [Q5y w2,List.drop_length];rfl
 rw [hz]
 repeat' ((conv=>whnf);first|refine zF ?_|refine Get.mk _ rfl ?_|refine Leaves.of ?_|refine Vw.int ?_|refine Vw.tup ?_|refine VwL.cons ?_ ?_|refine VwL.nil)
 all_goals first|rfl|(exfalso;omega)
end Go.Dr.T
namespace Go.Dr.T
theorem Qh5 {l:List Fm} {W H W' H':Nat} (o:FOk l W H) (o':FOk l W' H'):W'=W∧H'=H:=by
 obtain ⟨f,hf,f1,f2,_⟩:=o.at o.n0
 obtain ⟨f',hf',f1',f2',_⟩:=o'.at o'.n0
 rw [hf] at hf'
 cases hf'
 omega
structure WG where
 k:Nat
 G:List B
theorem ra_err {c cs d g:Bool} {l:List T6.El} {s:List Int} {ss:List Sp} {wd hg px:Nat} {P:List T6.T3} {n:Int} {v:V} {G:List B} (hP:1≤P.length∧P.length≤12) (he:(csE (pkFs (wd%8) (hg%8) P) ss).2≠0) (w:PF [.int .u8 (wd:Nat),.int .u8 (hg:Nat),.sl d ss.length (spC ss),.int .u8 (px:Nat)] (pkFs (wd%8) (hg%8) P) v G):wp FB1 md 0 RA ⟨TMa c cs d l s ss wd hg px P n g v,G⟩ (Leaves c3z.res (.bool true)):=by
 have k5:=Qqz
 have hFl:=Q3o (W:=wd%8) (H:=hg%8) (P:=P)
 have k8:Fun FB1 md 8 _ _:=tabF (Qj6 (c:=false) (d:=d) (l:=pkFs (wd%8) (hg%8) P) (ss:=ss))
 rcases w.film with ⟨h,_⟩|⟨q,q1,q2,rfl,hq⟩
 ·rw [h] at hFl
  exact absurd hFl (by simp only [List.length_nil];omega)
 have d0:=w.b0
 have hvw:Q1o G depth [.ms 3 q ((pkFs (wd%8) (hg%8) P).length*3) 0 (pkFs (wd%8) (hg%8) P).length false,.sl d ss.length (spC ss)]=some [.sl false (pkFs (wd%8) (hg%8) P).length (fmC (pkFs (wd%8) (hg%8) P)),.sl d ss.length (spC ss)]:=(VwL.cons (Vw.ms (d:=62+1) hq (Q0e _) (Q0y (Q0e _)) (Q6z _)) (VwL.cons Vw.sl VwL.nil)).1
 have hr:∀ {K:V→List B→Prop},K (.tup [.nilsl,.nilsl,.int .i64 (csE (pkFs (wd%8) (hg%8) P) ss).2]) G→CallP FB1 md 0 (.fn 7 []) [.ms 3 q ((pkFs (wd%8) (hg%8) P).length*3) 0 (pkFs (wd%8) (hg%8) P).length false,.sl d ss.length (spC ss)] G K:=fun h=>CallP.tab sub1 (Qkv he hq h)
 generalize csE (pkFs (wd%8) (hg%8) P) ss=e at *
 obtain ⟨e1,e2⟩:=e
 dsimp only at *
 unfold TMa RA
 repeat' ((conv=>whnf);first|refine zT ?_|refine zF ?_|refine Br.not ?_|refine fLen.mk ?_|refine fB.i0 ?_|refine Get.mk _ d0 ?_|refine hr ?_|refine Q06 rfl hvw k8 (.inr rfl) ?_|refine zC k5 ?_|refine Get.mk _ rfl ?_|refine Leaves.of ?_|refine Vw.bool ?_|refine zR ?_)
 all_goals first|rfl|(exfalso;omega)
theorem Qt7 {c cs d g:Bool} {l:List T6.El} {s:List Int} {ss:List Sp} {wd hg px:Nat} {P:List T6.T3} {n:Int} {v:V} {G:List B} (h1:1≤wd%8∧wd%8≤7) (h2:1≤hg%8∧hg%8≤7) (hpx:px≤255) (hP:1≤P.length∧P.length≤12) (hte:∀ t∈P,(0≤t.2.1∧t.2.1≤1000000)∧(0≤t.2.2∧t.2.2≤1000000)) (hs0:0<ss.length) (he:(csE (pkFs (wd%8) (hg%8) P) ss).2=0) (w:PF [.int .u8 (wd:Nat),.int .u8 (hg:Nat),.sl d ss.length (spC ss),.int .u8 (px:Nat)] (pkFs (wd%8) (hg%8) P) v G):wp FB1 md 0 RA ⟨TMa c cs d l s ss wd hg px P n g v,G⟩ (Leaves c3z.res (.bool true)):=by
 have k5:=Qqz
 have hFl:=Q3o (W:=wd%8) (H:=hg%8) (P:=P)
 have o:=Qed h1 h2 hP
 have hWH:(wd%8)*(hg%8)≤7*7:=Nat.mul_le_mul h1.2 h2.2
 have hWH1:1*1≤(wd%8)*(hg%8):=Nat.mul_le_mul h1.1 h2.1
 have hm:IntKind.i64.wrap (((wd%8:Nat):Int)*((hg%8:Nat):Int))=(((wd%8)*(hg%8):Nat):Int):=by
  rw [← Int.natCast_mul]
  exact wrap_i64 (by omega) (by omega)
 obtain ⟨Z,hZ⟩:∃ Z,Z+1=(wd%8)*(hg%8):=⟨(wd%8)*(hg%8)-1,by omega⟩
 have hm1:IntKind.i64.wrap ((((wd%8)*(hg%8):Nat):Int)-1)=(Z:Int):=by
  rw [← hZ,wrap_i64 (by omega) (by omega)]
  omega
 have hpz:px*Z≤255*48:=Nat.mul_le_mul hpx (by omega)
 have hm2:IntKind.i64.wrap ((px:Int)*(Z:Int))=((px*Z:Nat):Int):=by
  rw [← Int.natCast_mul]
  exact wrap_i64 (by omega) (by omega)
 have hm3:((px*Z:Nat):Int).tdiv 255=((px*Z/255:Nat):Int):=by rw [Int.ofNat_tdiv];rfl
 have hpw:IntKind.i64.wrap ((px:Nat):Int)=(px:Int):=wrap_i64 (by omega) (by omega)
 have hpix:px*Z/255<(wd%8)*(hg%8):=by
  have:px*Z/255≤255*Z/255:=Nat.div_le_div_right (Nat.mul_le_mul_right Z hpx)
  rw [Nat.mul_div_cancel_left Z (by decide)] at this
  omega
 obtain ⟨W',H',o',h20,hp⟩:=Qhi he
 obtain ⟨rfl,rfl⟩:=Qh5 o o'
 rcases w.film with ⟨h,_⟩|⟨q,q1,q2,rfl,hq⟩
 ·rw [h] at hFl
  exact absurd hFl (by simp only [List.length_nil];omega)
 have d00:=w.b0
 unfold TMa RA RB RC
 repeat' ((conv=>whnf);first|refine fLen.mk ?_|refine fB.i0 ?_|refine Get.mk _ d00 ?_|refine Get.mk _ rfl ?_|refine zR ?_)
 all_goals try (exfalso;omega)
 refine CallP.tab sub1 (Qku o h20 hp he hs0 w.cl hq ?_)
 intro G1 rl hcl hlen hrl hold hlg
 have hav:AfV (wd%8) (hg%8) (pkFs (wd%8) (hg%8) P) ss (.sl false (pkFs (wd%8) (hg%8) P).length (fmC (rnF (wd%8) (hg%8) (czF (pkFs (wd%8) (hg%8) P)) ss))) G1:=.inl rfl
 obtain ⟨Bf,hB,hBu⟩:=Q9i (c:=false) (d:=false) (ss:=ss) (Q4v o) h20
 rw [Q0u] at hBu
 have hvw:Q1o G1 depth [.sl false (pkFs (wd%8) (hg%8) P).length (fmC (rnF (wd%8) (hg%8) (czF (pkFs (wd%8) (hg%8) P)) ss)),.ms 1 rl ss.length 0 ss.length false]=some [.sl false (pkFs (wd%8) (hg%8) P).length (fmC (rnF (wd%8) (hg%8) (czF (pkFs (wd%8) (hg%8) P)) ss)),.sl false ss.length (lgC (rnC (wd%8) (hg%8) (czF (pkFs (wd%8) (hg%8) P)) ss))]:=(VwL.cons Vw.sl (VwL.cons (Vw.ms (d:=62+1) hlg (by rw [Q2t,Q2j]) (Q0y (by rw [Q2t,Q2j,Nat.mul_one])) Qm2) VwL.nil)).1
 have d0:=hold _ _ (Q05 w.b0) w.b0
 have hbq:=hold _ _ (Q05 hq) hq
 have hvw2:∀ B:List Fm,Q1o G1 depth [.sl false (pkFs (wd%8) (hg%8) P).length (fmC B),.ms 3 q ((pkFs (wd%8) (hg%8) P).length*3) 0 (pkFs (wd%8) (hg%8) P).length false]=some [.sl false (pkFs (wd%8) (hg%8) P).length (fmC B),.sl false (pkFs (wd%8) (hg%8) P).length (fmC (pkFs (wd%8) (hg%8) P))]:=fun B=>(VwL.cons Vw.sl (VwL.cons (Vw.ms (d:=62+1) hbq (Q0e _) (Q0y (Q0e _)) (Q6z _)) VwL.nil)).1
 have hBl:Bf.length=(pkFs (wd%8) (hg%8) P).length:=hB.len.trans Q0u
 have k10:Fun FB1 md 10 [.sl false (pkFs (wd%8) (hg%8) P).length (fmC Bf),.sl false (pkFs (wd%8) (hg%8) P).length (fmC (pkFs (wd%8) (hg%8) P))] (.bool true):=by
  have:=tabF (Qa4 (c:=false) (d:=false) (A:=Bf) (B:=pkFs (wd%8) (hg%8) P) (by omega) ⟨hBl,fun i f g hf hg=>by
   have:=hB.eq i f _ hf (Q8w hg)
   exact this⟩)
  rw [hBl] at this
  exact this
 repeat' ((conv=>whnf);first|refine Bnd.eq hm ?_|refine Bnd.eq hm1 ?_|refine Bnd.eq hm2 ?_|refine Bnd.eq hpw ?_|refine Br.f ?_|refine zB ?_|refine fLen.mk ?_|refine fB.i0 ?_|refine Get.mk _ d0 ?_|refine Q17 rfl hvw hBu ?_|refine Q06 rfl (hvw2 _) k10 (.inr rfl) ?_|refine Get.mk _ rfl ?_|refine zR ?_)
 all_goals try (exfalso;omega)
 refine LoopP.by (fun x:WG=>x.k≤P.length∧Cl x.G∧G1.length≤x.G.length∧∀ m b,m<G1.length→bget G1 m=some b→bget x.G m=some b) (fun x=>[(22,.int .i64 (x.k:Nat))]) (fun x=>x.G) (fun x=>P.length-x.k) ⟨0,G1⟩ ⟨Nat.zero_le _,hcl,Nat.le_refl _,fun _ _ _ h=>h⟩ rfl ?_
 rintro ⟨k,G2⟩ ⟨u1,u2,u3,u4⟩
 dsimp only at u1 u2 u3 u4 ⊢
 have hkw:IntKind.i64.wrap ((k:Int)+1)=((k+1:Nat):Int):=by rw [wrap_i64 (by omega) (by omega)];omega
 by_cases hk:k<P.length
 ·obtain ⟨t,ht⟩:∃ t,P[k]?=some t:=⟨_,jC hk⟩
  have hfin:∀ {mk:List Bool} {tm:List V} {X:List B},hasc G2.length X→Cl (norm mk G1.length ⟨tm,G2++X⟩).h∧G1.length≤(norm mk G1.length ⟨tm,G2++X⟩).h.length∧∀ m b,m<G1.length→bget G1 m=some b→bget (norm mk G1.length ⟨tm,G2++X⟩).h m=some b:=fun {mk tm X} hX=>by
   have hl:G1.length≤(G2++X).length:=by rw [jD];omega
   exact ⟨Q45 hl (Q27 u2 hX),Q2c (s:=⟨tm,G2++X⟩) hl,fun m b hm hb=>Q5i hl (Q27 u2 hX) hm (Q01 (u4 m b hm hb))⟩
  repeat' ((conv=>whnf);first|refine zT ?_|refine fLen.mk ?_|refine fB.i0 ?_|refine fB.mk ?_)
  all_goals try (exfalso;omega)
  refine bodyT h1 h2 hP hpix ht (hte t (jE ht)) h20 hp he rfl (u4 _ _ (Q05 d0) d0) (u4 _ _ (Q05 hbq) hbq) (hav.old u4) ?_ ?_
  all_goals
   rintro tm' X hX ⟨Y,rfl⟩
   unfold TMTY
   repeat' ((conv=>whnf);first|refine Bnd.eq hkw ?_|refine fLen.mk ?_|refine fB.i0 ?_)
   all_goals try (exfalso;omega)
   exact NextP.of (fun h=>WG.mk (k+1) h) ⟨hk,hfin hX⟩ (by dsimp only;omega) rfl
 ·obtain rfl:k=P.length:=by omega
  repeat' ((conv=>whnf);first|refine zF ?_|refine fLen.mk ?_|refine fB.i0 ?_|refine zC k5 ?_|refine fB.mk ?_|refine Get.mk _ rfl ?_|refine Leaves.of ?_|refine Vw.bool ?_)
  all_goals first|rfl|(exfalso;omega)
theorem Qt8 {c cs d g:Bool} {l:List T6.El} {s:List Int} {ss:List Sp} {wd hg px:Nat} {P:List T6.T3} {n:Int} {v:V} {G:List B} (h1:1≤wd%8∧wd%8≤7) (h2:1≤hg%8∧hg%8≤7) (hpx:px≤255) (hP:1≤P.length∧P.length≤12) (hte:∀ t∈P,(0≤t.2.1∧t.2.1≤1000000)∧(0≤t.2.2∧t.2.2≤1000000)) (hss:ss=[]) (he:(csE (pkFs (wd%8) (hg%8) P) ss).2=0) (w:PF [.int .u8 (wd:Nat),.int .u8 (hg:Nat),.sl d ss.length (spC ss),.int .u8 (px:Nat)] (pkFs (wd%8) (hg%8) P) v G):wp FB1 md 0 RA ⟨TMa c cs d l s ss wd hg px P n g v,G⟩ (Leaves c3z.res (.bool true)):=by
 have k5:=Qqz
 have hFl:=Q3o (W:=wd%8) (H:=hg%8) (P:=P)
 have o:=Qed h1 h2 hP
 have hWH:(wd%8)*(hg%8)≤7*7:=Nat.mul_le_mul h1.2 h2.2
 have hWH1:1*1≤(wd%8)*(hg%8):=Nat.mul_le_mul h1.1 h2.1
 have hm:IntKind.i64.wrap (((wd%8:Nat):Int)*((hg%8:Nat):Int))=(((wd%8)*(hg%8):Nat):Int):=by
  rw [← Int.natCast_mul]
  exact wrap_i64 (by omega) (by omega)
 obtain ⟨Z,hZ⟩:∃ Z,Z+1=(wd%8)*(hg%8):=⟨(wd%8)*(hg%8)-1,by omega⟩
 have hm1:IntKind.i64.wrap ((((wd%8)*(hg%8):Nat):Int)-1)=(Z:Int):=by
  rw [← hZ,wrap_i64 (by omega) (by omega)]
  omega
 have hpz:px*Z≤255*48:=Nat.mul_le_mul hpx (by omega)
 have hm2:IntKind.i64.wrap ((px:Int)*(Z:Int))=((px*Z:Nat):Int):=by
  rw [← Int.natCast_mul]
  exact wrap_i64 (by omega) (by omega)
 have hm3:((px*Z:Nat):Int).tdiv 255=((px*Z/255:Nat):Int):=by rw [Int.ofNat_tdiv];rfl
 have hpw:IntKind.i64.wrap ((px:Nat):Int)=(px:Int):=wrap_i64 (by omega) (by omega)
 have hpix:px*Z/255<(wd%8)*(hg%8):=by
  have:px*Z/255≤255*Z/255:=Nat.div_le_div_right (Nat.mul_le_mul_right Z hpx)
  rw [Nat.mul_div_cancel_left Z (by decide)] at this
  omega
 obtain ⟨W',H',o',h20,hp⟩:=Qhi he
 obtain ⟨rfl,rfl⟩:=Qh5 o o'
 rcases w.film with ⟨h,_⟩|⟨q,q1,q2,rfl,hq⟩
 ·rw [h] at hFl
  exact absurd hFl (by simp only [List.length_nil];omega)
 have d00:=w.b0
 unfold TMa RA RB RC
 repeat' ((conv=>whnf);first|refine fLen.mk ?_|refine fB.i0 ?_|refine Get.mk _ d00 ?_|refine Get.mk _ rfl ?_|refine zR ?_)
 all_goals try (exfalso;omega)
 subst hss
 refine CallP.tab sub1 (Qkw o he w.cl hq ?_)
 intro G1 hcl hold' hlen hFH
 have hold:∀ m b,m<G.length→bget G m=some b→bget G1 m=some b:=fun m b _ h=>hold' m b h
 have hav:AfV (wd%8) (hg%8) (pkFs (wd%8) (hg%8) P) [] (.ms 3 (G.length+1) ((pkFs (wd%8) (hg%8) P).length*3) 0 (pkFs (wd%8) (hg%8) P).length false) G1:=.inr ⟨rfl,_,_,rfl,hFH.out,hFH.pic⟩
 obtain ⟨Bf,hB,hBu⟩:=Q9i (c:=false) (d:=true) (ss:=[]) (Q4v o) h20
 rw [Q0u] at hBu
 have hvw:Q1o G1 depth [.ms 3 (G.length+1) ((pkFs (wd%8) (hg%8) P).length*3) 0 (pkFs (wd%8) (hg%8) P).length false,.nilsl]=some [.sl false (pkFs (wd%8) (hg%8) P).length (fmC (rnF (wd%8) (hg%8) (czF (pkFs (wd%8) (hg%8) P)) [])),.sl true ([]:List Sp).length (lgC (rnC (wd%8) (hg%8) (czF (pkFs (wd%8) (hg%8) P)) []))]:=(VwL.cons (VwF.vw (hFH.cz (d:=61))) (VwL.cons Vw.nil VwL.nil)).1
 have d0:=hold _ _ (Q05 w.b0) w.b0
 have hbq:=hold _ _ (Q05 hq) hq
 have hvw2:∀ B:List Fm,Q1o G1 depth [.sl false (pkFs (wd%8) (hg%8) P).length (fmC B),.ms 3 q ((pkFs (wd%8) (hg%8) P).length*3) 0 (pkFs (wd%8) (hg%8) P).length false]=some [.sl false (pkFs (wd%8) (hg%8) P).length (fmC B),.sl false (pkFs (wd%8) (hg%8) P).length (fmC (pkFs (wd%8) (hg%8) P))]:=fun B=>(VwL.cons Vw.sl (VwL.cons (Vw.ms (d:=62+1) hbq (Q0e _) (Q0y (Q0e _)) (Q6z _)) VwL.nil)).1
 have hBl:Bf.length=(pkFs (wd%8) (hg%8) P).length:=hB.len.trans Q0u
 have k10:Fun FB1 md 10 [.sl false (pkFs (wd%8) (hg%8) P).length (fmC Bf),.sl false (pkFs (wd%8) (hg%8) P).length (fmC (pkFs (wd%8) (hg%8) P))] (.bool true):=by
  have:=tabF (Qa4 (c:=false) (d:=false) (A:=Bf) (B:=pkFs (wd%8) (hg%8) P) (by omega) ⟨hBl,fun i f g hf hg=>by
   have:=hB.eq i f _ hf (Q8w hg)
   exact this⟩)
  rw [hBl] at this
  exact this
 repeat' ((conv=>whnf);first|refine Bnd.eq hm ?_|refine Bnd.eq hm1 ?_|refine Bnd.eq hm2 ?_|refine Bnd.eq hpw ?_|refine Br.f ?_|refine zB ?_|refine fLen.mk ?_|refine fB.i0 ?_|refine Get.mk _ d0 ?_|refine Q17 rfl hvw hBu ?_|refine Q06 rfl (hvw2 _) k10 (.inr rfl) ?_|refine Get.mk _ rfl ?_|refine zR ?_)
 all_goals try (exfalso;omega)
 refine LoopP.by (fun x:WG=>x.k≤P.length∧Cl x.G∧G1.length≤x.G.length∧∀ m b,m<G1.length→bget G1 m=some b→bget x.G m=some b) (fun x=>[(22,.int .i64 (x.k:Nat))]) (fun x=>x.G) (fun x=>P.length-x.k) ⟨0,G1⟩ ⟨Nat.zero_le _,hcl,Nat.le_refl _,fun _ _ _ h=>h⟩ rfl ?_
 rintro ⟨k,G2⟩ ⟨u1,u2,u3,u4⟩
 dsimp only at u1 u2 u3 u4 ⊢
 have hkw:IntKind.i64.wrap ((k:Int)+1)=((k+1:Nat):Int):=by rw [wrap_i64 (by omega) (by omega)];omega
 by_cases hk:k<P.length
 ·obtain ⟨t,ht⟩:∃ t,P[k]?=some t:=⟨_,jC hk⟩
  have hfin:∀ {mk:List Bool} {tm:List V} {X:List B},hasc G2.length X→Cl (norm mk G1.length ⟨tm,G2++X⟩).h∧G1.length≤(norm mk G1.length ⟨tm,G2++X⟩).h.length∧∀ m b,m<G1.length→bget G1 m=some b→bget (norm mk G1.length ⟨tm,G2++X⟩).h m=some b:=fun {mk tm X} hX=>by
   have hl:G1.length≤(G2++X).length:=by rw [jD];omega
   exact ⟨Q45 hl (Q27 u2 hX),Q2c (s:=⟨tm,G2++X⟩) hl,fun m b hm hb=>Q5i hl (Q27 u2 hX) hm (Q01 (u4 m b hm hb))⟩
  repeat' ((conv=>whnf);first|refine zT ?_|refine fLen.mk ?_|refine fB.i0 ?_|refine fB.mk ?_)
  all_goals try (exfalso;omega)
  refine bodyT h1 h2 hP hpix ht (hte t (jE ht)) h20 hp he rfl (u4 _ _ (Q05 d0) d0) (u4 _ _ (Q05 hbq) hbq) (hav.old u4) ?_ ?_
  all_goals
   rintro tm' X hX ⟨Y,rfl⟩
   unfold TMTY
   repeat' ((conv=>whnf);first|refine Bnd.eq hkw ?_|refine fLen.mk ?_|refine fB.i0 ?_)
   all_goals try (exfalso;omega)
   exact NextP.of (fun h=>WG.mk (k+1) h) ⟨hk,hfin hX⟩ (by dsimp only;omega) rfl
 ·obtain rfl:k=P.length:=by omega
  repeat' ((conv=>whnf);first|refine zF ?_|refine fLen.mk ?_|refine fB.i0 ?_|refine zC k5 ?_|refine fB.mk ?_|refine Get.mk _ rfl ?_|refine Leaves.of ?_|refine Vw.bool ?_)
  all_goals first|rfl|(exfalso;omega)
end Go.Dr.T
namespace Go.Dr.T
theorem Qes {c cs d:Bool} {l:List T6.El} {s:List Int} {ss:List Sp} {wd hg px:Nat} (hs:s.length≤9223372036854775807) (hwd:wd≤255) (hhg:hg≤255) (hpx:px≤255):Fun FB1 md 3 [T6.elsV c l,.sl cs s.length (Q00 s),.agg [.int .u8 (wd:Nat),.int .u8 (hg:Nat),.sl d ss.length (spC ss),.int .u8 (px:Nat)]] (.bool true):=by
 have k4:Fun FB1 md 4 [T6.elsV c l,.sl cs s.length (Q00 s)] (T6.verV l s):=FunF.fun (T6.version_ok hs)
 unfold T6.verV at k4
 by_cases hv:T6.vldE l=0
 rotate_left
 ·rw [if_pos hv] at k4
  exact Q5b (P:=[]) hwd hhg k4 (.inl hv)
 rw [if_neg fun h=>h hv] at k4
 by_cases hc:T6.scrE s=0
 rotate_left
 ·rw [if_pos hc] at k4
  exact Q5b (P:=[]) hwd hhg k4 (.inl hc)
 rw [if_neg fun h=>h hc] at k4
 cases hr:T6.rndP l with
 | some z =>
  rw [hr] at k4
  exact Q5b (P:=[]) hwd hhg k4 (.inl (by decide))
 | none =>
  rw [hr] at k4
  dsimp only at k4
  have hin:=T6.pk_in (l:=l) (s:=s)
  generalize (T6.verF (fun m=>T6.srcAll m l l.length) s).1=P at *
  generalize (T6.verF (fun m=>T6.srcAll m l l.length) s).2=n at *
  by_cases hbad:P.length=0∨12<P.length∨wd%8=0∨hg%8=0
  ·exact Q5b hwd hhg k4 (.inr hbad)
  ·have hP:1≤P.length∧P.length≤12:=by omega
   have hw:wd%8≠0:=by omega
   have hh:hg%8≠0:=by omega
   have h1:1≤wd%8∧wd%8≤7:=by omega
   have h2:1≤hg%8∧hg%8≤7:=by omega
   have hll:l.length≤1000000:=by have:=(T6.vld_good hv).1;omega
   have hsl:∀ x∈l,x.l.length≤1000000:=fun x hx=>by have:=(T6.vld_el hv hx).1;omega
   have hpk:∀ t∈P,PkOk l t:=fun t ht=>hin t ht
   have hte:∀ t∈P,(0≤t.2.1∧t.2.1≤1000000)∧(0≤t.2.2∧t.2.2≤1000000):=fun t ht=>by
    obtain ⟨e,k,x,p,hte,hx,hp,_⟩:=hin t ht
    have h3:=(jB.1 hx).1
    have h4:=(jB.1 hp).1
    have h5:=hsl x (jE hx)
    rw [hte]
    dsimp only
    omega
   obtain ⟨g,hg'⟩:=Qmn (P:=P)
   refine Qov hwd hhg hg' k4 hP hw hh hll hsl hpk fun v G w=>?_
   by_cases he:(csE (pkFs (wd%8) (hg%8) P) ss).2=0
   ·by_cases h0:ss=[]
    ·exact Qt8 h1 h2 hpx hP hte h0 he w
    ·exact Qt7 h1 h2 hpx hP hte (List.length_pos_iff.2 h0) he w
   ·exact ra_err hP he w
end Go.Dr.T
namespace Go.Dr.T
theorem Q3e {l:List V} (h:(Ty.int .i64).has l):∃ n:Int,l=[.int .i64 n]:=by
 simp only [Ty.has] at h
 obtain ⟨n,rfl,h1,h2⟩:=h
 exact ⟨n,rfl⟩
end Go.Dr.T
namespace Go.Dr.T
theorem Q93:∀ {xs:List (List V)},(∀ x∈xs,x.length=1∧(Ty.int .u8).has x)→∃ l:List UInt8,xs.flatten=ofBytes l∧xs.length=l.length
 | [],_=>⟨[],rfl,rfl⟩
 | x::xs,h=>by
  obtain ⟨l,h1,h2⟩:=Q93 (xs:=xs) fun y hy=>h y (by simp [hy])
  obtain ⟨_,hx⟩:=h x (by simp)
  simp only [Ty.has] at hx
  obtain ⟨n,rfl,h3,h4⟩:=hx
  simp only [IntKind.min,IntKind.max,IntKind.signed,IntKind.bits,Bool.false_eq_true,if_false] at h3 h4
  have h4':n≤255:=by simpa using h4
  refine ⟨UInt8.ofNat n.toNat::l,?_,by simp [h2]⟩
  have e:((UInt8.ofNat n.toNat).toNat:Int)=n:=by
   rw [UInt8.toNat_ofNat_of_lt' (by show n.toNat<256;omega)];omega
  simp only [List.flatten_cons,h1,ofBytes,e];rfl
theorem Qpu {l:List V} (h:(Ty.slice 1 (.int .u8)).has l):∃ p:List UInt8,l=[.sl false p.length (ofBytes p)]:=by
 rw [Ty.has] at h
 obtain ⟨xs,rfl,hx⟩:=h
 obtain ⟨p,h1,h2⟩:=Q93 hx
 exact ⟨p,by rw [h1,h2]⟩
end Go.Dr.T
