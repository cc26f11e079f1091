/- Top, of chapter 06: gather, walked. -/
import Derived.Test.YtbnmdlnkhghbpaaGreatDoorG14
namespace Go.Dr.T6
open Go.Dr.T
theorem Q7j {x:B} {H G:List B} {ro:Nat} {K:V→List B→Prop} (hk:K .nilsl (hp x H++G)):CallP FB md ro (.fn 48 []) [V.nilsl] (hp x H++G) K:=Q3t (id:=0) (c:=true) (L:=[]) (by simp) (by simp) hk
theorem GH.snoc {H:List B} {E:List Ent} (h:GH H E) {e:Ent} (hL:e.L=[]):GH H (E++[e]):=fun x hx hn=>by
 rcases jK.1 hx with hx|hx
 ·exact h x hx hn
 ·rw [jJ] at hx;subst hx;exact absurd hL hn
theorem Q2v (l:List Int) (m:Int):Q00 l++[V.int .i64 m]=Q00 (l++[m]):=by simp [Q00]
theorem fVf' {l l':List V} {K:List V→Prop} (e:l=l') (h:K l'):fV l K:=fV.mk (e▸h)
theorem Qhe:∀ (l:List El) (i:Nat),elC (l.take i)=(elC l).take (i*3)
 | [],i=>by simp [elC]
 | x::l,0=>by simp [elC]
 | x::l,i+1=>by
  rw [show (i+1)*3=i*3+1+1+1 by omega]
  simp only [List.take_succ_cons,elC,Qhe l i]
theorem Qj0 {l:List El} {i:Nat} (h:i≤l.length):part (elC l) (0*3) ((i-0)*3)=some (elC (l.take i)):=by
 rw [Qhe,Nat.zero_mul,Nat.sub_zero]
 have:=Qla (cs:=elC l) (off:=0) (n:=i*3) (by rw [Qa8];omega)
 rwa [List.drop_zero] at this
theorem Qsl {x:El} {h:List B} {id d:Nat} (hb:bget h id=some (.blk [.str x.nm,.sl x.c x.l.length (shC x.l),.int .i64 x.g] false)):V.view h (d+2) (.ref id 3 0)=some (xRp x):=by
 exact (Vw.ref hb rfl rfl ⟨rfl⟩).1
theorem Q85:∀ zs:List Int,scalars (Q00 zs)=true
 | []=>rfl
 | _::l=>by simp only [Q00,List.map_cons,scalars,jF];exact ⟨rfl,Q85 l⟩
theorem Q88 {a b:Int}:∀ {l:List Int},(a,b)∈nexts l→a∈l
 | x::y::l,h=>by
  simp only [nexts,List.mem_cons,jN] at h
  rcases h with ⟨rfl,_⟩|h
  ·simp
  ·exact List.mem_cons_of_mem _ (Q88 h)
 | [],h=>by simp [nexts] at h
 | [x],h=>by simp [nexts] at h
theorem Qq5 {l:List El} {a b:Int} (h:(a,b)∈Q26 l):a∈Q1f l:=by
 obtain ⟨e,he,h⟩:=List.mem_flatMap.1 h
 exact List.mem_flatMap.2 ⟨e,he,Q88 h⟩
theorem Qpl {l:List El} {i:Nat} {K:List Int} {D:List (Int × Int)} {E1:List Ent} {m m':Int} (g:GE E1 (Q1f (l.take i)++K) D) (hmk:m∉entK E1) (b:Int):(m,b)∉Q26 (l.take i)++(nexts K++(if K=[] then [] else [(lastM K,m')])):=by
 intro h
 refine hmk ((g.ks m).2 ?_)
 rcases jK.1 h with h|h
 ·exact jK.2 (.inl (Qq5 h))
 refine jK.2 (.inr ?_)
 rcases jK.1 h with h|h
 ·exact Q88 h
 ·split at h
  ·cases h
  ·rename_i hk
   simp only [jJ,jN] at h
   rw [h.1];exact Q2x hk
set_option maxRecDepth 100000 in
set_option maxHeartbeats 20000000 in
theorem gather_walk {c:Bool} {l:List El} (fc:Fc) (hfc:F 12=some fc):wpm FB md 0 fc.body ⟨[elsV c l]++Q1a (fc.ntm-fc.np),[]⟩ (Leaves fc.res (Q1l l)):=by
 cases hfc
 refine (Q23 (K:=fun tm=>wpm FB md 0 _ ⟨tm,[]⟩ _)).1 ?_
 by_cases h8:8<l.length
 ·have hv:Q1l l=.tup [.nilmap,.int .i64 3]:=by unfold Q1l vldE;simp [h8]
  rw [hv]
  repeat' ((conv=>whnf);first|refine zT ?_|refine Get.mk _ rfl ?_|refine Leaves.of ?_|refine Vw.int ?_|refine Vw.tup ?_|refine VwL.cons ?_ ?_|refine VwL.nil)
  all_goals first|rfl|exact ⟨rfl⟩|(exfalso;omega)
 have hck:=Qj7 (c:=c) (l:=l) (by omega)
 by_cases hc0:ckd l=0
 rotate_left
 ·have hv:Q1l l=.tup [.nilmap,.int .i64 (ckd l)]:=by unfold Q1l vldE;simp [h8,hc0]
  rw [hv]
  generalize ckd l=e at *
  repeat' ((conv=>whnf);first|refine zF ?_|refine Br.not ?_|refine zC hck ?_|refine Get.mk _ rfl ?_|refine Leaves.of ?_|refine Vw.int ?_|refine Vw.tup ?_|refine VwL.cons ?_ ?_|refine VwL.nil)
  all_goals first|rfl|exact ⟨rfl⟩|(exfalso;omega)
 have hgood:=Qhj hc0
 have hv:Q1l l=if dupF [] l=true then .tup [.nilmap,.int .i64 5] else .tup [gatV (pAll l),.int .i64 0]:=by
  have hz:vldE l=if dupF [] l=true then 5 else 0:=by unfold vldE;rw [if_neg h8,if_neg (fun h=>h hc0)]
  unfold Q1l;rw [hz];cases hd:dupF [] l<;>rfl
 rw [hv]
 clear hv
 rw [hc0] at hck
 repeat' ((conv=>whnf);first|refine Br.f ?_|refine zF ?_|refine zC hck ?_|refine Get.mk _ rfl ?_)
 all_goals try (exfalso;omega)
 refine LoopP.by (OOk l) (fun a=>[(24,.int .i64 (a.i:Nat))]) (fun a=>hp (.mp (Q00 (entK a.E)) (entV a.E)) a.H) (fun a=>l.length-a.i) ⟨0,[],[]⟩ ⟨Nat.zero_le _,(by intro e he;cases he),.nil,⟨.nil,(by simp [entK,Q1f]),(by simp),(by simp)⟩,rfl,rfl,(by simp)⟩ (by rw [Q4q];rfl) ?_
 rintro ⟨i,H,E⟩ ⟨g1,g2,g3,g4,g5,g6,g7⟩
 dsimp only at g1 g2 g3 g4 g5 g6 g7 ⊢
 by_cases hi:i<l.length
 rotate_left
 ·obtain rfl:i=l.length:=by omega
  rw [List.drop_length] at g6
  rw [List.take_length] at g4 g5 g6
  have hd:dupF [] l=false:=g6
  rw [hd,← g5]
  clear g6 hd g5 hgood
  repeat' ((conv=>whnf);first|refine zF ?_|refine HP.len0 ?_|refine HP.app0 ?_|refine HP.get0 ?_|refine HP.getn 0 rfl rfl ?_|refine HP.setn 0 rfl ?_|refine fB.mk ?_|refine Get.mk _ rfl ?_)
  all_goals try (exfalso;omega)
  refine LoopP.by (ROk E H.length) (fun _=>[]) (fun a=>hp (.mp (Q00 (entK E)) (entV E)) a.H++[.it (0+0) (Q00 (entK E)).length (Q00 (entK E)).length a.seen]) (fun a=>E.length-a.seen.length) ⟨[],H⟩ ⟨rfl,by rw [Qot];exact g2,.nil,by simp⟩ rfl ?_
  rintro ⟨seen,H'⟩ o
  have o':=o
  obtain ⟨o1,o2,o3,o4⟩:=o
  dsimp only at o1 o2 o3 o4 ⊢
  have hIx:H.length+1+0=H'.length+1+0:=by rw [o1]
  have hkl:(Q00 (entK E)).length=E.length:=by simp [Q00,entK]
  have hst:(∀ s∈List.range (Q00 (entK E)).length,s<(Q00 (entK E)).length)∧(Q00 (entK E)).length≤(Q00 (entK E)).length:=⟨fun s hs=>List.mem_range.1 hs,Nat.le_refl _⟩
  repeat' ((conv=>whnf);first|refine HP.len 1 rfl ?_|refine HP.app0 ?_|refine HP.get0 ?_|refine HP.getn 0 hIx rfl ?_|refine Req.mk hst ?_|refine Get.mk _ rfl ?_|refine zR ?_)
  refine NextQ.mk (fun hall=>?_) (fun j s hj hs=>?_)
  ·dsimp only at hall
   rw [hkl] at hall
   rw [← Qou hall] at o2
   repeat' ((conv=>whnf);first|refine Br.f ?_|refine HP.len 1 rfl ?_|refine HP.app0 ?_|refine Get.mk _ rfl ?_|refine Leaves.of ?_|refine Vw.int ?_|refine Vw.tup ?_|refine VwL.cons ?_ ?_|refine VwL.nil)
   all_goals first|exact ⟨Qoi o2⟩|rfl|(exfalso;omega)
  ·dsimp only at hj hs ⊢
   rw [hkl] at hj
   obtain ⟨rfl,hsl⟩:=Ql2 hj
   obtain ⟨e,he⟩:∃ e,E[s]?=some e:=⟨_,jC hsl⟩
   have hcur:=cur_of (seen:=seen) he
   have hkl2:(entK E).length=(Q00 (entK E)).length:=by simp [Q00]
   rw [hkl2] at hcur
   have hnx:=o'.next g3 he hs
   have hmo:=o'.more hsl hs
   dsimp only at hmo
   have heg:(srtE seen E)[s]?=some e:=by rw [Q2b he,if_neg hs]
   have hbe:=o2 e (jE heg)
   have hle:=g7 e (jE he)
   obtain ⟨ke,ie,ce,Le⟩:=e
   dsimp only at hcur hnx hbe hle
   have hso:∀ {G:List B} {K:V→List B→Prop},K (.tup []) (hp (.mp (Q00 (entK E)) (entV E)) (if Le=[] then H' else bset H' ie (.blk (Q00 (Q0k Le)) true))++G)→CallP FB md 0 (.fn 49 []) [lv ie ce Le] (hp (.mp (Q00 (entK E)) (entV E)) H'++G) K:=fun hk=>Qkl hbe (by omega) hk
   have hcur:mcur (0+0) [.it (0+0) (Q00 (entK E)).length (Q00 (entK E)).length (seen++[s]),.mp (Q00 (entK E)) (entV E)]=some (.tup [.int .i64 ke,lv ie ce Le],none):=hcur
   generalize hHn:(if Le=[] then H' else bset H' ie (.blk (Q00 (Q0k Le)) true))=Hn at *
   have hnl:Hn.length=H.length:=hnx.len
   rcases Le with _|⟨ye,re⟩
   all_goals
    repeat' ((conv=>whnf);first|refine Br.t ?_|refine HP.len 1 rfl ?_|refine HP.app0 ?_|refine HP.get0 ?_|refine HP.getn 0 hIx rfl ?_|refine HP.setn 0 hIx ?_|refine Get.mk _ hcur ?_|refine hso ?_|refine Get.mk _ rfl ?_)
   all_goals first|(exfalso;omega)|skip
   all_goals refine NextP.mk ⟨seen++[s],Hn⟩ hnx (by (try dsimp only);rw [jD];simp;omega) ?_
   all_goals exact (Q2w (by rw [jD,jD,Q22,Q22,hnl];rfl)).trans rfl
 obtain ⟨x,hx⟩:∃ p,l[i]?=some p:=⟨_,jC hi⟩
 have hpart:=Q7i hx
 have hdr:l.drop i=x::l.drop (i+1):=by
  obtain ⟨hi',rfl⟩:=jB.1 hx
  exact List.drop_eq_getElem_cons hi'
 rw [hdr] at g6
 have hsub:=Qj0 g1
 have hlen1:(l.take i).length=i:=by rw [jQ];omega
 have hnm:=Qiw (c:=c&&decide (i=l.length)) (l:=l.take i) (x:=x) (by omega)
 unfold elsV at hnm
 rw [hlen1] at hnm
 have hv1:Q1o (hp (.mp (Q00 (entK E)) (entV E)) H++[.blk [.str x.nm,.sl x.c x.l.length (shC x.l),.int .i64 x.g] false]) depth [.sl (c&&decide (i=l.length)) i (elC (l.take i)),.fn 46 [.ref (H.length+1+0) 3 0]]=some [.sl (c&&decide (i=l.length)) i (elC (l.take i)),.fn 46 [xRp x]]:=by
  have:=Qsl (x:=x) (h:=hp (.mp (Q00 (entK E)) (entV E)) H++[.blk [.str x.nm,.sl x.c x.l.length (shC x.l),.int .i64 x.g] false]) (id:=H.length+1+0) (d:=61) (HP.bget_n 0 rfl rfl)
  exact (VwL.cons (d:=64) Vw.sl (VwL.cons (Vw.fn (VwL.cons ⟨this⟩ VwL.nil)) VwL.nil)).1
 obtain ⟨_,_,_,hx40,hsh⟩:=Qnq (hgood x (jE hx))
 cases hn:nmE x.nm (l.take i)<;>rw [hn] at hnm
 rotate_left
 ·have hd:dupF [] l=true:=by rw [g6,dupF,hn];rfl
  rw [hd]
  repeat' ((conv=>whnf);first|refine Br.t ?_|refine zT ?_|refine HP.len0 ?_|refine HP.len 1 rfl ?_|refine HP.app0 ?_|refine HP.getn 0 rfl rfl ?_|refine HP.setn 0 rfl ?_|refine Get.mk _ hpart ?_|refine Get.mk _ hsub ?_|refine Q06 rfl hv1 hnm (.inr rfl) ?_|refine fB.mk ?_|refine zN ?_|refine Get.mk _ rfl ?_|refine Leaves.of ?_|refine Vw.int ?_|refine Vw.tup ?_|refine VwL.cons ?_ ?_|refine VwL.nil|refine zR ?_)
  all_goals first|rfl|exact ⟨rfl⟩|(exfalso;omega)
 have g6':dupF [] l=dupF (l.take (i+1)) (l.drop (i+1)):=by
  rw [g6,dupF,hn,Bool.false_or]
  congr 1
  rw [List.take_add_one,hx];rfl
 repeat' ((conv=>whnf);first|refine Br.f ?_|refine zT ?_|refine HP.len0 ?_|refine HP.len 1 rfl ?_|refine HP.app0 ?_|refine HP.getn 0 rfl rfl ?_|refine HP.setn 0 rfl ?_|refine Get.mk _ hpart ?_|refine Get.mk _ hsub ?_|refine Q06 rfl hv1 hnm (.inr rfl) ?_|refine fB.mk ?_|refine zN ?_|refine Get.mk _ rfl ?_|refine zR ?_)
 all_goals try (exfalso;omega)
 obtain ⟨H0,hH0⟩:∃ H0,H++[B.blk [.str x.nm,.sl x.c x.l.length (shC x.l),.int .i64 x.g] false]=H0:=⟨_,rfl⟩
 refine LoopP.by (IOk i (pAll (l.take i)) (Q1f (l.take i)) (Q26 (l.take i)) H0.length x.l) (fun a=>[(8,.int .i64 (lastM (known (x.l.take a.j)))),(37,.int .i64 (a.j:Nat))]) (fun a=>hp (.mp (Q00 (entK a.E)) (entV a.E)) a.H) (fun a=>x.l.length-a.j) ⟨0,H0,E⟩ ⟨Nat.zero_le _,Nat.le_refl _,hH0▸g2.app,g3,g4.same (by simp [known]) (by simp [known,nexts]),(by simp [g5,known,lastM]),(by simp [known]),g7⟩ (by rw [← hH0,← Qmh];rfl) ?_
 clear hn hnm hv1 hsub g6 hpart hdr
 rintro ⟨j,H1,E1⟩ o
 have o':=o
 obtain ⟨p1,p2,p3,p4,p5,p6,p7,p8⟩:=o
 dsimp only at p1 p2 p3 p4 p5 p6 p7 p8 ⊢
 have hhl:(hp (.mp (Q00 (entK E)) (entV E)) H++[B.blk [.str x.nm,.sl x.c x.l.length (shC x.l),.int .i64 x.g] false]).length=(hp (.mp (Q00 (entK E)) (entV E)) H0).length:=by rw [Qmh,hH0]
 by_cases hj:j<x.l.length
 rotate_left
 ·obtain rfl:j=x.l.length:=by omega
  rw [List.take_length] at p5 p6 p7
  repeat' ((conv=>whnf);first|refine zF ?_|refine zB ?_|refine HP.len0 ?_|refine fB.mk ?_)
  all_goals try (exfalso;omega)
  refine nextG0 (l0:=[]) (fun T=>⟨i+1,T,E1⟩) rfl rfl p3 (by rw [Q4q]) (Nat.zero_le _) (fun T _ hT=>⟨hi,hT,p4,?_,?_,g6',fun e he=>?_⟩) (fun T=>by (try dsimp only);omega) (fun T=>rfl)
  ·dsimp only;rw [Q9x hx,Qd7 hx];exact p5
  ·dsimp only;rw [Qch hx,pEl,← p6]
  ·have:=p8 e he;dsimp only at this ⊢;omega
 obtain ⟨⟨m,f⟩,hpj⟩:∃ p,x.l[j]?=some p:=⟨_,jC hj⟩
 have hsp:=Qap hpj
 obtain ⟨q1,q2,_,_,q3⟩:=hsh j _ hpj
 dsimp only at hsp q1 q2 q3
 have hpos:∀ y∈known (x.l.take j),0<y:=fun y hy=>Qm7 hsh hy
 by_cases hm:m=0
 ·subst hm
  repeat' ((conv=>whnf);first|refine Br.t ?_|refine zT ?_|refine zB ?_|refine HP.len0 ?_|refine HP.len 1 rfl ?_|refine HP.app0 ?_|refine HP.getn 0 rfl rfl ?_|refine HP.setn 0 rfl ?_|refine Get.mk _ hsp ?_|refine fB.mk ?_|refine zN ?_|refine Get.mk _ rfl ?_|refine zR ?_)
  all_goals try (exfalso;omega)
  have hks0:=Q3b hpj
  rw [if_pos rfl] at hks0
  refine Q5j (E':=E1) (fun T=>(⟨j+1,T,E1⟩:IS)) rfl rfl p3.app hhl p2 ?_ ?_ ?_
  ·exact fun T h1 h2=>o'.zero hpj h1 h2
  ·exact fun T=>by (try dsimp only);omega
  ·exact fun T=>by (try dsimp only);rw [hks0];rfl
 have hlastN:lastM (known (x.l.take (j+1)))=m:=by
  have:=Q3b hpj
  rw [if_neg hm] at this
  rw [this,lastM_snoc]
 have hi8:i<8:=by omega
 have hj40:j<40:=by omega
 have hmL:m∉known (x.l.take j):=fun h=>q3 hm (Q8d h)
 by_cases hK:known (x.l.take j)=[]
 ·have hl0:lastM (known (x.l.take j))=0:=by rw [hK];rfl
  have g1':GE E1 (Q1f (l.take i)++known (x.l.take j)) (Q26 (l.take i)++(nexts (known (x.l.take j))++(if known (x.l.take j)=[] then [] else [(lastM (known (x.l.take j)),m)]))):=by rw [if_pos hK,List.append_nil];exact p5
  have b1':∀ e∈E1,e.L.length≤41*i+(j+1):=fun e he=>by have:=p8 e he;(try dsimp only at this);omega
  have hup':E1.map Ent.p=if known (x.l.take j)=[] then E1.map Ent.p else pUp (E1.map Ent.p) (lastM (known (x.l.take j))) m:=by rw [if_pos hK]
  have hlt2:∀ e∈E1,e.k=m→e.L≠[]→e.id<H1.length:=fun e he _ hn=>p3.lt he hn
  have hE2k:entK E1=entK E1:=rfl
  rw [hl0]
  by_cases hmk:m∈entK E1
  ·obtain ⟨jm,⟨km,im,cm,Lm⟩,e1,e2,e3⟩:=Q5t hmk
   rw [hE2k] at e3
   have htg:tg (entV E1) jm=lv im cm Lm:=Q8s e1
   have hcb:Lm≠[]→im<H1.length:=hlt2 ⟨km,im,cm,Lm⟩ (jE e1) e2
   have hcl:Lm.length≤140737488355328:=by have:=b1' ⟨km,im,cm,Lm⟩ (jE e1);(try dsimp only at this);omega
   rcases Lm with _|⟨ym,rm⟩
   ·repeat' ((conv=>whnf);first|refine Br.f ?_|refine zT ?_|refine zF ?_|refine zB ?_|refine HP.len0 ?_|refine HP.len 1 rfl ?_|refine HP.app0 ?_|refine HP.get0 ?_|refine HP.getn 0 rfl rfl ?_|refine HP.set0 ?_|refine HP.setn 0 rfl ?_|refine Get.mk _ hsp ?_|(refine Get.mk _ e3 ?_;show fW (tg (entV E1) jm) _;refine fWe htg ?_)|refine Get.mk _ e3 ?_|refine Q3t (c:=cm) hcb hcl ?_|refine fB.mk ?_|refine fV.mk ?_|refine zN ?_|refine Get.mk _ rfl ?_|refine zR ?_)
    all_goals try (exfalso;omega)
    refine Q5j (E':=List.set E1 jm ⟨m,im,true,[]⟩) (fun T=>(⟨j+1,T,List.set E1 jm ⟨m,im,true,[]⟩⟩:IS)) ?_ ?_ ?_ hhl p2 ?_ ?_ ?_
    ·rw [Q1s e1 e2.symm,hE2k]
    ·exact (Q2q E1 jm ⟨m,im,true,[]⟩).symm
    ·exact GH.set (p3.app) fun hn=>p3.app ⟨km,im,cm,[]⟩ (jE e1) hn
    ·exact fun T h1 h2=>IOk.mark p6 hpj hm hpos g1' p4 b1' hup' (.inl ⟨jm,⟨km,im,cm,[]⟩,e1,e2,rfl⟩) h1 h2
    ·exact fun T=>by (try dsimp only);omega
    ·exact fun T=>by (try dsimp only);rw [hlastN];rfl
   ·repeat' ((conv=>whnf);first|refine Br.f ?_|refine zT ?_|refine zF ?_|refine zB ?_|refine HP.len0 ?_|refine HP.len 1 rfl ?_|refine HP.app0 ?_|refine HP.get0 ?_|refine HP.getn 0 rfl rfl ?_|refine HP.set0 ?_|refine HP.setn 0 rfl ?_|refine Get.mk _ hsp ?_|(refine Get.mk _ e3 ?_;show fW (tg (entV E1) jm) _;refine fWe htg ?_)|refine Get.mk _ e3 ?_|refine Q3t (c:=cm) hcb hcl ?_|refine fB.mk ?_|refine fV.mk ?_|refine zN ?_|refine Get.mk _ rfl ?_|refine zR ?_)
    all_goals try (exfalso;omega)
    refine Q5j (E':=List.set E1 jm ⟨m,im,true,(ym::rm)⟩) (fun T=>(⟨j+1,T,List.set E1 jm ⟨m,im,true,(ym::rm)⟩⟩:IS)) ?_ ?_ ?_ hhl p2 ?_ ?_ ?_
    ·rw [Q1s e1 e2.symm,hE2k]
    ·exact (Q2q E1 jm ⟨m,im,true,(ym::rm)⟩).symm
    ·exact GH.set (p3.app) fun hn=>p3.app ⟨km,im,cm,(ym::rm)⟩ (jE e1) hn
    ·exact fun T h1 h2=>IOk.mark p6 hpj hm hpos g1' p4 b1' hup' (.inl ⟨jm,⟨km,im,cm,(ym::rm)⟩,e1,e2,rfl⟩) h1 h2
    ·exact fun T=>by (try dsimp only);omega
    ·exact fun T=>by (try dsimp only);rw [hlastN];rfl
  ·have e3:Q0w 0 (.int .i64 m) (Q00 (entK E1)) 0=some none:=Q1b (by rw [← hE2k];exact hmk)
   have hmd:∀ b,(m,b)∉Q26 (l.take i)++(nexts (known (x.l.take j))++(if known (x.l.take j)=[] then [] else [(lastM (known (x.l.take j)),m)])):=fun b=>Qpl p5 (hE2k▸hmk) b
   repeat' ((conv=>whnf);first|refine Br.f ?_|refine zT ?_|refine zF ?_|refine zB ?_|refine HP.len0 ?_|refine HP.len 1 rfl ?_|refine HP.app0 ?_|refine HP.get0 ?_|refine HP.getn 0 rfl rfl ?_|refine HP.set0 ?_|refine HP.setn 0 rfl ?_|refine Get.mk _ hsp ?_|refine Get.mk _ e3 ?_|refine Q7j ?_|refine fB.mk ?_|refine fV.mk ?_|refine zN ?_|refine Get.mk _ rfl ?_|refine zR ?_)
   all_goals try (exfalso;omega)
   refine Q5j (E':=E1++[⟨m,0,true,[]⟩]) (fun T=>(⟨j+1,T,E1++[⟨m,0,true,[]⟩]⟩:IS)) ?_ ?_ ?_ hhl p2 ?_ ?_ ?_
   ·rw [Q3g,hE2k];exact Q2v _ _
   ·exact (Q5u E1 ⟨m,0,true,[]⟩).symm
   ·exact GH.snoc (p3.app) rfl
   ·exact fun T h1 h2=>IOk.mark p6 hpj hm hpos g1' p4 b1' hup' (.inr ⟨hmk,hmd,rfl⟩) h1 h2
   ·exact fun T=>by (try dsimp only);omega
   ·exact fun T=>by (try dsimp only);rw [hlastN];rfl
 obtain ⟨ja,ea,a1,a2,a3⟩:=Q5t ((p5.ks _).2 (jK.2 (.inr (Q2x hK))))
 have ha0:=hpos _ (Q2x hK)
 have hac:=p7 ea (jE a1) hK a2
 have hma:m≠lastM (known (x.l.take j)):=fun h=>hmL (h▸Q2x hK)
 have hal:=p8 ea (jE a1)
 have hba:=p3 ea (jE a1)
 have htga:tg (entV E1) ja=lv ea.id true ea.L:=by rw [Q8s a1,Ent.v,hac]
 have hcon:=Q8x (c:=true) (L:=ea.L) (m:=m) (by omega)
 have hvw:=fun G=>Qoh (x:=.mp (Q00 (entK E1)) (entV E1)) (G:=G) (c:=true) (m:=m) hba
 by_cases hmL:m∈ea.L
 ·rw [show hasB m ea.L=true by simp [hasB,hmL]] at hcon
  have g1':GE E1 (Q1f (l.take i)++known (x.l.take j)) (Q26 (l.take i)++(nexts (known (x.l.take j))++(if known (x.l.take j)=[] then [] else [(lastM (known (x.l.take j)),m)]))):=by
   rw [if_neg hK]
   refine p5.same (fun _=>Iff.rfl) fun p=>?_
   rw [← jO,jK (t:=[_]),jJ]
   refine ⟨.inl,fun h=>h.elim id fun h=>?_⟩
   subst h;rw [← a2];exact (p5.ls ea (jE a1) m).1 hmL
  have b1':∀ e∈E1,e.L.length≤41*i+(j+1):=fun e he=>by have:=p8 e he;(try dsimp only at this);omega
  have hup':E1.map Ent.p=if known (x.l.take j)=[] then E1.map Ent.p else pUp (E1.map Ent.p) (lastM (known (x.l.take j))) m:=by rw [if_neg hK];exact (p_none p5.nd a1 a2 hmL).symm
  have hlt2:∀ e∈E1,e.k=m→e.L≠[]→e.id<H1.length:=fun e he _ hn=>p3.lt he hn
  have hE2k:entK E1=entK E1:=rfl
  generalize ea.L=La at *
  cases La with
  | nil=>simp at hmL
  | cons y r =>
   by_cases hmk:m∈entK E1
   ·obtain ⟨jm,⟨km,im,cm,Lm⟩,e1,e2,e3⟩:=Q5t hmk
    rw [hE2k] at e3
    have htg:tg (entV E1) jm=lv im cm Lm:=Q8s e1
    have hcb:Lm≠[]→im<H1.length:=hlt2 ⟨km,im,cm,Lm⟩ (jE e1) e2
    have hcl:Lm.length≤140737488355328:=by have:=b1' ⟨km,im,cm,Lm⟩ (jE e1);(try dsimp only at this);omega
    rcases Lm with _|⟨ym,rm⟩
    ·repeat' ((conv=>whnf);first|refine Br.f ?_|refine zT ?_|refine zF ?_|refine zB ?_|refine HP.len0 ?_|refine HP.len 1 rfl ?_|refine HP.app0 ?_|refine HP.get0 ?_|refine HP.getn 0 rfl rfl ?_|refine HP.set0 ?_|refine HP.setn 0 rfl ?_|refine Get.mk _ hsp ?_|(refine Get.mk _ a3 ?_;show fW (tg (entV E1) ja) _;refine fWe htga ?_)|refine Q06 rfl (hvw _) hcon (.inr rfl) ?_|(refine Get.mk _ e3 ?_;show fW (tg (entV E1) jm) _;refine fWe htg ?_)|refine Get.mk _ e3 ?_|refine Q3t (c:=cm) hcb hcl ?_|refine fB.mk ?_|refine fV.mk ?_|refine zN ?_|refine Get.mk _ rfl ?_|refine zR ?_)
     all_goals try (exfalso;omega)
     refine Q5j (E':=List.set E1 jm ⟨m,im,true,[]⟩) (fun T=>(⟨j+1,T,List.set E1 jm ⟨m,im,true,[]⟩⟩:IS)) ?_ ?_ ?_ hhl p2 ?_ ?_ ?_
     ·rw [Q1s e1 e2.symm,hE2k]
     ·exact (Q2q E1 jm ⟨m,im,true,[]⟩).symm
     ·exact GH.set (p3.app) fun hn=>p3.app ⟨km,im,cm,[]⟩ (jE e1) hn
     ·exact fun T h1 h2=>IOk.mark p6 hpj hm hpos g1' p4 b1' hup' (.inl ⟨jm,⟨km,im,cm,[]⟩,e1,e2,rfl⟩) h1 h2
     ·exact fun T=>by (try dsimp only);omega
     ·exact fun T=>by (try dsimp only);rw [hlastN];rfl
    ·repeat' ((conv=>whnf);first|refine Br.f ?_|refine zT ?_|refine zF ?_|refine zB ?_|refine HP.len0 ?_|refine HP.len 1 rfl ?_|refine HP.app0 ?_|refine HP.get0 ?_|refine HP.getn 0 rfl rfl ?_|refine HP.set0 ?_|refine HP.setn 0 rfl ?_|refine Get.mk _ hsp ?_|(refine Get.mk _ a3 ?_;show fW (tg (entV E1) ja) _;refine fWe htga ?_)|refine Q06 rfl (hvw _) hcon (.inr rfl) ?_|(refine Get.mk _ e3 ?_;show fW (tg (entV E1) jm) _;refine fWe htg ?_)|refine Get.mk _ e3 ?_|refine Q3t (c:=cm) hcb hcl ?_|refine fB.mk ?_|refine fV.mk ?_|refine zN ?_|refine Get.mk _ rfl ?_|refine zR ?_)
     all_goals try (exfalso;omega)
     refine Q5j (E':=List.set E1 jm ⟨m,im,true,(ym::rm)⟩) (fun T=>(⟨j+1,T,List.set E1 jm ⟨m,im,true,(ym::rm)⟩⟩:IS)) ?_ ?_ ?_ hhl p2 ?_ ?_ ?_
     ·rw [Q1s e1 e2.symm,hE2k]
     ·exact (Q2q E1 jm ⟨m,im,true,(ym::rm)⟩).symm
     ·exact GH.set (p3.app) fun hn=>p3.app ⟨km,im,cm,(ym::rm)⟩ (jE e1) hn
     ·exact fun T h1 h2=>IOk.mark p6 hpj hm hpos g1' p4 b1' hup' (.inl ⟨jm,⟨km,im,cm,(ym::rm)⟩,e1,e2,rfl⟩) h1 h2
     ·exact fun T=>by (try dsimp only);omega
     ·exact fun T=>by (try dsimp only);rw [hlastN];rfl
   ·have e3:Q0w 0 (.int .i64 m) (Q00 (entK E1)) 0=some none:=Q1b (by rw [← hE2k];exact hmk)
    have hmd:∀ b,(m,b)∉Q26 (l.take i)++(nexts (known (x.l.take j))++(if known (x.l.take j)=[] then [] else [(lastM (known (x.l.take j)),m)])):=fun b=>Qpl p5 (hE2k▸hmk) b
    repeat' ((conv=>whnf);first|refine Br.f ?_|refine zT ?_|refine zF ?_|refine zB ?_|refine HP.len0 ?_|refine HP.len 1 rfl ?_|refine HP.app0 ?_|refine HP.get0 ?_|refine HP.getn 0 rfl rfl ?_|refine HP.set0 ?_|refine HP.setn 0 rfl ?_|refine Get.mk _ hsp ?_|(refine Get.mk _ a3 ?_;show fW (tg (entV E1) ja) _;refine fWe htga ?_)|refine Q06 rfl (hvw _) hcon (.inr rfl) ?_|refine Get.mk _ e3 ?_|refine Q7j ?_|refine fB.mk ?_|refine fV.mk ?_|refine zN ?_|refine Get.mk _ rfl ?_|refine zR ?_)
    all_goals try (exfalso;omega)
    refine Q5j (E':=E1++[⟨m,0,true,[]⟩]) (fun T=>(⟨j+1,T,E1++[⟨m,0,true,[]⟩]⟩:IS)) ?_ ?_ ?_ hhl p2 ?_ ?_ ?_
    ·rw [Q3g,hE2k];exact Q2v _ _
    ·exact (Q5u E1 ⟨m,0,true,[]⟩).symm
    ·exact GH.snoc (p3.app) rfl
    ·exact fun T h1 h2=>IOk.mark p6 hpj hm hpos g1' p4 b1' hup' (.inr ⟨hmk,hmd,rfl⟩) h1 h2
    ·exact fun T=>by (try dsimp only);omega
    ·exact fun T=>by (try dsimp only);rw [hlastN];rfl
 rw [show hasB m ea.L=false by simp [hasB,hmL]] at hcon
 obtain ⟨E2,hE2⟩:∃ E2,E1.set ja ⟨lastM (known (x.l.take j)),H1.length+1,false,ea.L++[m]⟩=E2:=⟨_,rfl⟩
 have g1':GE E2 (Q1f (l.take i)++known (x.l.take j)) (Q26 (l.take i)++(nexts (known (x.l.take j))++(if known (x.l.take j)=[] then [] else [(lastM (known (x.l.take j)),m)]))):=by
  rw [if_neg hK,← hE2]
  refine (GE.more p5 a1 (e':=⟨lastM (known (x.l.take j)),H1.length+1,false,ea.L++[m]⟩) a2.symm rfl hmL).same (fun _=>Iff.rfl) fun p=>?_
  rw [a2,jO]
 have hin:∀ e∈E2,e∈E1∨e=⟨lastM (known (x.l.take j)),H1.length+1,false,ea.L++[m]⟩:=fun e he=>by
  rw [← hE2] at he;exact List.mem_or_eq_of_mem_set he
 have d2:GD E2:=by
  rw [← hE2]
  exact GD.set p4 fun i x hi hne h1 _=>by have:=p3.lt (jE hi) h1;dsimp only;omega
 have b1':∀ e∈E2,e.L.length≤41*i+(j+1):=fun e he=>by
  rcases hin e he with he|rfl
  ·have:=p8 e he;(try dsimp only at this);omega
  ·(try dsimp only at hal);simp;omega
 have hup':E2.map Ent.p=if known (x.l.take j)=[] then E1.map Ent.p else pUp (E1.map Ent.p) (lastM (known (x.l.take j))) m:=by rw [if_neg hK,← hE2];exact p_up p5.nd a1 a2 hmL
 have hlt2:∀ e∈E2,e.k=m→e.L≠[]→e.id<H1.length:=fun e he hk hn=>by
  rcases hin e he with he|rfl
  ·exact p3.lt he hn
  ·exact absurd hk.symm hma
 have hE2k:entK E2=entK E1:=by rw [← hE2];exact Q1s a1 a2.symm
 have hG2:∀ G:List B,bget G 1=some (.blk (Q00 (ea.L++[m])) true)→GH (H1++G) E2:=fun G hg=>by
  rw [← hE2]
  exact GH.set p3.app fun _=>by rw [← hg];exact bget_new
 have hset:tset (entV E1) ja (lv (H1.length+1) false (ea.L++[m]))=entV E2:=by rw [← hE2,Q2q];rfl
 clear hE2 hin
 generalize ea.L=La at *
 generalize ea.id=ia at *
 cases La with
 | nil =>
  by_cases hmk:m∈entK E2
  ·obtain ⟨jm,⟨km,im,cm,Lm⟩,e1,e2,e3⟩:=Q5t hmk
   rw [hE2k] at e3
   have htg:tg (entV E2) jm=lv im cm Lm:=Q8s e1
   have hcb:Lm≠[]→im<H1.length:=hlt2 ⟨km,im,cm,Lm⟩ (jE e1) e2
   have hcl:Lm.length≤140737488355328:=by have:=b1' ⟨km,im,cm,Lm⟩ (jE e1);(try dsimp only at this);omega
   rcases Lm with _|⟨ym,rm⟩
   ·repeat' ((conv=>whnf);first|refine Br.t ?_|refine zT ?_|refine zF ?_|refine zB ?_|refine HP.len0 ?_|refine HP.len 1 rfl ?_|refine HP.len 2 rfl ?_|refine HP.app ?_|refine HP.app0 ?_|refine HP.get0 ?_|refine HP.getn 0 rfl rfl ?_|refine HP.getn 1 rfl rfl ?_|refine HP.set0 ?_|refine HP.setn 0 rfl ?_|refine HP.setn 1 rfl ?_|refine Get.mk _ hsp ?_|(refine Get.mk _ a3 ?_;show fW (tg (entV E1) ja) _;refine fWe htga ?_)|refine Get.mk _ a3 ?_|refine Q06 rfl (hvw _) hcon (.inr rfl) ?_|refine Req.mk (HP.bget_n 1 rfl rfl) ?_|refine fVf' hset ?_|(refine Get.mk _ e3 ?_;show fW (tg (entV E2) jm) _;refine fWe htg ?_)|refine Get.mk _ e3 ?_|refine Q3t (c:=cm) hcb hcl ?_|refine fB.mk ?_|refine fV.mk ?_|refine zN ?_|refine zZ ?_|refine Get.mk _ rfl ?_|refine zR ?_)
    all_goals try (exfalso;omega)
    refine Q5j (E':=List.set E2 jm ⟨m,im,true,[]⟩) (fun T=>(⟨j+1,T,List.set E2 jm ⟨m,im,true,[]⟩⟩:IS)) ?_ ?_ ?_ hhl p2 ?_ ?_ ?_
    ·rw [Q1s e1 e2.symm,hE2k]
    ·exact (Q2q E2 jm ⟨m,im,true,[]⟩).symm
    ·exact GH.set (hG2 _ rfl) fun hn=>hG2 _ rfl ⟨km,im,cm,[]⟩ (jE e1) hn
    ·exact fun T h1 h2=>IOk.mark p6 hpj hm hpos g1' d2 b1' hup' (.inl ⟨jm,⟨km,im,cm,[]⟩,e1,e2,rfl⟩) h1 h2
    ·exact fun T=>by (try dsimp only);omega
    ·exact fun T=>by (try dsimp only);rw [hlastN];rfl
   ·repeat' ((conv=>whnf);first|refine Br.t ?_|refine zT ?_|refine zF ?_|refine zB ?_|refine HP.len0 ?_|refine HP.len 1 rfl ?_|refine HP.len 2 rfl ?_|refine HP.app ?_|refine HP.app0 ?_|refine HP.get0 ?_|refine HP.getn 0 rfl rfl ?_|refine HP.getn 1 rfl rfl ?_|refine HP.set0 ?_|refine HP.setn 0 rfl ?_|refine HP.setn 1 rfl ?_|refine Get.mk _ hsp ?_|(refine Get.mk _ a3 ?_;show fW (tg (entV E1) ja) _;refine fWe htga ?_)|refine Get.mk _ a3 ?_|refine Q06 rfl (hvw _) hcon (.inr rfl) ?_|refine Req.mk (HP.bget_n 1 rfl rfl) ?_|refine fVf' hset ?_|(refine Get.mk _ e3 ?_;show fW (tg (entV E2) jm) _;refine fWe htg ?_)|refine Get.mk _ e3 ?_|refine Q3t (c:=cm) hcb hcl ?_|refine fB.mk ?_|refine fV.mk ?_|refine zN ?_|refine zZ ?_|refine Get.mk _ rfl ?_|refine zR ?_)
    all_goals try (exfalso;omega)
    refine Q5j (E':=List.set E2 jm ⟨m,im,true,(ym::rm)⟩) (fun T=>(⟨j+1,T,List.set E2 jm ⟨m,im,true,(ym::rm)⟩⟩:IS)) ?_ ?_ ?_ hhl p2 ?_ ?_ ?_
    ·rw [Q1s e1 e2.symm,hE2k]
    ·exact (Q2q E2 jm ⟨m,im,true,(ym::rm)⟩).symm
    ·exact GH.set (hG2 _ rfl) fun hn=>hG2 _ rfl ⟨km,im,cm,(ym::rm)⟩ (jE e1) hn
    ·exact fun T h1 h2=>IOk.mark p6 hpj hm hpos g1' d2 b1' hup' (.inl ⟨jm,⟨km,im,cm,(ym::rm)⟩,e1,e2,rfl⟩) h1 h2
    ·exact fun T=>by (try dsimp only);omega
    ·exact fun T=>by (try dsimp only);rw [hlastN];rfl
  ·have e3:Q0w 0 (.int .i64 m) (Q00 (entK E1)) 0=some none:=Q1b (by rw [← hE2k];exact hmk)
   have hmd:∀ b,(m,b)∉Q26 (l.take i)++(nexts (known (x.l.take j))++(if known (x.l.take j)=[] then [] else [(lastM (known (x.l.take j)),m)])):=fun b=>Qpl p5 (hE2k▸hmk) b
   repeat' ((conv=>whnf);first|refine Br.t ?_|refine zT ?_|refine zF ?_|refine zB ?_|refine HP.len0 ?_|refine HP.len 1 rfl ?_|refine HP.len 2 rfl ?_|refine HP.app ?_|refine HP.app0 ?_|refine HP.get0 ?_|refine HP.getn 0 rfl rfl ?_|refine HP.getn 1 rfl rfl ?_|refine HP.set0 ?_|refine HP.setn 0 rfl ?_|refine HP.setn 1 rfl ?_|refine Get.mk _ hsp ?_|(refine Get.mk _ a3 ?_;show fW (tg (entV E1) ja) _;refine fWe htga ?_)|refine Get.mk _ a3 ?_|refine Q06 rfl (hvw _) hcon (.inr rfl) ?_|refine Req.mk (HP.bget_n 1 rfl rfl) ?_|refine fVf' hset ?_|refine Get.mk _ e3 ?_|refine Q7j ?_|refine fB.mk ?_|refine fV.mk ?_|refine zN ?_|refine zZ ?_|refine Get.mk _ rfl ?_|refine zR ?_)
   all_goals try (exfalso;omega)
   refine Q5j (E':=E2++[⟨m,0,true,[]⟩]) (fun T=>(⟨j+1,T,E2++[⟨m,0,true,[]⟩]⟩:IS)) ?_ ?_ ?_ hhl p2 ?_ ?_ ?_
   ·rw [Q3g,hE2k];exact Q2v _ _
   ·exact (Q5u E2 ⟨m,0,true,[]⟩).symm
   ·exact GH.snoc (hG2 _ rfl) rfl
   ·exact fun T h1 h2=>IOk.mark p6 hpj hm hpos g1' d2 b1' hup' (.inr ⟨hmk,hmd,rfl⟩) h1 h2
   ·exact fun T=>by (try dsimp only);omega
   ·exact fun T=>by (try dsimp only);rw [hlastN];rfl
 | cons y r =>
  have hol:(Q00 (y::r)).length=r.length+1:=by simp [Q00]
  have hb':=hba (by simp)
  have hpt:part (Q00 (y::r)) 0 ((r.length+1)*1)=some (Q00 (y::r)):=Q0y (by rw [hol,Nat.mul_one])
  have hsc:true=true→scalars (Q00 (y::r)++[V.int .i64 m])=true:=fun _=>by rw [Q2v];exact Q85 _
  have hbg:((Q00 (y::r)).length+[V.int .i64 m].length)*(8+1)<big:=by rw [hol];exact Q46 (by simp at hal ⊢;omega)
  replace hset:tset (entV E1) ja (.ms 1 (H1.length+1+1) ((Q00 (y::r)).length+1) 0 (r.length+1+1) false)=entV E2:=by
   rw [← hset,hol];simp only [List.cons_append,lv,jD,List.length_cons,List.length_nil,Nat.zero_add]
  by_cases hmk:m∈entK E2
  ·obtain ⟨jm,⟨km,im,cm,Lm⟩,e1,e2,e3⟩:=Q5t hmk
   rw [hE2k] at e3
   have htg:tg (entV E2) jm=lv im cm Lm:=Q8s e1
   have hcb:Lm≠[]→im<H1.length:=hlt2 ⟨km,im,cm,Lm⟩ (jE e1) e2
   have hcl:Lm.length≤140737488355328:=by have:=b1' ⟨km,im,cm,Lm⟩ (jE e1);(try dsimp only at this);omega
   rcases Lm with _|⟨ym,rm⟩
   ·repeat' ((conv=>whnf);first|refine Br.t ?_|refine zT ?_|refine zF ?_|refine zB ?_|refine HP.len0 ?_|refine HP.len 1 rfl ?_|refine HP.len 2 rfl ?_|refine HP.app ?_|refine HP.app0 ?_|refine HP.get0 ?_|refine HP.getn 0 rfl rfl ?_|refine HP.getn 1 rfl rfl ?_|refine HP.set0 ?_|refine HP.setn 0 rfl ?_|refine HP.setn 1 rfl ?_|refine Get.mk _ hsp ?_|(refine Get.mk _ a3 ?_;show fW (tg (entV E1) ja) _;refine fWe htga ?_)|refine Get.mk _ a3 ?_|refine Q06 rfl (hvw _) hcon (.inr rfl) ?_|refine Req.mk (HP.bget_n 1 rfl rfl) ?_|refine fVf' hset ?_|refine HP.geto hb' ?_|refine Req.mk hol ?_|refine Get.mk _ hpt ?_|refine Req.mk hbg ?_|refine Req.mk hsc ?_|(refine Get.mk _ e3 ?_;show fW (tg (entV E2) jm) _;refine fWe htg ?_)|refine Get.mk _ e3 ?_|refine Q3t (c:=cm) hcb hcl ?_|refine fB.mk ?_|refine fV.mk ?_|refine zN ?_|refine zZ ?_|refine Get.mk _ rfl ?_|refine zR ?_)
    all_goals try (exfalso;omega)
    refine Q5j (E':=List.set E2 jm ⟨m,im,true,[]⟩) (fun T=>(⟨j+1,T,List.set E2 jm ⟨m,im,true,[]⟩⟩:IS)) ?_ ?_ ?_ hhl p2 ?_ ?_ ?_
    ·rw [Q1s e1 e2.symm,hE2k]
    ·exact (Q2q E2 jm ⟨m,im,true,[]⟩).symm
    ·exact GH.set (hG2 _ (by simp [bget,Q00])) fun hn=>hG2 _ (by simp [bget,Q00]) ⟨km,im,cm,[]⟩ (jE e1) hn
    ·exact fun T h1 h2=>IOk.mark p6 hpj hm hpos g1' d2 b1' hup' (.inl ⟨jm,⟨km,im,cm,[]⟩,e1,e2,rfl⟩) h1 h2
    ·exact fun T=>by (try dsimp only);omega
    ·exact fun T=>by (try dsimp only);rw [hlastN];rfl
   ·repeat' ((conv=>whnf);first|refine Br.t ?_|refine zT ?_|refine zF ?_|refine zB ?_|refine HP.len0 ?_|refine HP.len 1 rfl ?_|refine HP.len 2 rfl ?_|refine HP.app ?_|refine HP.app0 ?_|refine HP.get0 ?_|refine HP.getn 0 rfl rfl ?_|refine HP.getn 1 rfl rfl ?_|refine HP.set0 ?_|refine HP.setn 0 rfl ?_|refine HP.setn 1 rfl ?_|refine Get.mk _ hsp ?_|(refine Get.mk _ a3 ?_;show fW (tg (entV E1) ja) _;refine fWe htga ?_)|refine Get.mk _ a3 ?_|refine Q06 rfl (hvw _) hcon (.inr rfl) ?_|refine Req.mk (HP.bget_n 1 rfl rfl) ?_|refine fVf' hset ?_|refine HP.geto hb' ?_|refine Req.mk hol ?_|refine Get.mk _ hpt ?_|refine Req.mk hbg ?_|refine Req.mk hsc ?_|(refine Get.mk _ e3 ?_;show fW (tg (entV E2) jm) _;refine fWe htg ?_)|refine Get.mk _ e3 ?_|refine Q3t (c:=cm) hcb hcl ?_|refine fB.mk ?_|refine fV.mk ?_|refine zN ?_|refine zZ ?_|refine Get.mk _ rfl ?_|refine zR ?_)
    all_goals try (exfalso;omega)
    refine Q5j (E':=List.set E2 jm ⟨m,im,true,(ym::rm)⟩) (fun T=>(⟨j+1,T,List.set E2 jm ⟨m,im,true,(ym::rm)⟩⟩:IS)) ?_ ?_ ?_ hhl p2 ?_ ?_ ?_
    ·rw [Q1s e1 e2.symm,hE2k]
    ·exact (Q2q E2 jm ⟨m,im,true,(ym::rm)⟩).symm
    ·exact GH.set (hG2 _ (by simp [bget,Q00])) fun hn=>hG2 _ (by simp [bget,Q00]) ⟨km,im,cm,(ym::rm)⟩ (jE e1) hn
    ·exact fun T h1 h2=>IOk.mark p6 hpj hm hpos g1' d2 b1' hup' (.inl ⟨jm,⟨km,im,cm,(ym::rm)⟩,e1,e2,rfl⟩) h1 h2
    ·exact fun T=>by (try dsimp only);omega
    ·exact fun T=>by (try dsimp only);rw [hlastN];rfl
  ·have e3:Q0w 0 (.int .i64 m) (Q00 (entK E1)) 0=some none:=Q1b (by rw [← hE2k];exact hmk)
   have hmd:∀ b,(m,b)∉Q26 (l.take i)++(nexts (known (x.l.take j))++(if known (x.l.take j)=[] then [] else [(lastM (known (x.l.take j)),m)])):=fun b=>Qpl p5 (hE2k▸hmk) b
   repeat' ((conv=>whnf);first|refine Br.t ?_|refine zT ?_|refine zF ?_|refine zB ?_|refine HP.len0 ?_|refine HP.len 1 rfl ?_|refine HP.len 2 rfl ?_|refine HP.app ?_|refine HP.app0 ?_|refine HP.get0 ?_|refine HP.getn 0 rfl rfl ?_|refine HP.getn 1 rfl rfl ?_|refine HP.set0 ?_|refine HP.setn 0 rfl ?_|refine HP.setn 1 rfl ?_|refine Get.mk _ hsp ?_|(refine Get.mk _ a3 ?_;show fW (tg (entV E1) ja) _;refine fWe htga ?_)|refine Get.mk _ a3 ?_|refine Q06 rfl (hvw _) hcon (.inr rfl) ?_|refine Req.mk (HP.bget_n 1 rfl rfl) ?_|refine fVf' hset ?_|refine HP.geto hb' ?_|refine Req.mk hol ?_|refine Get.mk _ hpt ?_|refine Req.mk hbg ?_|refine Req.mk hsc ?_|refine Get.mk _ e3 ?_|refine Q7j ?_|refine fB.mk ?_|refine fV.mk ?_|refine zN ?_|refine zZ ?_|refine Get.mk _ rfl ?_|refine zR ?_)
   all_goals try (exfalso;omega)
   refine Q5j (E':=E2++[⟨m,0,true,[]⟩]) (fun T=>(⟨j+1,T,E2++[⟨m,0,true,[]⟩]⟩:IS)) ?_ ?_ ?_ hhl p2 ?_ ?_ ?_
   ·rw [Q3g,hE2k];exact Q2v _ _
   ·exact (Q5u E2 ⟨m,0,true,[]⟩).symm
   ·exact GH.snoc (hG2 _ (by simp [bget,Q00])) rfl
   ·exact fun T h1 h2=>IOk.mark p6 hpj hm hpos g1' d2 b1' hup' (.inr ⟨hmk,hmd,rfl⟩) h1 h2
   ·exact fun T=>by (try dsimp only);omega
   ·exact fun T=>by (try dsimp only);rw [hlastN];rfl
end Go.Dr.T6
