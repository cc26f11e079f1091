/- Chapter 06: the round from a mark, walked. -/
import Derived.Test.YtfhphjloaelgoaaGreatDoorG16
namespace Go.Dr.T
def ms7:List (Option Nat):=[none,none,none,none,none,none,none,some 7]
structure RA where
 i:Nat
 n:Nat
 sn:Nat→Bool
 AP:List (List Nat)
 av:V
 h:List B
structure RB where
 m:Nat
 AP:List (List Nat)
 av:V
 h:List B
def BQ (Q:List (List Nat)) (sn:Nat→Bool):Prop:=∀ p∈Q,p≠[]∧p.length+unsn sn≤1001∧lastN p<1000
structure RO where
 n:Nat
 sn:Nat→Bool
 NP:List (List Nat)
 nv:V
 h:List B
theorem unsn_mono {sn sn' : Nat→Bool} (h:∀ k,sn k=true→sn' k=true):unsn sn' ≤ unsn sn:=by
 unfold unsn
 generalize List.range 1000=l
 induction l with
 | nil=>exact Nat.le_refl _
 | cons x l ih =>
  rw [List.filter_cons,List.filter_cons]
  cases h1:sn x with
  | true=>rw [h x h1];simpa using ih
  | false =>
   cases h2:sn' x with
   | true=>simp;omega
   | false=>simp;omega
theorem BQ.push {A B:List (List Nat)} {sn sn' : Nat→Bool} {p:List Nat} {m:Nat} (h:BQ (A++B) sn) (hu:unsn sn' + 1=unsn sn) (hp:p.length+unsn sn≤1001) (hm:m<1000):BQ (A++(B++[p++[m]])) sn' := fun x hx=>by
 rw [← List.append_assoc] at hx
 rcases List.mem_append.1 hx with hx | hx
 ·have:=h x hx
  exact ⟨this.1,by omega,this.2.2⟩
 ·rw [List.mem_singleton] at hx
  subst hx
  refine ⟨by simp,by rw [List.length_append];simp;omega,by rw [lastN_snoc];exact hm⟩
theorem scal_ofI:∀ zs:List Int,scalars (ofInts zs)=true
 | []=>rfl
 | _ :: l=>by simp only [ofInts,List.map_cons,scalars,Bool.and_eq_true];exact ⟨rfl,scal_ofI l⟩
theorem fB.i4 {h g:List B} {K:List B→Prop} (hk:fB g fun r=>K (h++r)):fB (if 4=0 then h else h++g) K:=by rw [if_neg (by decide)];exact fB.tail hk
set_option maxRecDepth 100000 in
set_option maxHeartbeats 20000000 in
theorem round_ok {T:Nat→Nat→Bool} {f n:Nat} {R:Option (List Nat)} (hf:f<1000) (hR:pgoN T f n [[f]] (fun _=>false)=some R):Fun FB md 101 [tabB 1000 T,.int .i64 (f:Nat)] (wayNV R):=by
 refine fun_rn rfl rfl ?_
 repeat' (first
 | (conv=>whnf)
   first
   | refine Rn.seq ?_
   | refine Rn.block ?_
   | refine Rn.reg ?_
   | (refine Idx.nat ?_ ?_;(focus omega))
   | refine Idx.nat (le_big (by omega)) ?_
   | refine Get.mk _ rfl ?_
   | (refine Req.mk ?_ ?_;(focus first | rfl | decide | exact ⟨rfl,rfl⟩ | exact ⟨rfl,by decide⟩ | exact (fun _=>rfl) | exact (fun h=>nomatch h) | (simp;done) | omega | (simp [big];done) | exact le_big (by omega) | exact lt_big (by omega))))
 all_goals try (exfalso;omega;done)
 have hcl:Cl [B.blk (boC 1000 fun _=>false) true,.unborn]:=(show Cl [B.blk (boC 1000 fun _=>false) true] from rfl).app rfl
 have hrh:RH (fun _=>false) [[f]] 0 [] (.sl true 1 [.sl true 1 [.int .i64 (f:Nat)]]) [] .nilsl [B.blk (boC 1000 fun _=>false) true,.unborn]:=⟨hcl,rfl,.inl ⟨f,rfl,rfl,rfl⟩,.inl ⟨rfl,rfl⟩⟩
 have hbq:BQ [[f]] (fun _=>false):=fun p hp=>by
  rw [List.mem_singleton] at hp
  subst hp
  have:=unsn_le fun _=>false
  exact ⟨by simp,by simp;omega,hf⟩
 refine Rn.loop (fun a:RO=>(2≤a.h.length∧a.NP.length≤1000)∧pgoN T f a.n a.NP a.sn=some R∧BQ a.NP a.sn∧((a.NP=[]∧a.nv = .nilsl)∨(a.NP≠[]∧∃ nq NC,RH a.sn a.NP nq NC a.nv [] .nilsl a.h))) (fun a=>[(6,a.nv)]) (fun a=>a.h) (fun a=>a.n) ⟨n,fun _=>false,[[f]],.sl true 1 [.sl true 1 [.int .i64 (f:Nat)]],[B.blk (boC 1000 fun _=>false) true,.unborn]⟩ ⟨⟨Nat.le_refl _,by simp⟩,hR,hbq,.inr ⟨by simp,0,[],hrh⟩⟩ (by
  rw [← boC_zero]
  rfl) ?_
 clear hR hcl hrh hbq
 rintro ⟨n,sn,NP,nv,h⟩ ⟨⟨w1,w0⟩,w2,w3,w4⟩
 dsimp only at w1 w0 w2 w3 w4 ⊢
 rcases w4 with ⟨e1,rfl⟩ | ⟨e1,nq,NC,rh⟩
 ·subst e1
  have hRn:R=none:=by
   cases n with
   | zero=>cases w2
   | succ n=>rw [pgoN,Option.some.injEq] at w2;exact w2.symm
  subst hRn
  repeat' (first
 | (conv=>whnf)
   first
   | refine Br.f ?_
   | refine Rn.seq ?_
   | refine Rn.cond ?_
   | refine Rn.reg ?_
   | refine Rn.exit ?_
   | refine Rn.ret ?_
   | refine fLen.mk ?_
   | refine fB.i0 ?_
   | refine fB.mk ?_
   | refine Get.mk _ rfl ?_
   | refine Leaves.of ?_
   | refine Vw.nil)
  all_goals first | (exfalso;omega;done) | rfl
 have hNP:0<NP.length:=List.length_pos_iff.2 e1
 have hunl:=unsn_le sn
 have hnw:=rh.nw
 rcases hnw with ⟨f0,e2,e3,e4⟩ | ⟨c,e2,e3,e4,e5⟩
 ·subst e2 e3 e4
  repeat' (first
 | (conv=>whnf)
   first
   | refine Br.t ?_
   | refine Rn.seq ?_
   | refine Rn.block ?_
   | refine Rn.cond ?_
   | refine Rn.reg ?_
   | refine Rn.skip ?_
   | refine fLen.mk ?_
   | refine fB.i0 ?_
   | refine fB.mk ?_)
  all_goals try (exfalso;omega;done)
  refine Rn.loop (fun a:RA=>h.length≤a.h.length∧a.i≤1∧a.n+a.i=n∧RH a.sn [[f0]] 0 NC (.sl true 1 [.sl true 1 [.int .i64 (f0:Nat)]]) a.AP a.av a.h∧pgoN T f a.n ([[f0]].drop a.i++a.AP) a.sn=some R∧BQ ([[f0]].drop a.i++a.AP) a.sn∧a.AP.length+unsn a.sn≤1000) (fun a=>[(7,a.av),(8,.int .i64 (a.i:Nat))]) (fun a=>a.h) (fun a=>1 - a.i) ⟨0,n,sn,[],.nilsl,h⟩ ⟨Nat.le_refl _,Nat.zero_le _,rfl,rh,by rw [List.append_nil];exact w2,by rw [List.append_nil];exact w3,by simp;omega⟩ rfl ?_
  clear w2 w3 rh
  rintro ⟨i,n1,sn,AP,av,h1⟩ ⟨v1,v2,v3,rh,v5,v6,v7⟩
  dsimp only at v1 v2 v3 rh v5 v6 v7 ⊢
  by_cases hi:i<1
  rotate_left
  ·have hi' : i=1:=by omega
   subst hi'
   have hd1:([[f0]]:List (List Nat)).drop 1=[]:=rfl
   rw [hd1,List.nil_append] at v5 v6
   rcases rh.la with ⟨g1,g2⟩ | ⟨q,C,g1,g2,g3,g4,g5⟩
   ·subst g1
    subst g2
    repeat' (first
 | (conv=>whnf)
   first
   | refine Br.f ?_
   | refine Rn.seq ?_
   | refine Rn.cond ?_
   | refine Rn.reg ?_
   | refine Rn.exit ?_
   | refine fLen.mk ?_
   | refine fB.i0 ?_
   | refine fB.mk ?_)
    all_goals try (exfalso;omega;done)
    all_goals exact NextP.of (fun N=>(⟨n1,sn,[],.nilsl,N⟩:RO)) ⟨⟨norm_len (Nat.le_trans w1 v1),by simp⟩,v5,v6,.inl ⟨rfl,rfl⟩⟩ (by (try dsimp only);omega) rfl
   ·subst g3
    have rh2:RH sn AP q C (.ms 1 q AP.length 0 AP.length false) [] .nilsl h1:=⟨rh.cl,rh.b0,.inr ⟨false,by omega,rfl,g4,g5⟩,.inl ⟨rfl,rfl⟩⟩
    repeat' (first
 | (conv=>whnf)
   first
   | refine Br.f ?_
   | refine Rn.seq ?_
   | refine Rn.cond ?_
   | refine Rn.reg ?_
   | refine Rn.exit ?_
   | refine fLen.mk ?_
   | refine fB.i0 ?_
   | refine fB.mk ?_)
    all_goals try (exfalso;omega;done)
    all_goals exact NextP.of (fun N=>(⟨n1,sn,AP,.ms 1 q AP.length 0 AP.length false,N⟩:RO)) ⟨⟨norm_len (Nat.le_trans w1 v1),by (try dsimp only);omega⟩,v5,v6,.inr ⟨g1,q,C,rh2.norm0 (Nat.le_trans w1 v1) rfl rfl⟩⟩ (by (try dsimp only);omega) rfl
  have hi0:i=0:=by omega
  subst hi0
  have hdr:([[f0]]:List (List Nat)).drop 0=[f0] :: ([[f0]]:List (List Nat)).drop (0+1):=rfl
  rw [hdr,List.cons_append] at v5 v6
  obtain ⟨c1,c2,c3⟩:=v6 [f0] (by simp)
  have hl0:lastN [f0]=f0:=rfl
  rw [hl0] at c3
  have gt:=tabB_get (T:=T) c3
  have hbx:IntKind.i64.wrap (((1:Nat):Int) - 1)=((0:Nat):Int):=by decide
  have gr:=boC_get' (f:=T f0) hf
  obtain ⟨n2,rfl⟩:∃ n2,n1=n2+1:=by
   cases n1 with
   | zero=>cases v5
   | succ n2=>exact ⟨n2,rfl⟩
  rw [pgoN,hl0] at v5
  by_cases hT:T f0 f=true
  ·rw [if_pos hT,Option.some.injEq] at v5
   subst v5
   rw [hT] at gr
   have hvw:Vw h1 depth (.sl true 1 [.int .i64 (f0:Nat)]) (wayNV (some [f0])):=Vw.sl
   repeat' (first
 | (conv=>whnf)
   first
   | refine Bnd.eq hbx ?_
   | refine hvw
   | refine Br.t ?_
   | refine Rn.seq ?_
   | refine Rn.block ?_
   | refine Rn.cond ?_
   | refine Rn.reg ?_
   | refine Rn.skip ?_
   | refine Rn.ret ?_
   | refine fLen.mk ?_
   | refine fB.i0 ?_
   | refine fB.mk ?_
   | refine Get.mk _ gt ?_
   | refine Get.mk _ gr ?_
   | (refine Idx.nat ?_ ?_;(focus omega))
   | refine Get.mk _ rfl ?_
   | refine Leaves.of ?_
   | (refine Req.mk ?_ ?_;(focus first | rfl | decide | exact ⟨rfl,rfl⟩ | exact ⟨rfl,by decide⟩ | exact (fun _=>rfl) | exact (fun h=>nomatch h) | (simp;done) | omega | (simp [big];done) | exact le_big (by omega) | exact lt_big (by omega))))
   all_goals first | (exfalso;omega;done)
  rw [if_neg hT] at v5
  have hT' : T f0 f=false:=by simpa using hT
  rw [hT'] at gr
  have hfx:IntKind.i64.wrap ((f:Int)+1)=((f+1:Nat):Int):=by rw [wrap_i64 (by omega) (by omega)];omega
  repeat' (first
 | (conv=>whnf)
   first
   | refine Bnd.eq hbx ?_
   | refine Bnd.eq hfx ?_
   | refine Br.t ?_
   | refine Br.f ?_
   | refine Rn.seq ?_
   | refine Rn.block ?_
   | refine Rn.cond ?_
   | refine Rn.reg ?_
   | refine Rn.skip ?_
   | refine fLen.mk ?_
   | refine fB.i0 ?_
   | refine fB.mk ?_
   | refine Get.mk _ gt ?_
   | refine Get.mk _ gr ?_
   | (refine Idx.nat ?_ ?_;(focus omega))
   | refine Get.mk _ rfl ?_
   | (refine Req.mk ?_ ?_;(focus first | rfl | decide | exact ⟨rfl,rfl⟩ | exact ⟨rfl,by decide⟩ | exact (fun _=>rfl) | exact (fun h=>nomatch h) | (simp;done) | omega | (simp [big];done) | exact le_big (by omega) | exact lt_big (by omega))))
  all_goals try (exfalso;omega;done)
  refine Rn.loopM ms7 ⟨rh.la.alive,trivial⟩ (fun b:RB=>f+1≤b.m∧b.m≤1000∧h1.length≤b.h.length∧RH (snT T f f0 sn b.m) [[f0]] 0 NC (.sl true 1 [.sl true 1 [.int .i64 (f0:Nat)]]) b.AP b.av b.h∧b.AP=AP++(frT T f f0 sn b.m).map (fun k=>[f0]++[k])∧BQ ([[f0]].drop (0+1)++b.AP) (snT T f f0 sn b.m)∧b.AP.length+unsn (snT T f f0 sn b.m)≤1000∧1+unsn (snT T f f0 sn b.m)≤1001) (fun b=>[(7,b.av),(10,.int .i64 (b.m:Nat))]) (fun b=>b.h) (fun b=>1000 - b.m) ⟨f+1,AP,av,h1⟩ ⟨Nat.le_refl _,hf,Nat.le_refl _,by rw [snT_start];exact rh,by rw [frT_start];simp,by rw [snT_start];exact fun x hx=>v6 x (List.mem_cons_of_mem _ hx),by rw [snT_start];exact v7,by rw [snT_start];exact c2⟩ rfl ?_
  rintro ⟨m,AP2,av2,h2⟩ ⟨y1,y2,y3,rh2,y5,y6,y7,y8⟩
  dsimp only at y1 y2 y3 rh2 y5 y6 y7 y8 ⊢
  by_cases hm:m<1000
  rotate_left
  ·have hm' : m=1000:=by omega
   subst hm'
   repeat' (first
 | (conv=>whnf)
   first
   | refine Br.f ?_
   | (refine Bnd.i64 ?_ ?_ ?_;(focus omega);(focus omega))
   | refine Rn.seq ?_
   | refine Rn.cond ?_
   | refine Rn.reg ?_
   | refine Rn.exit ?_
   | refine fLen.mk ?_
   | refine fB.i0 ?_
   | refine fB.mk ?_)
   all_goals try (exfalso;omega;done)
   all_goals exact NextP.of (fun N=>(⟨0+1,n2,snT T f f0 sn 1000,AP2,av2,N⟩:RA)) ⟨norm_len (Nat.le_trans v1 y3),Nat.le_refl _,by (try dsimp only);omega,rh2.norm (Nat.le_trans v1 y3) rfl rfl rfl,by rw [y5, ← List.append_assoc];exact v5,y6,y7⟩ (by (try dsimp only);omega) rfl
  have gm:=boC_get' (f:=T f0) hm
  have gs:cellAt (boC 1000 (snT T f f0 sn m)) (0+m * 1)=some (.bool (sn m)):=by rw [boC_get hm,snT_at]
  have hb0:=rh2.b0
  have hsl:(boC 1000 (snT T f f0 sn m)).length=1000 * 1:=by rw [boC_len]
  have hfm:f<m:=y1
  by_cases hx1:T f0 m=true
  rotate_left
  ·obtain ⟨s1,s2⟩:=snT_skip (T:=T) (q:=f0) (sn:=sn) hfm (fun h=>hx1 h.1)
   have hx1' : T f0 m=false:=by simpa using hx1
   rw [hx1'] at gm
   repeat' (first
 | (conv=>whnf)
   first
   | refine Br.f ?_
   | (refine Br.decT ?_ ?_;(focus first | assumption | omega))
   | (refine Bnd.i64 ?_ ?_ ?_;(focus omega);(focus omega))
   | refine Rn.seq ?_
   | refine Rn.block ?_
   | refine Rn.cond ?_
   | refine Rn.reg ?_
   | refine Rn.skip ?_
   | refine fLen.mk ?_
   | refine fB.i0 ?_
   | refine fB.mk ?_
   | refine Get.mk _ gt ?_
   | refine Get.mk _ gm ?_
   | (refine Idx.nat ?_ ?_;(focus omega))
   | (refine Req.mk ?_ ?_;(focus first | rfl | decide | exact ⟨rfl,rfl⟩ | exact ⟨rfl,by decide⟩ | exact (fun _=>rfl) | exact (fun h=>nomatch h) | (simp;done) | omega | (simp [big];done) | exact le_big (by omega) | exact lt_big (by omega))))
   all_goals try (exfalso;omega;done)
   all_goals exact NextP.of (fun N=>(⟨m+1,AP2,av2,N⟩:RB)) ⟨by (try dsimp only);omega,hm,norm_len y3,by (try dsimp only);rw [s2];exact rh2.norm y3 rfl rfl rfl,by (try dsimp only);rw [s1];exact y5,by (try dsimp only);rw [s2];exact y6,by (try dsimp only);rw [s2];exact y7,by (try dsimp only);rw [s2];exact y8⟩ (by (try dsimp only);omega) rfl
  rw [hx1] at gm
  by_cases hx2:sn m=true
  ·obtain ⟨s1,s2⟩:=snT_skip (T:=T) (q:=f0) (sn:=sn) hfm (fun h=>by rw [hx2] at h;cases h.2)
   rw [hx2] at gs
   repeat' (first
 | (conv=>whnf)
   first
   | refine Br.t ?_
   | refine Br.f ?_
   | (refine Br.decT ?_ ?_;(focus first | assumption | omega))
   | (refine Bnd.i64 ?_ ?_ ?_;(focus omega);(focus omega))
   | refine Rn.seq ?_
   | refine Rn.block ?_
   | refine Rn.cond ?_
   | refine Rn.reg ?_
   | refine Rn.skip ?_
   | refine fLen.mk ?_
   | refine fB.i0 ?_
   | refine fB.mk ?_
   | refine Get.mk _ gt ?_
   | refine Get.mk _ gm ?_
   | refine Get.mk _ hb0 ?_
   | refine Req.mk hsl ?_
   | refine Get.mk _ gs ?_
   | (refine Idx.nat ?_ ?_;(focus omega))
   | (refine Req.mk ?_ ?_;(focus first | rfl | decide | exact ⟨rfl,rfl⟩ | exact ⟨rfl,by decide⟩ | exact (fun _=>rfl) | exact (fun h=>nomatch h) | (simp;done) | omega | (simp [big];done) | exact le_big (by omega) | exact lt_big (by omega))))
   all_goals try (exfalso;omega;done)
   all_goals exact NextP.of (fun N=>(⟨m+1,AP2,av2,N⟩:RB)) ⟨by (try dsimp only);omega,hm,norm_len y3,by (try dsimp only);rw [s2];exact rh2.norm y3 rfl rfl rfl,by (try dsimp only);rw [s1];exact y5,by (try dsimp only);rw [s2];exact y6,by (try dsimp only);rw [s2];exact y7,by (try dsimp only);rw [s2];exact y8⟩ (by (try dsimp only);omega) rfl
  have hx2' : sn m=false:=by simpa using hx2
  rw [hx2'] at gs
  have hsm:snT T f f0 sn m m=false:=by rw [snT_at];exact hx2'
  have hu:=unsn_up hm hsm
  obtain ⟨s1,s2⟩:=snT_push (T:=T) (q:=f0) (sn:=sn) hfm ⟨hx1,hx2'⟩
  have rh3:=rh2.seen (sn' := upB (snT T f f0 sn m) m true)
  have hov:over (boC 1000 (snT T f f0 sn m)) (0+m * 1) [.bool true]=boC 1000 (upB (snT T f f0 sn m) m true):=boC_set hm
  have hln:(boC 1000 (snT T f f0 sn m)).length=1000 * 1∧0+m * 1+1≤(boC 1000 (snT T f f0 sn m)).length:=by rw [boC_len];omega
  have hHl:(bset h2 0 (.blk (boC 1000 (upB (snT T f f0 sn m) m true)) true)).length=h2.length:=bset_len _ _ _
  obtain ⟨H,hH⟩:∃ H,bset h2 (0+0) (.blk (boC 1000 (upB (snT T f f0 sn m) m true)) true)=H:=⟨_,rfl⟩
  rw [show bset h2 0 (.blk (boC 1000 (upB (snT T f f0 sn m) m true)) true)=H from hH] at rh3 hHl
  have hr2:(([]:List V).length+[V.int .i64 (f0:Nat)].length) * (8+1)<big:=by show (0+1) * (8+1)<68719476736;decide
  have hU0:([]:List V).length=0 * 1∧bget (H++[B.unborn,.unborn,.unborn,.unborn]) (H.length+0+0)=some .unborn:=⟨rfl,bget_new (i:=0)⟩
  have hU3:∀ b0 b1 b2 b3:B,bget (H++[b0,b1,b2,b3]) (H.length+0+3)=some b3:=fun _ _ _ _=>bget_new (i:=3)
  have ha1:0+(0+1) * 1=([]:List V).length+[V.int .i64 (f0:Nat)].length∧(([]++[V.int .i64 (f0:Nat)]:List V).length+[V.int .i64 (m:Nat)].length) * (8+1)<big:=⟨rfl,by show (1+1) * (8+1)<68719476736;decide⟩
  have ha2:([]++[V.int .i64 (f0:Nat)]:List V).length=([]:List V).length+[V.int .i64 (f0:Nat)].length:=rfl
  have ha3:(([]:List V).length+1) * (24+1)<big:=by show (0+1) * (24+1)<68719476736;decide
  have hbo:∀ g n,blos 0 [V.ms 1 (H.length+0+0) g 0 n false]=false:=fun g n=>by simp [blos,V.blo]
  have hH0:0<H.length:=by omega
  rcases rh3.la with ⟨g1,g2⟩ | ⟨q,C,g1,g2,g3,g4,g5⟩
  ·subst g1 g2
   repeat' (first
 | (conv=>whnf)
   first
   | refine Br.t ?_
   | (refine Br.decT ?_ ?_;(focus first | assumption | omega))
   | (refine Bnd.i64 ?_ ?_ ?_;(focus omega);(focus omega))
   | refine Rn.seq ?_
   | refine Rn.block ?_
   | refine Rn.cond ?_
   | refine Rn.reg ?_
   | refine Rn.skip ?_
   | refine fLen.mk ?_
   | refine fB.i0 ?_
   | refine fB.as hH ?_
   | refine fB.i4 ?_
   | refine Get.mk _ gt ?_
   | refine Get.mk _ gm ?_
   | refine Get.mk _ hb0 ?_
   | refine Req.mk hsl ?_
   | refine Get.mk _ gs ?_
   | refine Req.mk hln ?_
   | refine fVg' hov ?_
   | refine Req.mk hr2 ?_
   | refine Req.mk ha1 ?_
   | refine Req.mk ha2 ?_
   | refine Req.mk ha3 ?_
   | refine Req.mk hU0 ?_
   | refine Req.mk (hU3 _ _ _ _) ?_
   | refine Get.newj 0 rfl rfl ?_
   | refine fB.newj 0 rfl ?_
   | refine Get.newj 2 rfl rfl ?_
   | refine fB.newj 2 rfl ?_
   | refine Get.newj 3 rfl rfl ?_
   | refine fB.newj 3 rfl ?_
   | refine fB.mk ?_
   | (refine Idx.nat ?_ ?_;(focus omega))
   | (refine Ifz.pos ?_ ?_;(focus omega))
   | refine Get.mk _ rfl ?_
   | (refine Req.mk ?_ ?_;(focus first | rfl | decide | exact ⟨rfl,rfl⟩ | exact ⟨rfl,by decide⟩ | exact (fun _=>rfl) | exact (fun h=>nomatch h) | (simp;done) | omega | (simp [big];done) | exact le_big (by omega) | exact lt_big (by omega))))
   all_goals try (exfalso;omega;done)
   have rh4:=rh3.new (cs:=([]++[V.int .i64 (f0:Nat)])++[V.int .i64 (m:Nat)]) (g:=([]:List V).length+[V.int .i64 (f0:Nat)].length+[V.int .i64 (m:Nat)].length) (n:=0+1+1) (p:=[f0]++[m]) hH0 rfl (by simp) rfl rfl
   have hle:h1.length≤(H++[B.blk (([]++[V.int .i64 (f0:Nat)])++[V.int .i64 (m:Nat)]) true,.unborn,.blk [.ms 1 (H.length+0+0) (([]:List V).length+[V.int .i64 (f0:Nat)].length+[V.int .i64 (m:Nat)].length) 0 (0+1+1) false] false,.blk [.ms 1 (H.length+0+0) (([]:List V).length+[V.int .i64 (f0:Nat)].length+[V.int .i64 (m:Nat)].length) 0 (0+1+1) false] false]).length:=by rw [List.length_append,hHl];omega
   exact NextP.of (fun N=>(⟨m+1,[]++[[f0]++[m]],.ms 1 (H.length+0+3) 1 0 1 false,N⟩:RB)) ⟨by (try dsimp only);omega,hm,norm_len hle,by (try dsimp only);rw [s2];exact rh4.norm hle rfl rfl rfl,by (try dsimp only);rw [s1,List.map_append, ← List.append_assoc, ← y5];rfl,by (try dsimp only);rw [s2];exact y6.push hu y8 hm,by (try dsimp only);rw [s2];simp;omega,by (try dsimp only);rw [s2];omega⟩ (by (try dsimp only);omega) rfl
  ·subst g3
   have hgq:=fun g=>bget_app (g:=g) g4
   have hcl2:C.length=AP2.length:=g5.1
   have hg2:∀ v:V,0+AP2.length * 1=AP2.length∧(C.length+[v].length) * (24+1)<big:=fun v=>⟨by omega,by rw [hcl2];exact lt_big (by simp;omega)⟩
   repeat' (first
 | (conv=>whnf)
   first
   | refine Br.t ?_
   | (refine Br.decT ?_ ?_;(focus first | assumption | omega))
   | (refine Bnd.i64 ?_ ?_ ?_;(focus omega);(focus omega))
   | refine Rn.seq ?_
   | refine Rn.block ?_
   | refine Rn.cond ?_
   | refine Rn.reg ?_
   | refine Rn.skip ?_
   | refine fLen.mk ?_
   | refine fB.i0 ?_
   | refine fB.as hH ?_
   | refine fB.i4 ?_
   | refine Get.mk _ gt ?_
   | refine Get.mk _ gm ?_
   | refine Get.mk _ hb0 ?_
   | refine Req.mk hsl ?_
   | refine Get.mk _ gs ?_
   | refine Req.mk hln ?_
   | refine fVg' hov ?_
   | refine Req.mk hr2 ?_
   | refine Req.mk ha1 ?_
   | refine Req.mk ha2 ?_
   | refine Get.mk _ (hgq _) ?_
   | refine Req.mk hcl2 ?_
   | refine Req.mk (hg2 _) ?_
   | refine Req.mk hU0 ?_
   | refine Get.newj 0 rfl rfl ?_
   | refine fB.newj 0 rfl ?_
   | refine Get.newj 2 rfl rfl ?_
   | refine fB.newj 2 rfl ?_
   | refine fB.mk ?_
   | (refine Idx.nat ?_ ?_;(focus omega))
   | (refine Ifz.pos ?_ ?_;(focus omega))
   | refine Get.mk _ rfl ?_
   | (refine Req.mk ?_ ?_;(focus first | rfl | decide | exact ⟨rfl,rfl⟩ | exact ⟨rfl,by decide⟩ | exact (fun _=>rfl) | exact (fun h=>nomatch h) | (simp;done) | omega | (simp [big];done) | exact le_big (by omega) | exact lt_big (by omega))))
   all_goals try (exfalso;omega;done)
   have rh4:=rh3.grow (cs:=([]++[V.int .i64 (f0:Nat)])++[V.int .i64 (m:Nat)]) (g:=([]:List V).length+[V.int .i64 (f0:Nat)].length+[V.int .i64 (m:Nat)].length) (n:=0+1+1) (p:=[f0]++[m]) (g2:=AP2.length+1) (n2:=AP2.length+1) g2 g4 g5 rfl (by simp) rfl rfl rfl rfl
   have hle:h1.length≤(bset (H++[B.blk (([]++[V.int .i64 (f0:Nat)])++[V.int .i64 (m:Nat)]) true,.unborn,.blk [.ms 1 (H.length+0+0) (([]:List V).length+[V.int .i64 (f0:Nat)].length+[V.int .i64 (m:Nat)].length) 0 (0+1+1) false] false,.unborn]) q (.blk (C++[.ms 1 (H.length+0+0) (([]:List V).length+[V.int .i64 (f0:Nat)].length+[V.int .i64 (m:Nat)].length) 0 (0+1+1) false]) false)).length:=by rw [bset_len,List.length_append,hHl];omega
   exact NextP.of (fun N=>(⟨m+1,AP2++[[f0]++[m]],.ms 1 q (AP2.length+1) 0 (AP2.length+1) false,N⟩:RB)) ⟨by (try dsimp only);omega,hm,norm_len hle,by (try dsimp only);rw [s2];exact rh4.norm hle rfl rfl rfl,by (try dsimp only);rw [s1,List.map_append, ← List.append_assoc, ← y5];rfl,by (try dsimp only);rw [s2];exact y6.push hu y8 hm,by (try dsimp only);rw [s2];simp;omega,by (try dsimp only);rw [s2];omega⟩ (by (try dsimp only);omega) rfl
 ·subst e3
  repeat' (first
 | (conv=>whnf)
   first
   | (refine Br.decT ?_ ?_;(focus first | assumption | omega))
   | refine Rn.seq ?_
   | refine Rn.block ?_
   | refine Rn.cond ?_
   | refine Rn.reg ?_
   | refine Rn.skip ?_
   | refine fLen.mk ?_
   | refine fB.i0 ?_
   | refine fB.mk ?_)
  all_goals try (exfalso;omega;done)
  refine Rn.loop (fun a:RA=>h.length≤a.h.length∧a.i≤NP.length∧a.n+a.i=n∧RH a.sn NP nq NC (.ms 1 nq NP.length 0 NP.length c) a.AP a.av a.h∧pgoN T f a.n (NP.drop a.i++a.AP) a.sn=some R∧BQ (NP.drop a.i++a.AP) a.sn∧a.AP.length+unsn a.sn≤1000) (fun a=>[(7,a.av),(8,.int .i64 (a.i:Nat))]) (fun a=>a.h) (fun a=>NP.length - a.i) ⟨0,n,sn,[],.nilsl,h⟩ ⟨Nat.le_refl _,Nat.zero_le _,rfl,rh,by rw [List.append_nil];exact w2,by rw [List.append_nil];exact w3,by simp;omega⟩ rfl ?_
  clear w2 w3 rh e4 e5
  rintro ⟨i,n1,sn,AP,av,h1⟩ ⟨v1,v2,v3,rh,v5,v6,v7⟩
  dsimp only at v1 v2 v3 rh v5 v6 v7 ⊢
  by_cases hi:i<NP.length
  rotate_left
  ·have hi' : i=NP.length:=by omega
   subst hi'
   rw [List.drop_length,List.nil_append] at v5 v6
   rcases rh.la with ⟨g1,g2⟩ | ⟨q,C,g1,g2,g3,g4,g5⟩
   ·subst g1
    subst g2
    repeat' (first
 | (conv=>whnf)
   first
   | (refine Br.decF ?_ ?_;(focus first | assumption | omega))
   | refine Rn.seq ?_
   | refine Rn.cond ?_
   | refine Rn.reg ?_
   | refine Rn.exit ?_
   | refine fLen.mk ?_
   | refine fB.i0 ?_
   | refine fB.mk ?_)
    all_goals try (exfalso;omega;done)
    all_goals exact NextP.of (fun N=>(⟨n1,sn,[],.nilsl,N⟩:RO)) ⟨⟨norm_len (Nat.le_trans w1 v1),by simp⟩,v5,v6,.inl ⟨rfl,rfl⟩⟩ (by (try dsimp only);omega) rfl
   ·subst g3
    have rh2:RH sn AP q C (.ms 1 q AP.length 0 AP.length false) [] .nilsl h1:=⟨rh.cl,rh.b0,.inr ⟨false,by omega,rfl,g4,g5⟩,.inl ⟨rfl,rfl⟩⟩
    repeat' (first
 | (conv=>whnf)
   first
   | (refine Br.decF ?_ ?_;(focus first | assumption | omega))
   | refine Rn.seq ?_
   | refine Rn.cond ?_
   | refine Rn.reg ?_
   | refine Rn.exit ?_
   | refine fLen.mk ?_
   | refine fB.i0 ?_
   | refine fB.mk ?_)
    all_goals try (exfalso;omega;done)
    all_goals exact NextP.of (fun N=>(⟨n1,sn,AP,.ms 1 q AP.length 0 AP.length false,N⟩:RO)) ⟨⟨norm_len (Nat.le_trans w1 v1),by (try dsimp only);omega⟩,v5,v6,.inr ⟨g1,q,C,rh2.norm0 (Nat.le_trans w1 v1) rfl rfl⟩⟩ (by (try dsimp only);omega) rfl
  obtain ⟨p,hp⟩:∃ p,NP[i]?=some p:=⟨_,List.getElem?_eq_getElem hi⟩
  have hdr:NP.drop i=p :: NP.drop (i+1):=by
   obtain ⟨h2,h3⟩:=List.getElem?_eq_some_iff.1 hp
   rw [List.drop_eq_getElem_cons h2,h3]
  rw [hdr,List.cons_append] at v5 v6
  obtain ⟨c1,c2,c3⟩:=v6 p (by simp)
  have hnw:=rh.nw
  rcases hnw with ⟨f0,z2,z3,z4⟩ | ⟨c', z2,z3,bn,z5⟩
  ·cases z4
  obtain ⟨cv,z6,r,z7,z8,rfl,gl⟩:=z5.2 i p hp
  have hnl:NC.length=NP.length:=z5.1
  have gc:cellAt NC (0+i * 1)=some (.ms 1 r p.length 0 p.length false):=by rw [Nat.zero_add,Nat.mul_one,cellAt_eq];exact z6
  have hbx:IntKind.i64.wrap ((p.length:Int) - 1)=((p.length - 1:Nat):Int):=by rw [wrap_i64 (by omega) (by omega)];omega
  have hrl:=ofnI_len p
  have g0:cellAt (ofInts (nI p)) (0+(p.length - 1) * 1)=some (.int .i64 (lastN p:Nat)):=by rw [Nat.zero_add,Nat.mul_one];exact ofnI_cell (lastN_get c1)
  have gt:=tabB_get (T:=T) c3
  have gr:=boC_get' (f:=T (lastN p)) hf
  obtain ⟨n2,rfl⟩:∃ n2,n1=n2+1:=by
   cases n1 with
   | zero=>cases v5
   | succ n2=>exact ⟨n2,rfl⟩
  rw [pgoN] at v5
  by_cases hT:T (lastN p) f=true
  ·rw [if_pos hT,Option.some.injEq] at v5
   subst v5
   rw [hT] at gr
   have hvw:Vw h1 depth (.ms 1 r p.length 0 p.length false) (wayNV (some p)):=RcI.view (d:=62) ⟨r,z7,z8,rfl,gl⟩
   repeat' (first
 | (conv=>whnf)
   first
   | refine Bnd.eq hbx ?_
   | refine hvw
   | refine Br.t ?_
   | (refine Br.decT ?_ ?_;(focus first | assumption | omega))
   | refine Rn.seq ?_
   | refine Rn.block ?_
   | refine Rn.cond ?_
   | refine Rn.reg ?_
   | refine Rn.skip ?_
   | refine Rn.ret ?_
   | refine fLen.mk ?_
   | refine fB.i0 ?_
   | refine fB.mk ?_
   | refine Get.mk _ bn ?_
   | refine Get.mk _ gc ?_
   | refine Req.mk hnl ?_
   | refine Get.mk _ gl ?_
   | refine Get.mk _ g0 ?_
   | refine Get.mk _ gt ?_
   | refine Get.mk _ gr ?_
   | refine Req.mk hrl ?_
   | (refine Idx.nat ?_ ?_;(focus omega))
   | refine Get.mk _ rfl ?_
   | refine Leaves.of ?_
   | (refine Req.mk ?_ ?_;(focus first | rfl | decide | exact ⟨rfl,rfl⟩ | exact ⟨rfl,by decide⟩ | exact (fun _=>rfl) | exact (fun h=>nomatch h) | (simp;done) | omega | (simp [big];done) | exact le_big (by omega) | exact lt_big (by omega))))
   all_goals first | (exfalso;omega;done)
  rw [if_neg hT] at v5
  have hT' : T (lastN p) f=false:=by simpa using hT
  rw [hT'] at gr
  have hfx:IntKind.i64.wrap ((f:Int)+1)=((f+1:Nat):Int):=by rw [wrap_i64 (by omega) (by omega)];omega
  repeat' (first
 | (conv=>whnf)
   first
   | refine Bnd.eq hbx ?_
   | refine Bnd.eq hfx ?_
   | refine Br.f ?_
   | (refine Br.decT ?_ ?_;(focus first | assumption | omega))
   | refine Rn.seq ?_
   | refine Rn.block ?_
   | refine Rn.cond ?_
   | refine Rn.reg ?_
   | refine Rn.skip ?_
   | refine fLen.mk ?_
   | refine fB.i0 ?_
   | refine fB.mk ?_
   | refine Get.mk _ bn ?_
   | refine Get.mk _ gc ?_
   | refine Req.mk hnl ?_
   | refine Get.mk _ gl ?_
   | refine Get.mk _ g0 ?_
   | refine Get.mk _ gt ?_
   | refine Get.mk _ gr ?_
   | refine Req.mk hrl ?_
   | (refine Idx.nat ?_ ?_;(focus omega))
   | (refine Req.mk ?_ ?_;(focus first | rfl | decide | exact ⟨rfl,rfl⟩ | exact ⟨rfl,by decide⟩ | exact (fun _=>rfl) | exact (fun h=>nomatch h) | (simp;done) | omega | (simp [big];done) | exact le_big (by omega) | exact lt_big (by omega))))
  all_goals try (exfalso;omega;done)
  refine Rn.loopM ms7 ⟨rh.la.alive,trivial⟩ (fun b:RB=>f+1≤b.m∧b.m≤1000∧h1.length≤b.h.length∧RH (snT T f (lastN p) sn b.m) NP nq NC (.ms 1 nq NP.length 0 NP.length c) b.AP b.av b.h∧b.AP=AP++(frT T f (lastN p) sn b.m).map (fun k=>p++[k])∧BQ (NP.drop (i+1)++b.AP) (snT T f (lastN p) sn b.m)∧b.AP.length+unsn (snT T f (lastN p) sn b.m)≤1000∧p.length+unsn (snT T f (lastN p) sn b.m)≤1001) (fun b=>[(7,b.av),(10,.int .i64 (b.m:Nat))]) (fun b=>b.h) (fun b=>1000 - b.m) ⟨f+1,AP,av,h1⟩ ⟨Nat.le_refl _,hf,Nat.le_refl _,by rw [snT_start];exact rh,by rw [frT_start];simp,by rw [snT_start];exact fun x hx=>v6 x (List.mem_cons_of_mem _ hx),by rw [snT_start];exact v7,by rw [snT_start];exact c2⟩ rfl ?_
  rintro ⟨m,AP2,av2,h2⟩ ⟨y1,y2,y3,rh2,y5,y6,y7,y8⟩
  dsimp only at y1 y2 y3 rh2 y5 y6 y7 y8 ⊢
  by_cases hm:m<1000
  rotate_left
  ·have hm' : m=1000:=by omega
   subst hm'
   repeat' (first
 | (conv=>whnf)
   first
   | refine Br.f ?_
   | (refine Bnd.i64 ?_ ?_ ?_;(focus omega);(focus omega))
   | refine Rn.seq ?_
   | refine Rn.cond ?_
   | refine Rn.reg ?_
   | refine Rn.exit ?_
   | refine fLen.mk ?_
   | refine fB.i0 ?_
   | refine fB.mk ?_)
   all_goals try (exfalso;omega;done)
   all_goals exact NextP.of (fun N=>(⟨i+1,n2,snT T f (lastN p) sn 1000,AP2,av2,N⟩:RA)) ⟨norm_len (Nat.le_trans v1 y3),hi,by (try dsimp only);omega,rh2.norm (Nat.le_trans v1 y3) rfl rfl rfl,by rw [y5, ← List.append_assoc];exact v5,y6,y7⟩ (by (try dsimp only);omega) rfl
  have gm:=boC_get' (f:=T (lastN p)) hm
  have gs:cellAt (boC 1000 (snT T f (lastN p) sn m)) (0+m * 1)=some (.bool (sn m)):=by rw [boC_get hm,snT_at]
  have hb0:=rh2.b0
  have hsl:(boC 1000 (snT T f (lastN p) sn m)).length=1000 * 1:=by rw [boC_len]
  have hfm:f<m:=y1
  by_cases hx1:T (lastN p) m=true
  rotate_left
  ·obtain ⟨s1,s2⟩:=snT_skip (T:=T) (q:=lastN p) (sn:=sn) hfm (fun h=>hx1 h.1)
   have hx1' : T (lastN p) m=false:=by simpa using hx1
   rw [hx1'] at gm
   repeat' (first
 | (conv=>whnf)
   first
   | refine Br.f ?_
   | (refine Br.decT ?_ ?_;(focus first | assumption | omega))
   | (refine Bnd.i64 ?_ ?_ ?_;(focus omega);(focus omega))
   | refine Rn.seq ?_
   | refine Rn.block ?_
   | refine Rn.cond ?_
   | refine Rn.reg ?_
   | refine Rn.skip ?_
   | refine fLen.mk ?_
   | refine fB.i0 ?_
   | refine fB.mk ?_
   | refine Get.mk _ gt ?_
   | refine Get.mk _ gm ?_
   | (refine Idx.nat ?_ ?_;(focus omega))
   | (refine Req.mk ?_ ?_;(focus first | rfl | decide | exact ⟨rfl,rfl⟩ | exact ⟨rfl,by decide⟩ | exact (fun _=>rfl) | exact (fun h=>nomatch h) | (simp;done) | omega | (simp [big];done) | exact le_big (by omega) | exact lt_big (by omega))))
   all_goals try (exfalso;omega;done)
   all_goals exact NextP.of (fun N=>(⟨m+1,AP2,av2,N⟩:RB)) ⟨by (try dsimp only);omega,hm,norm_len y3,by (try dsimp only);rw [s2];exact rh2.norm y3 rfl rfl rfl,by (try dsimp only);rw [s1];exact y5,by (try dsimp only);rw [s2];exact y6,by (try dsimp only);rw [s2];exact y7,by (try dsimp only);rw [s2];exact y8⟩ (by (try dsimp only);omega) rfl
  rw [hx1] at gm
  by_cases hx2:sn m=true
  ·obtain ⟨s1,s2⟩:=snT_skip (T:=T) (q:=lastN p) (sn:=sn) hfm (fun h=>by rw [hx2] at h;cases h.2)
   rw [hx2] at gs
   repeat' (first
 | (conv=>whnf)
   first
   | refine Br.t ?_
   | refine Br.f ?_
   | (refine Br.decT ?_ ?_;(focus first | assumption | omega))
   | (refine Bnd.i64 ?_ ?_ ?_;(focus omega);(focus omega))
   | refine Rn.seq ?_
   | refine Rn.block ?_
   | refine Rn.cond ?_
   | refine Rn.reg ?_
   | refine Rn.skip ?_
   | refine fLen.mk ?_
   | refine fB.i0 ?_
   | refine fB.mk ?_
   | refine Get.mk _ gt ?_
   | refine Get.mk _ gm ?_
   | refine Get.mk _ hb0 ?_
   | refine Req.mk hsl ?_
   | refine Get.mk _ gs ?_
   | (refine Idx.nat ?_ ?_;(focus omega))
   | (refine Req.mk ?_ ?_;(focus first | rfl | decide | exact ⟨rfl,rfl⟩ | exact ⟨rfl,by decide⟩ | exact (fun _=>rfl) | exact (fun h=>nomatch h) | (simp;done) | omega | (simp [big];done) | exact le_big (by omega) | exact lt_big (by omega))))
   all_goals try (exfalso;omega;done)
   all_goals exact NextP.of (fun N=>(⟨m+1,AP2,av2,N⟩:RB)) ⟨by (try dsimp only);omega,hm,norm_len y3,by (try dsimp only);rw [s2];exact rh2.norm y3 rfl rfl rfl,by (try dsimp only);rw [s1];exact y5,by (try dsimp only);rw [s2];exact y6,by (try dsimp only);rw [s2];exact y7,by (try dsimp only);rw [s2];exact y8⟩ (by (try dsimp only);omega) rfl
  have hx2' : sn m=false:=by simpa using hx2
  rw [hx2'] at gs
  have hsm:snT T f (lastN p) sn m m=false:=by rw [snT_at];exact hx2'
  have hu:=unsn_up hm hsm
  obtain ⟨s1,s2⟩:=snT_push (T:=T) (q:=lastN p) (sn:=sn) hfm ⟨hx1,hx2'⟩
  have rh3:=rh2.seen (sn' := upB (snT T f (lastN p) sn m) m true)
  have hov:over (boC 1000 (snT T f (lastN p) sn m)) (0+m * 1) [.bool true]=boC 1000 (upB (snT T f (lastN p) sn m) m true):=boC_set hm
  have hln:(boC 1000 (snT T f (lastN p) sn m)).length=1000 * 1∧0+m * 1+1≤(boC 1000 (snT T f (lastN p) sn m)).length:=by rw [boC_len];omega
  have hHl:(bset h2 0 (.blk (boC 1000 (upB (snT T f (lastN p) sn m) m true)) true)).length=h2.length:=bset_len _ _ _
  obtain ⟨H,hH⟩:∃ H,bset h2 (0+0) (.blk (boC 1000 (upB (snT T f (lastN p) sn m) m true)) true)=H:=⟨_,rfl⟩
  rw [show bset h2 0 (.blk (boC 1000 (upB (snT T f (lastN p) sn m) m true)) true)=H from hH] at rh3 hHl
  have hnw:=rh3.nw
  rcases hnw with ⟨f0,x2,x3,x4⟩ | ⟨c'', x2,x3,bnH,x5⟩
  ·cases x4
  obtain ⟨cv2,x6,r2,x7,x8,x9,glH⟩:=x5.2 i p hp
  rw [z6,Option.some.injEq] at x6
  subst x6
  obtain rfl:r=r2:=(V.ms.inj x9).2.1
  have hpl:p.length≠0:=by omega
  have hpp:part (ofInts (nI p)) 0 (p.length * 1)=some (ofInts (nI p)):=part_all (by rw [hrl,Nat.mul_one])
  have hr2:(([]:List V).length+(ofInts (nI p)).length) * (8+1)<big:=by rw [hrl];exact lt_big (by simp;omega)
  have hsc:true=true→scalars (ofInts (nI p))=true:=fun _=>scal_ofI _
  have hU0:([]:List V).length=0 * 1∧bget (H++[B.unborn,.unborn,.unborn,.unborn]) (H.length+0+0)=some .unborn:=⟨rfl,bget_new (i:=0)⟩
  have hU3:∀ b0 b1 b2 b3:B,bget (H++[b0,b1,b2,b3]) (H.length+0+3)=some b3:=fun _ _ _ _=>bget_new (i:=3)
  have ha1:0+(0+p.length) * 1=([]:List V).length+(ofInts (nI p)).length∧(([]++ofInts (nI p):List V).length+[V.int .i64 (m:Nat)].length) * (8+1)<big:=⟨by rw [hrl];simp,by rw [List.nil_append,hrl];exact lt_big (by simp;omega)⟩
  have ha2:([]++ofInts (nI p):List V).length=([]:List V).length+(ofInts (nI p)).length:=by simp
  have ha3:(([]:List V).length+1) * (24+1)<big:=by show (0+1) * (24+1)<68719476736;decide
  have hbo:∀ g n,blos 0 [V.ms 1 (H.length+0+0) g 0 n false]=false:=fun g n=>by simp [blos,V.blo]
  have hbnH:=fun g=>bget_app (g:=g) bnH
  have hglH:=fun g=>bget_app (g:=g) glH
  rcases rh3.la with ⟨g1,g2⟩ | ⟨q,C,g1,g2,g3,g4,g5⟩
  ·subst g1 g2
   repeat' (first
 | (conv=>whnf)
   first
   | refine Br.t ?_
   | (refine Br.decT ?_ ?_;(focus first | assumption | omega))
   | (refine Bnd.i64 ?_ ?_ ?_;(focus omega);(focus omega))
   | refine Rn.seq ?_
   | refine Rn.block ?_
   | refine Rn.cond ?_
   | refine Rn.reg ?_
   | refine Rn.skip ?_
   | refine fLen.mk ?_
   | refine fB.i0 ?_
   | refine fB.as hH ?_
   | refine fB.i4 ?_
   | refine Get.mk _ gt ?_
   | refine Get.mk _ gm ?_
   | refine Get.mk _ hb0 ?_
   | refine Req.mk hsl ?_
   | refine Get.mk _ gs ?_
   | refine Req.mk hln ?_
   | refine fVg' hov ?_
   | refine Get.mk _ (hbnH _) ?_
   | refine Get.mk _ gc ?_
   | refine Req.mk hnl ?_
   | refine Get.mk _ (hglH _) ?_
   | refine Req.mk hrl ?_
   | refine Get.mk _ hpp ?_
   | refine Ifz.pos hpl ?_
   | refine Req.mk hr2 ?_
   | refine Req.mk hsc ?_
   | refine Req.mk ha1 ?_
   | refine Req.mk ha2 ?_
   | refine Req.mk ha3 ?_
   | refine Req.mk hU0 ?_
   | refine Req.mk (hU3 _ _ _ _) ?_
   | refine Get.newj 0 rfl rfl ?_
   | refine fB.newj 0 rfl ?_
   | refine Get.newj 2 rfl rfl ?_
   | refine fB.newj 2 rfl ?_
   | refine Get.newj 3 rfl rfl ?_
   | refine fB.newj 3 rfl ?_
   | refine fB.mk ?_
   | (refine Idx.nat ?_ ?_;(focus omega))
   | (refine Ifz.pos ?_ ?_;(focus omega))
   | refine Get.mk _ rfl ?_
   | (refine Req.mk ?_ ?_;(focus first | rfl | decide | exact ⟨rfl,rfl⟩ | exact ⟨rfl,by decide⟩ | exact (fun _=>rfl) | exact (fun h=>nomatch h) | (simp;done) | omega | (simp [big];done) | exact le_big (by omega) | exact lt_big (by omega))))
   all_goals try (exfalso;omega;done)
   have rh4:=rh3.new (cs:=([]++ofInts (nI p))++[V.int .i64 (m:Nat)]) (g:=([]:List V).length+(ofInts (nI p)).length+[V.int .i64 (m:Nat)].length) (n:=0+p.length+1) (p:=p++[m]) (bget_lt bnH) (by rw [List.nil_append,ofnI_snoc]) (by simp;omega) (by rw [hrl];simp) (by simp)
   have hle:h1.length≤(H++[B.blk (([]++ofInts (nI p))++[V.int .i64 (m:Nat)]) true,.unborn,.blk [.ms 1 (H.length+0+0) (([]:List V).length+(ofInts (nI p)).length+[V.int .i64 (m:Nat)].length) 0 (0+p.length+1) false] false,.blk [.ms 1 (H.length+0+0) (([]:List V).length+(ofInts (nI p)).length+[V.int .i64 (m:Nat)].length) 0 (0+p.length+1) false] false]).length:=by rw [List.length_append,hHl];omega
   exact NextP.of (fun N=>(⟨m+1,[]++[p++[m]],.ms 1 (H.length+0+3) 1 0 1 false,N⟩:RB)) ⟨by (try dsimp only);omega,hm,norm_len hle,by (try dsimp only);rw [s2];exact rh4.norm hle rfl rfl rfl,by (try dsimp only);rw [s1,List.map_append, ← List.append_assoc, ← y5];rfl,by (try dsimp only);rw [s2];exact y6.push hu y8 hm,by (try dsimp only);rw [s2];simp;omega,by (try dsimp only);rw [s2];omega⟩ (by (try dsimp only);omega) rfl
  ·subst g3
   have hgq:=fun g=>bget_app (g:=g) g4
   have hcl2:C.length=AP2.length:=g5.1
   have hg2:∀ v:V,0+AP2.length * 1=AP2.length∧(C.length+[v].length) * (24+1)<big:=fun v=>⟨by omega,by rw [hcl2];exact lt_big (by simp;omega)⟩
   repeat' (first
 | (conv=>whnf)
   first
   | refine Br.t ?_
   | (refine Br.decT ?_ ?_;(focus first | assumption | omega))
   | (refine Bnd.i64 ?_ ?_ ?_;(focus omega);(focus omega))
   | refine Rn.seq ?_
   | refine Rn.block ?_
   | refine Rn.cond ?_
   | refine Rn.reg ?_
   | refine Rn.skip ?_
   | refine fLen.mk ?_
   | refine fB.i0 ?_
   | refine fB.as hH ?_
   | refine fB.i4 ?_
   | refine Get.mk _ gt ?_
   | refine Get.mk _ gm ?_
   | refine Get.mk _ hb0 ?_
   | refine Req.mk hsl ?_
   | refine Get.mk _ gs ?_
   | refine Req.mk hln ?_
   | refine fVg' hov ?_
   | refine Get.mk _ (hbnH _) ?_
   | refine Get.mk _ gc ?_
   | refine Req.mk hnl ?_
   | refine Get.mk _ (hglH _) ?_
   | refine Req.mk hrl ?_
   | refine Get.mk _ hpp ?_
   | refine Ifz.pos hpl ?_
   | refine Req.mk hr2 ?_
   | refine Req.mk hsc ?_
   | refine Req.mk ha1 ?_
   | refine Req.mk ha2 ?_
   | refine Get.mk _ (hgq _) ?_
   | refine Req.mk hcl2 ?_
   | refine Req.mk (hg2 _) ?_
   | refine Req.mk hU0 ?_
   | refine Get.newj 0 rfl rfl ?_
   | refine fB.newj 0 rfl ?_
   | refine Get.newj 2 rfl rfl ?_
   | refine fB.newj 2 rfl ?_
   | refine fB.mk ?_
   | (refine Idx.nat ?_ ?_;(focus omega))
   | (refine Ifz.pos ?_ ?_;(focus omega))
   | refine Get.mk _ rfl ?_
   | (refine Req.mk ?_ ?_;(focus first | rfl | decide | exact ⟨rfl,rfl⟩ | exact ⟨rfl,by decide⟩ | exact (fun _=>rfl) | exact (fun h=>nomatch h) | (simp;done) | omega | (simp [big];done) | exact le_big (by omega) | exact lt_big (by omega))))
   all_goals try (exfalso;omega;done)
   have rh4:=rh3.grow (cs:=([]++ofInts (nI p))++[V.int .i64 (m:Nat)]) (g:=([]:List V).length+(ofInts (nI p)).length+[V.int .i64 (m:Nat)].length) (n:=0+p.length+1) (p:=p++[m]) (g2:=AP2.length+1) (n2:=AP2.length+1) g2 g4 g5 (by rw [List.nil_append,ofnI_snoc]) (by simp;omega) (by rw [hrl];simp) (by simp) rfl rfl
   have hle:h1.length≤(bset (H++[B.blk (([]++ofInts (nI p))++[V.int .i64 (m:Nat)]) true,.unborn,.blk [.ms 1 (H.length+0+0) (([]:List V).length+(ofInts (nI p)).length+[V.int .i64 (m:Nat)].length) 0 (0+p.length+1) false] false,.unborn]) q (.blk (C++[.ms 1 (H.length+0+0) (([]:List V).length+(ofInts (nI p)).length+[V.int .i64 (m:Nat)].length) 0 (0+p.length+1) false]) false)).length:=by rw [bset_len,List.length_append,hHl];omega
   exact NextP.of (fun N=>(⟨m+1,AP2++[p++[m]],.ms 1 q (AP2.length+1) 0 (AP2.length+1) false,N⟩:RB)) ⟨by (try dsimp only);omega,hm,norm_len hle,by (try dsimp only);rw [s2];exact rh4.norm hle rfl rfl rfl,by (try dsimp only);rw [s1,List.map_append, ← List.append_assoc, ← y5];rfl,by (try dsimp only);rw [s2];exact y6.push hu y8 hm,by (try dsimp only);rw [s2];simp;omega,by (try dsimp only);rw [s2];omega⟩ (by (try dsimp only);omega) rfl
end Go.Dr.T
