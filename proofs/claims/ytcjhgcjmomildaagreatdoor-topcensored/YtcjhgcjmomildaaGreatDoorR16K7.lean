/- TopCensored: the law, walked. -/
import Derived.Test.YtcjhgcjmomildaaGreatDoorG11
import Derived.Test.YtcjhgcjmomildaaGreatDoorG15
import Derived.Test.YtcjhgcjmomildaaGreatDoorG16
import Derived.Test.YtcjhgcjmomildaaGreatDoorR16A8
import Derived.Test.YtcjhgcjmomildaaGreatDoorG16
import Derived.Test.YtcjhgcjmomildaaGreatDoorG22
import Derived.Test.YtcjhgcjmomildaaGreatDoorG23
namespace Go.Dr.T
theorem sh_c:∀ {l:List (Int × Int)} {k:Nat} {p:Int × Int},l[k]?=some p→cellAt (shC l) (k * 2+0)=some (.int .i64 p.1)∧cellAt (shC l) (k * 2+1)=some (.int .i64 p.2)
 | [],_,_,h=>by simp at h
 | q :: l,0,p,h=>by
  simp only [List.getElem?_cons_zero,Option.some.injEq] at h
  subst h
  exact ⟨rfl,rfl⟩
 | q :: l,k+1,p,h=>by
  have:=sh_c (l:=l) (k:=k) (p:=p) (by simpa using h)
  rw [show (k+1) * 2+0=(k * 2+0)+1+1 by omega,show (k+1) * 2+1=(k * 2+1)+1+1 by omega]
  exact this
theorem atT_bd {l:List (Int × Int)} {b:Int} (h:∀ p∈l,1≤p.2∧p.2≤200000):∀ {k:Nat},k≤l.length→(k:Int)≤atT b l k∧atT b l k≤200000 * (k:Int)
 | 0,_=>by show ((0:Nat):Int)≤0∧(0:Int)≤_;omega
 | k+1,hk=>by
  have ih:=atT_bd (b:=b) h (k:=k) (by omega)
  have h2:=h _ (List.getElem_mem (show k<l.length by omega))
  rw [atT_S,List.getD_eq_getElem?_getD,List.getElem?_eq_getElem (by omega)]
  dsimp only [Option.getD]
  omega
theorem leT_bd {l:List (Int × Int)} {b:Int} (h:∀ p∈l,1≤p.2∧p.2≤200000):∀ {k:Nat},k≤l.length→0≤leT b l k∧leT b l k≤200000 * (k:Int)
 | 0,_=>by show (0:Int)≤0∧(0:Int)≤_;omega
 | k+1,hk=>by
  have ih:=leT_bd (b:=b) h (k:=k) (by omega)
  have h2:=h _ (List.getElem_mem (show k<l.length by omega))
  cases hb:bitB b k with
  | true =>
   rw [leT_t hb,List.getD_eq_getElem?_getD,List.getElem?_eq_getElem (by omega)]
   dsimp only [Option.getD]
   omega
  | false=>rw [leT_f hb];omega
theorem bset_app2 {h a b:List B} {n:Nat} {B' : B} (hn:n<h.length):bset ((h++a)++b) n B' = (bset h n B' ++ a)++b:=by
 rw [bset_app (by rw [List.length_append];omega),bset_app hn]
theorem bset_app3 {h a b c:List B} {n:Nat} {B' : B} (hn:n<h.length):bset (((h++a)++b)++c) n B' = ((bset h n B' ++ a)++b)++c:=by
 rw [bset_app (by rw [List.length_append];rw [List.length_append];omega),bset_app2 hn]
theorem lenU3 {h a b c:List B} {n:Nat} (e:n≤h.length):n≤(((h++a)++b)++c).length:=by
 rw [List.length_append,List.length_append,List.length_append];omega
theorem intC_app {l m:List Int}:intC (l++m)=intC l++intC m:=by simp
structure CA where
 k:Nat
 v:V
 o:Option Nat
 h:List B
set_option maxRecDepth 100000 in
set_option maxHeartbeats 20000000 in
theorem law_cens {x:El} {b:Int} {back:Bool}:Fun FB9 md 3 [elA x,.int .u64 b,.bool back] (.bool true):=by
 have hAw:=awake
 have hck:=(((refCheck_ok (nm:=x.nm) (c:=x.c) (l:=x.l) (g:=x.g)).tab sub1).tab sub2).tab sub9
 by_cases he:(ckE x.nm x.l x.g).2=0
 rotate_left
 ·generalize ckE x.nm x.l x.g=e at *
  obtain ⟨e1,e2⟩:=e
  dsimp only at *
  refine fun_of rfl rfl ?_
  repeat' (first
 | (conv=>whnf)
   first
   | refine call_fun rfl rfl hck (.inl rfl) ?_
   | refine Get.mk _ rfl ?_
   | (refine Req.mk ?_ ?_;(focus first | rfl | decide | exact ⟨rfl,rfl⟩ | exact ⟨rfl,by decide⟩ | exact (fun _=>rfl) | exact (fun h=>nomatch h) | (simp;done) | omega | (simp [big];done) | exact le_big (by omega) | exact lt_big (by omega))))
  all_goals try (exfalso;omega;done)
  refine LoopP.by (fun _:Unit=>True) (fun k=>[]) (fun _=>[elB x]) (fun k=>0) () trivial rfl ?_
  rintro ⟨⟩ -
  dsimp only
  repeat' (first
 | (conv=>whnf)
   first
   | refine Br.t ?_
   | refine Br.f ?_
   | (refine Br.decT ?_ ?_;(focus first | assumption | omega))
   | (refine Br.decF ?_ ?_;(focus first | assumption | omega))
   | refine Br.dec (fun _ => ?_) (fun _ => ?_)
   | refine Br.not ?_
   | refine call_fun rfl rfl hAw (.inl rfl) ?_
   | refine Get.mk _ rfl ?_
   | refine Leaves.of ?_
   | refine Vw.bool ?_
   | (refine Req.mk ?_ ?_;(focus first | rfl | decide | exact ⟨rfl,rfl⟩ | exact ⟨rfl,by decide⟩ | exact (fun _=>rfl) | exact (fun h=>nomatch h) | (simp;done) | omega | (simp [big];done) | exact le_big (by omega) | exact lt_big (by omega))))
  all_goals first | rfl | (exfalso;omega;done)
 have hx:x.e=0:=he
 obtain ⟨_,_,_,h40,hgd⟩:=ck_good he
 have hfr:∀ p∈x.l,1≤p.2∧p.2≤200000:=fun p hp=>by
  obtain ⟨i,hi⟩:=List.getElem?_of_mem hp
  have:=hgd i p hi
  omega
 rw [he] at hck
 generalize (ckE x.nm x.l x.g).1=e1 at hck
 refine fun_of rfl rfl ?_
 repeat' (first
 | (conv=>whnf)
   first
   | refine call_fun rfl rfl hck (.inl rfl) ?_
   | refine Get.mk _ rfl ?_
   | (refine Req.mk ?_ ?_;(focus first | rfl | decide | exact ⟨rfl,rfl⟩ | exact ⟨rfl,by decide⟩ | exact (fun _=>rfl) | exact (fun h=>nomatch h) | (simp;done) | omega | (simp [big];done) | exact le_big (by omega) | exact lt_big (by omega))))
 all_goals try (exfalso;omega;done)
 refine LoopP.by (fun k:Nat=>k≤x.l.length∧∀ i,i<k→0<(x.l.getD i (0,0)).1) (fun k=>[(9,.int .i64 (atT b x.l k)),(11,.int .i64 (k:Nat))]) (fun _=>[elB x]) (fun k=>x.l.length - k) 0 ⟨Nat.zero_le _,fun i h=>absurd h (by omega)⟩ rfl ?_
 rintro k ⟨w1,w2⟩
 dsimp only
 have hbd:=atT_bd (b:=b) hfr w1
 by_cases hk:k<x.l.length
 ·obtain ⟨u,hu⟩:∃ u,x.l[k]?=some u:=⟨_,List.getElem?_eq_getElem hk⟩
  obtain ⟨hc0,hc1⟩:=sh_c hu
  have hud:x.l.getD k (0,0)=u:=by rw [List.getD_eq_getElem?_getD,hu];rfl
  have hg:=hgd k u hu
  have hkl:k≤x.l.length - 1:=by omega
  have h0l:0<x.l.length:=by omega
  have hkw:IntKind.i64.wrap ((k:Int)+1)=((k+1:Nat):Int):=by rw [wrap_i64 (by omega) (by omega)];omega
  have haw:IntKind.i64.wrap (atT b x.l k+u.2)=atT b x.l (k+1):=by rw [atT_S,hud];exact wrap_i64 (by omega) (by omega)
  have hw3:¬ u.1=0→∀ i,i<k+1→0<(x.l.getD i (0,0)).1:=fun hm i hi=>by
   by_cases e:i=k
   ·subst e;rw [hud];omega
   ·exact w2 i (by omega)
  by_cases hm:u.1=0
  ·repeat' (first
 | (conv=>whnf)
   first
   | refine Br.t ?_
   | (refine Br.decT ?_ ?_;(focus first | assumption | omega))
   | refine Idx.nat hkl ?_
   | refine Req.mk h0l ?_
   | refine Get.mk _ hc0 ?_
   | refine call_fun rfl rfl hAw (.inl rfl) ?_
   | refine Get.mk _ rfl ?_
   | refine Leaves.of ?_
   | refine Vw.bool ?_
   | (refine Req.mk ?_ ?_;(focus first | rfl | decide | exact ⟨rfl,rfl⟩ | exact ⟨rfl,by decide⟩ | exact (fun _=>rfl) | exact (fun h=>nomatch h) | (simp;done) | omega | (simp [big];done) | exact le_big (by omega) | exact lt_big (by omega))))
   all_goals first | rfl | (exfalso;omega;done)
  ·replace hw3:=hw3 hm
   repeat' (first
 | (conv=>whnf)
   first
   | refine Bnd.eq hkw ?_
   | refine Bnd.eq haw ?_
   | refine Br.t ?_
   | (refine Br.decT ?_ ?_;(focus first | assumption | omega))
   | (refine Br.decF ?_ ?_;(focus first | assumption | omega))
   | refine Idx.nat hkl ?_
   | refine Req.mk h0l ?_
   | refine Get.mk _ hc0 ?_
   | refine Get.mk _ hc1 ?_
   | refine Get.mk _ rfl ?_
   | (refine Req.mk ?_ ?_;(focus first | rfl | decide | exact ⟨rfl,rfl⟩ | exact ⟨rfl,by decide⟩ | exact (fun _=>rfl) | exact (fun h=>nomatch h) | (simp;done) | omega | (simp [big];done) | exact le_big (by omega) | exact lt_big (by omega))))
   all_goals first | (exfalso;omega;done) | exact NextP.mk (k+1) ⟨hk,hw3⟩ (by omega) rfl
 obtain rfl:k=x.l.length:=by omega
 clear hbd
 have hbd:=atT_bd (b:=b) hfr (Nat.le_refl _)
 have hpos:∀ p∈x.l,0<p.1:=fun p hp=>by
  obtain ⟨i,hi⟩:=List.getElem?_of_mem hp
  have:=(List.getElem?_eq_some_iff.1 hi).1
  have:=w2 i (by omega)
  rwa [List.getD_eq_getElem?_getD,hi] at this
 by_cases hS:atT b x.l x.l.length<1∨200000<atT b x.l x.l.length
 ·rcases hS with hS | hS
  all_goals
   repeat' (first
 | (conv=>whnf)
   first
   | refine Br.t ?_
   | refine Br.f ?_
   | (refine Br.decT ?_ ?_;(focus first | assumption | omega))
   | (refine Br.decF ?_ ?_;(focus first | assumption | omega))
   | refine call_fun rfl rfl hAw (.inl rfl) ?_
   | refine Get.mk _ rfl ?_
   | refine Leaves.of ?_
   | refine Vw.bool ?_
   | (refine Req.mk ?_ ?_;(focus first | rfl | decide | exact ⟨rfl,rfl⟩ | exact ⟨rfl,by decide⟩ | exact (fun _=>rfl) | exact (fun h=>nomatch h) | (simp;done) | omega | (simp [big];done) | exact le_big (by omega) | exact lt_big (by omega))))
   all_goals first | rfl | (exfalso;omega;done)
 repeat' (first
 | (conv=>whnf)
   first
   | refine Br.f ?_
   | (refine Br.decF ?_ ?_;(focus first | assumption | omega))
   | refine Get.mk _ rfl ?_
   | (refine Req.mk ?_ ?_;(focus first | rfl | decide | exact ⟨rfl,rfl⟩ | exact ⟨rfl,by decide⟩ | exact (fun _=>rfl) | exact (fun h=>nomatch h) | (simp;done) | omega | (simp [big];done) | exact le_big (by omega) | exact lt_big (by omega))))
 all_goals try (exfalso;omega;done)
 have hx0:ksT b 0=[]:=rfl
 have i0:CI x b back 0 [elB x,yB x .nilsl] .nilsl none:=⟨rfl,rfl,rfl,.inl ⟨by cases back <;> rfl,rfl⟩,fun _=>rfl,fun q h=>by cases h⟩
 refine LoopP.by (fun a:CA=>a.k≤x.l.length∧2≤a.h.length∧CI x b back a.k a.h a.v a.o) (fun a=>[(10,.int .i64 (leT b x.l a.k)),(13,a.v),(14,vQ 1 2 (ksT b a.k).length a.o),(15,vQ 1 3 (ksT b a.k).length a.o),(16,vQ 2 4 (ksT b a.k).length a.o),(17,.int .i64 (atT b x.l a.k)),(18,.int .i64 (a.k:Nat))]) (fun a=>a.h) (fun a=>x.l.length - a.k) ⟨0,.nilsl,none,[elB x,yB x .nilsl]⟩ ⟨Nat.zero_le _,Nat.le_refl _,i0⟩ rfl ?_
 rintro ⟨k,v,o,h⟩ ⟨w1,w2,ci⟩
 dsimp only at w1 w2 ci ⊢
 by_cases hk:k<x.l.length
 ·obtain ⟨u,hu⟩:∃ u,x.l[k]?=some u:=⟨_,List.getElem?_eq_getElem hk⟩
  obtain ⟨hc0,hc1⟩:=sh_c hu
  have hcp:=shC_part hu
  have hud:x.l.getD k (0,0)=u:=by rw [List.getD_eq_getElem?_getD,hu];rfl
  have hg:=hgd k u hu
  have hkl:k≤x.l.length - 1:=by omega
  have h0l:0<x.l.length:=by omega
  have hkw:IntKind.i64.wrap ((k:Int)+1)=((k+1:Nat):Int):=by rw [wrap_i64 (by omega) (by omega)];omega
  have hab:=atT_bd (b:=b) hfr (show k≤x.l.length by omega)
  have hlb:=leT_bd (b:=b) hfr (show k≤x.l.length by omega)
  have haw:IntKind.i64.wrap (atT b x.l k+u.2)=atT b x.l (k+1):=by rw [atT_S,hud];exact wrap_i64 (by omega) (by omega)
  have h64:(64:Int)≠0:=by decide
  have hsh:0≤IntKind.u64.wrap ((k:Int).tmod 64):=by
   have:0≤(k:Int).tmod 64:=Int.tmod_nonneg _ (by omega)
   have h2:(k:Int).tmod 64<64:=Int.tmod_lt_of_pos _ (by decide)
   have e:IntKind.u64.wrap ((k:Int).tmod 64)=(k:Int).tmod 64:=by
    unfold IntKind.wrap
    simp only [IntKind.bits,IntKind.signed]
    first | omega | (split <;> omega) | (simp;omega)
   omega
  have c0:=ci.b0
  have c1:=ci.b1
  by_cases hbt:bitE b k=1
  ·have hbb:bitB b k=true:=decide_eq_true hbt
   unfold bitE at hbt
   have hlw:IntKind.i64.wrap (leT b x.l k+u.2)=leT b x.l (k+1):=by rw [leT_t hbb,hud];exact wrap_i64 (by omega) (by omega)
   cases o with
   | none =>
    have c1:bget h 1=some (yB x .nilsl):=ci.b1
    have c1a:∀ r,bget (h++r) 1=some (yB x .nilsl):=fun r=>bget_app c1
    have c0a:∀ r,bget (h++r) 0=some (elB x):=fun r=>bget_app c0
    have c1b:∀ r s,bget ((h++r)++s) 1=some (yB x .nilsl):=fun r s=>bget_app (c1a r)
    have c0b:∀ r s,bget ((h++r)++s) 0=some (elB x):=fun r s=>bget_app (c0a r)
    have c1c:∀ r s t,bget (((h++r)++s)++t) 1=some (yB x .nilsl):=fun r s t=>bget_app (c1b r s)
    have c0c:∀ r s t,bget (((h++r)++s)++t) 0=some (elB x):=fun r s t=>bget_app (c0b r s)
    dsimp only [vQ]
    repeat' (first
 | (conv=>whnf)
   first
   | refine Bnd.eq hkw ?_
   | refine Bnd.eq haw ?_
   | refine Bnd.eq hlw ?_
   | (refine Br.decT ?_ ?_;(focus first | assumption | omega))
   | refine fLen.mk ?_
   | refine fB.i0 ?_
   | refine fB.i1 ?_
   | refine Idx.nat hkl ?_
   | refine Req.mk h0l ?_
   | refine Req.mk h64 ?_
   | refine Req.mk hsh ?_
   | refine Get.mk _ hc1 ?_
   | refine Get.mk _ hcp ?_
   | refine Get.mk _ c0 ?_
   | refine Get.mk _ (c1b _ _) ?_
   | refine Get.mk _ (c0c _ _ _) ?_
   | refine Get.mk _ (c1c _ _ _) ?_
   | refine Req.mk (bget_new (i:=0)) ?_
   | refine Req.mk (bget_new (i:=1)) ?_
   | refine Get.newj 0 rfl rfl ?_
   | refine Get.newj 1 rfl rfl ?_
   | refine fB.newj 0 rfl ?_
   | refine fB.newj 1 rfl ?_
   | refine fB.mk ?_
   | refine Bnd.any ?_
   | (refine Ifz.pos ?_ ?_;(focus omega))
   | refine Get.mk _ rfl ?_
   | (refine Req.mk ?_ ?_;(focus first | rfl | decide | exact ⟨rfl,rfl⟩ | exact ⟨rfl,by decide⟩ | exact (fun _=>rfl) | exact (fun h=>nomatch h) | (simp;done) | omega | (simp [big];done) | exact le_big (by omega) | exact lt_big (by omega))))
    all_goals try (exfalso;omega;done)
    obtain ⟨qq,hq⟩:∃ q,h.length=q+2:=⟨h.length - 2,by omega⟩
    have hn1:=ksT_1 ci hbb
    have hl1:∀ X Y:B,(h++[X,Y]).length=qq+4:=fun X Y=>by rw [List.length_append,hq];rfl
    have hl2:∀ X Y Z:B,(h++[X,Y]++[Z]).length=qq+5:=fun X Y Z=>by rw [List.length_append,hl1];rfl
    have hbl:∀ (X Y Z W U:B) (n:Nat),(bset (h++[X,Y]++[Z]++[W]) n U).length=qq+6:=fun X Y Z W U n=>by rw [bset_len,List.length_append,hl2];rfl
    have e14:V.ms 1 (h.length+0+0) (([]:List V).length+[V.int .i64 (atT b x.l k)].length) 0 (0+1) false=vQ 1 2 (ksT b (k+1)).length (some qq):=by rw [hn1,hq];rfl
    have e15:V.ms 1 (h.length+0+1) (([]:List V).length+[V.int .i64 (leT b x.l k)].length) 0 (0+1) false=vQ 1 3 (ksT b (k+1)).length (some qq):=by rw [hn1,hq];rfl
    have e16:V.ms 2 ((h++[B.blk (([]:List V)++[V.int .i64 (atT b x.l k)]) true,B.blk (([]:List V)++[V.int .i64 (leT b x.l k)]) true]).length+0+0) (([]:List V).length+[V.int .i64 (k:Nat),V.int .i64 0].length) 0 (0+1) false=vQ 2 4 (ksT b (k+1)).length (some qq):=by rw [hn1,hl1];rfl
    refine NextP.of (fun N=>(⟨k+1,_,some qq,N⟩:CA)) ⟨hk,norm_len ?_,CI.norm ?_ (CI.keep0' (x:=x) (k:=k) (q:=qq) rfl rfl hq ci hbb rfl rfl rfl ?_ ?_) rfl rfl rfl e14 e15 e16⟩ ?_ ?_
    ·exact Nat.le_trans (show 2≤qq+6 by omega) (Nat.le_of_eq (hbl _ _ _ _ _ _).symm)
    ·exact Nat.le_trans (show 2≤qq+6 by omega) (Nat.le_of_eq (hbl _ _ _ _ _ _).symm)
    ·rw [hud];rfl
    ·rw [hl2];rfl
    ·show x.l.length - (k+1)<x.l.length - k
     omega
    ·dsimp only
     rw [e14,e15,e16]
     rfl
   | some q =>
    obtain ⟨s1,s2,s3,s4,s5,s6⟩:=ci.so q rfl
    have c1:bget h 1=some (yB x (.ms 2 (q+5) ((ksT b k).length * 2) 0 (ksT b k).length false)):=ci.b1
    have l5:=bget_lt s6
    have hkn:=ksT_le (b:=b) (k:=k)
    have z2:(intC (bT b x.l k)).length=(ksT b k).length * 1:=by rw [List.length_map,bT_len.1];omega
    have z3:(intC (aT b x.l k)).length=(ksT b k).length * 1:=by rw [List.length_map,bT_len.2];omega
    have z4:(shC (wanT (ksT b k) 0)).length=(ksT b k).length * 2:=by rw [shC_length,wanT_len]
    have z5:(shC (kT b x.l k)).length=(ksT b k).length * 2:=by rw [shC_length,kT_len]
    have e2:0+(ksT b k).length * 1=(ksT b k).length * 1∧((intC (bT b x.l k)).length+[V.int .i64 (atT b x.l k)].length) * (8+1)<big:=⟨Nat.zero_add _,by rw [z2];show ((ksT b k).length * 1+1) * 9<68719476736;omega⟩
    have e3:0+(ksT b k).length * 1=(ksT b k).length * 1∧((intC (aT b x.l k)).length+[V.int .i64 (leT b x.l k)].length) * (8+1)<big:=⟨Nat.zero_add _,by rw [z3];show ((ksT b k).length * 1+1) * 9<68719476736;omega⟩
    have e4:0+(ksT b k).length * 2=(ksT b k).length * 2∧((shC (wanT (ksT b k) 0)).length+[V.int .i64 (k:Nat),.int .i64 ((ksT b k).length:Nat)].length) * (16+1)<big:=⟨Nat.zero_add _,by rw [z4];show ((ksT b k).length * 2+2) * 17<68719476736;omega⟩
    have e5:0+(ksT b k).length * 2=(ksT b k).length * 2∧((shC (kT b x.l k)).length+[V.int .i64 u.1,.int .i64 u.2].length) * (16+1)<big:=⟨Nat.zero_add _,by rw [z5];show ((ksT b k).length * 2+2) * 17<68719476736;omega⟩
    have ho:∀ {n m:Nat} {h' : List B} {B' w:B},n≠m→bget h' m=some w→bget (bset h' n B') m=some w:=fun hne e=>by rw [bset_other hne];exact e
    have u1:∀ B', bget (bset h (q+2) B' ++ [.unborn,.unborn]) (h.length+0+1)=some .unborn:=fun B' => by
     have:=bget_new (h:=bset h (q+2) B') (g:=[.unborn,.unborn]) (i:=1)
     rwa [bset_len] at this
    have l2:q+2<h.length:=by omega
    have l3:∀ B', q+3<(bset h (q+2) B').length:=fun B' => by rw [bset_len];omega
    have l4:∀ B2 B3,q+4<(bset (bset h (q+2) B2) (q+3) B3).length:=fun B2 B3=>by rw [bset_len,bset_len];omega
    have l5' : ∀ B2 B3 B4,q+5<(bset (bset (bset h (q+2) B2) (q+3) B3) (q+4) B4).length:=fun B2 B3 B4=>by rw [bset_len,bset_len,bset_len];omega
    have l1:∀ B2 B3 B4 B5,0+1+0<(bset (bset (bset (bset h (q+2) B2) (q+3) B3) (q+4) B4) (q+5) B5).length:=fun B2 B3 B4 B5=>by rw [bset_len,bset_len,bset_len,bset_len];omega
    have g3:∀ B' r,bget (bset h (q+2) B' ++ r) (q+3)=_:=fun B' r=>bget_app (ho (by omega) s4)
    have g4:∀ B2 B3 r s,bget ((bset (bset h (q+2) B2) (q+3) B3++r)++s) (q+4)=_:=fun B2 B3 r s=>bget_app (bget_app (ho (by omega) (ho (by omega) s5)))
    have g1:∀ B2 B3 r s,bget ((bset (bset h (q+2) B2) (q+3) B3++r)++s) 1=_:=fun B2 B3 r s=>bget_app (bget_app (ho (by omega) (ho (by omega) c1)))
    have g5:∀ B2 B3 B4 r s t,bget (((bset (bset (bset h (q+2) B2) (q+3) B3) (q+4) B4++r)++s)++t) (q+5)=_:=fun B2 B3 B4 r s t=>bget_app (bget_app (bget_app (ho (by omega) (ho (by omega) (ho (by omega) s6)))))
    have g6:∀ B2 B3 B4 r s t,bget (((bset (bset (bset h (q+2) B2) (q+3) B3) (q+4) B4++r)++s)++t) 1=_:=fun B2 B3 B4 r s t=>bget_app (bget_app (bget_app (ho (by omega) (ho (by omega) (ho (by omega) c1)))))
    have g7:∀ B2 B3 B4 r s t,bget (((bset (bset (bset h (q+2) B2) (q+3) B3) (q+4) B4++r)++s)++t) 0=_:=fun B2 B3 B4 r s t=>bget_app (bget_app (bget_app (ho (by omega) (ho (by omega) (ho (by omega) c0)))))
    have g8:∀ B2 B3 B4 B5 r s t,bget (((bset (bset (bset (bset h (q+2) B2) (q+3) B3) (q+4) B4) (q+5) B5++r)++s)++t) 1=_:=fun B2 B3 B4 B5 r s t=>bget_app (bget_app (bget_app (ho (by omega) (ho (by omega) (ho (by omega) (ho (by omega) c1))))))
    dsimp only [vQ]
    repeat' (first
 | (conv=>whnf)
   first
   | refine Bnd.eq hkw ?_
   | refine Bnd.eq haw ?_
   | refine Bnd.eq hlw ?_
   | (refine Br.decT ?_ ?_;(focus first | assumption | omega))
   | refine fLen.mk ?_
   | refine fB.i0 ?_
   | refine fB.i1 ?_
   | refine Idx.nat hkl ?_
   | refine Req.mk h0l ?_
   | refine Req.mk h64 ?_
   | refine Req.mk hsh ?_
   | refine Get.mk _ hc1 ?_
   | refine Get.mk _ hcp ?_
   | refine Get.mk _ c0 ?_
   | refine Req.mk z2 ?_
   | refine Req.mk z3 ?_
   | refine Req.mk z4 ?_
   | refine Req.mk z5 ?_
   | refine Req.mk e2 ?_
   | refine Req.mk e3 ?_
   | refine Req.mk e4 ?_
   | refine Req.mk e5 ?_
   | refine Get.mk _ (bget_app s3) ?_
   | refine Get.mk _ (g3 _ _) ?_
   | refine Get.mk _ (g4 _ _ _ _) ?_
   | refine Get.mk _ (g1 _ _ _ _) ?_
   | refine Get.mk _ (g5 _ _ _ _ _ _) ?_
   | refine Get.mk _ (g6 _ _ _ _ _ _) ?_
   | refine Get.mk _ (g7 _ _ _ _ _ _) ?_
   | refine Get.mk _ (g8 _ _ _ _ _ _ _) ?_
   | refine fB.as (bset_app l2) ?_
   | refine fB.as (bset_app (l3 _)) ?_
   | refine fB.as (bset_app2 (l4 _ _)) ?_
   | refine fB.as (bset_app3 (l5' _ _ _)) ?_
   | refine fB.as (bset_app3 (l1 _ _ _ _)) ?_
   | refine fB.mk ?_
   | refine Bnd.any ?_
   | (refine Ifz.pos ?_ ?_;(focus omega))
   | refine Get.mk _ rfl ?_
   | (refine Req.mk ?_ ?_;(focus first | rfl | decide | exact ⟨rfl,rfl⟩ | exact ⟨rfl,by decide⟩ | exact (fun _=>rfl) | exact (fun h=>nomatch h) | (simp;done) | omega | (simp [big];done) | exact le_big (by omega) | exact lt_big (by omega))))
    all_goals try (exfalso;omega;done)
    have hn1:(ksT b (k+1)).length=(ksT b k).length+1:=by rw [ksT_t hbb,List.length_append];rfl
    have hms:∀ (es d n m:Nat),m=es→V.ms es (q+d) (n * es+m) 0 (n+1) false=vQ es d (n+1) (some q):=fun es d n m e=>by
     subst e
     show V.ms m (q+d) (n * m+m) 0 (n+1) false=V.ms m (q+d) ((n+1) * m) 0 (n+1) false
     rw [Nat.succ_mul]
    have e14:V.ms 1 (q+2) ((ksT b k).length * 1+[V.int .i64 (atT b x.l k)].length) 0 ((ksT b k).length+1) false=vQ 1 2 (ksT b (k+1)).length (some q):=by rw [hn1];exact hms 1 2 _ _ rfl
    have e15:V.ms 1 (q+3) ((ksT b k).length * 1+[V.int .i64 (leT b x.l k)].length) 0 ((ksT b k).length+1) false=vQ 1 3 (ksT b (k+1)).length (some q):=by rw [hn1];exact hms 1 3 _ _ rfl
    have e16:V.ms 2 (q+4) ((ksT b k).length * 2+[V.int .i64 (k:Nat),.int .i64 ((ksT b k).length:Nat)].length) 0 ((ksT b k).length+1) false=vQ 2 4 (ksT b (k+1)).length (some q):=by rw [hn1];exact hms 2 4 _ _ rfl
    have e17:V.ms 2 (q+5) ((ksT b k).length * 2+[V.int .i64 u.1,.int .i64 u.2].length) 0 ((ksT b k).length+1) false=vQ 2 5 (ksT b (k+1)).length (some q):=by rw [hn1];exact hms 2 5 _ _ rfl
    refine NextP.of (fun N=>(⟨k+1,v,some q,N⟩:CA)) ⟨hk,norm_len ?_,CI.norm ?_ (CI.keepS' (x:=x) (k:=k) (q:=q) ci hbb rfl ?_ ?_ ?_ ?_ ?_) rfl rfl rfl e14 e15 e16⟩ ?_ ?_
    ·exact lenU3 (by rw [bset_len,bset_len,bset_len,bset_len,bset_len];exact w2)
    ·exact lenU3 (by rw [bset_len,bset_len,bset_len,bset_len,bset_len];exact w2)
    ·rw [bT_t hbb];exact (intC_app (l:=bT b x.l k) (m:=[atT b x.l k])).symm
    ·rw [aT_t hbb];exact (intC_app (l:=aT b x.l k) (m:=[leT b x.l k])).symm
    ·rw [wan_t hbb,shC_appS];rfl
    ·rw [kT_t hbb,hud,shC_appS];rfl
    ·rw [← e17]
    ·show x.l.length - (k+1)<x.l.length - k
     omega
    ·dsimp only
     rw [e14,e15,e16]
     rfl
  ·have hbb:bitB b k=false:=decide_eq_false hbt
   unfold bitE at hbt
   have hks:=ksT_f hbb
   have hle:=leT_f (l:=x.l) hbb
   have c1a:∀ r,bget (h++r) 1=_:=fun r=>bget_app c1
   have c0a:∀ r,bget (h++r) 0=_:=fun r=>bget_app c0
   obtain ⟨A,hA⟩:∃ A,A=atT b x.l (k+1):=⟨_,rfl⟩
   have hA2:A=atT b x.l k+u.2:=by rw [hA,atT_S,hud]
   rw [← hA] at haw
   have hsb:IntKind.i64.wrap (A - 1)=A - 1:=wrap_i64 (by omega) (by omega)
   have hlw:IntKind.i64.wrap (leT b x.l k+u.2)=leT b x.l k+u.2:=wrap_i64 (by omega) (by omega)
   have hlw2:IntKind.i64.wrap (leT b x.l k+u.2 - 1)=leT b x.l k+u.2 - 1:=wrap_i64 (by omega) (by omega)
   have hcn:=cuT_len (b:=b) (back:=back) (l:=x.l) (k:=k)
   have hCl:(shC (cuT b back x.l k)).length=(cuT b back x.l k).length * 2:=shC_length _
   cases back with
   | true =>
    have hcu:=cuT_fB (l:=x.l) hbb
    rw [hud, ← hA2] at hcu
    rcases ci.lC with ⟨e7,e8⟩ | ⟨e7,e8⟩ | ⟨q,e7,e8,e9⟩
    ·subst e8
     repeat' (first
 | (conv=>whnf)
   first
   | refine Bnd.eq hkw ?_
   | refine Bnd.eq haw ?_
   | refine Bnd.eq hsb ?_
   | refine Br.t ?_
   | (refine Br.decT ?_ ?_;(focus first | assumption | omega))
   | (refine Br.decF ?_ ?_;(focus first | assumption | omega))
   | refine fLen.mk ?_
   | refine fB.i0 ?_
   | refine fB.i1 ?_
   | refine Idx.nat hkl ?_
   | refine Req.mk h0l ?_
   | refine Req.mk h64 ?_
   | refine Req.mk hsh ?_
   | refine Get.mk _ hc1 ?_
   | refine Get.mk _ c0 ?_
   | refine Req.mk ⟨rfl,bget_new (i:=0)⟩ ?_
   | refine fB.mk ?_
   | refine Bnd.any ?_
   | refine Ifz.zero ?_
   | refine Get.mk _ rfl ?_
   | (refine Req.mk ?_ ?_;(focus first | rfl | decide | exact ⟨rfl,rfl⟩ | exact ⟨rfl,by decide⟩ | exact (fun _=>rfl) | exact (fun h=>nomatch h) | (simp;done) | omega | (simp [big];done) | exact le_big (by omega) | exact lt_big (by omega))))
     all_goals try (exfalso;omega;done)
     rw [e7] at hcu
     have hci:=(ci.cutV hbb hcu (by simp)).unb (n:=1)
     refine NextP.of (fun N=>(⟨k+1,_,o,N⟩:CA)) ⟨hk,norm_len ?_,CI.norm ?_ hci rfl rfl rfl (by rw [hks];rfl) (by rw [hks];rfl) (by rw [hks];rfl)⟩ ?_ ?_
     ·exact (show 2≤List.length (_++_) by rw [List.length_append];omega)
     ·exact (show 2≤List.length (_++_) by rw [List.length_append];omega)
     ·show x.l.length - (k+1)<x.l.length - k
      omega
     ·dsimp only
      rw [hks,hle, ← hA]
      rfl
    ·subst e8
     have hlt:([V.int .i64 (atT b x.l k),.int .i64 (A - 1)].length+(shC (cuT b true x.l k)).length) * (16+1)<big:=by rw [hCl];show (2+(cuT b true x.l k).length * 2) * 17<68719476736;omega
     have hsc:true=true→scalars ([V.int .i64 (atT b x.l k),.int .i64 (A - 1)]++shC (cuT b true x.l k))=true:=fun _=>scal_sh ((atT b x.l k,A - 1) :: cuT b true x.l k)
     have hn0:(cuT b true x.l k).length≠0:=fun e=>e7 (List.eq_nil_of_length_eq_zero e)
     repeat' (first
 | (conv=>whnf)
   first
   | refine Bnd.eq hkw ?_
   | refine Bnd.eq haw ?_
   | refine Bnd.eq hsb ?_
   | refine Br.t ?_
   | (refine Br.decT ?_ ?_;(focus first | assumption | omega))
   | (refine Br.decF ?_ ?_;(focus first | assumption | omega))
   | refine fLen.mk ?_
   | refine fB.i0 ?_
   | refine fB.i1 ?_
   | refine Idx.nat hkl ?_
   | refine Req.mk h0l ?_
   | refine Req.mk h64 ?_
   | refine Req.mk hsh ?_
   | refine Get.mk _ hc1 ?_
   | refine Get.mk _ c0 ?_
   | refine Req.mk hCl ?_
   | refine Req.mk hlt ?_
   | refine Req.mk hsc ?_
   | refine Ifz.pos hn0 ?_
   | refine Req.mk ⟨rfl,bget_new (i:=0)⟩ ?_
   | refine Get.newj 0 rfl rfl ?_
   | refine fB.newj 0 rfl ?_
   | refine fB.mk ?_
   | refine Bnd.any ?_
   | refine Get.mk _ rfl ?_
   | (refine Req.mk ?_ ?_;(focus first | rfl | decide | exact ⟨rfl,rfl⟩ | exact ⟨rfl,by decide⟩ | exact (fun _=>rfl) | exact (fun h=>nomatch h) | (simp;done) | omega | (simp [big];done) | exact le_big (by omega) | exact lt_big (by omega))))
     all_goals try (exfalso;omega;done)
     have hci:=ci.cut hbb hcu (by simp)
     have hV:V.ms 2 (h.length+0+0) ([V.int .i64 (atT b x.l k),.int .i64 (A - 1)].length+(shC (cuT b true x.l k)).length) 0 (1+(cuT b true x.l k).length) false=V.ms 2 h.length (((atT b x.l k,A - 1) :: cuT b true x.l k).length * 2) 0 ((atT b x.l k,A - 1) :: cuT b true x.l k).length false:=by
      rw [hCl]
      show V.ms 2 h.length (2+(cuT b true x.l k).length * 2) 0 (1+(cuT b true x.l k).length) false=V.ms 2 h.length (((cuT b true x.l k).length+1) * 2) 0 ((cuT b true x.l k).length+1) false
      rw [Nat.succ_mul,Nat.add_comm 2,Nat.add_comm 1]
     rw [← hV] at hci
     refine NextP.of (fun N=>(⟨k+1,_,o,N⟩:CA)) ⟨hk,norm_len ?_,CI.norm ?_ hci rfl rfl rfl (by rw [hks];rfl) (by rw [hks];rfl) (by rw [hks];rfl)⟩ ?_ ?_
     ·exact (show 2≤List.length (_++_) by rw [List.length_append];omega)
     ·exact (show 2≤List.length (_++_) by rw [List.length_append];omega)
     ·show x.l.length - (k+1)<x.l.length - k
      omega
     ·dsimp only
      rw [hks,hle, ← hA]
      rfl
    ·subst e8
     have hlt:([V.int .i64 (atT b x.l k),.int .i64 (A - 1)].length+(shC (cuT b true x.l k)).length) * (16+1)<big:=by rw [hCl];show (2+(cuT b true x.l k).length * 2) * 17<68719476736;omega
     have hsc:true=true→scalars ([V.int .i64 (atT b x.l k),.int .i64 (A - 1)]++shC (cuT b true x.l k))=true:=fun _=>scal_sh ((atT b x.l k,A - 1) :: cuT b true x.l k)
     have hn0:(cuT b true x.l k).length≠0:=fun e=>e7 (List.eq_nil_of_length_eq_zero e)
     have hgC:∀ r,bget (h++r) (q+2)=_:=fun r=>bget_app e9
     repeat' (first
 | (conv=>whnf)
   first
   | refine Bnd.eq hkw ?_
   | refine Bnd.eq haw ?_
   | refine Bnd.eq hsb ?_
   | refine Br.t ?_
   | (refine Br.decT ?_ ?_;(focus first | assumption | omega))
   | (refine Br.decF ?_ ?_;(focus first | assumption | omega))
   | refine fLen.mk ?_
   | refine fB.i0 ?_
   | refine fB.i1 ?_
   | refine Idx.nat hkl ?_
   | refine Req.mk h0l ?_
   | refine Req.mk h64 ?_
   | refine Req.mk hsh ?_
   | refine Get.mk _ hc1 ?_
   | refine Get.mk _ c0 ?_
   | refine Req.mk hCl ?_
   | refine Req.mk hlt ?_
   | refine Req.mk hsc ?_
   | refine Ifz.pos hn0 ?_
   | refine Req.mk ⟨rfl,bget_new (i:=0)⟩ ?_
   | refine Get.mk _ (hgC _) ?_
   | refine Get.mk _ (part_all hCl) ?_
   | refine Get.newj 0 rfl rfl ?_
   | refine fB.newj 0 rfl ?_
   | refine fB.mk ?_
   | refine Bnd.any ?_
   | refine Get.mk _ rfl ?_
   | (refine Req.mk ?_ ?_;(focus first | rfl | decide | exact ⟨rfl,rfl⟩ | exact ⟨rfl,by decide⟩ | exact (fun _=>rfl) | exact (fun h=>nomatch h) | (simp;done) | omega | (simp [big];done) | exact le_big (by omega) | exact lt_big (by omega))))
     all_goals try (exfalso;omega;done)
     have hci:=ci.cut hbb hcu (by simp)
     have hV:V.ms 2 (h.length+0+0) ([V.int .i64 (atT b x.l k),.int .i64 (A - 1)].length+(shC (cuT b true x.l k)).length) 0 (1+(cuT b true x.l k).length) false=V.ms 2 h.length (((atT b x.l k,A - 1) :: cuT b true x.l k).length * 2) 0 ((atT b x.l k,A - 1) :: cuT b true x.l k).length false:=by
      rw [hCl]
      show V.ms 2 h.length (2+(cuT b true x.l k).length * 2) 0 (1+(cuT b true x.l k).length) false=V.ms 2 h.length (((cuT b true x.l k).length+1) * 2) 0 ((cuT b true x.l k).length+1) false
      rw [Nat.succ_mul,Nat.add_comm 2,Nat.add_comm 1]
     rw [← hV] at hci
     refine NextP.of (fun N=>(⟨k+1,_,o,N⟩:CA)) ⟨hk,norm_len ?_,CI.norm ?_ hci rfl rfl rfl (by rw [hks];rfl) (by rw [hks];rfl) (by rw [hks];rfl)⟩ ?_ ?_
     ·exact (show 2≤List.length (_++_) by rw [List.length_append];omega)
     ·exact (show 2≤List.length (_++_) by rw [List.length_append];omega)
     ·show x.l.length - (k+1)<x.l.length - k
      omega
     ·dsimp only
      rw [hks,hle, ← hA]
      rfl
   | false =>
    have hcu:=cuT_fF (l:=x.l) hbb
    rw [hud] at hcu
    rcases ci.lC with ⟨e7,e8⟩ | ⟨e7,e8⟩ | ⟨q,e7,e8,e9⟩
    ·subst e8
     repeat' (first
 | (conv=>whnf)
   first
   | refine Bnd.eq hkw ?_
   | refine Bnd.eq haw ?_
   | refine Bnd.eq hlw ?_
   | refine Bnd.eq hlw2 ?_
   | refine Br.f ?_
   | (refine Br.decT ?_ ?_;(focus first | assumption | omega))
   | (refine Br.decF ?_ ?_;(focus first | assumption | omega))
   | refine fLen.mk ?_
   | refine fB.i0 ?_
   | refine fB.i1 ?_
   | refine Idx.nat hkl ?_
   | refine Req.mk h0l ?_
   | refine Req.mk h64 ?_
   | refine Req.mk hsh ?_
   | refine Get.mk _ hc1 ?_
   | refine Get.mk _ c0 ?_
   | refine Req.mk (bget_new (i:=0)) ?_
   | refine Get.newj 0 rfl rfl ?_
   | refine fB.newj 0 rfl ?_
   | refine fB.mk ?_
   | refine Bnd.any ?_
   | (refine Ifz.pos ?_ ?_;(focus omega))
   | refine Get.mk _ rfl ?_
   | (refine Req.mk ?_ ?_;(focus first | rfl | decide | exact ⟨rfl,rfl⟩ | exact ⟨rfl,by decide⟩ | exact (fun _=>rfl) | exact (fun h=>nomatch h) | (simp;done) | omega | (simp [big];done) | exact le_big (by omega) | exact lt_big (by omega))))
     all_goals try (exfalso;omega;done)
     rw [e7] at hcu
     have hci:=ci.cut hbb hcu (by simp)
     refine NextP.of (fun N=>(⟨k+1,_,o,N⟩:CA)) ⟨hk,norm_len ?_,CI.norm ?_ hci rfl rfl rfl (by rw [hks];rfl) (by rw [hks];rfl) (by rw [hks];rfl)⟩ ?_ ?_
     ·exact (show 2≤List.length (_++_) by rw [List.length_append];omega)
     ·exact (show 2≤List.length (_++_) by rw [List.length_append];omega)
     ·show x.l.length - (k+1)<x.l.length - k
      omega
     ·dsimp only
      rw [hks,hle, ← hA]
      rfl
    ·subst e8
     have hlt:((shC (cuT b false x.l k)).length+[V.int .i64 (leT b x.l k),.int .i64 (leT b x.l k+u.2 - 1)].length) * (16+1)<big:=by rw [hCl];show ((cuT b false x.l k).length * 2+2) * 17<68719476736;omega
     have hsc:true=true→scalars (shC (cuT b false x.l k)++[V.int .i64 (leT b x.l k),.int .i64 (leT b x.l k+u.2 - 1)])=true:=fun _=>by
      have:=scal_sh (cuT b false x.l k++[(leT b x.l k,leT b x.l k+u.2 - 1)])
      rwa [shC_appS] at this
     repeat' (first
 | (conv=>whnf)
   first
   | refine Bnd.eq hkw ?_
   | refine Bnd.eq haw ?_
   | refine Bnd.eq hlw ?_
   | refine Bnd.eq hlw2 ?_
   | refine Br.f ?_
   | (refine Br.decT ?_ ?_;(focus first | assumption | omega))
   | (refine Br.decF ?_ ?_;(focus first | assumption | omega))
   | refine fLen.mk ?_
   | refine fB.i0 ?_
   | refine fB.i1 ?_
   | refine Idx.nat hkl ?_
   | refine Req.mk h0l ?_
   | refine Req.mk h64 ?_
   | refine Req.mk hsh ?_
   | refine Get.mk _ hc1 ?_
   | refine Get.mk _ c0 ?_
   | refine Req.mk hlt ?_
   | refine Req.mk hsc ?_
   | refine Req.mk ⟨hCl,bget_new (i:=0)⟩ ?_
   | refine Get.newj 0 rfl rfl ?_
   | refine fB.newj 0 rfl ?_
   | refine fB.mk ?_
   | refine Bnd.any ?_
   | (refine Ifz.pos ?_ ?_;(focus omega))
   | refine Get.mk _ rfl ?_
   | (refine Req.mk ?_ ?_;(focus first | rfl | decide | exact ⟨rfl,rfl⟩ | exact ⟨rfl,by decide⟩ | exact (fun _=>rfl) | exact (fun h=>nomatch h) | (simp;done) | omega | (simp [big];done) | exact le_big (by omega) | exact lt_big (by omega))))
     all_goals try (exfalso;omega;done)
     have hci:=ci.cut hbb hcu (by simp)
     have hV:V.ms 2 (h.length+0+0) ((shC (cuT b false x.l k)).length+[V.int .i64 (leT b x.l k),.int .i64 (leT b x.l k+u.2 - 1)].length) 0 ((cuT b false x.l k).length+1) false=V.ms 2 h.length ((cuT b false x.l k++[(leT b x.l k,leT b x.l k+u.2 - 1)]).length * 2) 0 (cuT b false x.l k++[(leT b x.l k,leT b x.l k+u.2 - 1)]).length false:=by
      rw [hCl,List.length_append]
      show V.ms 2 h.length ((cuT b false x.l k).length * 2+2) 0 ((cuT b false x.l k).length+1) false=V.ms 2 h.length (((cuT b false x.l k).length+1) * 2) 0 ((cuT b false x.l k).length+1) false
      rw [Nat.succ_mul]
     rw [← hV,shC_appS] at hci
     refine NextP.of (fun N=>(⟨k+1,_,o,N⟩:CA)) ⟨hk,norm_len ?_,CI.norm ?_ hci rfl rfl rfl (by rw [hks];rfl) (by rw [hks];rfl) (by rw [hks];rfl)⟩ ?_ ?_
     ·exact (show 2≤List.length (_++_) by rw [List.length_append];omega)
     ·exact (show 2≤List.length (_++_) by rw [List.length_append];omega)
     ·show x.l.length - (k+1)<x.l.length - k
      omega
     ·dsimp only
      rw [hks,hle, ← hA]
      rfl
    ·subst e8
     have hgC:∀ r,bget (h++r) (q+2)=_:=fun r=>bget_app e9
     have e2:0+(cuT b false x.l k).length * 2=(cuT b false x.l k).length * 2∧((shC (cuT b false x.l k)).length+[V.int .i64 (leT b x.l k),.int .i64 (leT b x.l k+u.2 - 1)].length) * (16+1)<big:=⟨Nat.zero_add _,by rw [hCl];show ((cuT b false x.l k).length * 2+2) * 17<68719476736;omega⟩
     have lq:=bget_lt e9
     repeat' (first
 | (conv=>whnf)
   first
   | refine Bnd.eq hkw ?_
   | refine Bnd.eq haw ?_
   | refine Bnd.eq hlw ?_
   | refine Bnd.eq hlw2 ?_
   | refine Br.f ?_
   | (refine Br.decT ?_ ?_;(focus first | assumption | omega))
   | (refine Br.decF ?_ ?_;(focus first | assumption | omega))
   | refine fLen.mk ?_
   | refine fB.i0 ?_
   | refine fB.i1 ?_
   | refine Idx.nat hkl ?_
   | refine Req.mk h0l ?_
   | refine Req.mk h64 ?_
   | refine Req.mk hsh ?_
   | refine Get.mk _ hc1 ?_
   | refine Get.mk _ c0 ?_
   | refine Req.mk hCl ?_
   | refine Get.mk _ (hgC _) ?_
   | refine Req.mk e2 ?_
   | refine fB.as (bset_app lq) ?_
   | refine fB.mk ?_
   | refine Bnd.any ?_
   | (refine Ifz.pos ?_ ?_;(focus omega))
   | refine Get.mk _ rfl ?_
   | (refine Req.mk ?_ ?_;(focus first | rfl | decide | exact ⟨rfl,rfl⟩ | exact ⟨rfl,by decide⟩ | exact (fun _=>rfl) | exact (fun h=>nomatch h) | (simp;done) | omega | (simp [big];done) | exact le_big (by omega) | exact lt_big (by omega))))
     all_goals try (exfalso;omega;done)
     have hci:=CI.cutG e7 ci rfl hbb hcu
     have hV:V.ms 2 (q+2) ((cuT b false x.l k).length * 2+[V.int .i64 (leT b x.l k),.int .i64 (leT b x.l k+u.2 - 1)].length) 0 ((cuT b false x.l k).length+1) false=V.ms 2 (q+2) ((cuT b false x.l k++[(leT b x.l k,leT b x.l k+u.2 - 1)]).length * 2) 0 (cuT b false x.l k++[(leT b x.l k,leT b x.l k+u.2 - 1)]).length false:=by
      rw [List.length_append]
      show V.ms 2 (q+2) ((cuT b false x.l k).length * 2+2) 0 ((cuT b false x.l k).length+1) false=V.ms 2 (q+2) (((cuT b false x.l k).length+1) * 2) 0 ((cuT b false x.l k).length+1) false
      rw [Nat.succ_mul]
     rw [← hV,shC_appS] at hci
     replace hci:=hci.unb (n:=1)
     refine NextP.of (fun N=>(⟨k+1,_,o,N⟩:CA)) ⟨hk,norm_len ?_,CI.norm ?_ hci rfl rfl rfl (by rw [hks];rfl) (by rw [hks];rfl) (by rw [hks];rfl)⟩ ?_ ?_
     ·exact (show 2≤List.length (bset _ _ _++_) by rw [List.length_append,bset_len];omega)
     ·exact (show 2≤List.length (bset _ _ _++_) by rw [List.length_append,bset_len];omega)
     ·show x.l.length - (k+1)<x.l.length - k
      omega
     ·dsimp only
      rw [hks,hle, ← hA]
      rfl
 obtain rfl:k=x.l.length:=by omega
 have hlb:=leT_bd (b:=b) hfr (Nat.le_refl _)
 have hcn:=cuT_len (b:=b) (back:=back) (l:=x.l) (k:=x.l.length)
 have hCl:(shC (cuT b back x.l x.l.length)).length=(cuT b back x.l x.l.length).length * 2:=shC_length _
 by_cases h30:30<(cuT b back x.l x.l.length).length
 ·rcases ci.lC with ⟨e7,e8⟩ | ⟨e7,e8⟩ | ⟨q,e7,e8,e9⟩
  ·rw [e7] at h30;exact absurd h30 (by decide)
  all_goals
   subst e8
   repeat' (first
 | (conv=>whnf)
   first
   | (refine Br.decT ?_ ?_;(focus first | assumption | omega))
   | (refine Br.decF ?_ ?_;(focus first | assumption | omega))
   | refine fLen.mk ?_
   | refine fB.i0 ?_
   | refine fB.mk ?_
   | refine Get.mk _ ci.b0 ?_
   | refine call_fun rfl rfl hAw (.inl rfl) ?_
   | refine Get.mk _ rfl ?_
   | refine Leaves.of ?_
   | refine Vw.bool ?_
   | (refine Req.mk ?_ ?_;(focus first | rfl | decide | exact ⟨rfl,rfl⟩ | exact ⟨rfl,by decide⟩ | exact (fun _=>rfl) | exact (fun h=>nomatch h) | (simp;done) | omega | (simp [big];done) | exact le_big (by omega) | exact lt_big (by omega))))
   all_goals first | rfl | (exfalso;omega;done)
 have c0:=ci.b0
 have hS1:1≤atT b x.l x.l.length:=by omega
 have hS2:atT b x.l x.l.length≤200000:=by omega
 have hC3:(cuT b back x.l x.l.length).length≤30:=by omega
 obtain ⟨cc,hvw⟩:=ci.lC.view (d:=62)
 have hvs:∀ n fr,views h depth [.int .i64 n,v,.int .i64 fr]=some [.int .i64 n,.sl cc (cuT b back x.l x.l.length).length (shC (cuT b back x.l x.l.length)),.int .i64 fr]:=fun n fr=>(VwL.cons (h:=h) (d:=64) (Vw.int rfl) (VwL.cons hvw (VwL.cons (Vw.int rfl) VwL.nil))).1
 have haf:∀ fr,Fun FB9 md 6 [.int .i64 (atT b x.l x.l.length),.sl cc (cuT b back x.l x.l.length).length (shC (cuT b back x.l x.l.length)),.int .i64 fr] (.tup [.int .i64 (afV (atT b x.l x.l.length) (cuT b back x.l x.l.length) fr).1,.int .i64 (afV (atT b x.l x.l.length) (cuT b back x.l x.l.length) fr).2]):=fun fr=>(((after_ok (f:=atT b x.l x.l.length) (fr:=fr) (c:=cc) (l:=cuT b back x.l x.l.length)).tab sub1).tab sub2).tab sub9
 have hbe:∀ fr,Fun FB9 md 7 [.int .i64 (atT b x.l x.l.length),.sl cc (cuT b back x.l x.l.length).length (shC (cuT b back x.l x.l.length)),.int .i64 fr] (.tup [.int .i64 (beV (atT b x.l x.l.length) (cuT b back x.l x.l.length) fr).1,.int .i64 (beV (atT b x.l x.l.length) (cuT b back x.l x.l.length) fr).2]):=fun fr=>(((bench_before_ok (f:=atT b x.l x.l.length) (fr:=fr) (c:=cc) (l:=cuT b back x.l x.l.length)).tab sub1).tab sub2).tab sub9
 have hend:Fun FB9 md 7 [.int .i64 (atT b x.l x.l.length),.sl cc (cuT b back x.l x.l.length).length (shC (cuT b back x.l x.l.length)),.int .i64 (leT b x.l x.l.length)] (.tup [.int .i64 0,.int .i64 7]):=by
  have:=hbe (leT b x.l x.l.length)
  rwa [cens_end hfr hS1 hS2 hC3] at this
 have hyv:Vw h 64 (.agg [.str x.nm,vQ 2 5 (ksT b x.l.length).length o,.int .i64 x.g]) (elA' (ptE x b)):=by
  unfold elA' ptE El.v
  cases o with
  | none =>
   have hkT:kT b x.l x.l.length=[]:=by unfold kT;rw [ci.no rfl];rfl
   rw [hkT]
   exact Vw.agg (VwL.cons (Vw.str rfl) (VwL.cons Vw.nil (VwL.cons (Vw.int rfl) VwL.nil)))
  | some q =>
   obtain ⟨s1,s2,s3,s4,s5,s6⟩:=ci.so q rfl
   have z5:(shC (kT b x.l x.l.length)).length=(ksT b x.l.length).length * 2:=by rw [shC_length,kT_len]
   have hne:kT b x.l x.l.length≠[]:=fun e=>s1 (List.eq_nil_of_length_eq_zero (by rw [← kT_len (l:=x.l),e];rfl))
   dsimp only
   rw [decide_eq_false hne,kT_len]
   exact Vw.agg (VwL.cons (Vw.str rfl) (VwL.cons (Vw.ms (d:=62) s6 z5 (part_all z5) (views_shC (d:=61) _)) (VwL.cons (Vw.int rfl) VwL.nil)))
 have hxv:Vw h 64 (.agg [.str x.nm,.sl x.c x.l.length (shC x.l),.int .i64 x.g]) (elA' x):=Vw.agg (VwL.cons (Vw.str rfl) (VwL.cons Vw.sl (VwL.cons (Vw.int rfl) VwL.nil)))
 have hvB:∀ z,views h depth [.agg [.str x.nm,.sl x.c x.l.length (shC x.l),.int .i64 x.g],.agg [.str x.nm,vQ 2 5 (ksT b x.l.length).length o,.int .i64 x.g],.int .i64 z]=some [elA' x,elA' (ptE x b),.int .i64 z]:=fun z=>(VwL.cons (h:=h) (d:=64) hxv (VwL.cons hyv (VwL.cons (Vw.int rfl) VwL.nil))).1
 have hvA:∀ z w,views h depth [.agg [.str x.nm,.sl x.c x.l.length (shC x.l),.int .i64 x.g],.agg [.str x.nm,vQ 2 5 (ksT b x.l.length).length o,.int .i64 x.g],.int .i64 z,.int .i64 w]=some [elA' x,elA' (ptE x b),.int .i64 z,.int .i64 w]:=fun z w=>(VwL.cons (h:=h) (d:=64) hxv (VwL.cons hyv (VwL.cons (Vw.int rfl) (VwL.cons (Vw.int rfl) VwL.nil)))).1
 obtain ⟨hb1,hb2⟩:=cens_best (b:=b) hx hpos
 have hB:=(((best_ok (x:=x) (y:=ptE x b) (s:=0)).tab sub1).tab sub2).tab sub9
 rw [hb1] at hB
 obtain ⟨ha1,ha2⟩:=cens_all (b:=b) hx hpos
 have hafp:∀ p∈keptL 0 0 (shS b x.l x.l.length),Fun FB9 md 6 [.int .i64 (atT b x.l x.l.length),.sl cc (cuT b back x.l x.l.length).length (shC (cuT b back x.l x.l.length)),.int .i64 p.1] (.tup [.int .i64 p.2,.int .i64 0]):=fun p hp=>by
  have:=haf p.1
  rwa [cens_after hfr hS1 hS2 hC3 hp] at this
 have hbep:∀ p∈keptL 0 0 (shS b x.l x.l.length),Fun FB9 md 7 [.int .i64 (atT b x.l x.l.length),.sl cc (cuT b back x.l x.l.length).length (shC (cuT b back x.l x.l.length)),.int .i64 p.2] (.tup [.int .i64 p.1,.int .i64 0]):=fun p hp=>by
  have:=hbe p.2
  rwa [cens_before hfr hS1 hS2 hC3 hp] at this
 clear haf hbe
 have hwan:(wantL (ksT b x.l.length) 0).map prN=wanT (ksT b x.l.length) 0:=wanL_is _ _ 0 rfl
 have hvl:∀ l:List (Nat × Nat),vLL [l] = .sl false 1 [.sl (decide (l=[])) (l.map prN).length (shC (l.map prN))]:=fun l=>by rw [List.length_map];unfold vLL;rw [decide_eq_false (by simp)];rfl
 have hsam:∀ d e f,Fun FB9 md 10 [.sl false 1 [.sl e (wanT (ksT b x.l.length) 0).length (shC (wanT (ksT b x.l.length) 0))],.sl d 1 [.sl f (wanT (ksT b x.l.length) 0).length (shC (wanT (ksT b x.l.length) 0))]] (.bool true):=fun d e f=>(((sameOne (c:=false) (d:=d) (e:=e) (f:=f) (l:=wanT (ksT b x.l.length) 0) (by rw [wanT_len];have:=ksT_le (b:=b) (k:=x.l.length);omega)).tab sub1).tab sub2).tab sub9
 generalize atT b x.l x.l.length=S at *
 rcases ci.lC with ⟨e7,e8⟩ | ⟨e7,e8⟩ | ⟨qc,e7,e8,e9⟩
 all_goals subst e8
 all_goals cases o with
 | none =>
  have hA:=all_fun (x:=x) (y:=ptE x b) (s:=0) (most:=2) ha1 rfl (by rw [ha2];simp)
  have hk0:ksT b x.l.length=[]:=ci.no rfl
  rw [ha2,hvl,hwan] at hA
  rw [hk0] at hA
  have hnil:∀ d e,Fun FB9 md 10 [.sl false 1 [.sl e (wanT [] 0).length (shC (wanT [] 0))],.sl d 1 [.nilsl]] (.bool true):=fun d e=>((sameNil.tab sub1).tab sub2).tab sub9
  repeat' (first
 | (conv=>whnf)
   first
   | refine Br.f ?_
   | (refine Br.decF ?_ ?_;(focus first | assumption | omega))
   | refine fLen.mk ?_
   | refine fB.i0 ?_
   | refine fB.mk ?_
   | refine Get.mk _ c0 ?_
   | refine Get.mk _ rfl ?_
   | (refine Req.mk ?_ ?_;(focus first | rfl | decide | exact ⟨rfl,rfl⟩ | exact ⟨rfl,by decide⟩ | exact (fun _=>rfl) | exact (fun h=>nomatch h) | (simp;done) | omega | (simp [big];done) | exact le_big (by omega) | exact lt_big (by omega))))
  all_goals try (exfalso;omega;done)
  refine LoopP.by (fun _:Unit=>True) (fun _=>[(20,.int .i64 0)]) (fun _=>h) (fun _=>0) () trivial rfl ?_
  rintro ⟨⟩ -
  dsimp only [vQ] at hvB hvA ⊢
  have c1:bget h 1=some (yB x .nilsl):=ci.b1
  have c1a:∀ r,bget (h++r) 1=_:=fun r=>bget_app c1
  have c0a:∀ r,bget (h++r) 0=_:=fun r=>bget_app c0
  repeat' (first
 | (conv=>whnf)
   first
   | refine Br.t ?_
   | refine Br.f ?_
   | (refine Br.decT ?_ ?_;(focus first | assumption | omega))
   | refine fLen.mk ?_
   | refine fB.i0 ?_
   | refine fB.i1 ?_
   | refine fB.mk ?_
   | refine Get.mk _ c0 ?_
   | refine Get.mk _ c1 ?_
   | refine call_fun rfl (hvs _ _) hend (.inr rfl) ?_
   | refine call_fun rfl (hvB _) hB (.inr rfl) ?_
   | refine call_fun rfl (hvA _ _) hA (.inl rfl) ?_
   | refine call_fun rfl rfl (hnil _ _) (.inr rfl) ?_
   | refine call_fun rfl rfl hAw (.inl rfl) ?_
   | refine Get.mk _ rfl ?_
   | refine Leaves.of ?_
   | refine Vw.bool ?_
   | (refine Req.mk ?_ ?_;(focus first | rfl | decide | exact ⟨rfl,rfl⟩ | exact ⟨rfl,by decide⟩ | exact (fun _=>rfl) | exact (fun h=>nomatch h) | (simp;done) | omega | (simp [big];done) | exact le_big (by omega) | exact lt_big (by omega))))
  all_goals first | rfl | (exfalso;omega;done)
 | some q =>
  obtain ⟨s1,s2,s3,s4,s5,s6⟩:=ci.so q rfl
  have hnl:(ksT b x.l.length).length=(wanT (ksT b x.l.length) 0).length:=wanT_len.symm
  have hnl2:(ksT b x.l.length).length=(ptE x b).l.length:=(kT_len (l:=x.l)).symm
  have hpc:(ptE x b).c=false:=decide_eq_false (fun e=>s1 (List.eq_nil_of_length_eq_zero (by rw [← kT_len (l:=x.l),e];rfl)))
  have z2:(intC (bT b x.l x.l.length)).length=(ksT b x.l.length).length * 1:=by rw [List.length_map,bT_len.1];omega
  have z3:(intC (aT b x.l x.l.length)).length=(ksT b x.l.length).length * 1:=by rw [List.length_map,bT_len.2];omega
  have z4:(shC (wanT (ksT b x.l.length) 0)).length=(ksT b x.l.length).length * 2:=by rw [shC_length,wanT_len]
  repeat' (first
 | (conv=>whnf)
   first
   | refine Br.f ?_
   | (refine Br.decF ?_ ?_;(focus first | assumption | omega))
   | refine fLen.mk ?_
   | refine fB.i0 ?_
   | refine fB.mk ?_
   | refine Get.mk _ c0 ?_
   | refine Get.mk _ rfl ?_
   | (refine Req.mk ?_ ?_;(focus first | rfl | decide | exact ⟨rfl,rfl⟩ | exact ⟨rfl,by decide⟩ | exact (fun _=>rfl) | exact (fun h=>nomatch h) | (simp;done) | omega | (simp [big];done) | exact le_big (by omega) | exact lt_big (by omega))))
  all_goals try (exfalso;omega;done)
  refine LoopP.by (fun i:Nat=>i≤(ksT b x.l.length).length) (fun i=>[(20,.int .i64 (i:Nat))]) (fun _=>h) (fun i=>(ksT b x.l.length).length - i) 0 (Nat.zero_le _) rfl ?_
  rintro i hi'
  dsimp only [vQ] at hvB hvA ⊢
  by_cases hi:i<(ksT b x.l.length).length
  ·obtain ⟨p,hp,hp1,hp2⟩:=kept_mem (l:=x.l) hi
   have hA1:=hafp p hp
   have hB1:=hbep p hp
   have hi1:i≤(ksT b x.l.length).length - 1:=by omega
   have hik:IntKind.i64.wrap ((i:Int)+1)=((i+1:Nat):Int):=by
    have:=ksT_le (b:=b) (k:=x.l.length)
    rw [wrap_i64 (by omega) (by omega)];omega
   have h0k:0<(ksT b x.l.length).length:=by omega
   have hcb:cellAt (intC (bT b x.l x.l.length)) (0+i * 1)=some (.int .i64 p.1):=by rw [cellAt_eq,Nat.zero_add,Nat.mul_one,List.getElem?_map,hp1];rfl
   have hca:cellAt (intC (aT b x.l x.l.length)) (0+i * 1)=some (.int .i64 p.2):=by rw [cellAt_eq,Nat.zero_add,Nat.mul_one,List.getElem?_map,hp2];rfl
   repeat' (first
 | (conv=>whnf)
   first
   | refine Bnd.eq hik ?_
   | refine Br.f ?_
   | (refine Br.decT ?_ ?_;(focus first | assumption | omega))
   | refine Br.not ?_
   | refine fLen.mk ?_
   | refine fB.i0 ?_
   | refine fB.mk ?_
   | refine Idx.nat hi1 ?_
   | refine Req.mk h0k ?_
   | refine Get.mk _ s3 ?_
   | refine Get.mk _ s4 ?_
   | refine Req.mk z2 ?_
   | refine Req.mk z3 ?_
   | refine Get.mk _ hcb ?_
   | refine Get.mk _ hca ?_
   | refine call_fun rfl (hvs _ _) hA1 (.inr rfl) ?_
   | refine call_fun rfl (hvs _ _) hB1 (.inr rfl) ?_
   | refine Get.mk _ rfl ?_)
   all_goals first | (exfalso;omega;done) | exact NextP.mk (i+1) hi (by omega) (norm_same rfl)
  obtain rfl:i=(ksT b x.l.length).length:=by omega
  have c1:=ci.b1
  repeat' (first
 | (conv=>whnf)
   first
   | (refine Br.decF ?_ ?_;(focus first | assumption | omega))
   | refine fLen.mk ?_
   | refine fB.i0 ?_
   | refine fB.mk ?_
   | refine Get.mk _ c0 ?_
   | refine Get.mk _ c1 ?_
   | refine call_fun rfl (hvs _ _) hend (.inr rfl) ?_
   | refine call_fun rfl (hvB _) hB (.inr rfl) ?_
   | refine Get.mk _ rfl ?_
   | (refine Req.mk ?_ ?_;(focus first | rfl | decide | exact ⟨rfl,rfl⟩ | exact ⟨rfl,by decide⟩ | exact (fun _=>rfl) | exact (fun h=>nomatch h) | (simp;done) | omega | (simp [big];done) | exact le_big (by omega) | exact lt_big (by omega))))
  all_goals try (exfalso;omega;done)
  conv=>whnf
  refine call_fz (y:=ptE x b) s6 hnl2 hpc (fun e=>s1 (List.eq_nil_of_length_eq_zero (by rw [hnl2,e];rfl))) ha1 rfl (by rw [ha2];simp) ?_
  rw [ha2,hvl,hwan]
  generalize hG:bset h (q+5) _=G
  have g4:bget G (q+4)=some (.blk (shC (wanT (ksT b x.l.length) 0)) true):=by rw [← hG,bset_other (by omega)];exact s5
  have g4a:∀ r,bget (G++r) (q+4)=_:=fun r=>bget_app g4
  have hsv:∀ (e:Bool) (h' : List B),bget h' (G.length+0+0)=some (.blk [V.ms 2 (q+4) ((ksT b x.l.length).length * 2) 0 (ksT b x.l.length).length false] false)→bget h' (q+4)=some (.blk (shC (wanT (ksT b x.l.length) 0)) true)→views h' depth [.sl false 1 [.sl e (wanT (ksT b x.l.length) 0).length (shC (wanT (ksT b x.l.length) 0))],.ms 1 (G.length+0+0) (1 * 1) 0 1 true]=some [.sl false 1 [.sl e (wanT (ksT b x.l.length) 0).length (shC (wanT (ksT b x.l.length) 0))],.sl true 1 [.sl false (wanT (ksT b x.l.length) 0).length (shC (wanT (ksT b x.l.length) 0))]]:=fun e h' b1 b2=>by
   rw [← hnl]
   exact (VwL.cons (h:=h') (d:=64) Vw.sl (VwL.cons (Vw.ms (d:=63) b1 rfl (part_all rfl) (VwL.cons (Vw.ms (d:=62) b2 z4 (part_all z4) (views_shC (d:=61) _)) VwL.nil)) VwL.nil)).1
  have hgl:=bget_lt g4
  have hsb:∀ B', bget (bset (G++[.unborn]) (G.length+0+0) B') (G.length+0+0)=some B' := fun B' => bget_same (by rw [List.length_append];try exact Nat.lt_succ_self _)
  have hsc:∀ B', bget (bset (G++[.unborn]) (G.length+0+0) B') (q+4)=some (.blk (shC (wanT (ksT b x.l.length) 0)) true):=fun B' => by rw [bset_other (by omega)];exact g4a _
  repeat' (first
 | (conv=>whnf)
   first
   | refine Br.t ?_
   | (refine Br.decT ?_ ?_;(focus first | assumption | omega))
   | refine fLen.mk ?_
   | refine fB.i1 ?_
   | refine fB.mk ?_
   | refine Get.newj 0 rfl rfl ?_
   | refine call_fun rfl (hsv _ _ (hsb _) (hsc _)) (hsam _ _ _) (.inr rfl) ?_
   | refine call_fun rfl rfl hAw (.inl rfl) ?_
   | refine Get.mk _ rfl ?_
   | refine Leaves.of ?_
   | refine Vw.bool ?_)
  all_goals first | rfl | (exfalso;omega;done)
end Go.Dr.T
