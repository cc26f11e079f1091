/- Chapter 06: the law AlignParts. -/
import Derived.Test.YtfhphjloaelgoaaGreatDoorG17
import Derived.Test.YtfhphjloaelgoaaGreatDoorG17
import Derived.Test.YtfhphjloaelgoaaGreatDoorG13
namespace Go.Dr.T
def ofU (l:List Int):List V:=l.map fun b=>.int .u64 b
theorem ofU_cell {l:List Int} {i:Nat} (h:i<l.length):cellAt (ofU l) (i * 1)=some (.int .u64 (l.getD i 0)):=by
 rw [cellAt_eq,Nat.mul_one]
 simp [ofU,List.getD,h]
def ptY (x:El) (b:Int):El:=⟨x.nm,decide (ptL b x.l 0=[]),ptL b x.l 0,x.g⟩
theorem ptY_ok {x:El} {b:Int} (hx:x.l.length≤1000000):Fun FB md 31 [elA' x,.int .u64 b] (.agg [.str x.nm,.sl (decide (ptL b x.l 0=[])) (ptL b x.l 0).length (shC (ptL b x.l 0)),.int .i64 x.g]):=by
 have h:=part_ok (x:=x) (b:=b) hx
 have e:lsP (ptL b x.l 0) = .sl (decide (ptL b x.l 0=[])) (ptL b x.l 0).length (shC (ptL b x.l 0)):=by
  unfold lsP
  split
  ·rename_i h
   rw [h]
   rfl
  ·rename_i h
   rw [decide_eq_false h]
 rw [e] at h
 exact h
theorem lvM_ne {M:List Int} (h:M≠[]):lv 0 false M = .ms 1 1 M.length 0 M.length false∧acB M=[.blk (ofInts M) true]:=by
 cases M with
 | nil=>exact absurd rfl h
 | cons y r=>exact ⟨rfl,rfl⟩
theorem elC_snI {x:El}:∀ l:List El,elC (l++[x])=elC l++[V.str x.nm,V.sl x.c x.l.length (shC x.l),V.int .i64 x.g]
 | []=>rfl
 | y :: l=>by
  have:=elC_snI (x:=x) l
  simp only [List.cons_append,elC,this]
theorem hbl_app {n:Nat}:∀ {h l:List B},hbelow n h=true→hbelow n l=true→hbelow n (h++l)=true
 | [],_,_,h2=>h2
 | b :: h,l,h1,h2=>by
  simp only [hbelow,Bool.and_eq_true,List.cons_append] at h1 ⊢
  exact ⟨h1.1,hbl_app h1.2 h2⟩
theorem hbl_all {n:Nat}:∀ {l:List B},(∀ b∈l,b.blo n=true)→hbelow n l=true
 | [],_=>rfl
 | b :: l,h=>by
  simp only [hbelow,Bool.and_eq_true]
  exact ⟨h b (by simp),hbl_all fun x hx=>h x (List.mem_cons_of_mem _ hx)⟩
theorem norm_dn {m:List Bool} {hl k:Nat} {st:St} {tm:List V} {A T:List B} (e1:masked m st.tm=tm) (e2:st.h=A++T) (hA:A.length=hl+(k+1)) (hc:hbelow A.length A=true) (hT:∀ b∈T,∀ n,b.blo n=true) (hb:blos A.length tm=true) (c:blos (hl+k) tm=false):norm m hl st=⟨tm,A⟩:=by
 have key:∀ j,j≤T.length→strip hl tm (k+1+j) (A++T.take j)=A:=by
  intro j
  induction j with
  | zero =>
   intro _
   rw [List.take_zero,List.append_nil,Nat.add_zero]
   unfold strip
   simp only [c,Bool.false_and]
   rfl
  | succ j ih =>
   intro hj
   have e:hl+(k+1+j)=A.length+j:=by omega
   have e5:(A++T.take (j+1)).take (A.length+j)=A++T.take j:=by
    rw [List.take_append,List.take_of_length_le (by omega),Nat.add_sub_cancel_left,List.take_take,Nat.min_eq_left (by omega)]
   rw [show k+1+(j+1)=(k+1+j)+1 by omega]
   unfold strip
   rw [e,e5,blos_mono (by omega) _ hb,hbl_app (hbelow_mono (by omega) _ hc) (hbl_all fun b hb' => hT b (List.mem_of_mem_take hb') _)]
   simp only [Bool.and_self,if_true]
   exact ih (by omega)
 unfold norm trunc
 rw [e1,e2,List.length_append,hA,show hl+(k+1)+T.length - hl=k+1+T.length by omega]
 have:=key T.length (Nat.le_refl _)
 rw [List.take_length] at this
 simp only [this]
theorem norm_sty {m:List Bool} {hl k:Nat} {st:St} {tm:List V} (e1:masked m st.tm=tm) (e2:st.h.length=hl+(k+1)) (c:blos (hl+k) tm=false):norm m hl st=⟨tm,st.h⟩:=by
 unfold norm trunc
 rw [e1,e2,Nat.add_sub_cancel_left]
 unfold strip
 simp only [c,Bool.false_and]
 rfl
theorem elC_blo (n:Nat):∀ l:List El,blos n (elC l)=true
 | []=>rfl
 | _ :: l=>by
  have:=elC_blo n l
  simp only [elC,blos,V.blo,Bool.true_and]
  exact this
theorem elC_blo' (n:Nat) (l:List El) (y:El):blos n (elC l++[V.str y.nm,V.sl y.c y.l.length (shC y.l),V.int .i64 y.g])=true:=by rw [← elC_snI];exact elC_blo n _
def nmI (i:Nat):List UInt8:=[97+i.toUInt8]
def yE (x:El) (b:Int) (i:Nat):El:=⟨nmI i,decide (ptL b x.l 0=[]),ptL b x.l 0,x.g⟩
def wE (x:El):El:=⟨[119,104,111,108,101],x.c,x.l,x.g⟩
def LLs (x:El) (bs:List Int):Nat→List El
 | 0=>[]
 | i+1=>LLs x bs i++[yE x (bs.getD i 0) i]
theorem LLs_len {x:El} {bs:List Int}:∀ i,(LLs x bs i).length=i
 | 0=>rfl
 | i+1=>by rw [LLs,List.length_append,LLs_len i];rfl
abbrev nmsV:V:=.sl true 7 [.str [97],.str [98],.str [99],.str [100],.str [101],.str [102],.str [103]]
theorem nms_cell {i:Nat} (h:i<7):cellAt [V.str [97],.str [98],.str [99],.str [100],.str [101],.str [102],.str [103]] (i * 1)=some (.str (nmI i)):=by
 obtain rfl | rfl | rfl | rfl | rfl | rfl | rfl:i=0∨i=1∨i=2∨i=3∨i=4∨i=5∨i=6:=by omega
 all_goals rfl
theorem els_view {H:List B} {l:List El} {id g n:Nat} (hb:bget H id=some (.blk (elC l) false)) (hg:(elC l).length=g) (hn:n=l.length):views H depth [.ms 3 id g 0 n false]=some [elsV false l]:=by
 subst hn
 have key:∀ l:List El,VwL H 63 (elC l) (elC l):=by
  intro l
  induction l with
  | nil=>exact VwL.nil
  | cons y l ih=>exact VwL.cons (Vw.str rfl) (VwL.cons Vw.sl (VwL.cons (Vw.int rfl) ih))
 have h1:Vw H depth (.ms 3 id g 0 l.length false) (elsV false l):=Vw.ms (d:=63) hb hg (part_all (elC_length l)) (key l)
 have h2:=h1.1
 unfold views
 simp only [mapO]
 rw [h2]
theorem v35 {H:List B} {v w:V} {c:Bool} {n:Nat} {cs:List V} (h:V.view H depth v=some w):views H depth [.sl c n cs,v]=some [.sl c n cs,w]:=by
 unfold views
 simp only [mapO]
 rw [h]
 rfl
theorem nm_ok {i:Nat} (h:i<7):nmOk (nmI i)=true:=by
 obtain rfl | rfl | rfl | rfl | rfl | rfl | rfl:i=0∨i=1∨i=2∨i=3∨i=4∨i=5∨i=6:=by omega
 all_goals decide +kernel
theorem nm_inj {i j:Nat} (hi:i<7) (hj:j<7) (h:nmI i=nmI j):i=j:=by
 unfold nmI at h
 simp only [List.cons.injEq,and_true] at h
 obtain rfl | rfl | rfl | rfl | rfl | rfl | rfl:i=0∨i=1∨i=2∨i=3∨i=4∨i=5∨i=6:=by omega
 all_goals
  obtain rfl | rfl | rfl | rfl | rfl | rfl | rfl:j=0∨j=1∨j=2∨j=3∨j=4∨j=5∨j=6:=by omega
 all_goals first | rfl | (exact absurd h (by decide))
theorem LLs_mem {x:El} {bs:List Int} {y:El}:∀ {i:Nat},y∈LLs x bs i→∃ j,j<i∧y=yE x (bs.getD j 0) j
 | 0,h=>by cases h
 | i+1,h=>by
  rw [LLs] at h
  rcases List.mem_append.1 h with h | h
  ·obtain ⟨j,h1,h2⟩:=LLs_mem h
   exact ⟨j,by omega,h2⟩
  ·rw [List.mem_singleton] at h
   exact ⟨i,by omega,h⟩
theorem LLs_nm {x:El} {bs:List Int}:∀ i,(LLs x bs i).map (·.nm)=(List.range i).map nmI
 | 0=>rfl
 | i+1=>by rw [LLs,List.map_append,LLs_nm i,List.range_succ,List.map_append];rfl
theorem nms_nd {i:Nat} (h:i≤7):((List.range i).map nmI).Nodup:=by
 rw [List.nodup_iff_pairwise_ne,List.pairwise_map]
 refine (List.pairwise_lt_range (n:=i)).imp_of_mem fun {a b} ha hb hab he => ?_
 rw [List.mem_range] at ha hb
 have:=nm_inj (by omega) (by omega) he
 omega
theorem marks_nd {x:El} (he:x.e=0) (hp:∀ p∈x.l,0<p.1):(x.l.map (·.1)).Nodup:=by
 obtain ⟨_,_,_,_,h2⟩:=ck_good he
 rw [List.nodup_iff_pairwise_ne,List.pairwise_iff_getElem]
 intro i j hi hj hij e
 rw [List.length_map] at hi hj
 rw [List.getElem_map,List.getElem_map] at e
 have h3:=(h2 j _ (List.getElem?_eq_getElem hj)).2.2.2.2
 have h4:=hp _ (List.getElem_mem hj)
 refine h3 (by omega) ?_
 rw [← e,List.mem_map]
 exact ⟨x.l[i],by rw [List.mem_take_iff_getElem];exact ⟨i,by omega,rfl⟩,rfl⟩
theorem yE_e {x:El} {b:Int} {i:Nat} (he:x.e=0) (hp:∀ p∈x.l,0<p.1) (hi:i<7):(yE x b i).e=0∧(known (yE x b i).l).Sublist (x.l.map (·.1)):=by
 obtain ⟨g1,g2,g3,g4,g5⟩:=ck_good he
 have hsb:=ptL_sub (b:=b) (a:=x.l) x.l.length 0 (by omega)
 rw [List.drop_zero] at hsb
 have hpp:∀ p∈ptL b x.l 0,0<p.1∧p.1≤999∧1≤p.2∧p.2≤200000:=fun p hm=>by
  have hx:=hsb.mem hm
  obtain ⟨j,hj⟩:=List.getElem?_of_mem hx
  have:=g5 j p hj
  exact ⟨hp p hx,this.2.1,this.2.2.1,this.2.2.2.1⟩
 refine ⟨ckE_part (nm_ok hi) (by simp only [outB,Bool.or_eq_false_iff,decide_eq_false_iff_not];exact ⟨by show ¬ x.g<0;omega,by show ¬ x.g > 9;omega⟩) (Nat.le_trans hsb.length_le g4) hpp ((marks_nd he hp).sublist (hsb.map _)),?_⟩
 show (known (ptL b x.l 0)).Sublist _
 rw [known_all fun p hm=>(hpp p hm).1]
 exact hsb.map _
theorem wE_e {x:El} (he:x.e=0) (hp:∀ p∈x.l,0<p.1):(wE x).e=0:=by
 obtain ⟨g1,g2,g3,g4,g5⟩:=ck_good he
 refine ckE_part (nm:=[119,104,111,108,101]) (by decide +kernel) (by simp only [outB,Bool.or_eq_false_iff,decide_eq_false_iff_not];exact ⟨by show ¬ x.g<0;omega,by show ¬ x.g > 9;omega⟩) g4 (fun p hm => ?_) (marks_nd (x:=x) he hp)
 obtain ⟨j,hj⟩:=List.getElem?_of_mem hm
 have:=g5 j p hj
 exact ⟨hp p hm,this.2.1,this.2.2.1,this.2.2.2.1⟩
theorem vld_zero {l:List El} (h1:l.length≤8) (h2:∀ y∈l,y.e=0) (h3:(l.map (·.nm)).Nodup):vldE l=0:=by
 unfold vldE
 rw [if_neg (by omega),ckd_zero h2,if_neg (by simp),dupF_no (l:=l) (pre:=[]) (by simpa using h3),if_neg (by simp)]
theorem prts_LLs {x:El} {bs:List Int} {i:Nat} (he:x.e=0) (hp:∀ p∈x.l,0<p.1) (hi:i≤7):Prts (x.l.map (·.1)) (LLs x bs i):=by
 refine ⟨marks_nd he hp,vld_zero (by rw [LLs_len];omega) (fun y hy => ?_) (by rw [LLs_nm];exact nms_nd hi),fun y hy => ?_⟩
 all_goals
  obtain ⟨j,hj,rfl⟩:=LLs_mem hy
 ·exact (yE_e he hp (by omega)).1
 ·exact (yE_e he hp (by omega)).2
theorem prts_wh {x:El} {bs:List Int} {i:Nat} (he:x.e=0) (hp:∀ p∈x.l,0<p.1) (hi:i≤7):Prts (x.l.map (·.1)) (LLs x bs i++[wE x]):=by
 have h:=prts_LLs (bs:=bs) he hp hi
 refine ⟨h.nd,vld_zero (by rw [List.length_append,LLs_len];simp;omega) (fun y hy => ?_) ?_,fun y hy => ?_⟩
 ·rcases List.mem_append.1 hy with hy | hy
  ·obtain ⟨j,hj,rfl⟩:=LLs_mem hy
   exact (yE_e he hp (by omega)).1
  ·rw [List.mem_singleton] at hy;subst hy;exact wE_e he hp
 ·rw [List.map_append,LLs_nm,List.nodup_append]
  refine ⟨nms_nd hi,by simp,fun a ha b hb => ?_⟩
  obtain ⟨j,_,rfl⟩:=List.mem_map.1 ha
  simp only [List.map_cons,List.map_nil,List.mem_singleton] at hb
  subst hb
  intro e
  have:=congrArg List.length e
  simp [nmI,wE] at this
 ·rcases List.mem_append.1 hy with hy | hy
  ·exact h.sb y hy
  ·rw [List.mem_singleton] at hy;subst hy
   show (known x.l).Sublist _
   rw [known_all hp]
   exact List.Sublist.refl _
set_option maxRecDepth 100000 in
set_option maxHeartbeats 20000000 in
theorem law_parts {x:El} {d wh:Bool} {bs:List Int} (hxl:x.l.length≤1000000) (hbl:bs.length≤1048576):Fun FB3 md 11 [elA x,.sl d bs.length (ofU bs),.bool wh] (.bool true):=by
 have hAw:=awakeB
 have hck:=((check_ok (nm:=x.nm) (c:=x.c) (l:=x.l) (g:=x.g)).tab sub1).tab sub3
 have hel:x.e=(ckE x.nm x.l x.g).2:=rfl
 rw [← hel] at hck
 generalize (ckE x.nm x.l x.g).1=e1 at hck
 refine fun_rn rfl rfl ?_
 repeat' (first
 | (conv=>whnf)
   first
   | refine Rn.seq ?_
   | refine Rn.block ?_
   | refine Rn.reg ?_
   | refine call_fun rfl rfl hck (.inl rfl) ?_
   | refine Get.mk _ rfl ?_
   | (refine Req.mk ?_ ?_;(focus first | rfl | decide | exact ⟨rfl,rfl⟩ | exact ⟨rfl,by decide⟩ | exact (fun _=>rfl) | exact (fun h=>nomatch h) | (simp;done) | omega | (simp [big];done) | exact le_big (by omega) | exact lt_big (by omega))))
 all_goals try (exfalso;omega;done)
 refine Rn.loop (fun i:Nat=>i≤x.l.length∧∀ p∈x.l.take i,0<p.1) (fun i=>[(9,lv 0 false ((x.l.take i).map (·.1))),(10,.int .i64 (i:Nat))]) (fun i=>elB x :: acB ((x.l.take i).map (·.1))) (fun i=>x.l.length - i) 0 ⟨Nat.zero_le _,by simp⟩ rfl ?_
 rintro i ⟨w1,w2⟩
 try dsimp only
 by_cases hi:i<x.l.length
 ·obtain ⟨p,hp⟩:∃ p,x.l[i]?=some p:=⟨_,List.getElem?_eq_getElem hi⟩
  have hc:=shC_cell hp
  have ht:x.l.take (i+1)=x.l.take i++[p]:=by rw [List.take_add_one,hp];rfl
  have hm:(x.l.take (i+1)).map (·.1)=(x.l.take i).map (·.1)++[p.1]:=by rw [ht,List.map_append];rfl
  have hln:((x.l.take i).map (·.1)).length≤1000000:=by rw [List.length_map,List.length_take];omega
  by_cases hpos:p.1<1
  ·cases hL:(x.l.take i).map (·.1) with
   | nil =>
    repeat' (first
 | (conv=>whnf)
   first
   | (refine Br.decT ?_ ?_;(focus first | assumption | omega))
   | refine Rn.seq ?_
   | refine Rn.block ?_
   | refine Rn.cond ?_
   | refine Rn.reg ?_
   | refine Rn.skip ?_
   | refine Rn.ret ?_
   | refine Get.mk _ hc ?_
   | refine call_fun rfl rfl hAw (.inl rfl) ?_
   | (refine Idx.nat ?_ ?_;(focus omega))
   | refine Get.mk _ rfl ?_
   | refine Leaves.of ?_
   | refine Vw.bool ?_
   | (refine Req.mk ?_ ?_;(focus first | rfl | decide | exact ⟨rfl,rfl⟩ | exact ⟨rfl,by decide⟩ | exact (fun _=>rfl) | exact (fun h=>nomatch h) | (simp;done) | omega | (simp [big];done) | exact le_big (by omega) | exact lt_big (by omega))))
    all_goals first | rfl | (exfalso;omega;done)
   | cons y r =>
    repeat' (first
 | (conv=>whnf)
   first
   | (refine Br.decT ?_ ?_;(focus first | assumption | omega))
   | refine Rn.seq ?_
   | refine Rn.block ?_
   | refine Rn.cond ?_
   | refine Rn.reg ?_
   | refine Rn.skip ?_
   | refine Rn.ret ?_
   | refine Get.mk _ hc ?_
   | refine call_fun rfl rfl hAw (.inl rfl) ?_
   | (refine Idx.nat ?_ ?_;(focus omega))
   | refine Get.mk _ rfl ?_
   | refine Leaves.of ?_
   | refine Vw.bool ?_
   | (refine Req.mk ?_ ?_;(focus first | rfl | decide | exact ⟨rfl,rfl⟩ | exact ⟨rfl,by decide⟩ | exact (fun _=>rfl) | exact (fun h=>nomatch h) | (simp;done) | omega | (simp [big];done) | exact le_big (by omega) | exact lt_big (by omega))))
    all_goals first | rfl | (exfalso;omega;done)
  ·have hn:∀ q∈x.l.take (i+1),0<q.1:=fun q hq=>by
    rw [ht] at hq
    rcases List.mem_append.1 hq with hq | hq
    ·exact w2 q hq
    ·rw [List.mem_singleton] at hq
     subst hq
     omega
   cases hL:(x.l.take i).map (·.1) with
   | nil =>
    repeat' (first
 | (conv=>whnf)
   first
   | (refine Br.decT ?_ ?_;(focus first | assumption | omega))
   | (refine Br.decF ?_ ?_;(focus first | assumption | omega))
   | (refine Bnd.i64 ?_ ?_ ?_;(focus omega);(focus omega))
   | refine Rn.seq ?_
   | refine Rn.block ?_
   | refine Rn.cond ?_
   | refine Rn.reg ?_
   | refine Rn.skip ?_
   | refine Get.mk _ hc ?_
   | (refine Idx.nat ?_ ?_;(focus omega))
   | (refine Ifz.pos ?_ ?_;(focus omega))
   | refine Get.mk _ rfl ?_
   | (refine Req.mk ?_ ?_;(focus first | rfl | decide | exact ⟨rfl,rfl⟩ | exact ⟨rfl,by decide⟩ | exact (fun _=>rfl) | exact (fun h=>nomatch h) | (simp;done) | omega | (simp [big];done) | exact le_big (by omega) | exact lt_big (by omega))))
    all_goals try (exfalso;omega;done)
    all_goals exact NextP.mk (i+1) ⟨hi,hn⟩ (by omega) (by rw [hm,hL];rfl)
   | cons y r =>
    rw [hL] at hln
    simp only [List.length_cons] at hln
    have hol:(ofInts (y :: r)).length=r.length+1:=by simp [ofInts]
    have e1:ofInts (y :: r)++[V.int .i64 p.1]=ofInts (y :: (r++[p.1])):=by simp [ofInts]
    have e2:(r++[p.1]).length=r.length+1:=by simp
    have hap:0+(r.length+1) * 1=r.length+1∧((ofInts (y :: r)).length+[V.int .i64 p.1].length) * (8+1)<big:=⟨by omega,by rw [hol];exact lt_big (by simp;omega)⟩
    repeat' (first
 | (conv=>whnf)
   first
   | (refine Br.decT ?_ ?_;(focus first | assumption | omega))
   | (refine Br.decF ?_ ?_;(focus first | assumption | omega))
   | (refine Bnd.i64 ?_ ?_ ?_;(focus omega);(focus omega))
   | refine Rn.seq ?_
   | refine Rn.block ?_
   | refine Rn.cond ?_
   | refine Rn.reg ?_
   | refine Rn.skip ?_
   | refine Get.mk _ hc ?_
   | refine Req.mk hol ?_
   | refine Req.mk hap ?_
   | (refine Idx.nat ?_ ?_;(focus omega))
   | (refine Ifz.pos ?_ ?_;(focus omega))
   | refine Get.mk _ rfl ?_
   | (refine Req.mk ?_ ?_;(focus first | rfl | decide | exact ⟨rfl,rfl⟩ | exact ⟨rfl,by decide⟩ | exact (fun _=>rfl) | exact (fun h=>nomatch h) | (simp;done) | omega | (simp [big];done) | exact le_big (by omega) | exact lt_big (by omega))))
    all_goals try (exfalso;omega;done)
    all_goals exact NextP.mk (i+1) ⟨hi,hn⟩ (by omega) (by rw [hm,hL,List.cons_append,e1];simp only [lv,e2,acB];rfl)
 have hie:i=x.l.length:=by omega
 subst hie
 rw [List.take_length] at w2 ⊢
 by_cases he:x.e=0
 rotate_left
 ·generalize x.l.map (·.1)=M at *
  cases M with
  | nil =>
   repeat' (first
 | (conv=>whnf)
   first
   | (refine Br.decF ?_ ?_;(focus first | assumption | omega))
   | refine Br.not ?_
   | refine Rn.seq ?_
   | refine Rn.cond ?_
   | refine Rn.reg ?_
   | refine Rn.exit ?_
   | refine Rn.ret ?_
   | refine call_fun rfl rfl hAw (.inl rfl) ?_
   | refine Get.mk _ rfl ?_
   | refine Leaves.of ?_
   | refine Vw.bool ?_
   | (refine Req.mk ?_ ?_;(focus first | rfl | decide | exact ⟨rfl,rfl⟩ | exact ⟨rfl,by decide⟩ | exact (fun _=>rfl) | exact (fun h=>nomatch h) | (simp;done) | omega | (simp [big];done) | exact le_big (by omega) | exact lt_big (by omega))))
   all_goals first | rfl | (exfalso;omega;done)
  | cons y r =>
   repeat' (first
 | (conv=>whnf)
   first
   | (refine Br.decF ?_ ?_;(focus first | assumption | omega))
   | refine Br.not ?_
   | refine Rn.seq ?_
   | refine Rn.cond ?_
   | refine Rn.reg ?_
   | refine Rn.exit ?_
   | refine Rn.ret ?_
   | refine call_fun rfl rfl hAw (.inl rfl) ?_
   | refine Get.mk _ rfl ?_
   | refine Leaves.of ?_
   | refine Vw.bool ?_
   | (refine Req.mk ?_ ?_;(focus first | rfl | decide | exact ⟨rfl,rfl⟩ | exact ⟨rfl,by decide⟩ | exact (fun _=>rfl) | exact (fun h=>nomatch h) | (simp;done) | omega | (simp [big];done) | exact le_big (by omega) | exact lt_big (by omega))))
   all_goals first | rfl | (exfalso;omega;done)
 obtain ⟨g1,g2,g3,g4,g5⟩:=ck_good he
 have hMl:(x.l.map (·.1)).length≤40:=by rw [List.length_map];exact g4
 by_cases hM:x.l.map (·.1)=[]
 ·rw [hM]
  dsimp only [lv,acB]
  have hvM:∀ H:List B,V.view H depth .nilsl=some (lw false (x.l.map (·.1))):=fun H=>by rw [hM];rfl
  repeat' (first
 | (conv=>whnf)
   first
   | (refine Br.decT ?_ ?_;(focus first | assumption | omega))
   | (refine Br.decF ?_ ?_;(focus first | assumption | omega))
   | refine Br.not ?_
   | refine Rn.seq ?_
   | refine Rn.block ?_
   | refine Rn.cond ?_
   | refine Rn.reg ?_
   | refine Rn.skip ?_
   | refine Rn.exit ?_
   | refine Get.mk _ rfl ?_
   | (refine Req.mk ?_ ?_;(focus first | rfl | decide | exact ⟨rfl,rfl⟩ | exact ⟨rfl,by decide⟩ | exact (fun _=>rfl) | exact (fun h=>nomatch h) | (simp;done) | omega | (simp [big];done) | exact le_big (by omega) | exact lt_big (by omega))))
  all_goals try (exfalso;omega;done)
  refine Rn.loop (fun i:Nat=>i≤bs.length∧i≤7) (fun i=>[(11,if i=0 then .nilsl else .ms 3 3 (i * 3) 0 i false),(13,.int .i64 (i:Nat))]) (fun i=>if i=0 then [elB x] else [elB x]++[elB (yE x (bs.getD 0 0) 0),.unborn,.blk (elC (LLs x bs i)) false]) (fun i=>bs.length - i) 0 ⟨Nat.zero_le _,Nat.zero_le _⟩ rfl ?_
  rintro i ⟨v1,v2⟩
  try dsimp only
  have hlc:(elC (LLs x bs i)).length=i * 3:=by rw [elC_length,LLs_len]
  by_cases hi2:i<bs.length∧i<7
  ·obtain ⟨hi,hi7⟩:=hi2
   have gb:=ofU_cell hi
   have gn:=nms_cell hi7
   have hpt:=((ptY_ok (x:=x) (b:=bs.getD i 0) hxl).tab sub1).tab sub3
   by_cases h0:i=0
   ·subst h0
    rw [if_pos rfl,if_pos rfl]
    repeat' (first
 | (conv=>whnf)
   first
   | refine Br.t ?_
   | (refine Br.decT ?_ ?_;(focus first | assumption | omega))
   | (refine Bnd.i64 ?_ ?_ ?_;(focus omega);(focus omega))
   | refine Rn.seq ?_
   | refine Rn.block ?_
   | refine Rn.cond ?_
   | refine Rn.reg ?_
   | refine Rn.skip ?_
   | refine Get.mk _ gb ?_
   | refine Get.mk _ gn ?_
   | refine call_fun rfl rfl hpt (.inl rfl) ?_
   | (refine Idx.nat ?_ ?_;(focus omega))
   | (refine Ifz.pos ?_ ?_;(focus omega))
   | refine Get.mk _ rfl ?_
   | (refine Req.mk ?_ ?_;(focus first | rfl | decide | exact ⟨rfl,rfl⟩ | exact ⟨rfl,by decide⟩ | exact (fun _=>rfl) | exact (fun h=>nomatch h) | (simp;done) | omega | (simp [big];done) | exact le_big (by omega) | exact lt_big (by omega))))
    all_goals try (exfalso;omega;done)
    all_goals exact NextP.mk (0+1) ⟨hi,hi7⟩ (by omega) (by rw [if_neg (by decide),if_neg (by decide)];exact norm_sty (k:=2) rfl rfl rfl)
   ·rw [if_neg h0,if_neg h0]
    have hap:0+i * 3=i * 3∧∀ y:El,((elC (LLs x bs i)).length+[V.str y.nm,V.sl y.c y.l.length (shC y.l),V.int .i64 y.g].length) * (48+1)<big:=⟨by omega,fun y=>by rw [hlc];exact lt_big (by simp;omega)⟩
    have hap:=(⟨hap.1,hap.2 (yE x (bs.getD i 0) i)⟩:_∧_)
    repeat' (first
 | (conv=>whnf)
   first
   | (refine Br.decT ?_ ?_;(focus first | assumption | omega))
   | (refine Bnd.i64 ?_ ?_ ?_;(focus omega);(focus omega))
   | refine Rn.seq ?_
   | refine Rn.block ?_
   | refine Rn.cond ?_
   | refine Rn.reg ?_
   | refine Rn.skip ?_
   | refine Get.mk _ gb ?_
   | refine Get.mk _ gn ?_
   | refine call_fun rfl rfl hpt (.inl rfl) ?_
   | refine Req.mk hlc ?_
   | refine Req.mk hap ?_
   | (refine Idx.nat ?_ ?_;(focus omega))
   | (refine Ifz.pos ?_ ?_;(focus omega))
   | refine Get.mk _ rfl ?_
   | (refine Req.mk ?_ ?_;(focus first | rfl | decide | exact ⟨rfl,rfl⟩ | exact ⟨rfl,by decide⟩ | exact (fun _=>rfl) | exact (fun h=>nomatch h) | (simp;done) | omega | (simp [big];done) | exact le_big (by omega) | exact lt_big (by omega))))
    all_goals try (exfalso;omega;done)
    have hcA:∀ n,hbelow n ([elB x]++[elB (yE x (bs.getD 0 0) 0),.unborn,.blk (elC (LLs x bs i)++[V.str (yE x (bs.getD i 0) i).nm,V.sl (yE x (bs.getD i 0) i).c (yE x (bs.getD i 0) i).l.length (shC (yE x (bs.getD i 0) i).l),V.int .i64 (yE x (bs.getD i 0) i).g]) false])=true:=fun n=>by
     simp only [List.cons_append,List.nil_append,hbelow,B.blo,elC_blo', blos,V.blo,Bool.and_self,Bool.or_true,Bool.false_or,Bool.true_or,Bool.and_true]
    have hTT:∀ b∈[elB (yE x (bs.getD i 0) i),.unborn,.unborn],∀ n,b.blo n=true:=fun b hb n=>by
     simp only [List.mem_cons,List.not_mem_nil,or_false] at hb
     rcases hb with rfl | rfl | rfl <;> rfl
    all_goals exact NextP.mk (i+1) ⟨hi,hi7⟩ (by omega) (by rw [if_neg (by omega),if_neg (by omega),LLs,elC_snI,show (i+1) * 3=i * 3+3 by omega];exact norm_dn (k:=2) (T:=[elB (yE x (bs.getD i 0) i),.unborn,.unborn]) rfl rfl rfl (hcA _) hTT rfl rfl)
  ·have hLi:(LLs x bs i).length=i:=LLs_len i
   have hPf:wh=false→Prts (x.l.map (·.1)) (LLs x bs i):=fun _=>prts_LLs he w2 v2
   have hPt:wh=true→Prts (x.l.map (·.1)) (LLs x bs i++[wE x]):=fun _=>prts_wh he w2 v2
   have hkx:known (wE x).l=x.l.map (·.1):=known_all w2
   by_cases h0:i=0
   ·subst h0
    rw [if_pos rfl,if_pos rfl]
    cases wh with
    | false =>
     have hP:=hPf rfl
     have hWf:=wholeB_funF (c:=true) (wbk_all hP.vd (hP.round _))
     have hRf:=(roundF_ok (c:=true) hP.vd hP.rnd).tab sub3
     obtain ⟨cc,hcc⟩:=lw_sl (AL (LLs x bs 0))
     rw [hcc] at hWf
     have hvw:∀ H:List B,views H depth [.nilsl]=some [elsV true (LLs x bs 0)]:=fun H=>rfl
     repeat' (first
 | (conv=>whnf)
   first
   | refine Br.t ?_
   | refine Br.f ?_
   | (refine Br.decF ?_ ?_;(focus first | assumption | omega))
   | refine Rn.seq ?_
   | refine Rn.cond ?_
   | refine Rn.reg ?_
   | refine Rn.skip ?_
   | refine Rn.exit ?_
   | refine Rn.ret ?_
   | refine call_fun rfl rfl hAw (.inl rfl) ?_
   | refine call_fresh rfl (hvw _) hWf ?_
   | refine call_fresh rfl (hvw _) hRf ?_
   | refine Get.mk _ rfl ?_
   | refine Leaves.of ?_
   | refine Vw.bool ?_)
     all_goals first | rfl | (exfalso;omega;done) | simp
    | true =>
     have hP:=hPt rfl
     obtain ⟨hA,hO⟩:=hP.only (y:=wE x) (by simp) hkx
     have hWf:=wholeB_funF (c:=false) (wbk_all hP.vd (hP.round _))
     have hRf:=(roundF_ok (c:=false) hP.vd hP.rnd).tab sub3
     rw [hA,hO] at hWf
     obtain ⟨cc,hcc⟩:=lw_sl (x.l.map (·.1))
     rw [hcc] at hWf hvM
     have h35:=((intsE_ok (c:=cc) (d:=cc) (l:=x.l.map (·.1)) (by omega)).tab sub1).tab sub3
     have hvw0:∀ H:List B,bget H 3=some (.blk (elC (LLs x bs 0++[wE x])) false)→views H depth [.ms 3 3 3 0 1 false]=some [elsV false (LLs x bs 0++[wE x])]:=fun H h=>els_view h rfl rfl
     have hvw:=fun H h=>hvw0 H h
     repeat' (first
 | (conv=>whnf)
   first
   | refine Br.t ?_
   | refine Br.f ?_
   | (refine Br.decF ?_ ?_;(focus first | assumption | omega))
   | refine Rn.seq ?_
   | refine Rn.cond ?_
   | refine Rn.reg ?_
   | refine Rn.skip ?_
   | refine Rn.exit ?_
   | refine Rn.ret ?_
   | refine call_fun rfl rfl hAw (.inl rfl) ?_
   | refine call_fresh rfl (hvw _ rfl) hWf ?_
   | refine call_fresh rfl (hvw _ rfl) hRf ?_
   | refine call_fun rfl (v35 (hvM _)) h35 (.inr rfl) ?_
   | (refine Ifz.pos ?_ ?_;(focus omega))
   | refine Get.mk _ rfl ?_
   | refine Leaves.of ?_
   | refine Vw.bool ?_
   | (refine Req.mk ?_ ?_;(focus first | rfl | decide | exact ⟨rfl,rfl⟩ | exact ⟨rfl,by decide⟩ | exact (fun _=>rfl) | exact (fun h=>nomatch h) | (simp;done) | omega | (simp [big];done) | exact le_big (by omega) | exact lt_big (by omega))))
     all_goals first | rfl | (exfalso;omega;done) | simp
   ·rw [if_neg h0,if_neg h0]
    cases wh with
    | false =>
     have hP:=hPf rfl
     have hWf:=wholeB_funF (c:=false) (wbk_all hP.vd (hP.round _))
     have hRf:=(roundF_ok (c:=false) hP.vd hP.rnd).tab sub3
     obtain ⟨cc,hcc⟩:=lw_sl (AL (LLs x bs i))
     rw [hcc] at hWf
     have hvw:∀ H:List B,bget H 3=some (.blk (elC (LLs x bs i)) false)→views H depth [.ms 3 3 (i * 3) 0 i false]=some [elsV false (LLs x bs i)]:=fun H h=>els_view h hlc hLi.symm
     repeat' (first
 | (conv=>whnf)
   first
   | refine Br.t ?_
   | refine Br.f ?_
   | (refine Br.decT ?_ ?_;(focus first | assumption | omega))
   | (refine Br.decF ?_ ?_;(focus first | assumption | omega))
   | refine Br.dec (fun _ => ?_) (fun _ => ?_)
   | refine Rn.seq ?_
   | refine Rn.cond ?_
   | refine Rn.reg ?_
   | refine Rn.skip ?_
   | refine Rn.exit ?_
   | refine Rn.ret ?_
   | refine call_fun rfl rfl hAw (.inl rfl) ?_
   | refine call_fresh rfl (hvw _ rfl) hWf ?_
   | refine call_fresh rfl (hvw _ rfl) hRf ?_
   | refine Get.mk _ rfl ?_
   | refine Leaves.of ?_
   | refine Vw.bool ?_)
     all_goals first | rfl | (exfalso;omega;done) | simp
    | true =>
     have hP:=hPt rfl
     obtain ⟨hA,hO⟩:=hP.only (y:=wE x) (by simp) hkx
     have hWf:=wholeB_funF (c:=false) (wbk_all hP.vd (hP.round _))
     have hRf:=(roundF_ok (c:=false) hP.vd hP.rnd).tab sub3
     rw [hA,hO] at hWf
     obtain ⟨cc,hcc⟩:=lw_sl (x.l.map (·.1))
     rw [hcc] at hWf hvM
     have h35:=((intsE_ok (c:=cc) (d:=cc) (l:=x.l.map (·.1)) (by omega)).tab sub1).tab sub3
     have hap:0+i * 3=i * 3∧((elC (LLs x bs i)).length+[V.str (wE x).nm,V.sl (wE x).c (wE x).l.length (shC (wE x).l),V.int .i64 (wE x).g].length) * (48+1)<big:=⟨by omega,by rw [hlc];exact lt_big (by simp;omega)⟩
     have hvw:∀ H:List B,bget H 3=some (.blk (elC (LLs x bs i)++[V.str (wE x).nm,V.sl (wE x).c (wE x).l.length (shC (wE x).l),V.int .i64 (wE x).g]) false)→views H depth [.ms 3 3 (i * 3+[V.str (wE x).nm,V.sl (wE x).c (wE x).l.length (shC (wE x).l),V.int .i64 (wE x).g].length) 0 (i+1) false]=some [elsV false (LLs x bs i++[wE x])]:=fun H h=>els_view (by rw [elC_snI];exact h) (by rw [elC_snI,List.length_append,hlc]) (by rw [List.length_append,hLi];rfl)
     repeat' (first
 | (conv=>whnf)
   first
   | refine Br.t ?_
   | refine Br.f ?_
   | (refine Br.decT ?_ ?_;(focus first | assumption | omega))
   | (refine Br.decF ?_ ?_;(focus first | assumption | omega))
   | refine Br.dec (fun _ => ?_) (fun _ => ?_)
   | refine Rn.seq ?_
   | refine Rn.cond ?_
   | refine Rn.reg ?_
   | refine Rn.skip ?_
   | refine Rn.exit ?_
   | refine Rn.ret ?_
   | refine call_fun rfl rfl hAw (.inl rfl) ?_
   | refine Req.mk hlc ?_
   | refine Req.mk hap ?_
   | refine call_fresh rfl (hvw _ rfl) hWf ?_
   | refine call_fresh rfl (hvw _ rfl) hRf ?_
   | refine call_fun rfl (v35 (hvM _)) h35 (.inr rfl) ?_
   | (refine Ifz.pos ?_ ?_;(focus omega))
   | refine Get.mk _ rfl ?_
   | refine Leaves.of ?_
   | refine Vw.bool ?_
   | (refine Req.mk ?_ ?_;(focus first | rfl | decide | exact ⟨rfl,rfl⟩ | exact ⟨rfl,by decide⟩ | exact (fun _=>rfl) | exact (fun h=>nomatch h) | (simp;done) | omega | (simp [big];done) | exact le_big (by omega) | exact lt_big (by omega))))
     all_goals first | rfl | (exfalso;omega;done) | simp
 ·obtain ⟨e3,e4⟩:=lvM_ne hM
  have hvM:∀ H:List B,bget H 1=some (.blk (ofInts (x.l.map (·.1))) true)→V.view H depth (.ms 1 1 (x.l.map (·.1)).length 0 (x.l.map (·.1)).length false)=some (lw false (x.l.map (·.1))):=fun H h=>by rw [← e3];exact view_lv (d:=62) (fun _=>h)
  rw [e3,e4]
  repeat' (first
 | (conv=>whnf)
   first
   | (refine Br.decT ?_ ?_;(focus first | assumption | omega))
   | (refine Br.decF ?_ ?_;(focus first | assumption | omega))
   | refine Br.not ?_
   | refine Rn.seq ?_
   | refine Rn.block ?_
   | refine Rn.cond ?_
   | refine Rn.reg ?_
   | refine Rn.skip ?_
   | refine Rn.exit ?_
   | refine Get.mk _ rfl ?_
   | (refine Req.mk ?_ ?_;(focus first | rfl | decide | exact ⟨rfl,rfl⟩ | exact ⟨rfl,by decide⟩ | exact (fun _=>rfl) | exact (fun h=>nomatch h) | (simp;done) | omega | (simp [big];done) | exact le_big (by omega) | exact lt_big (by omega))))
  all_goals try (exfalso;omega;done)
  refine Rn.loop (fun i:Nat=>i≤bs.length∧i≤7) (fun i=>[(11,if i=0 then .nilsl else .ms 3 4 (i * 3) 0 i false),(13,.int .i64 (i:Nat))]) (fun i=>if i=0 then [elB x,.blk (ofInts (x.l.map (·.1))) true] else [elB x,.blk (ofInts (x.l.map (·.1))) true]++[elB (yE x (bs.getD 0 0) 0),.unborn,.blk (elC (LLs x bs i)) false]) (fun i=>bs.length - i) 0 ⟨Nat.zero_le _,Nat.zero_le _⟩ rfl ?_
  rintro i ⟨v1,v2⟩
  try dsimp only
  have hlc:(elC (LLs x bs i)).length=i * 3:=by rw [elC_length,LLs_len]
  by_cases hi2:i<bs.length∧i<7
  ·obtain ⟨hi,hi7⟩:=hi2
   have gb:=ofU_cell hi
   have gn:=nms_cell hi7
   have hpt:=((ptY_ok (x:=x) (b:=bs.getD i 0) hxl).tab sub1).tab sub3
   by_cases h0:i=0
   ·subst h0
    rw [if_pos rfl,if_pos rfl]
    repeat' (first
 | (conv=>whnf)
   first
   | refine Br.t ?_
   | (refine Br.decT ?_ ?_;(focus first | assumption | omega))
   | (refine Bnd.i64 ?_ ?_ ?_;(focus omega);(focus omega))
   | refine Rn.seq ?_
   | refine Rn.block ?_
   | refine Rn.cond ?_
   | refine Rn.reg ?_
   | refine Rn.skip ?_
   | refine Get.mk _ gb ?_
   | refine Get.mk _ gn ?_
   | refine call_fun rfl rfl hpt (.inl rfl) ?_
   | (refine Idx.nat ?_ ?_;(focus omega))
   | (refine Ifz.pos ?_ ?_;(focus omega))
   | refine Get.mk _ rfl ?_
   | (refine Req.mk ?_ ?_;(focus first | rfl | decide | exact ⟨rfl,rfl⟩ | exact ⟨rfl,by decide⟩ | exact (fun _=>rfl) | exact (fun h=>nomatch h) | (simp;done) | omega | (simp [big];done) | exact le_big (by omega) | exact lt_big (by omega))))
    all_goals try (exfalso;omega;done)
    all_goals exact NextP.mk (0+1) ⟨hi,hi7⟩ (by omega) (by rw [if_neg (by decide),if_neg (by decide)];exact norm_sty (k:=2) rfl rfl rfl)
   ·rw [if_neg h0,if_neg h0]
    have hap:0+i * 3=i * 3∧∀ y:El,((elC (LLs x bs i)).length+[V.str y.nm,V.sl y.c y.l.length (shC y.l),V.int .i64 y.g].length) * (48+1)<big:=⟨by omega,fun y=>by rw [hlc];exact lt_big (by simp;omega)⟩
    have hap:=(⟨hap.1,hap.2 (yE x (bs.getD i 0) i)⟩:_∧_)
    repeat' (first
 | (conv=>whnf)
   first
   | (refine Br.decT ?_ ?_;(focus first | assumption | omega))
   | (refine Bnd.i64 ?_ ?_ ?_;(focus omega);(focus omega))
   | refine Rn.seq ?_
   | refine Rn.block ?_
   | refine Rn.cond ?_
   | refine Rn.reg ?_
   | refine Rn.skip ?_
   | refine Get.mk _ gb ?_
   | refine Get.mk _ gn ?_
   | refine call_fun rfl rfl hpt (.inl rfl) ?_
   | refine Req.mk hlc ?_
   | refine Req.mk hap ?_
   | (refine Idx.nat ?_ ?_;(focus omega))
   | (refine Ifz.pos ?_ ?_;(focus omega))
   | refine Get.mk _ rfl ?_
   | (refine Req.mk ?_ ?_;(focus first | rfl | decide | exact ⟨rfl,rfl⟩ | exact ⟨rfl,by decide⟩ | exact (fun _=>rfl) | exact (fun h=>nomatch h) | (simp;done) | omega | (simp [big];done) | exact le_big (by omega) | exact lt_big (by omega))))
    all_goals try (exfalso;omega;done)
    have hcA:∀ n,hbelow n ([elB x,.blk (ofInts (x.l.map (·.1))) true]++[elB (yE x (bs.getD 0 0) 0),.unborn,.blk (elC (LLs x bs i)++[V.str (yE x (bs.getD i 0) i).nm,V.sl (yE x (bs.getD i 0) i).c (yE x (bs.getD i 0) i).l.length (shC (yE x (bs.getD i 0) i).l),V.int .i64 (yE x (bs.getD i 0) i).g]) false])=true:=fun n=>by
     simp only [List.cons_append,List.nil_append,hbelow,B.blo,elC_blo', blos,V.blo,Bool.and_self,Bool.or_true,Bool.false_or,Bool.true_or,Bool.and_true]
    have hTT:∀ b∈[elB (yE x (bs.getD i 0) i),.unborn,.unborn],∀ n,b.blo n=true:=fun b hb n=>by
     simp only [List.mem_cons,List.not_mem_nil,or_false] at hb
     rcases hb with rfl | rfl | rfl <;> rfl
    all_goals exact NextP.mk (i+1) ⟨hi,hi7⟩ (by omega) (by rw [if_neg (by omega),if_neg (by omega),LLs,elC_snI,show (i+1) * 3=i * 3+3 by omega];exact norm_dn (k:=2) (T:=[elB (yE x (bs.getD i 0) i),.unborn,.unborn]) rfl rfl rfl (hcA _) hTT rfl rfl)
  ·have hLi:(LLs x bs i).length=i:=LLs_len i
   have hPf:wh=false→Prts (x.l.map (·.1)) (LLs x bs i):=fun _=>prts_LLs he w2 v2
   have hPt:wh=true→Prts (x.l.map (·.1)) (LLs x bs i++[wE x]):=fun _=>prts_wh he w2 v2
   have hkx:known (wE x).l=x.l.map (·.1):=known_all w2
   by_cases h0:i=0
   ·subst h0
    rw [if_pos rfl,if_pos rfl]
    cases wh with
    | false =>
     have hP:=hPf rfl
     have hWf:=wholeB_funF (c:=true) (wbk_all hP.vd (hP.round _))
     have hRf:=(roundF_ok (c:=true) hP.vd hP.rnd).tab sub3
     obtain ⟨cc,hcc⟩:=lw_sl (AL (LLs x bs 0))
     rw [hcc] at hWf
     have hvw:∀ H:List B,views H depth [.nilsl]=some [elsV true (LLs x bs 0)]:=fun H=>rfl
     repeat' (first
 | (conv=>whnf)
   first
   | refine Br.t ?_
   | refine Br.f ?_
   | (refine Br.decF ?_ ?_;(focus first | assumption | omega))
   | refine Rn.seq ?_
   | refine Rn.cond ?_
   | refine Rn.reg ?_
   | refine Rn.skip ?_
   | refine Rn.exit ?_
   | refine Rn.ret ?_
   | refine call_fun rfl rfl hAw (.inl rfl) ?_
   | refine call_fresh rfl (hvw _) hWf ?_
   | refine call_fresh rfl (hvw _) hRf ?_
   | refine Get.mk _ rfl ?_
   | refine Leaves.of ?_
   | refine Vw.bool ?_)
     all_goals first | rfl | (exfalso;omega;done) | simp
    | true =>
     have hP:=hPt rfl
     obtain ⟨hA,hO⟩:=hP.only (y:=wE x) (by simp) hkx
     have hWf:=wholeB_funF (c:=false) (wbk_all hP.vd (hP.round _))
     have hRf:=(roundF_ok (c:=false) hP.vd hP.rnd).tab sub3
     rw [hA,hO] at hWf
     obtain ⟨cc,hcc⟩:=lw_sl (x.l.map (·.1))
     rw [hcc] at hWf hvM
     have h35:=((intsE_ok (c:=cc) (d:=cc) (l:=x.l.map (·.1)) (by omega)).tab sub1).tab sub3
     have hvw0:∀ H:List B,bget H 4=some (.blk (elC (LLs x bs 0++[wE x])) false)→views H depth [.ms 3 4 3 0 1 false]=some [elsV false (LLs x bs 0++[wE x])]:=fun H h=>els_view h rfl rfl
     have hvw:=fun H h=>hvw0 H h
     repeat' (first
 | (conv=>whnf)
   first
   | refine Br.t ?_
   | refine Br.f ?_
   | (refine Br.decF ?_ ?_;(focus first | assumption | omega))
   | refine Rn.seq ?_
   | refine Rn.cond ?_
   | refine Rn.reg ?_
   | refine Rn.skip ?_
   | refine Rn.exit ?_
   | refine Rn.ret ?_
   | refine call_fun rfl rfl hAw (.inl rfl) ?_
   | refine call_fresh rfl (hvw _ rfl) hWf ?_
   | refine call_fresh rfl (hvw _ rfl) hRf ?_
   | refine call_fun rfl (v35 (hvM _ rfl)) h35 (.inr rfl) ?_
   | (refine Ifz.pos ?_ ?_;(focus omega))
   | refine Get.mk _ rfl ?_
   | refine Leaves.of ?_
   | refine Vw.bool ?_
   | (refine Req.mk ?_ ?_;(focus first | rfl | decide | exact ⟨rfl,rfl⟩ | exact ⟨rfl,by decide⟩ | exact (fun _=>rfl) | exact (fun h=>nomatch h) | (simp;done) | omega | (simp [big];done) | exact le_big (by omega) | exact lt_big (by omega))))
     all_goals first | rfl | (exfalso;omega;done) | simp
   ·rw [if_neg h0,if_neg h0]
    cases wh with
    | false =>
     have hP:=hPf rfl
     have hWf:=wholeB_funF (c:=false) (wbk_all hP.vd (hP.round _))
     have hRf:=(roundF_ok (c:=false) hP.vd hP.rnd).tab sub3
     obtain ⟨cc,hcc⟩:=lw_sl (AL (LLs x bs i))
     rw [hcc] at hWf
     have hvw:∀ H:List B,bget H 4=some (.blk (elC (LLs x bs i)) false)→views H depth [.ms 3 4 (i * 3) 0 i false]=some [elsV false (LLs x bs i)]:=fun H h=>els_view h hlc hLi.symm
     repeat' (first
 | (conv=>whnf)
   first
   | refine Br.t ?_
   | refine Br.f ?_
   | (refine Br.decT ?_ ?_;(focus first | assumption | omega))
   | (refine Br.decF ?_ ?_;(focus first | assumption | omega))
   | refine Br.dec (fun _ => ?_) (fun _ => ?_)
   | refine Rn.seq ?_
   | refine Rn.cond ?_
   | refine Rn.reg ?_
   | refine Rn.skip ?_
   | refine Rn.exit ?_
   | refine Rn.ret ?_
   | refine call_fun rfl rfl hAw (.inl rfl) ?_
   | refine call_fresh rfl (hvw _ rfl) hWf ?_
   | refine call_fresh rfl (hvw _ rfl) hRf ?_
   | refine Get.mk _ rfl ?_
   | refine Leaves.of ?_
   | refine Vw.bool ?_)
     all_goals first | rfl | (exfalso;omega;done) | simp
    | true =>
     have hP:=hPt rfl
     obtain ⟨hA,hO⟩:=hP.only (y:=wE x) (by simp) hkx
     have hWf:=wholeB_funF (c:=false) (wbk_all hP.vd (hP.round _))
     have hRf:=(roundF_ok (c:=false) hP.vd hP.rnd).tab sub3
     rw [hA,hO] at hWf
     obtain ⟨cc,hcc⟩:=lw_sl (x.l.map (·.1))
     rw [hcc] at hWf hvM
     have h35:=((intsE_ok (c:=cc) (d:=cc) (l:=x.l.map (·.1)) (by omega)).tab sub1).tab sub3
     have hap:0+i * 3=i * 3∧((elC (LLs x bs i)).length+[V.str (wE x).nm,V.sl (wE x).c (wE x).l.length (shC (wE x).l),V.int .i64 (wE x).g].length) * (48+1)<big:=⟨by omega,by rw [hlc];exact lt_big (by simp;omega)⟩
     have hvw:∀ H:List B,bget H 4=some (.blk (elC (LLs x bs i)++[V.str (wE x).nm,V.sl (wE x).c (wE x).l.length (shC (wE x).l),V.int .i64 (wE x).g]) false)→views H depth [.ms 3 4 (i * 3+[V.str (wE x).nm,V.sl (wE x).c (wE x).l.length (shC (wE x).l),V.int .i64 (wE x).g].length) 0 (i+1) false]=some [elsV false (LLs x bs i++[wE x])]:=fun H h=>els_view (by rw [elC_snI];exact h) (by rw [elC_snI,List.length_append,hlc]) (by rw [List.length_append,hLi];rfl)
     repeat' (first
 | (conv=>whnf)
   first
   | refine Br.t ?_
   | refine Br.f ?_
   | (refine Br.decT ?_ ?_;(focus first | assumption | omega))
   | (refine Br.decF ?_ ?_;(focus first | assumption | omega))
   | refine Br.dec (fun _ => ?_) (fun _ => ?_)
   | refine Rn.seq ?_
   | refine Rn.cond ?_
   | refine Rn.reg ?_
   | refine Rn.skip ?_
   | refine Rn.exit ?_
   | refine Rn.ret ?_
   | refine call_fun rfl rfl hAw (.inl rfl) ?_
   | refine Req.mk hlc ?_
   | refine Req.mk hap ?_
   | refine call_fresh rfl (hvw _ rfl) hWf ?_
   | refine call_fresh rfl (hvw _ rfl) hRf ?_
   | refine call_fun rfl (v35 (hvM _ rfl)) h35 (.inr rfl) ?_
   | (refine Ifz.pos ?_ ?_;(focus omega))
   | refine Get.mk _ rfl ?_
   | refine Leaves.of ?_
   | refine Vw.bool ?_
   | (refine Req.mk ?_ ?_;(focus first | rfl | decide | exact ⟨rfl,rfl⟩ | exact ⟨rfl,by decide⟩ | exact (fun _=>rfl) | exact (fun h=>nomatch h) | (simp;done) | omega | (simp [big];done) | exact le_big (by omega) | exact lt_big (by omega))))
     all_goals first | rfl | (exfalso;omega;done) | simp
end Go.Dr.T
