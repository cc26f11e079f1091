/- Chapter 06: the law AlignGaps. -/
import Derived.Test.YtfhphjloaelgoaaGreatDoorG15
import Derived.Test.YtfhphjloaelgoaaGreatDoorR06X7
import Derived.Test.YtfhphjloaelgoaaGreatDoorG17
import Derived.Test.YtfhphjloaelgoaaGreatDoorG13
namespace Go.Dr.T
theorem trC_c0 {l:List T3} {i:Nat} {t:T3} (h:l[i]?=some t):cellAt (trC l) (i * 3)=some (.int .i64 t.1):=cellAt_drop (trC_drop h)
theorem trC_c1 {l:List T3} {i:Nat} {t:T3} (h:l[i]?=some t):cellAt (trC l) (i * 3+1)=some (.int .i64 t.2.1):=by
 have h1:=trC_drop h
 have:(trC l).drop (i * 3+1) = .int .i64 t.2.1 :: .int .i64 t.2.2 :: (trC l).drop (i * 3+3):=by
  rw [← List.drop_drop,h1];rfl
 exact cellAt_drop this
theorem trC_c2 {l:List T3} {i:Nat} {t:T3} (h:l[i]?=some t):cellAt (trC l) (i * 3+2)=some (.int .i64 t.2.2):=by
 have h1:=trC_drop h
 have:(trC l).drop (i * 3+2) = .int .i64 t.2.2 :: (trC l).drop (i * 3+3):=by
  rw [← List.drop_drop,h1];rfl
 exact cellAt_drop this
theorem shC_c1 {l:List (Int × Int)} {i:Nat} {p:Int × Int} (h:l[i]?=some p):cellAt (shC l) (i * 2+1)=some (.int .i64 p.2):=by
 have h1:=shC_drop h
 have:(shC l).drop (i * 2+1) = .int .i64 p.2 :: (shC l).drop (i * 2+2):=by
  rw [← List.drop_drop,h1];rfl
 exact cellAt_drop this
theorem ofInts_at' {l:List Int} {i:Nat} {y:Int} (h:l[i]?=some y):cellAt (ofInts l) (i * 1)=some (.int .i64 y):=by
 obtain ⟨x,h1,h2⟩:=ofInts_cell (List.getElem?_eq_some_iff.1 h).1
 rw [h] at h1
 cases h1
 exact h2
theorem elC_snoc {x:El}:∀ l:List El,elC (l++[x])=elC l++[V.str x.nm,V.sl x.c x.l.length (shC x.l),V.int .i64 x.g]
 | []=>rfl
 | y :: l=>by
  have:=elC_snoc (x:=x) l
  simp only [List.cons_append,elC,this]
theorem VwL.els {h:List B} {d:Nat}:∀ l:List El,VwL h (d+1) (elC l) (elC l)
 | []=>VwL.nil
 | _ :: l=>VwL.cons (Vw.str rfl) (VwL.cons Vw.sl (VwL.cons (Vw.int rfl) (VwL.els l)))
theorem more_view {H:List B} {l:List El} {id g n:Nat} {d:Bool} {s:List Int} (hb:bget H id=some (.blk (elC l) false)) (hg:(elC l).length=g) (hn:n=l.length):views H depth [.ms 3 id g 0 n false,.sl d s.length (ofInts s)]=some [elsV false l,.sl d s.length (ofInts s)]:=by
 subst hn
 have h1:Vw H depth (.ms 3 id g 0 l.length false) (elsV false l):=Vw.ms (d:=63) hb hg (part_all (elC_length l)) (VwL.els (d:=62) l)
 have h2:=h1.1
 unfold views
 simp only [mapO]
 rw [h2]
 rfl
set_option maxRecDepth 100000 in
set_option maxHeartbeats 20000000 in
theorem law_gaps {c d:Bool} {l:List El} {s:List Int} {x:El} (hsh:s.length≤9223372036854775807):Fun FB2 md 13 [elsV c l,.sl d s.length (ofInts s),elA x] (.bool true):=by
 have h1:=(lost_ok (c:=c) (d:=d) (l:=l) hsh).tab sub2
 have h3:=(version_ok (c:=c) (d:=d) (l:=l) hsh).tab sub2
 have h5:=awake
 have hm1:=fun c' => (lost_ok (c:=c') (d:=d) (l:=l++[x]) hsh).tab sub2
 have hm3:=fun c' => (version_ok (c:=c') (d:=d) (l:=l++[x]) hsh).tab sub2
 obtain ⟨G0,e0,q1,q2⟩:=lostV_eq (l:=l) (s:=s)
 by_cases hok:vldE l=0∧scrE s=0∧rndP l=none
 rotate_left
 ·have hw:∃ n f,verV l s = .tup [.sl true 0 [],.int .i64 n,.int .i64 f]∧(e0=0→f≠0):=by
   unfold lostV at q1
   unfold verV
   by_cases hv:vldE l=0
   ·rw [if_neg (fun h=>h hv)] at q1 ⊢
    by_cases hs:scrE s=0
    ·rw [if_neg (fun h=>h hs)]
     cases hr:rndP l with
     | some p=>exact ⟨_,_,rfl,fun _=>by decide⟩
     | none=>exact absurd ⟨hv,hs,hr⟩ hok
    ·rw [if_pos hs]
     exact ⟨_,_,rfl,fun _=>hs⟩
   ·rw [if_pos hv]
    exact ⟨_,_,rfl,fun _=>hv⟩
  obtain ⟨n,f,hw,hef⟩:=hw
  obtain ⟨a,ha⟩:=gapV_sl G0
  rw [q1,ha] at h1
  rw [hw] at h3
  clear hok hm1 hm3 q1 hw ha
  by_cases he:e0=0
  ·have hf:=hef he
   subst he
   refine fun_rn rfl rfl ?_
   repeat' (first
 | (conv=>whnf)
   first
   | refine Br.t ?_
   | refine Br.f ?_
   | (refine Br.decF ?_ ?_;(focus first | assumption | omega))
   | refine Br.not ?_
   | (refine Bnd.i64 ?_ ?_ ?_;(focus omega);(focus omega))
   | refine Rn.seq ?_
   | refine Rn.cond ?_
   | refine Rn.reg ?_
   | refine Rn.ret ?_
   | refine call_fresh rfl rfl h1 ?_
   | refine call_fresh rfl rfl h3 ?_
   | refine call_fun rfl rfl h5 (.inl rfl) ?_
   | refine Get.mk _ rfl ?_
   | refine Leaves.of ?_
   | refine Vw.bool ?_
   | (refine Req.mk ?_ ?_;(focus first | rfl | decide | exact ⟨rfl,rfl⟩ | exact ⟨rfl,by decide⟩ | exact (fun _=>rfl) | exact (fun h=>nomatch h) | (simp;done) | omega | (simp [big];done) | exact le_big (by omega) | exact lt_big (by omega))))
   all_goals first | rfl | (exfalso;omega;done) | simp
  ·refine fun_rn rfl rfl ?_
   repeat' (first
 | (conv=>whnf)
   first
   | refine Br.t ?_
   | (refine Br.decF ?_ ?_;(focus first | assumption | omega))
   | refine Br.not ?_
   | (refine Bnd.i64 ?_ ?_ ?_;(focus omega);(focus omega))
   | refine Rn.seq ?_
   | refine Rn.cond ?_
   | refine Rn.reg ?_
   | refine Rn.ret ?_
   | refine call_fresh rfl rfl h1 ?_
   | refine call_fresh rfl rfl h3 ?_
   | refine call_fun rfl rfl h5 (.inl rfl) ?_
   | refine Get.mk _ rfl ?_
   | refine Leaves.of ?_
   | refine Vw.bool ?_
   | (refine Req.mk ?_ ?_;(focus first | rfl | decide | exact ⟨rfl,rfl⟩ | exact ⟨rfl,by decide⟩ | exact (fun _=>rfl) | exact (fun h=>nomatch h) | (simp;done) | omega | (simp [big];done) | exact le_big (by omega) | exact lt_big (by omega))))
   all_goals first | rfl | (exfalso;omega;done) | simp
 obtain ⟨hv,hs,hr⟩:=hok
 clear q1 q2
 obtain ⟨hl60,hrg,hnd⟩:=scr_ok hs
 have hl8:=(vld_good hv).1
 have hisr:∀ m∈s,isM l m=(srcAll m l l.length).isSome:=fun m hm=>by
  have h0:=hrg m hm
  rw [Bool.eq_iff_iff,srAll_some (by omega) _ (Nat.le_refl _),List.take_length]
  unfold isM
  rw [decide_eq_true_eq]
 have hin:∀ m,SrIn m l (srcAll m l l.length):=fun m=>srAll_in _
 unfold lostV at h1
 unfold verV at h3
 rw [if_neg (fun h=>h hv),if_neg (fun h=>h hs)] at h1 h3
 rw [hr] at h3
 dsimp only at h3
 rw [verF_1] at h3
 rw [← docG_all] at h1
 generalize (verF (fun m=>srcAll m l l.length) s).2=sum at h3
 have hup:∀ (m:Int) (o:Src),srcAll m l l.length=some o→∃ o', srcAll m (l++[x]) (l++[x]).length=some o' ∧ o.f≤o'.f:=fun m o h=>srAll_up h
 generalize hsre:(fun m=>srcAll m l l.length)=sr at *
 have hsa:∀ m,srcAll m l l.length=sr m:=fun m=>by rw [← hsre]
 simp only [hsa] at hisr hin hup
 generalize isM l=is at *
 obtain ⟨a,ha⟩:=gapV_sl (docG is s s.length)
 obtain ⟨b,hb⟩:=gapV_sl (vL sr s)
 rw [ha] at h1
 rw [hb] at h3
 have hbl:=both_len hisr
 have hbl1:=hbl s.length (Nat.le_refl _)
 rw [List.take_length] at hbl1
 refine fun_rn rfl rfl ?_
 repeat' (first
 | (conv=>whnf)
   first
   | refine Br.f ?_
   | (refine Br.decT ?_ ?_;(focus first | assumption | omega))
   | refine Br.not ?_
   | (refine Bnd.i64 ?_ ?_ ?_;(focus omega);(focus omega))
   | refine Rn.seq ?_
   | refine Rn.block ?_
   | refine Rn.cond ?_
   | refine Rn.reg ?_
   | refine Rn.skip ?_
   | refine call_fresh rfl rfl h1 ?_
   | refine call_fresh rfl rfl h3 ?_
   | refine Get.mk _ rfl ?_
   | (refine Req.mk ?_ ?_;(focus first | rfl | decide | exact ⟨rfl,rfl⟩ | exact ⟨rfl,by decide⟩ | exact (fun _=>rfl) | exact (fun h=>nomatch h) | (simp;done) | omega | (simp [big];done) | exact le_big (by omega) | exact lt_big (by omega))))
 all_goals try (exfalso;omega;done)
 refine Rn.loop (fun i:Nat=>i≤s.length) (fun i=>[(12,.int .i64 ((docG is s i).length:Nat)),(13,.int .i64 ((vL sr (s.take i)).length:Nat)),(14,.int .i64 (lastI is (s.take i))),(15,.int .i64 (i:Nat))]) (fun _=>[.blk x.v false]) (fun i=>s.length - i) 0 (Nat.zero_le _) rfl ?_
 rintro i w1
 try dsimp only
 have hbi:=hbl i w1
 by_cases hi:i<s.length
 ·obtain ⟨m,hm⟩:∃ m,s[i]?=some m:=⟨_,List.getElem?_eq_getElem hi⟩
  have g0:=ofInts_at' hm
  have hms:=List.mem_of_getElem? hm
  have hmb:=hisr m hms
  have hla:=lastI_snoc (is:=is) hm
  cases ho:sr m with
  | some o =>
   rw [ho] at hmb
   have hmb:is m=true:=hmb
   rw [hmb,if_pos rfl] at hla
   obtain ⟨p1,p2⟩:=vL_yes hm ho
   have hk:=(List.getElem?_eq_some_iff.1 p1).1
   have g1:=trC_c0 p1
   have g2:=trC_c1 p1
   have g3:=trC_c2 p1
   obtain ⟨y,p,y1,y2,y3,y4⟩:=hin m o ho
   have g4:=elC_sh' y1
   have g5:=shC_cell y2
   have ye:=(List.getElem?_eq_some_iff.1 y1).1
   have yk:=(List.getElem?_eq_some_iff.1 y2).1
   have hgn:=gap_not hm hmb
   dsimp only at g1 g2 g3
   rw [y3] at g5
   generalize (vL sr (s.take i)).length=k at *
   repeat' (first
 | (conv=>whnf)
   first
   | refine Br.f ?_
   | (refine Br.decT ?_ ?_;(focus first | assumption | omega))
   | (refine Br.decF ?_ ?_;(focus first | assumption | omega))
   | refine Br.not ?_
   | (refine Bnd.i64 ?_ ?_ ?_;(focus omega);(focus omega))
   | refine Rn.seq ?_
   | refine Rn.block ?_
   | refine Rn.cond ?_
   | refine Rn.reg ?_
   | refine Rn.skip ?_
   | refine Rn.exit ?_
   | refine Get.mk _ g0 ?_
   | refine Get.mk _ g1 ?_
   | refine Get.mk _ g2 ?_
   | refine Get.mk _ g3 ?_
   | refine Get.mk _ g4 ?_
   | refine Get.mk _ g5 ?_
   | (refine Idx.nat ?_ ?_;(focus omega))
   | (refine Req.mk ?_ ?_;(focus first | rfl | decide | exact ⟨rfl,rfl⟩ | exact ⟨rfl,by decide⟩ | exact (fun _=>rfl) | exact (fun h=>nomatch h) | (simp;done) | omega | (simp [big];done) | exact le_big (by omega) | exact lt_big (by omega))))
   all_goals first | (exfalso;omega;done) | exact NextP.mk (i+1) hi (by omega) (by rw [hgn,p2,hla];rfl)
  | none =>
   rw [ho] at hmb
   have hmb:is m=false:=hmb
   rw [hmb,if_neg (by simp)] at hla
   obtain ⟨p1,p2⟩:=vL_no hm ho
   obtain ⟨z1,z2⟩:=gap_at hm hmb
   obtain ⟨u1,u2⟩:=vL_head (sr:=sr) (is:=is) (s:=s.drop (i+1)) (fun m hm=>hisr m (List.mem_of_mem_drop hm))
   rw [← p1] at u1 u2
   have hgl:=(List.getElem?_eq_some_iff.1 z1).1
   cases hp:(vL sr s)[(vL sr (s.take i)).length]? with
   | none =>
    have hk:=List.getElem?_eq_none_iff.1 hp
    rw [u2 hp] at z1
    have g4:=trC_part z1
    dsimp only at g4
    generalize (vL sr (s.take i)).length=k at *
    repeat' (first
 | (conv=>whnf)
   first
   | refine Br.t ?_
   | refine Br.f ?_
   | (refine Br.decT ?_ ?_;(focus first | assumption | omega))
   | (refine Br.decF ?_ ?_;(focus first | assumption | omega))
   | refine Br.not ?_
   | refine Br.and ?_
   | (refine Bnd.i64 ?_ ?_ ?_;(focus omega);(focus omega))
   | refine Rn.seq ?_
   | refine Rn.block ?_
   | refine Rn.cond ?_
   | refine Rn.reg ?_
   | refine Rn.skip ?_
   | refine Get.mk _ g0 ?_
   | refine Get.mk _ g4 ?_
   | (refine Idx.nat ?_ ?_;(focus omega))
   | refine Get.mk _ rfl ?_
   | (refine Req.mk ?_ ?_;(focus first | rfl | decide | exact ⟨rfl,rfl⟩ | exact ⟨rfl,by decide⟩ | exact (fun _=>rfl) | exact (fun h=>nomatch h) | (simp;done) | omega | (simp [big];done) | exact le_big (by omega) | exact lt_big (by omega))))
    all_goals first | (exfalso;omega;done) | exact NextP.mk (i+1) hi (by omega) (by rw [z2,p2,hla];rfl)
   | some t =>
    have hk:=(List.getElem?_eq_some_iff.1 hp).1
    have ht1:=u1 t hp
    have htm:t.1≠m:=fun e=>not_drop hnd hm (by
     rw [p1] at hp
     have:=(vL_mem (List.mem_of_getElem? hp)).1
     rwa [e] at this)
    rw [← ht1] at z1
    have g1:=trC_c0 hp
    have g4:=trC_part z1
    dsimp only at g4
    generalize (vL sr (s.take i)).length=k at *
    repeat' (first
 | (conv=>whnf)
   first
   | refine Br.t ?_
   | (refine Br.decT ?_ ?_;(focus first | assumption | omega))
   | (refine Br.decF ?_ ?_;(focus first | assumption | omega))
   | refine Br.not ?_
   | refine Br.and ?_
   | (refine Bnd.i64 ?_ ?_ ?_;(focus omega);(focus omega))
   | refine Rn.seq ?_
   | refine Rn.block ?_
   | refine Rn.cond ?_
   | refine Rn.reg ?_
   | refine Rn.skip ?_
   | refine Get.mk _ g0 ?_
   | refine Get.mk _ g1 ?_
   | refine Get.mk _ g4 ?_
   | (refine Idx.nat ?_ ?_;(focus omega))
   | refine Get.mk _ rfl ?_
   | (refine Req.mk ?_ ?_;(focus first | rfl | decide | exact ⟨rfl,rfl⟩ | exact ⟨rfl,by decide⟩ | exact (fun _=>rfl) | exact (fun h=>nomatch h) | (simp;done) | omega | (simp [big];done) | exact le_big (by omega) | exact lt_big (by omega))))
    all_goals first | (exfalso;omega;done) | exact NextP.mk (i+1) hi (by omega) (by rw [z2,p2,hla];rfl)
 have hie:i=s.length:=by omega
 subst hie
 clear h1 h3 hbi w1 hi
 have hsub:∀ m,(sr m).isSome=true→((srcAll m (l++[x]) (l++[x]).length)).isSome=true:=fun m h=>by
  cases ho:sr m with
  | none=>rw [ho] at h;cases h
  | some o =>
   obtain ⟨o', h1,_⟩:=hup m o ho
   rw [h1]
   rfl
 have hgle:(docG (isM (l++[x])) s s.length).length≤(docG is s s.length).length:=by
  have h2:=both_len (is:=isM (l++[x])) (sr:=fun m=>srcAll m (l++[x]) (l++[x]).length) (s:=s) (fun m hm=>by
   have h0:=hrg m hm
   rw [Bool.eq_iff_iff,srAll_some (by omega) _ (Nat.le_refl _),List.take_length]
   unfold isM
   rw [decide_eq_true_eq]) s.length (Nat.le_refl _)
  rw [List.take_length] at h2
  have h3:=vL_le (sr:=sr) (sr' := fun m=>srcAll m (l++[x]) (l++[x]).length) hsub s
  omega
 have hvle:=vL_le (sr:=sr) (sr' := fun m=>srcAll m (l++[x]) (l++[x]).length) hsub s
 have hin' : ∀ m,SrIn m (l++[x]) (srcAll m (l++[x]) (l++[x]).length):=fun m=>srAll_in _
 have hlc:(elC l).length=l.length * 3:=elC_length l
 have hln:(l++[x]).length=l.length+1:=by simp
 have hlc2:(elC (l++[x])).length=(l.length+1) * 3:=by rw [elC_length,hln]
 by_cases hok2:vldE (l++[x])=0∧rndP (l++[x])=none
 rotate_left
 ·have hm1:=hm1 false
  have hm3:=hm3 false
  obtain ⟨G1,e1,q1,q2⟩:=lostV_eq (l:=l++[x]) (s:=s)
  have hw:∃ n f,verV (l++[x]) s = .tup [.sl true 0 [],.int .i64 n,.int .i64 f]∧(e1=0→f≠0):=by
   unfold lostV at q1
   unfold verV
   by_cases hv:vldE (l++[x])=0
   ·rw [if_neg (fun h=>h hv),if_neg (fun h=>h hs)] at q1 ⊢
    cases hr:rndP (l++[x]) with
    | some p=>exact ⟨_,_,rfl,fun _=>by decide⟩
    | none=>exact absurd ⟨hv,hr⟩ hok2
   ·rw [if_pos hv] at q1 ⊢
    refine ⟨_,_,rfl,fun _=>hv⟩
  obtain ⟨n,f,hw,hef⟩:=hw
  obtain ⟨a1,ha1⟩:=gapV_sl G1
  rw [q1,ha1] at hm1
  rw [hw] at hm3
  clear hok2 q1 hw ha1 hsub hgle hvle hin' hup hin hisr hbl hsa hsre
  have hd:e1≠0∨f≠0:=by
   by_cases he:e1=0
   ·exact .inr (hef he)
   ·exact .inl he
  clear hef
  ·by_cases hl0:l=[]
   ·subst hl0
    have hvm:∀ H:List B,bget H 4=some (.blk [V.str x.nm,V.sl x.c x.l.length (shC x.l),V.int .i64 x.g] false)→views H depth [.ms 3 4 3 0 1 false,.sl d s.length (ofInts s)]=some [elsV false ([]++[x]),.sl d s.length (ofInts s)]:=fun H h=>more_view h rfl rfl
    repeat' (first
 | (conv=>whnf)
   first
   | refine Br.t ?_
   | (refine Br.decT ?_ ?_;(focus first | assumption | omega))
   | (refine Br.decF ?_ ?_;(focus first | assumption | omega))
   | refine Br.dec (fun _ => ?_) (fun _ => ?_)
   | refine Br.not ?_
   | refine Rn.seq ?_
   | refine Rn.cond ?_
   | refine Rn.reg ?_
   | refine Rn.exit ?_
   | refine Rn.ret ?_
   | refine call_fresh rfl (hvm _ rfl) hm1 ?_
   | refine call_fresh rfl (hvm _ rfl) hm3 ?_
   | refine call_fun rfl rfl h5 (.inl rfl) ?_
   | refine Ifz.zero ?_
   | (refine Ifz.pos ?_ ?_;(focus omega))
   | refine Get.mk _ rfl ?_
   | refine Leaves.of ?_
   | refine Vw.bool ?_
   | (refine Req.mk ?_ ?_;(focus first | rfl | decide | exact ⟨rfl,rfl⟩ | exact ⟨rfl,by decide⟩ | exact (fun _=>rfl) | exact (fun h=>nomatch h) | (simp;done) | omega | (simp [big];done) | exact le_big (by omega) | exact lt_big (by omega))))
    all_goals first | rfl | (exfalso;omega;done) | simp
   ·have hll:0<l.length:=List.length_pos_iff.2 hl0
    have hap:0+(0+l.length) * 3=([]:List V).length+(elC l).length∧(([]++elC l).length+[V.str x.nm,V.sl x.c x.l.length (shC x.l),V.int .i64 x.g].length) * (48+1)<big:=⟨by simp;omega,by rw [List.nil_append,hlc];exact lt_big (by simp;omega)⟩
    have hg:(elC (l++[x])).length=([]:List V).length+(elC l).length+[V.str x.nm,V.sl x.c x.l.length (shC x.l),V.int .i64 x.g].length:=by rw [hlc2,hlc];simp;omega
    have hn:0+l.length+1=(l++[x]).length:=by rw [hln];omega
    repeat' (first
 | (conv=>whnf)
   first
   | refine Br.t ?_
   | (refine Br.decT ?_ ?_;(focus first | assumption | omega))
   | (refine Br.decF ?_ ?_;(focus first | assumption | omega))
   | refine Br.dec (fun _ => ?_) (fun _ => ?_)
   | refine Br.not ?_
   | refine Rn.seq ?_
   | refine Rn.cond ?_
   | refine Rn.reg ?_
   | refine Rn.exit ?_
   | refine Rn.ret ?_
   | refine Req.mk hlc ?_
   | refine Req.mk hap ?_
   | refine call_fun rfl rfl h5 (.inl rfl) ?_
   | (refine call_fresh rfl ?_ hm1 ?_;focus (refine more_view ?_ hg hn;rw [elC_snoc];rfl))
   | (refine call_fresh rfl ?_ hm3 ?_;focus (refine more_view ?_ hg hn;rw [elC_snoc];rfl))
   | (refine Ifz.pos ?_ ?_;(focus omega))
   | refine Get.mk _ rfl ?_
   | refine Leaves.of ?_
   | refine Vw.bool ?_
   | (refine Req.mk ?_ ?_;(focus first | rfl | decide | exact ⟨rfl,rfl⟩ | exact ⟨rfl,by decide⟩ | exact (fun _=>rfl) | exact (fun h=>nomatch h) | (simp;done) | omega | (simp [big];done) | exact le_big (by omega) | exact lt_big (by omega))))
    all_goals first | rfl | (exfalso;omega;done) | simp
 ·obtain ⟨hv2,hr2⟩:=hok2
  have hm1:=hm1 false
  have hm3:=hm3 false
  unfold lostV at hm1
  unfold verV at hm3
  rw [if_neg (fun h=>h hv2),if_neg (fun h=>h hs)] at hm1 hm3
  rw [hr2] at hm3
  dsimp only at hm3
  rw [verF_1] at hm3
  rw [← docG_all] at hm1
  generalize (verF (fun m=>srcAll m (l++[x]) (l++[x]).length) s).2=sum2 at hm3
  generalize hsre2:(fun m=>srcAll m (l++[x]) (l++[x]).length)=sr' at *
  have hsa2:∀ m,srcAll m (l++[x]) (l++[x]).length=sr' m:=fun m=>by rw [← hsre2]
  simp only [hsa2] at hsub hin' hup
  have hws:=vL_sub hsub s
  have hwn:=vL_nodup (sr:=sr') hnd
  have hwm:∀ t∈vL sr' s,∃ o,sr' t.1=some o∧t.2.1=(o.e:Nat)∧t.2.2=(o.k:Nat):=fun t ht=>(vL_mem ht).2
  have hwl:(vL sr' s).length≤60:=by
   have:=both_len (is:=isM (l++[x])) (sr:=sr') (s:=s) (fun m hm=>by
    have h0:=hrg m hm
    rw [← hsa2,Bool.eq_iff_iff,srAll_some (by omega) _ (Nat.le_refl _),List.take_length]
    unfold isM
    rw [decide_eq_true_eq]) s.length (Nat.le_refl _)
   rw [List.take_length] at this
   omega
  generalize docG (isM (l++[x])) s s.length=G1 at *
  obtain ⟨a1,ha1⟩:=gapV_sl G1
  obtain ⟨b1,hb1⟩:=gapV_sl (vL sr' s)
  rw [ha1] at hm1
  rw [hb1] at hm3
  generalize vL sr' s=W at *
  generalize hP:vL sr s=P at *
  have hPl:P.length≤60:=by omega
  clear ha1 hb1 ha hb hbl1 hsub hsre hsa hsre2 hsa2
  by_cases hl0:l=[]
  ·have hP0:P.length=0:=by
    cases hp:P[0]? with
    | none=>have:=List.getElem?_eq_none_iff.1 hp;omega
    | some t =>
     rw [← hP] at hp
     obtain ⟨_,o,h2,_⟩:=vL_mem (List.mem_of_getElem? hp)
     obtain ⟨y,p,y1,_⟩:=hin _ o h2
     rw [hl0] at y1
     simp at y1
   have hk0:(vL sr (s.take s.length)).length=0:=by rw [List.take_length,hP];exact hP0
   rw [hk0]
   subst hl0
   have hap:0+(0+0) * 3=0:=rfl
   have hvm:∀ H:List B,bget H 4=some (.blk [V.str x.nm,V.sl x.c x.l.length (shC x.l),V.int .i64 x.g] false)→views H depth [.ms 3 4 3 0 1 false,.sl d s.length (ofInts s)]=some [elsV false ([]++[x]),.sl d s.length (ofInts s)]:=fun H h=>more_view h rfl rfl
   repeat' (first
 | (conv=>whnf)
   first
   | refine Br.f ?_
   | (refine Br.decF ?_ ?_;(focus first | assumption | omega))
   | refine Rn.seq ?_
   | refine Rn.block ?_
   | refine Rn.cond ?_
   | refine Rn.reg ?_
   | refine Rn.skip ?_
   | refine Rn.exit ?_
   | refine call_fresh rfl (hvm _ rfl) hm1 ?_
   | refine call_fresh rfl (hvm _ rfl) hm3 ?_
   | refine Ifz.zero ?_
   | (refine Ifz.pos ?_ ?_;(focus omega))
   | refine Get.mk _ rfl ?_
   | (refine Req.mk ?_ ?_;(focus first | rfl | decide | exact ⟨rfl,rfl⟩ | exact ⟨rfl,by decide⟩ | exact (fun _=>rfl) | exact (fun h=>nomatch h) | (simp;done) | omega | (simp [big];done) | exact le_big (by omega) | exact lt_big (by omega))))
   all_goals try (exfalso;omega;done)
   refine Rn.loop (fun i:Nat=>i=0) (fun i=>[(13,.int .i64 0),(21,.int .i64 (i:Nat))]) (fun _=>[B.blk x.v false,.unborn,.unborn,.unborn,.blk [V.str x.nm,V.sl x.c x.l.length (shC x.l),V.int .i64 x.g] false]) (fun i=>i) 0 rfl rfl ?_
   rintro i rfl
   try dsimp only
   repeat' (first
 | (conv=>whnf)
   first
   | refine Br.f ?_
   | (refine Br.decT ?_ ?_;(focus first | assumption | omega))
   | (refine Br.decF ?_ ?_;(focus first | assumption | omega))
   | refine Br.dec (fun _ => ?_) (fun _ => ?_)
   | refine Rn.seq ?_
   | refine Rn.cond ?_
   | refine Rn.reg ?_
   | refine Rn.exit ?_
   | refine Rn.ret ?_
   | refine call_fun rfl rfl h5 (.inl rfl) ?_
   | refine Get.mk _ rfl ?_
   | refine Leaves.of ?_
   | refine Vw.bool ?_)
   all_goals first | rfl | (exfalso;omega;done) | simp
  ·have hll:0<l.length:=List.length_pos_iff.2 hl0
   have hap:0+(0+l.length) * 3=([]:List V).length+(elC l).length∧(([]++elC l).length+[V.str x.nm,V.sl x.c x.l.length (shC x.l),V.int .i64 x.g].length) * (48+1)<big:=⟨by simp;omega,by rw [List.nil_append,hlc];exact lt_big (by simp;omega)⟩
   have hg:(elC (l++[x])).length=([]:List V).length+(elC l).length+[V.str x.nm,V.sl x.c x.l.length (shC x.l),V.int .i64 x.g].length:=by rw [hlc2,hlc];simp;omega
   have hn:0+l.length+1=(l++[x]).length:=by rw [hln];omega
   repeat' (first
 | (conv=>whnf)
   first
   | refine Br.f ?_
   | (refine Br.decF ?_ ?_;(focus first | assumption | omega))
   | refine Rn.seq ?_
   | refine Rn.block ?_
   | refine Rn.cond ?_
   | refine Rn.reg ?_
   | refine Rn.skip ?_
   | refine Rn.exit ?_
   | refine Req.mk hlc ?_
   | refine Req.mk hap ?_
   | (refine call_fresh rfl ?_ hm1 ?_;focus (refine more_view ?_ hg hn;rw [elC_snoc];rfl))
   | (refine call_fresh rfl ?_ hm3 ?_;focus (refine more_view ?_ hg hn;rw [elC_snoc];rfl))
   | (refine Ifz.pos ?_ ?_;(focus omega))
   | refine Get.mk _ rfl ?_
   | (refine Req.mk ?_ ?_;(focus first | rfl | decide | exact ⟨rfl,rfl⟩ | exact ⟨rfl,by decide⟩ | exact (fun _=>rfl) | exact (fun h=>nomatch h) | (simp;done) | omega | (simp [big];done) | exact le_big (by omega) | exact lt_big (by omega))))
   all_goals try (exfalso;omega;done)
   refine Rn.loop (fun i:Nat=>i≤W.length) (fun i=>[(13,.int .i64 ((vL sr ((W.map (·.1)).take i)).length:Nat)),(21,.int .i64 (i:Nat))]) (fun _=>[B.blk x.v false,.unborn,.blk (([]++elC l)++[V.str x.nm,V.sl x.c x.l.length (shC x.l),V.int .i64 x.g]) false,.unborn,.unborn]) (fun i=>W.length - i) 0 (Nat.zero_le _) rfl ?_
   rintro i w1
   try dsimp only
   have hpre:∀ j,(vL sr ((W.map (·.1)).take j)).length≤P.length:=fun j=>by
    have h1:vL sr (W.map (·.1))=vL sr ((W.map (·.1)).take j)++vL sr ((W.map (·.1)).drop j):=by rw [← vL_app,List.take_append_drop]
    rw [← hws,h1,List.length_append]
    omega
   have hpi:=hpre i
   by_cases hi:i<W.length∧(vL sr ((W.map (·.1)).take i)).length<P.length
   ·obtain ⟨hi,hk⟩:=hi
    obtain ⟨t,ht⟩:∃ t,W[i]?=some t:=⟨_,List.getElem?_eq_getElem hi⟩
    have htm:=List.mem_of_getElem? ht
    obtain ⟨o', ho', te,tk⟩:=hwm t htm
    have hmi:(W.map (·.1))[i]?=some t.1:=by rw [List.getElem?_map,ht];rfl
    have g0:=trC_c0 ht
    cases ho:sr t.1 with
    | none =>
     obtain ⟨p1,p2⟩:=vL_no hmi ho
     rw [hws] at p1
     obtain ⟨u,hu⟩:∃ u,P[(vL sr ((W.map (·.1)).take i)).length]?=some u:=⟨_,List.getElem?_eq_getElem hk⟩
     have hne:u.1≠t.1:=fun e=>not_drop hwn hmi (by
      rw [p1] at hu
      have:=(vL_mem (List.mem_of_getElem? hu)).1
      rwa [e] at this)
     have g1:=trC_c0 hu
     generalize (vL sr ((W.map (·.1)).take i)).length=k at *
     repeat' (first
 | (conv=>whnf)
   first
   | (refine Br.decT ?_ ?_;(focus first | assumption | omega))
   | (refine Br.decF ?_ ?_;(focus first | assumption | omega))
   | refine Br.not ?_
   | (refine Bnd.i64 ?_ ?_ ?_;(focus omega);(focus omega))
   | refine Rn.seq ?_
   | refine Rn.block ?_
   | refine Rn.cond ?_
   | refine Rn.reg ?_
   | refine Rn.skip ?_
   | refine Rn.exit ?_
   | refine Get.mk _ g0 ?_
   | refine Get.mk _ g1 ?_
   | (refine Idx.nat ?_ ?_;(focus omega))
   | (refine Req.mk ?_ ?_;(focus first | rfl | decide | exact ⟨rfl,rfl⟩ | exact ⟨rfl,by decide⟩ | exact (fun _=>rfl) | exact (fun h=>nomatch h) | (simp;done) | omega | (simp [big];done) | exact le_big (by omega) | exact lt_big (by omega))))
     all_goals first | (exfalso;omega;done) | exact NextP.mk (i+1) hi (by omega) (by rw [p2];rfl)
    | some o =>
     obtain ⟨p1,p2⟩:=vL_yes hmi ho
     rw [hws] at p1
     obtain ⟨o2,h2,hle⟩:=hup _ o ho
     rw [ho'] at h2
     cases h2
     obtain ⟨y,p,y1,y2,y3,y4⟩:=hin _ o ho
     obtain ⟨y', p', z1,z2,z3,z4⟩:=hin' _ o' ho'
     have g1:=trC_c0 p1
     have g2:=trC_c1 ht
     have g3:=trC_c2 ht
     have g4:=trC_c1 p1
     have g5:=trC_c2 p1
     rw [te] at g2
     rw [tk] at g3
     dsimp only at g1 g4 g5
     have ye:=(List.getElem?_eq_some_iff.1 y1).1
     have yk:=(List.getElem?_eq_some_iff.1 y2).1
     have ze:=(List.getElem?_eq_some_iff.1 z1).1
     have zk:=(List.getElem?_eq_some_iff.1 z2).1
     have g6:cellAt (([]++elC l)++[V.str x.nm,V.sl x.c x.l.length (shC x.l),V.int .i64 x.g]) (0+o'.e * 3+1)=some (.sl y'.c y'.l.length (shC y'.l)):=by
      rw [Nat.zero_add,List.nil_append, ← elC_snoc]
      exact elC_sh' z1
     have g7:=shC_c1 z2
     have g8:=elC_sh' y1
     have g9:=shC_c1 y2
     rw [z4] at g7
     rw [y4] at g9
     rw [hln] at ze
     have hlen:(([]++elC l)++[V.str x.nm,V.sl x.c x.l.length (shC x.l),V.int .i64 x.g]:List V).length=([]:List V).length+(elC l).length+[V.str x.nm,V.sl x.c x.l.length (shC x.l),V.int .i64 x.g].length:=by simp
     generalize (vL sr ((W.map (·.1)).take i)).length=k at *
     repeat' (first
 | (conv=>whnf)
   first
   | refine Br.f ?_
   | (refine Br.decT ?_ ?_;(focus first | assumption | omega))
   | (refine Br.decF ?_ ?_;(focus first | assumption | omega))
   | refine Br.not ?_
   | (refine Bnd.i64 ?_ ?_ ?_;(focus omega);(focus omega))
   | refine Rn.seq ?_
   | refine Rn.block ?_
   | refine Rn.cond ?_
   | refine Rn.reg ?_
   | refine Rn.skip ?_
   | refine Get.mk _ g0 ?_
   | refine Get.mk _ g1 ?_
   | refine Get.mk _ g2 ?_
   | refine Get.mk _ g3 ?_
   | refine Get.mk _ g4 ?_
   | refine Get.mk _ g5 ?_
   | refine Get.mk _ g6 ?_
   | refine Get.mk _ g7 ?_
   | refine Get.mk _ g8 ?_
   | refine Get.mk _ g9 ?_
   | refine Req.mk hlen ?_
   | (refine Idx.nat ?_ ?_;(focus omega))
   | refine Get.mk _ rfl ?_
   | (refine Req.mk ?_ ?_;(focus first | rfl | decide | exact ⟨rfl,rfl⟩ | exact ⟨rfl,by decide⟩ | exact (fun _=>rfl) | exact (fun h=>nomatch h) | (simp;done) | omega | (simp [big];done) | exact le_big (by omega) | exact lt_big (by omega))))
     all_goals first | (exfalso;omega;done) | exact NextP.mk (i+1) hi (by omega) (by rw [p2];rfl)
   ·have hke:(vL sr ((W.map (·.1)).take i)).length=P.length:=by
     by_cases h:i<W.length
     ·by_cases h2:(vL sr ((W.map (·.1)).take i)).length<P.length
      ·exact absurd ⟨h,h2⟩ hi
      ·omega
     ·rw [List.take_of_length_le (by rw [List.length_map];omega),hws]
    rw [hke]
    by_cases h:i<W.length
    ·repeat' (first
 | (conv=>whnf)
   first
   | (refine Br.decT ?_ ?_;(focus first | assumption | omega))
   | (refine Br.decF ?_ ?_;(focus first | assumption | omega))
   | refine Rn.seq ?_
   | refine Rn.cond ?_
   | refine Rn.reg ?_
   | refine Rn.exit ?_
   | refine Rn.ret ?_
   | refine call_fun rfl rfl h5 (.inl rfl) ?_
   | refine Get.mk _ rfl ?_
   | refine Leaves.of ?_
   | refine Vw.bool ?_)
     all_goals first | rfl | (exfalso;omega;done) | simp
    ·repeat' (first
 | (conv=>whnf)
   first
   | refine Br.f ?_
   | (refine Br.decT ?_ ?_;(focus first | assumption | omega))
   | (refine Br.decF ?_ ?_;(focus first | assumption | omega))
   | refine Rn.seq ?_
   | refine Rn.cond ?_
   | refine Rn.reg ?_
   | refine Rn.exit ?_
   | refine Rn.ret ?_
   | refine call_fun rfl rfl h5 (.inl rfl) ?_
   | refine Get.mk _ rfl ?_
   | refine Leaves.of ?_
   | refine Vw.bool ?_)
     all_goals first | rfl | (exfalso;omega;done) | simp
end Go.Dr.T
