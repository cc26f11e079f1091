/- Chapter 06: Whole, walked: its result in a block of its own. -/
import Derived.Test.YtfhphjloaelgoaaGreatDoorG15
import Derived.Test.YtfhphjloaelgoaaGreatDoorG11
import Derived.Test.YtfhphjloaelgoaaGreatDoorG13
namespace Go.Dr.T
set_option maxRecDepth 100000 in
set_option maxHeartbeats 20000000 in
theorem whole_bk {cc:Bool} {l:List El} {D:List PE} {A:List Int} {w:Int→Option (List Int)} {w2:Int→Int→Option (List Int)}
  (hg:Fun FB1 md 65 [elsV cc l] (.tup [gatV D,.int .i64 0])) (hn:D.length≤100000) (hL:∀ e∈D,e.L.length≤100000) (nd:(D.map (·.k)).Nodup)
  (hw:∀ k∈D.map (·.k),Fun FB1 md 69 [gatV D,.int .i64 k,.int .i64 k,.int .i64 k] (wayV (w k))) (hne:∀ k,w k≠some []) (hr:roundP w (isort (D.map (·.k)))=none)
  (hgo:wgo D D.length (D.map (·.k)) []=some A)
  (hw2:∀ i,0<i→i<A.length→Fun FB1 md 69 [gatV D,.int .i64 (kAt A (i - 1)),.int .i64 (kAt A i),.int .i64 0] (wayV (w2 (kAt A (i - 1)) (kAt A i))))
  (fc:Fc) (hfc:F 33=some fc):wpm FB1 md 0 fc.body ⟨[elsV cc l]++deads (fc.ntm - fc.np),[]⟩ (WEnds fc.res A (onlyN w2 A A.length)):=by
 cases hfc
 have hkl:(D.map (·.k)).length=D.length:=by simp
 have hol:(ofInts (D.map (·.k))).length=D.length:=by simp [ofInts]
 have hrc:∀ {h:List B} {ro:Nat} {K:V→List B→Prop},K .nilsl h→CallP FB1 md ro (.fn 66 []) [gatV D] h K:=fun hk=>round_call (by omega) hw hne (by rw [hr];exact hk)
 have hso:=sorted_fun (ks:=D.map (·.k)) (vs:=D.map PE.v) (by omega)
 have hcon:∀ (e:PE) (k:Int),e∈D→Fun FB1 md 68 [e.v,.int .i64 k] (.bool (hasB k e.L)):=fun e k he=>by
  have h1:=contains_lw (c:=e.c) (L:=isort e.L) (m:=k) (by rw [isort_len];have:=hL e he;omega)
  rw [hasB_perm (isort_perm _)] at h1
  exact h1.tab sub1
 refine (fV_eq (K:=fun tm=>wpm FB1 md 0 _ ⟨tm,[]⟩ _)).1 ?_
 repeat' (first
 | (conv=>whnf)
   first
   | refine Br.f ?_
   | refine call_fun rfl rfl hg (.inl rfl) ?_
   | refine hrc ?_
   | refine Get.mk _ rfl ?_)
 -- all marks are left
 refine LoopP.by (fun seen:List Nat=>seen.Nodup∧∀ s∈seen,s<(D.map (·.k)).length) (fun _=>[]) (fun seen=>[mqB (sKeys (D.map (·.k)) seen),.ir (ofInts (D.map (·.k))) (D.map PE.v) seen]) (fun seen=>(D.map (·.k)).length - seen.length) [] ⟨.nil,by simp⟩ rfl ?_
 rintro seen ⟨h1,h2⟩
 dsimp only
 have hle:seen.length≤(D.map (·.k)).length:=nodup_le h1 h2
 have hsl:(sKeys (D.map (·.k)) seen).length=seen.length:=by simp [sKeys]
 have hnx:∀ s,s<(D.map (·.k)).length→s ∉ seen→((seen++[s]).Nodup∧∀ t∈seen++[s],t<(D.map (·.k)).length)∧(D.map (·.k)).length - (seen++[s]).length<(D.map (·.k)).length - seen.length:=fun s hs hn=>by
  have hd:(seen++[s]).Nodup:=by
   rw [List.nodup_append]
   exact ⟨h1,by simp,fun x hx y hy=>by rw [List.mem_singleton] at hy;subst hy;rintro rfl;exact hn hx⟩
  have hb:∀ t∈seen++[s],t<(D.map (·.k)).length:=fun t ht=>by
   rcases List.mem_append.1 ht with ht | ht
   ·exact h2 t ht
   ·rw [List.mem_singleton] at ht;subst ht;exact hs
  have:=nodup_le hd hb
  refine ⟨⟨hd,hb⟩,?_⟩
  rw [List.length_append] at this ⊢
  simp at this ⊢; omega
 repeat' (first
 | (conv=>whnf)
   first
   | refine Get.mk _ rfl ?_)
 refine NextR.mk (fun hall => ?_) (fun s hs hn => ?_)
 rotate_left
 ·rw [hol, ← hkl] at hs
  have hc:=cur1_of (vs:=D.map PE.v) (seen:=seen) hs
  have hnk:kAt (D.map (·.k)) s ∉ sKeys (D.map (·.k)) seen:=fun hm=>by
   obtain ⟨t,ht,he⟩:=List.mem_map.1 hm
   have h3:=kAt_get (h2 t ht)
   have h4:=kAt_get hs
   have:=(List.getElem?_inj (i:=t) (j:=s) (h2 t ht) nd).1 (by rw [h3,h4,he])
   subst this;exact hn ht
  have hmf:=mfind_not (i:=0) hnk
  have k1:ofInts (sKeys (D.map (·.k)) seen)++[V.int .i64 (kAt (D.map (·.k)) s)]=ofInts (sKeys (D.map (·.k)) (seen++[s])):=by rw [sKeys_snoc];simp [ofInts]
  have k2:List.replicate (sKeys (D.map (·.k)) seen).length (V.bool true)++[V.bool true]=List.replicate ((sKeys (D.map (·.k)) seen).length+1) (.bool true):=(List.replicate_succ' ..).symm
  repeat' (first
 | (conv=>whnf)
   first
   | refine Br.t ?_
   | refine Get.mk _ hc ?_
   | refine Get.mk _ hmf ?_
   | refine fVg k1 ?_
   | refine fVg k2 ?_
   | refine Get.mk _ rfl ?_)
  refine NextP.mk (seen++[s]) (hnx s hs hn).1 (hnx s hs hn).2 ?_
  rw [sKeys_snoc,mqB_snoc, ← sKeys_snoc]
  rfl
 have hpm:=sKeys_perm h1 h2 (fun s hs=>hall s (by rw [hol, ← hkl];exact hs))
 have hsn:(sKeys (D.map (·.k)) seen).length=D.length:=by rw [hpm.length_eq,hkl]
 have hgo' : wgo D D.length (sKeys (D.map (·.k)) seen) []=some A:=by rw [wgo_perm hpm];exact hgo
 generalize sKeys (D.map (·.k)) seen=K0 at *
 repeat' (first
 | (conv=>whnf)
   first
   | refine Br.f ?_
   | refine Get.mk _ rfl ?_)
 refine LoopP.by (WOk D A K0.length) (fun a=>[(2,lv 2 false a.all)]) (fun a=>[mqL a.st K0.length a.L,.ir (ofInts (D.map (·.k))) (D.map PE.v) seen]++wB K0.length a.it a.all) (fun a=>a.L.length) ⟨K0,List.range K0.length,[],[]⟩ ⟨hpm.nodup_iff.2 nd,List.nodup_range,by simp,fun s hs=>List.mem_range.1 hs,fun k hk=>hpm.mem_iff.1 hk,⟨_,hgo'⟩,by simp⟩ rfl ?_
 rintro ⟨L,st,all,it⟩ o
 have o' := o
 obtain ⟨o1,o2,o3,o4,o5,⟨f,o6⟩,o7⟩:=o
 dsimp only at o1 o2 o3 o4 o5 o6 o7 ⊢
 by_cases hL0:L=[]
 ·subst hL0
  have:=wgo_nil o6
  subst this
  cases all with
  | nil =>
   repeat' (first
 | (conv=>whnf)
   first
   | refine Br.f ?_
   | refine Get.mk _ rfl ?_)
   refine LoopP.by (fun i:Nat=>i≤0) (fun i=>[(3,.bool true),(70,.int .i64 (i:Nat))]) (fun _=>[mqL st K0.length [],.ir (ofInts (D.map (·.k))) (D.map PE.v) seen]) (fun i=>0) 0 (Nat.zero_le _) rfl ?_
   rintro i hi
   obtain rfl:i=0:=by omega
   repeat' (first
 | (conv=>whnf)
   first
   | refine Br.f ?_)
   all_goals first | exact ⟨.inr rfl,.inl ⟨rfl,rfl⟩⟩ | (exfalso;omega)
  | cons x r =>
   repeat' (first
 | (conv=>whnf)
   first
   | refine Br.f ?_
   | refine Get.mk _ rfl ?_)
   refine LoopP.by (fun i:Nat=>i≤r.length+1) (fun i=>[(3,.bool (onlyN w2 (x :: r) i)),(70,.int .i64 (i:Nat))]) (fun _=>[mqL st K0.length [],.ir (ofInts (D.map (·.k))) (D.map PE.v) seen,.it 0 K0.length K0.length it,.blk (ofInts (x :: r)) true]) (fun i=>r.length+1 - i) 0 (Nat.zero_le _) rfl ?_
   rintro i hi
   dsimp only
   have hox:(ofInts (x :: r)).length=r.length+1:=by simp [ofInts]
   by_cases hi' : i<r.length+1
   rotate_left
   ·obtain rfl:i=r.length+1:=by omega
    repeat' (first
 | (conv=>whnf)
   first
   | (refine Br.decF ?_ ?_;(focus first | assumption | omega)))
    all_goals first | exact ⟨.inr rfl,.inr ⟨by simp,3,rfl,rfl⟩⟩ | (exfalso;omega)
   have hsu:=onlyN_succ w2 (x :: r) i
   by_cases hi0:i=0
   ·subst hi0
    repeat' (first
 | (conv=>whnf)
   first
   | refine Br.f ?_
   | (refine Br.decT ?_ ?_;(focus first | assumption | omega))
   | (refine Bnd.i64 ?_ ?_ ?_;(focus omega);(focus omega)))
    all_goals try (exfalso;omega)
    exact NextP.mk 1 (by omega) (by omega) (norm_same rfl)
   have hwc:=hw2 i (by omega) (by simpa using hi')
   obtain ⟨p,rfl⟩:∃ p,i=p+1:=⟨i - 1,by omega⟩
   have hrl:r.length+1≤100000:=by simp at o7;omega
   have hcel:∀ q,q<r.length+1→cellAt (ofInts (x :: r)) (0+q * 1)=some (.int .i64 (kAt (x :: r) q)):=fun q hq=>by
    obtain ⟨y,h1,h2⟩:=ofInts_cell (l:=x :: r) (i:=q) (by simpa using hq)
    rw [kAt_get (by simpa using hq)] at h1
    cases h1;rw [Nat.zero_add];exact h2
   have hc1:=hcel p (by omega)
   have hc2:=hcel (p+1) hi'
   have hbp:IntKind.i64.wrap (((p+1:Nat):Int) - 1)=(p:Nat):=by rw [wrap_i64 (by omega) (by omega)];omega
   rw [Nat.add_sub_cancel] at hwc hsu
   have hd0:decide (p+1=0)=false:=rfl
   rw [hd0,Bool.false_or] at hsu
   generalize hww:w2 (kAt (x :: r) p) (kAt (x :: r) (p+1))=ww at *
   generalize hon:onlyN w2 (x :: r) (p+1)=on at *
   cases ww
   all_goals cases on
   all_goals
    repeat' (first
 | (conv=>whnf)
   first
   | refine Bnd.eq hbp ?_
   | refine Br.t ?_
   | refine Br.f ?_
   | (refine Br.decT ?_ ?_;(focus first | assumption | omega))
   | (refine Bnd.i64 ?_ ?_ ?_;(focus omega);(focus omega))
   | refine Get.mk _ hc1 ?_
   | refine Get.mk _ hc2 ?_
   | refine call_fun rfl rfl hwc (.inl rfl) ?_
   | (refine Idx.nat ?_ ?_;(focus omega))
   | refine Get.mk _ rfl ?_
   | (refine Req.mk ?_ ?_;(focus first | rfl | decide | exact ⟨rfl,rfl⟩ | exact ⟨rfl,by decide⟩ | exact (fun _=>rfl) | exact (fun h=>nomatch h) | (simp;done) | omega | (simp [big];done) | exact le_big (by omega) | exact lt_big (by omega))))
   all_goals try (exfalso;omega)
   all_goals refine NextP.mk (p+1+1) (by omega) (by omega) ?_
   all_goals rw [hsu]
   all_goals exact norm_same rfl
 obtain ⟨f', k0,rfl,hfind,hgo2⟩:=wgo_step o6 hL0
 have hofl:(ofInts L).length=L.length:=by simp [ofInts]
 have hLp:0<L.length:=List.length_pos_iff.2 hL0
 have hmemS:∀ k∈isort (D.map (·.k)),k∈D.map (·.k):=fun k hk=>(isort_perm _).mem_iff.1 hk
 have hSl:(isort (D.map (·.k))).length=D.length:=by rw [isort_len,hkl]
 generalize isort (D.map (·.k))=S at *
 obtain ⟨cS,hcS⟩:=lw_sl S
 rw [hcS] at hso
 cases all with
 | nil =>
  repeat' (first
 | (conv=>whnf)
   first
   | (refine Br.decT ?_ ?_;(focus first | assumption | omega))
   | refine call_fun rfl rfl hso (.inl rfl) ?_
   | refine Get.mk _ rfl ?_)
  refine LoopP.by (fun j:Nat=>j≤S.length∧∀ k∈S.take j,freeB D L k=false) (fun j=>[(2,lv 2 false []),(42,.int .i64 (j:Nat))]) (fun _=>[mqL st K0.length L,.ir (ofInts (D.map (·.k))) (D.map PE.v) seen]) (fun j=>S.length - j) 0 ⟨Nat.zero_le _,by simp⟩ rfl ?_
  rintro j ⟨q1,q2⟩
  dsimp only
  by_cases hj:j<S.length
  rotate_left
  ·exfalso
   obtain rfl:j=S.length:=by omega
   rw [List.take_length] at q2
   have:=q2 k0 (List.mem_of_find?_eq_some hfind)
   rw [List.find?_some hfind] at this;cases this
  obtain ⟨k,hk,hck⟩:=ofInts_cell hj
  have hnext:freeB D L k=false→j+1≤S.length∧∀ k∈S.take (j+1),freeB D L k=false:=fun hf=>⟨hj,fun x hx=>by
   rw [List.take_add_one,hk] at hx
   rcases List.mem_append.1 hx with hx | hx
   ·exact q2 x hx
   ·simp at hx;subst hx;exact hf⟩
  by_cases hkL:k∈L
  rotate_left
  ·have hmf:=mfind_not (i:=0) hkL
   have hfr:freeB D L k=false:=by unfold freeB;rw [show hasB k L=false by simp [hasB,hkL],Bool.false_and]
   repeat' (first
 | (conv=>whnf)
   first
   | refine Br.t ?_
   | (refine Br.decT ?_ ?_;(focus first | assumption | omega))
   | (refine Bnd.i64 ?_ ?_ ?_;(focus omega);(focus omega))
   | refine Get.mk _ hck ?_
   | refine Get.mk _ hmf ?_
   | (refine Idx.nat ?_ ?_;(focus omega))
   | refine Get.mk _ rfl ?_
   | (refine Req.mk ?_ ?_;(focus first | rfl | decide | exact ⟨rfl,rfl⟩ | exact ⟨rfl,by decide⟩ | exact (fun _=>rfl) | exact (fun h=>nomatch h) | (simp;done) | omega | (simp [big];done) | exact le_big (by omega) | exact lt_big (by omega))))
   all_goals first | (exfalso;omega;done) | exact NextP.mk (j+1) (hnext hfr) (by omega) (norm_same rfl)
  obtain ⟨i,hil,hi,hmf⟩:=mfind_mem (i:=0) hkL
  rw [Nat.zero_add] at hmf
  have htt:=trues_tg hil
  repeat' (first
 | (conv=>whnf)
   first
   | refine Br.f ?_
   | (refine Br.decT ?_ ?_;(focus first | assumption | omega))
   | refine Get.mk _ hck ?_
   | (refine Get.mk _ hmf ?_;refine fWe htt ?_)
   | (refine Idx.nat ?_ ?_;(focus omega))
   | refine Get.mk _ rfl ?_
   | (refine Req.mk ?_ ?_;(focus first | rfl | decide | exact ⟨rfl,rfl⟩ | exact ⟨rfl,by decide⟩ | exact (fun _=>rfl) | exact (fun h=>nomatch h) | (simp;done) | omega | (simp [big];done) | exact le_big (by omega) | exact lt_big (by omega))))
  all_goals try (exfalso;omega)
  refine LoopP.by (fun sn:List Nat=>sn.Nodup∧(∀ s∈sn,s∈st)∧∀ (a:Nat) (s:Nat) (o:Int),st[a]?=some s→s∈sn→L[a]?=some o→hasB k (pM D o)=false) (fun _=>[]) (fun sn=>[mqL st K0.length L,.ir (ofInts (D.map (·.k))) (D.map PE.v) seen]++[.it 0 K0.length K0.length sn]) (fun sn=>K0.length - sn.length) [] ⟨.nil,by simp,by simp⟩ rfl ?_
  rintro sn ⟨z1,z2,z3⟩
  dsimp only
  have hst:(∀ s∈st,s<K0.length)∧K0.length≤K0.length:=⟨o4,Nat.le_refl _⟩
  repeat' (first
 | (conv=>whnf)
   first
   | refine Req.mk hst ?_
   | refine Get.mk _ rfl ?_
   | (refine Req.mk ?_ ?_;(focus first | rfl | decide | exact ⟨rfl,rfl⟩ | exact ⟨rfl,by decide⟩ | exact (fun _=>rfl) | exact (fun h=>nomatch h) | (simp;done) | omega | (simp [big];done) | exact le_big (by omega) | exact lt_big (by omega))))
  refine NextQ.mk (fun hall => ?_) (fun a s ha hns => ?_)
  all_goals (try dsimp only at hall)
  all_goals (try dsimp only at ha hns)
  rotate_left
  ·obtain ⟨o,ho⟩:∃ o,L[a]?=some o:=⟨_,List.getElem?_eq_getElem (by have:=(List.getElem?_eq_some_iff.1 ha).1;omega)⟩
   have hcur:=cur_mq (n:=K0.length) (sn:=sn) o2 ha ho o3
   obtain ⟨i2,e,he,hf2,htg2,hpm2⟩:=pe_find nd (o5 o (List.mem_of_getElem? ho))
   have hce:=hcon e k he
   rw [← hpm2] at hce
   obtain ⟨cv,hcv⟩:=pe_sl e
   rw [hcv] at htg2 hce
   have hnd:(sn++[s]).Nodup:=by
    rw [List.nodup_append]
    exact ⟨z1,by simp,fun x hx y hy=>by rw [List.mem_singleton] at hy;subst hy;rintro rfl;exact hns hx⟩
   have hsb:∀ t∈sn++[s],t∈st:=fun t ht=>by
    rcases List.mem_append.1 ht with ht | ht
    ·exact z2 t ht
    ·rw [List.mem_singleton] at ht;subst ht;exact List.mem_of_getElem? ha
   have hlen:=nodup_le hnd (fun t ht=>o4 t (hsb t ht))
   rw [List.length_append] at hlen
   simp only [List.length_cons,List.length_nil] at hlen
   cases hb:hasB k (pM D o) <;> rw [hb] at hce
   ·repeat' (first
 | (conv=>whnf)
   first
   | refine Br.t ?_
   | refine Br.f ?_
   | refine Get.mk _ hcur ?_
   | (refine Get.mk _ hf2 ?_;refine fWe htg2 ?_)
   | refine call_fun rfl rfl hce (.inl rfl) ?_
   | refine Get.mk _ rfl ?_)
    all_goals try (exfalso;omega)
    refine NextP.mk (sn++[s]) ⟨hnd,hsb,fun a' s' o' h1 h2 h3 => ?_⟩ (by rw [List.length_append];simp only [List.length_cons,List.length_nil];omega) (norm_same rfl)
    rcases List.mem_append.1 h2 with h2 | h2
    ·exact z3 a' s' o' h1 h2 h3
    ·rw [List.mem_singleton] at h2;subst h2
     have:=(List.getElem?_inj (i:=a') (j:=a) (List.getElem?_eq_some_iff.1 h1).1 o2).1 (by rw [h1,ha])
     subst this
     rw [ho] at h3;cases h3;exact hb
   ·have hfr:freeB D L k=false:=by
     unfold freeB
     rw [Bool.and_eq_false_iff];right
     rw [List.all_eq_false]
     exact ⟨o,List.mem_of_getElem? ho,by simp [hb]⟩
    repeat' (first
 | (conv=>whnf)
   first
   | refine Br.t ?_
   | (refine Bnd.i64 ?_ ?_ ?_;(focus omega);(focus omega))
   | refine Get.mk _ hcur ?_
   | (refine Get.mk _ hf2 ?_;refine fWe htg2 ?_)
   | refine call_fun rfl rfl hce (.inl rfl) ?_
   | refine Get.mk _ rfl ?_)
    all_goals try (exfalso;omega)
    refine NextP.mk (j+1) (hnext hfr) (by omega) (norm_one' rfl rfl rfl rfl hb2)
  have hfr:freeB D L k=true:=by
   unfold freeB
   rw [Bool.and_eq_true,List.all_eq_true]
   refine ⟨by simp [hasB,hkL],fun o ho => ?_⟩
   obtain ⟨a,ha⟩:=List.getElem?_of_mem ho
   obtain ⟨s,hs⟩:∃ s,st[a]?=some s:=⟨_,List.getElem?_eq_getElem (by have:=(List.getElem?_eq_some_iff.1 ha).1;omega)⟩
   rw [z3 a s o hs (hall s (List.mem_of_getElem? hs)) ha];rfl
  have hkk:=find_at hk hfr q2
  rw [hfind] at hkk
  simp only [Option.some.injEq] at hkk
  subst hkk
  have ke1:=ints_erase L i
  have hel:(L.eraseIdx i).length=L.length - 1:=by rw [List.length_eraseIdx,if_pos hil]
  have ke2:(trues L.length).eraseIdx i=trues (L.eraseIdx i).length:=by rw [trues_erase hil,hel]
  have hnx:=o'.next (it' := sn) hgo2 hi
  repeat' (first
 | (conv=>whnf)
   first
   | refine Br.f ?_
   | refine Get.mk _ hmf ?_
   | refine fVg ke1 ?_
   | refine fVg ke2 ?_
   | (refine Ifz.pos ?_ ?_;(focus omega))
   | refine Get.mk _ rfl ?_
   | (refine Req.mk ?_ ?_;(focus first | rfl | decide | exact ⟨rfl,rfl⟩ | exact ⟨rfl,by decide⟩ | exact (fun _=>rfl) | exact (fun h=>nomatch h) | (simp;done) | omega | (simp [big];done) | exact le_big (by omega) | exact lt_big (by omega))))
  all_goals try (exfalso;omega)
  refine NextP.mk ⟨L.eraseIdx i,st.eraseIdx i,[]++[k0],sn⟩ hnx (by dsimp only;omega) ?_
  rfl
 | cons x r =>
  have hox:(ofInts (x :: r)).length=r.length+1:=by simp [ofInts]
  simp only [List.length_cons] at o7
  repeat' (first
 | (conv=>whnf)
   first
   | (refine Br.decT ?_ ?_;(focus first | assumption | omega))
   | refine call_fun rfl rfl hso (.inl rfl) ?_
   | refine Get.mk _ rfl ?_)
  refine LoopP.by (fun j:Nat=>j≤S.length∧∀ k∈S.take j,freeB D L k=false) (fun j=>[(2,lv 2 false (x :: r)),(42,.int .i64 (j:Nat))]) (fun _=>[mqL st K0.length L,.ir (ofInts (D.map (·.k))) (D.map PE.v) seen,.it 0 K0.length K0.length it,.blk (ofInts (x :: r)) true]) (fun j=>S.length - j) 0 ⟨Nat.zero_le _,by simp⟩ rfl ?_
  rintro j ⟨q1,q2⟩
  dsimp only
  by_cases hj:j<S.length
  rotate_left
  ·exfalso
   obtain rfl:j=S.length:=by omega
   rw [List.take_length] at q2
   have:=q2 k0 (List.mem_of_find?_eq_some hfind)
   rw [List.find?_some hfind] at this;cases this
  obtain ⟨k,hk,hck⟩:=ofInts_cell hj
  have hnext:freeB D L k=false→j+1≤S.length∧∀ k∈S.take (j+1),freeB D L k=false:=fun hf=>⟨hj,fun x hx=>by
   rw [List.take_add_one,hk] at hx
   rcases List.mem_append.1 hx with hx | hx
   ·exact q2 x hx
   ·simp at hx;subst hx;exact hf⟩
  by_cases hkL:k∈L
  rotate_left
  ·have hmf:=mfind_not (i:=0) hkL
   have hfr:freeB D L k=false:=by unfold freeB;rw [show hasB k L=false by simp [hasB,hkL],Bool.false_and]
   repeat' (first
 | (conv=>whnf)
   first
   | refine Br.t ?_
   | (refine Br.decT ?_ ?_;(focus first | assumption | omega))
   | (refine Bnd.i64 ?_ ?_ ?_;(focus omega);(focus omega))
   | refine Get.mk _ hck ?_
   | refine Get.mk _ hmf ?_
   | (refine Idx.nat ?_ ?_;(focus omega))
   | refine Get.mk _ rfl ?_
   | (refine Req.mk ?_ ?_;(focus first | rfl | decide | exact ⟨rfl,rfl⟩ | exact ⟨rfl,by decide⟩ | exact (fun _=>rfl) | exact (fun h=>nomatch h) | (simp;done) | omega | (simp [big];done) | exact le_big (by omega) | exact lt_big (by omega))))
   all_goals first | (exfalso;omega;done) | exact NextP.mk (j+1) (hnext hfr) (by omega) (norm_same rfl)
  obtain ⟨i,hil,hi,hmf⟩:=mfind_mem (i:=0) hkL
  rw [Nat.zero_add] at hmf
  have htt:=trues_tg hil
  repeat' (first
 | (conv=>whnf)
   first
   | refine Br.f ?_
   | (refine Br.decT ?_ ?_;(focus first | assumption | omega))
   | refine Get.mk _ hck ?_
   | (refine Get.mk _ hmf ?_;refine fWe htt ?_)
   | (refine Idx.nat ?_ ?_;(focus omega))
   | refine Get.mk _ rfl ?_
   | (refine Req.mk ?_ ?_;(focus first | rfl | decide | exact ⟨rfl,rfl⟩ | exact ⟨rfl,by decide⟩ | exact (fun _=>rfl) | exact (fun h=>nomatch h) | (simp;done) | omega | (simp [big];done) | exact le_big (by omega) | exact lt_big (by omega))))
  all_goals try (exfalso;omega)
  refine LoopP.by (fun sn:List Nat=>sn.Nodup∧(∀ s∈sn,s∈st)∧∀ (a:Nat) (s:Nat) (o:Int),st[a]?=some s→s∈sn→L[a]?=some o→hasB k (pM D o)=false) (fun _=>[]) (fun sn=>[mqL st K0.length L,.ir (ofInts (D.map (·.k))) (D.map PE.v) seen,.it 0 K0.length K0.length it,.blk (ofInts (x :: r)) true]++[.it 0 K0.length K0.length sn]) (fun sn=>K0.length - sn.length) [] ⟨.nil,by simp,by simp⟩ rfl ?_
  rintro sn ⟨z1,z2,z3⟩
  dsimp only
  have hst:(∀ s∈st,s<K0.length)∧K0.length≤K0.length:=⟨o4,Nat.le_refl _⟩
  repeat' (first
 | (conv=>whnf)
   first
   | refine Req.mk hst ?_
   | refine Get.mk _ rfl ?_
   | (refine Req.mk ?_ ?_;(focus first | rfl | decide | exact ⟨rfl,rfl⟩ | exact ⟨rfl,by decide⟩ | exact (fun _=>rfl) | exact (fun h=>nomatch h) | (simp;done) | omega | (simp [big];done) | exact le_big (by omega) | exact lt_big (by omega))))
  refine NextQ.mk (fun hall => ?_) (fun a s ha hns => ?_)
  all_goals (try dsimp only at hall)
  all_goals (try dsimp only at ha hns)
  rotate_left
  ·obtain ⟨o,ho⟩:∃ o,L[a]?=some o:=⟨_,List.getElem?_eq_getElem (by have:=(List.getElem?_eq_some_iff.1 ha).1;omega)⟩
   have hcur:=cur_mq (n:=K0.length) (sn:=sn) o2 ha ho o3
   obtain ⟨i2,e,he,hf2,htg2,hpm2⟩:=pe_find nd (o5 o (List.mem_of_getElem? ho))
   have hce:=hcon e k he
   rw [← hpm2] at hce
   obtain ⟨cv,hcv⟩:=pe_sl e
   rw [hcv] at htg2 hce
   have hnd:(sn++[s]).Nodup:=by
    rw [List.nodup_append]
    exact ⟨z1,by simp,fun x hx y hy=>by rw [List.mem_singleton] at hy;subst hy;rintro rfl;exact hns hx⟩
   have hsb:∀ t∈sn++[s],t∈st:=fun t ht=>by
    rcases List.mem_append.1 ht with ht | ht
    ·exact z2 t ht
    ·rw [List.mem_singleton] at ht;subst ht;exact List.mem_of_getElem? ha
   have hlen:=nodup_le hnd (fun t ht=>o4 t (hsb t ht))
   rw [List.length_append] at hlen
   simp only [List.length_cons,List.length_nil] at hlen
   cases hb:hasB k (pM D o) <;> rw [hb] at hce
   ·repeat' (first
 | (conv=>whnf)
   first
   | refine Br.t ?_
   | refine Br.f ?_
   | refine Get.mk _ hcur ?_
   | (refine Get.mk _ hf2 ?_;refine fWe htg2 ?_)
   | refine call_fun rfl rfl hce (.inl rfl) ?_
   | refine Get.mk _ rfl ?_)
    all_goals try (exfalso;omega)
    refine NextP.mk (sn++[s]) ⟨hnd,hsb,fun a' s' o' h1 h2 h3 => ?_⟩ (by rw [List.length_append];simp only [List.length_cons,List.length_nil];omega) (norm_same rfl)
    rcases List.mem_append.1 h2 with h2 | h2
    ·exact z3 a' s' o' h1 h2 h3
    ·rw [List.mem_singleton] at h2;subst h2
     have:=(List.getElem?_inj (i:=a') (j:=a) (List.getElem?_eq_some_iff.1 h1).1 o2).1 (by rw [h1,ha])
     subst this
     rw [ho] at h3;cases h3;exact hb
   ·have hfr:freeB D L k=false:=by
     unfold freeB
     rw [Bool.and_eq_false_iff];right
     rw [List.all_eq_false]
     exact ⟨o,List.mem_of_getElem? ho,by simp [hb]⟩
    repeat' (first
 | (conv=>whnf)
   first
   | refine Br.t ?_
   | (refine Bnd.i64 ?_ ?_ ?_;(focus omega);(focus omega))
   | refine Get.mk _ hcur ?_
   | (refine Get.mk _ hf2 ?_;refine fWe htg2 ?_)
   | refine call_fun rfl rfl hce (.inl rfl) ?_
   | refine Get.mk _ rfl ?_)
    all_goals try (exfalso;omega)
    refine NextP.mk (j+1) (hnext hfr) (by omega) (norm_one' rfl rfl rfl rfl hb4)
  have hfr:freeB D L k=true:=by
   unfold freeB
   rw [Bool.and_eq_true,List.all_eq_true]
   refine ⟨by simp [hasB,hkL],fun o ho => ?_⟩
   obtain ⟨a,ha⟩:=List.getElem?_of_mem ho
   obtain ⟨s,hs⟩:∃ s,st[a]?=some s:=⟨_,List.getElem?_eq_getElem (by have:=(List.getElem?_eq_some_iff.1 ha).1;omega)⟩
   rw [z3 a s o hs (hall s (List.mem_of_getElem? hs)) ha];rfl
  have hkk:=find_at hk hfr q2
  rw [hfind] at hkk
  simp only [Option.some.injEq] at hkk
  subst hkk
  have ke1:=ints_erase L i
  have hel:(L.eraseIdx i).length=L.length - 1:=by rw [List.length_eraseIdx,if_pos hil]
  have ke2:(trues L.length).eraseIdx i=trues (L.eraseIdx i).length:=by rw [trues_erase hil,hel]
  have hnx:=o'.next (it' := it) hgo2 hi
  repeat' (first
 | (conv=>whnf)
   first
   | refine Br.f ?_
   | refine Get.mk _ hmf ?_
   | refine fVg ke1 ?_
   | refine fVg ke2 ?_
   | refine Req.mk hox ?_
   | refine Req.mk ⟨by omega,by rw [hox];exact lt_big (by simp;omega)⟩ ?_
   | (refine Ifz.pos ?_ ?_;(focus omega))
   | refine Get.mk _ rfl ?_
   | (refine Req.mk ?_ ?_;(focus first | rfl | decide | exact ⟨rfl,rfl⟩ | exact ⟨rfl,by decide⟩ | exact (fun _=>rfl) | exact (fun h=>nomatch h) | (simp;done) | omega | (simp [big];done) | exact le_big (by omega) | exact lt_big (by omega))))
  all_goals try (exfalso;omega)
  refine NextP.mk ⟨L.eraseIdx i,st.eraseIdx i,(x :: r)++[k0],it⟩ hnx (by dsimp only;omega) ?_
  have e1:ofInts (x :: r)++[V.int .i64 k0]=ofInts (x :: (r++[k0])):=by simp [ofInts]
  have e2:(r++[k0]).length=r.length+1:=by simp
  rw [e1,List.cons_append]
  refine (norm_stop (h1:=[mqL (st.eraseIdx i) K0.length (L.eraseIdx i),.ir (ofInts (D.map (·.k))) (D.map PE.v) seen,.it 0 K0.length K0.length it,.blk (ofInts (x :: (r++[k0]))) true,.it 0 K0.length K0.length sn]) rfl rfl rfl rfl rfl hb5 rfl hb4 rfl).trans ?_
  simp only [lv,e2,wB]
  rfl
end Go.Dr.T
namespace Go.Dr.T
def elN:El:=⟨[110,101,103],true,[(1,100),(2,50),(3,80),(4,60)],0⟩
def elP:El:=⟨[112,114,105,110,116,45,98],true,[(1,96),(3,80),(0,58),(5,40)],2⟩
def elQ:El:=⟨[99,117,116],true,[(2,48),(5,44),(4,60)],1⟩
def elU:El:=⟨[117],true,[(0,60)],0⟩
def el3:List El:=[elN,elP,elQ]
def D3:List PE:=pAll el3
theorem vld3:vldE el3=0:=by decide +kernel
theorem keys3:keysOf (pAll el3)=[1,2,3,4,5]:=by decide +kernel
theorem len3:(pAll el3).length=5:=by decide +kernel
theorem way3 {a t ab:Int} {r:Option (List Int)} (h:wayGo (pAll el3) a t ab 1002 0 []=some r):Fun FB1 md 69 [gatV (pAll el3),.int .i64 a,.int .i64 t,.int .i64 ab] (wayV (wayP (pAll el3) a t ab)):=by
 have e:wayP (pAll el3) a t ab=r:=by unfold wayP;rw [h];rfl
 rw [e]
 exact way_fun (by rw [len3];decide) (by decide +kernel) (by decide +kernel) (by rw [show (pAll el3).map (·.k)=[1,2,3,4,5] from keys3];decide) h
theorem wayGo_ne {D:List PE} {a t ab:Int}:∀ {n p:Nat} {bf:List (Int × Int)},wayGo D a t ab n p bf≠some (some [])
 | 0,_,_=>by unfold wayGo;simp
 | n+1,p,bf=>by
  unfold wayGo
  split
  ·simp
  ·split
   ·intro h
    obtain ⟨cs,_,h2⟩:=map_some h
    simp at h2
   ·exact wayGo_ne
theorem wayP_ne {D:List PE} {a t ab:Int}:wayP D a t ab≠some []:=by
 unfold wayP
 intro h
 cases hg:wayGo D a t ab 1002 0 [] with
 | none=>rw [hg] at h;cases h
 | some r=>rw [hg] at h;exact wayGo_ne (hg.trans (congrArg some h))
theorem whole3 {c:Bool}:WholeOk c el3:=by
 refine whole_all (A:=[1,2,3,5,4]) vld3 (by rw [len3];decide) (by decide +kernel) (by rw [keys3];decide) (fun k hk => ?_) (fun k=>wayP_ne) (by decide +kernel) (by decide +kernel) (fun i h0 hi => ?_)
 ·rw [keys3] at hk
  simp only [List.mem_cons,List.not_mem_nil,or_false] at hk
  rcases hk with rfl | rfl | rfl | rfl | rfl <;> exact way3 (r:=none) (by decide +kernel)
 ·simp only [List.length_cons,List.length_nil] at hi
  obtain rfl | rfl | rfl | rfl:i=1∨i=2∨i=3∨i=4:=by omega
  ·exact way3 (r:=some [1]) (by decide +kernel)
  ·exact way3 (r:=some [2]) (by decide +kernel)
  ·exact way3 (r:=some [3]) (by decide +kernel)
  ·exact way3 (r:=some [5]) (by decide +kernel)
theorem whole3_v:wholeV el3 = .tup [.sl false 5 (ofInts [1,2,3,5,4]),.bool true,.int .i64 0]:=veq_eq (by decide +kernel)
theorem whole3_doc:Fun FB2 md 33 [elsV false el3] (wholeV el3):=whole_fun whole3 (by rw [whole3_v];intro h;cases h)
theorem gather3_doc:Fun FB2 md 65 [elsV false el3] (gatherV el3):=(gather_fun gatherV_view).tab sub2
end Go.Dr.T
