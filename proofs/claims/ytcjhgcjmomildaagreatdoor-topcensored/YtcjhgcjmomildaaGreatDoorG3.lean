/- Chapter 06: heaps in general: what norm and trunc keep. -/
import Derived.Test.YtcjhgcjmomildaaGreatDoorG2
import Derived.Test.YtcjhgcjmomildaaGreatDoorDrG
namespace Go.Dr.T
theorem fB.i2 {h g:List B} {K:List B→Prop} (hk:fB g fun r=>K (h++r)):fB (if 2=0 then h else h++g) K:=by rw [if_neg (by decide)];exact fB.tail hk
theorem fB.i1 {h g:List B} {K:List B→Prop} (hk:fB g fun r=>K (h++r)):fB (if 1=0 then h else h++g) K:=by rw [if_neg (by decide)];exact fB.tail hk
theorem fB.i0 {h g:List B} {K:List B→Prop} (hk:K h):fB (if 0=0 then h else g) K:=fB.mk (by rw [if_pos rfl];exact hk)
theorem trunc_two {n:Nat} {tm:List V} {L:List B} {c1 c2:B} (hL:L.length=n) (h0:blos n tm=true) (h1:blos (n+1) tm=true) (h2:hbelow (n+1) (L++[c1])=true) (h3:hbelow n L=true):trunc n tm (L++[c1,c2])=L:=by
 subst hL
 have e1:(L++[c1,c2]).take (L.length+1)=L++[c1]:=by rw [List.take_length_add_append];rfl
 have e2:(L++[c1]).take L.length=L:=by simp
 unfold trunc
 rw [show (L++[c1,c2]).length - L.length=2 by simp]
 unfold strip
 simp only [e1,h1,h2,Bool.and_self,if_true]
 unfold strip
 simp only [Nat.add_zero,e2,h0,h3,Bool.and_self,if_true,strip]
theorem hbelow_snoc {n:Nat} {c:B}:∀ {L:List B},hbelow n L=true→c.blo n=true→hbelow n (L++[c])=true
 | [],_,h=>by simp [hbelow,h]
 | x :: L,h,hc=>by
  simp only [hbelow,Bool.and_eq_true,List.cons_append] at h ⊢
  exact ⟨h.1,hbelow_snoc h.2 hc⟩
theorem fBtr {n:Nat} {k:IntKind} {z:Int} {L G:List B} {c1 c2:B} {K:List B→Prop} (hL:L.length=n) (hG:G=L++[c1,c2]) (h2:hbelow (n+1) (L++[c1])=true) (h3:hbelow n L=true) (hk:K L):fB (trunc n [.int k z] G) K :=
 fB.mk (by subst hG;rw [trunc_two hL rfl rfl h2 h3];exact hk)
theorem fVg' {l l' : List V} {K:List V→Prop} (e:l=l') (h:K l'):fV l K:=fV.mk (e ▸ h)
inductive Hid (p:Prop):Prop where
 | mk:p→Hid p
theorem trunc_one {n:Nat} {tm:List V} {L:List B} {c:B} (hL:L.length=n) (h0:blos n tm=true) (h1:hbelow n L=true):trunc n tm (L++[c])=L:=by
 subst hL
 have e2:(L++[c]).take L.length=L:=by simp
 unfold trunc
 rw [show (L++[c]).length - L.length=1 by simp]
 unfold strip
 simp only [Nat.add_zero,e2,h0,h1,Bool.and_self,if_true,strip]
theorem fBtr1 {n:Nat} {k:IntKind} {z:Int} {L G:List B} {c:B} {K:List B→Prop} (hL:L.length=n) (hG:G=L++[c]) (h:hbelow n L=true) (hk:K L):fB (trunc n [.int k z] G) K :=
 fB.mk (by subst hG;rw [trunc_one hL rfl h];exact hk)
theorem blos_tg {n:Nat}:∀ {tm:List V} {i:Nat},blos n tm=true→(tg tm i).blo n=true
 | [],_,_=>by simp [tg,V.blo]
 | v :: l,0,h=>by simp only [blos,Bool.and_eq_true] at h;exact h.1
 | v :: l,i+1,h=>by simp only [blos,Bool.and_eq_true] at h;exact blos_tg (tm:=l) (i:=i) h.2
theorem strip_keep {n i id:Nat} {tm:List V} {b:B} (hv:∀ k,(tg tm i).blo k=true→id<k):∀ {j:Nat} {h:List B},h.length=n+j→bget h id=some b→bget (strip n tm j h) id=some b
 | 0,h,_,e=>e
 | j+1,h,hl,e=>by
  unfold strip
  split
  ·rename_i hc
   rw [Bool.and_eq_true] at hc
   have hid:=hv _ (blos_tg (i:=i) hc.1)
   exact strip_keep hv (by rw [List.length_take];omega) (by rw [bget_take hid];exact e)
  ·exact e
theorem strip_len {n:Nat} {tm:List V}:∀ {j:Nat} {h:List B},h.length=n+j→n≤(strip n tm j h).length
 | 0,h,hl=>by unfold strip;omega
 | j+1,h,hl=>by
  unfold strip
  split
  ·exact strip_len (by rw [List.length_take];omega)
  ·omega
theorem norm_keep {m:List Bool} {n i id:Nat} {s:St} {b:B} (hn:n≤s.h.length) (hv:∀ k,(tg (masked m s.tm) i).blo k=true→id<k) (e:bget s.h id=some b):bget (norm m n s).h id=some b :=
 strip_keep (i:=i) hv (by omega) e
theorem norm_len {m:List Bool} {n:Nat} {s:St} (hn:n≤s.h.length):n≤(norm m n s).h.length:=strip_len (by omega)
theorem NextP.of {α:Type} {P:α→Prop} {I:α→St} {μ:α→Nat} {a:α} {s:St} (f:List B→α) (h1:P (f s.h)) (h2:μ (f s.h)<μ a) (h3:s=I (f s.h)):NextP P I μ a s:=⟨f s.h,h1,h2,h3⟩
theorem CallP.heap {F:Nat→Option Fc} {md ro f a h h' K} (e:h=h') (hc:CallP F md ro f a h' K):CallP F md ro f a h K:=by subst e;exact hc
theorem bget_lop {hh:List B} {L:B} {n:Nat} (e:hh.length=n):bget (hh++[L]) (n+0)=some L:=by subst e;exact bget_new (i:=0)
theorem bset_lop {hh:List B} {L L' : B} {n:Nat} (e:hh.length=n):bset (hh++[L]) (n+0) L' = hh++[L']:=by subst e;rw [bset_new];rfl
theorem fB.lop {hh g:List B} {L L' : B} {n:Nat} {K:List B→Prop} (e:hh.length=n) (hk:K ((hh++[L'])++g)):fB (bset ((hh++[L])++g) (n+0) L') K:=fB.mk (by rw [bset_app (by rw [List.length_append,e];exact Nat.lt_succ_self n),bset_lop e];exact hk)
theorem fLen.as {h:List B} {n:Nat} {K:Nat→Prop} (e:h.length=n) (hk:K (n+0)):fLen h 0 K:=by subst e;exact fLen.mk hk
theorem bset_two {h:List B} {n:Nat} {a b:B}:bset (bset h n a) n b=bset h n b:=by rw [bset_eq,bset_eq,bset_eq,List.set_set]
def Cl (h:List B):Prop:=hbelow h.length h=true
theorem Bblo_mono {n m:Nat} (h:n≤m):∀ (b:B),b.blo n=true→b.blo m=true
 | .blk c dat,e=>by
  simp only [B.blo,Bool.or_eq_true] at e ⊢
  rcases e with e | e
  ·exact .inl e
  ·exact .inr (blos_mono h _ e)
 | .unborn,_=>rfl
 | .lop _ _ tm _ _ _,e=>blos_mono h tm e
 | .mp ks vs,e=>by simp only [B.blo,Bool.and_eq_true] at e ⊢; exact ⟨blos_mono h _ e.1,blos_mono h _ e.2⟩
 | .mq _ _ ks vs,e=>by simp only [B.blo,Bool.and_eq_true] at e ⊢; exact ⟨blos_mono h _ e.1,blos_mono h _ e.2⟩
 | .it a _ _ _,e=>by simp only [B.blo,decide_eq_true_eq] at e ⊢; omega
 | .ir _ _ _,_=>rfl
theorem hbelow_mono {n m:Nat} (h:n≤m):∀ (l:List B),hbelow n l=true→hbelow m l=true
 | [],_=>rfl
 | b :: l,e=>by simp only [hbelow,Bool.and_eq_true] at e ⊢; exact ⟨Bblo_mono h b e.1,hbelow_mono h l e.2⟩
theorem Cl.app {h:List B} {b:B} (c:Cl h) (e:b.blo h.length=true):Cl (h++[b]):=by
 unfold Cl
 rw [List.length_append]
 exact hbelow_mono (Nat.le_add_right _ _) _ (hbelow_snoc c e)
theorem hbelow_set {m:Nat} {b:B} (e:b.blo m=true):∀ {h:List B} {n:Nat},hbelow m h=true→hbelow m (bset h n b)=true
 | [],n,_=>by cases n <;> rfl
 | a :: l,0,c=>by simp only [bset,hbelow,Bool.and_eq_true] at c ⊢; exact ⟨e,c.2⟩
 | a :: l,n+1,c=>by simp only [bset,hbelow,Bool.and_eq_true] at c ⊢; exact ⟨c.1,hbelow_set e c.2⟩
theorem Cl.set {h:List B} {n:Nat} {b:B} (c:Cl h) (e:b.blo h.length=true):Cl (bset h n b):=by
 unfold Cl;rw [bset_len];exact hbelow_set e c
theorem strip_cl {n:Nat} {tm:List V}:∀ {j:Nat} {h:List B},h.length=n+j→Cl h→Cl (strip n tm j h)
 | 0,h,_,c=>c
 | j+1,h,hl,c=>by
  unfold strip
  split
  ·rename_i hc
   rw [Bool.and_eq_true] at hc
   have hl' : (h.take (n+j)).length=n+j:=by rw [List.length_take];omega
   exact strip_cl hl' (by unfold Cl;rw [hl'];exact hc.2)
  ·exact c
theorem norm_cl {m:List Bool} {n:Nat} {s:St} (hn:n≤s.h.length) (c:Cl s.h):Cl (norm m n s).h:=strip_cl (by omega) c
theorem fB.two {hh:List B} {n:Nat} {L bx b:B} {K:List B→Prop} (hn:n<hh.length) (hk:K ((bset hh n b++[L])++[bx])):fB (bset ((hh++[L])++[bx]) n b) K :=
 fB.mk (by rw [bset_app (by rw [List.length_append];omega),bset_app hn];exact hk)
theorem end_eq {hh:List B} {v:V} {L L' bx:B} {m n:Nat} {K:V→List B→Prop} (hk:K v (hh++[L])) (e:hh.length=n) (hm:m=n+1) (c:Cl hh) (hb:L'.blo n=true):K v (bset (trunc m [] ((hh++[L'])++[bx])) (n+0) L):=by
 have hl:(hh++[L']).length=m:=by rw [List.length_append,e,hm];rfl
 have c2:Cl (hh++[L']):=c.app (by rw [e];exact hb)
 rw [trunc_one hl rfl (by have:=c2;unfold Cl at this;rw [hl] at this;exact this),bset_lop e]
 exact hk
theorem fB.lop1 {hh:List B} {L L' : B} {n:Nat} {K:List B→Prop} (e:hh.length=n) (hk:∀ h3,h3=hh++[L']→K h3):fB (bset (hh++[L]) (n+0) L') K:=fB.mk (by rw [bset_lop e];exact hk _ rfl)
theorem fB.as {l l' : List B} {K:List B→Prop} (e:l=l') (h:K l'):fB l K:=fB.mk (e ▸ h)
theorem fV.as {l l' : List V} {K:List V→Prop} (e:l=l') (h:K l'):fV l K:=fV.mk (e ▸ h)
theorem fB.gen {h:List B} {n:Nat} {b:B} {K:List B→Prop} (hn:n<h.length) (hc:Cl h) (hb:b.blo h.length=true) (hk:∀ h', Cl h' → h'.length=h.length→bget h' n=some b→(∀ m,n≠m→bget h' m=bget h m)→K h'):fB (bset h n b) K :=
 fB.mk (hk _ (hc.set hb) (bset_len ..) (bget_same hn) fun m hm=>bset_other hm)
theorem fBtr1c {n:Nat} {k:IntKind} {z:Int} {L:List B} {c:B} {K:List B→Prop} (hL:L.length=n) (hc:Cl L) (hk:K L):fB (trunc n [.int k z] (L++[c])) K:=by
 subst hL
 exact fBtr1 (L:=L) rfl rfl hc hk
end Go.Dr.T
namespace Go.Dr.T
def afF:Int→List (Int × Int)→Option Int
 | fr,[]=>some fr
 | fr,c :: l=>if c.2<fr then afF (fr - lngC c) l else if c.1≤fr then none else afF fr l
def CutsOk (l:List (Int × Int)):Prop:=∀ c∈l,0≤c.1∧c.1≤c.2∧c.2<200000
abbrev fB1 (g:Int):B:=.blk [.int .i64 g] false
set_option maxRecDepth 100000 in
set_option maxHeartbeats 20000000 in
theorem gone_call {fr:Int} {p:Int × Int} {K:V→List B→Prop} (hp:0≤p.1∧p.1≤p.2∧p.2<200000) (hf:0≤fr∧fr≤200000) (h1:p.2<fr→K (.bool false) [fB1 (fr - lngC p)]) (h2:¬ p.2<fr→K (.bool (decide (p.1≤fr))) [fB1 fr]):CallP FB md 0 (.fn 21 [.ref 0 1 0]) [.agg [.int .i64 p.1,.int .i64 p.2]] [fB1 fr] K:=by
 have h4:=long_ok (c:=p) (by omega)
 have hln:lngC p=p.2 - p.1+1:=rfl
 have hwr:IntKind.i64.wrap (fr - lngC p)=fr - lngC p:=wrap_i64 (by omega) (by omega)
 refine call_one rfl rfl rfl ?_
 by_cases hc:p.2<fr
 ·replace h1:=h1 hc
  repeat' (first
 | (conv=>whnf)
   first
   | refine Bnd.eq hwr ?_
   | (refine Br.decT ?_ ?_;(focus first | assumption | omega))
   | refine call_fun rfl rfl h4 (.inl rfl) ?_
   | refine Get.mk _ rfl ?_
   | refine Ends.of ?_
   | (refine Req.mk ?_ ?_;(focus first | rfl | decide | exact ⟨rfl,rfl⟩ | exact ⟨rfl,by decide⟩ | exact (fun _=>rfl) | exact (fun h=>nomatch h) | (simp;done) | omega | (simp [big];done) | exact le_big (by omega) | exact lt_big (by omega))))
  all_goals first | (exfalso;omega;done) | exact h1
 ·replace h2:=h2 hc
  repeat' (first
 | (conv=>whnf)
   first
   | (refine Br.decF ?_ ?_;(focus first | assumption | omega))
   | refine Get.mk _ rfl ?_
   | refine Ends.of ?_
   | (refine Req.mk ?_ ?_;(focus first | rfl | decide | exact ⟨rfl,rfl⟩ | exact ⟨rfl,by decide⟩ | exact (fun _=>rfl) | exact (fun h=>nomatch h) | (simp;done) | omega | (simp [big];done) | exact le_big (by omega) | exact lt_big (by omega))))
  all_goals first | (exfalso;omega;done) | exact h2
structure IA where
 i:Nat
 g:Int
theorem drop_at {α:Type} {l:List α} {i:Nat} {p:α} (hp:l[i]?=some p):l.drop i=p :: l.drop (i+1):=by
 obtain ⟨h1,h2⟩:=List.getElem?_eq_some_iff.1 hp
 rw [List.drop_eq_getElem_cons h1,h2]
set_option maxRecDepth 100000 in
set_option maxHeartbeats 20000000 in
theorem index_call {fr:Int} {c:Bool} {l:List (Int × Int)} {K:V→List B→Prop} (hl:CutsOk l) (hn:l.length≤1000) (hf:0≤fr∧fr≤200000) (h1:∀ r,afF fr l=some r→K (.int .i64 (-1)) [fB1 r]) (h2:afF fr l=none→∀ (i:Nat) g,K (.int .i64 (i:Nat)) [fB1 g]):CallP FB md 0 (.fn 43 []) [.sl c l.length (shC l),.fn 21 [.ref 0 1 0]] [fB1 fr] K:=by
 refine call_one rfl rfl rfl ?_
 skip
 all_goals try (exfalso;omega;done)
 refine LoopP.by (fun a:IA=>a.i≤l.length∧(0≤a.g∧a.g≤200000)∧afF a.g (l.drop a.i)=afF fr l) (fun a=>[(8,.int .i64 (a.i:Nat))]) (fun a=>[fB1 a.g]) (fun a=>l.length - a.i) ⟨0,fr⟩ ⟨Nat.zero_le _,hf,rfl⟩ rfl ?_
 rintro ⟨i,g⟩ ⟨w1,w2,w3⟩
 dsimp only at w1 w2 w3 ⊢
 by_cases hi:i<l.length
 rotate_left
 ·rw [List.drop_eq_nil_of_le (by omega)] at w3
  replace h1:=h1 g w3.symm
  repeat' (first
 | (conv=>whnf)
   first
   | (refine Br.decF ?_ ?_;(focus first | assumption | omega))
   | refine Get.mk _ rfl ?_
   | refine Ends.of ?_)
  all_goals first | (exfalso;omega;done) | exact h1
 obtain ⟨p,hp⟩:∃ p,l[i]?=some p:=⟨_,List.getElem?_eq_getElem hi⟩
 have hpart:=shC_part hp
 have hpr:=hl p (List.mem_of_getElem? hp)
 have hln:lngC p=p.2 - p.1+1:=rfl
 rw [drop_at hp,afF] at w3
 have hg:∀ {K:V→List B→Prop},(p.2<g→K (.bool false) [fB1 (g - lngC p)])→(¬ p.2<g→K (.bool (decide (p.1≤g))) [fB1 g])→CallP FB md 0 (.fn 21 [.ref 0 1 0]) [.agg [.int .i64 p.1,.int .i64 p.2]] [fB1 g] K:=fun k1 k2=>gone_call hpr w2 k1 k2
 by_cases hc:p.2<g
 ·rw [if_pos hc] at w3
  have hg' : ∀ {K:V→List B→Prop},K (.bool false) [fB1 (g - lngC p)]→CallP FB md 0 (.fn 21 [.ref 0 1 0]) [.agg [.int .i64 p.1,.int .i64 p.2]] [fB1 g] K:=fun k=>hg (fun _=>k) (fun h=>absurd hc h)
  repeat' (first
 | (conv=>whnf)
   first
   | refine Br.f ?_
   | (refine Br.decT ?_ ?_;(focus first | assumption | omega))
   | (refine Bnd.i64 ?_ ?_ ?_;(focus omega);(focus omega))
   | refine Get.mk _ hpart ?_
   | refine hg' ?_
   | (refine Idx.nat ?_ ?_;(focus omega))
   | (refine Req.mk ?_ ?_;(focus first | rfl | decide | exact ⟨rfl,rfl⟩ | exact ⟨rfl,by decide⟩ | exact (fun _=>rfl) | exact (fun h=>nomatch h) | (simp;done) | omega | (simp [big];done) | exact le_big (by omega) | exact lt_big (by omega))))
  all_goals first | (exfalso;omega;done) | exact NextP.mk ⟨i+1,g - lngC p⟩ ⟨hi,by (try dsimp only);omega,w3⟩ (by (try dsimp only);omega) rfl
 ·rw [if_neg hc] at w3
  by_cases hd:p.1≤g
  ·rw [if_pos hd] at w3
   have hg' : ∀ {K:V→List B→Prop},K (.bool true) [fB1 g]→CallP FB md 0 (.fn 21 [.ref 0 1 0]) [.agg [.int .i64 p.1,.int .i64 p.2]] [fB1 g] K:=fun k=>hg (fun h=>absurd h hc) (fun _=>by rw [decide_eq_true hd];exact k)
   replace h2:=h2 w3.symm i g
   repeat' (first
 | (conv=>whnf)
   first
   | refine Br.t ?_
   | (refine Br.decT ?_ ?_;(focus first | assumption | omega))
   | refine Get.mk _ hpart ?_
   | refine hg' ?_
   | (refine Idx.nat ?_ ?_;(focus omega))
   | refine Get.mk _ rfl ?_
   | refine Ends.of ?_
   | (refine Req.mk ?_ ?_;(focus first | rfl | decide | exact ⟨rfl,rfl⟩ | exact ⟨rfl,by decide⟩ | exact (fun _=>rfl) | exact (fun h=>nomatch h) | (simp;done) | omega | (simp [big];done) | exact le_big (by omega) | exact lt_big (by omega))))
   all_goals first | (exfalso;omega;done) | exact h2
  ·rw [if_neg hd] at w3
   have hg' : ∀ {K:V→List B→Prop},K (.bool false) [fB1 g]→CallP FB md 0 (.fn 21 [.ref 0 1 0]) [.agg [.int .i64 p.1,.int .i64 p.2]] [fB1 g] K:=fun k=>hg (fun h=>absurd h hc) (fun _=>by rw [decide_eq_false hd];exact k)
   repeat' (first
 | (conv=>whnf)
   first
   | refine Br.f ?_
   | (refine Br.decT ?_ ?_;(focus first | assumption | omega))
   | (refine Bnd.i64 ?_ ?_ ?_;(focus omega);(focus omega))
   | refine Get.mk _ hpart ?_
   | refine hg' ?_
   | (refine Idx.nat ?_ ?_;(focus omega))
   | (refine Req.mk ?_ ?_;(focus first | rfl | decide | exact ⟨rfl,rfl⟩ | exact ⟨rfl,by decide⟩ | exact (fun _=>rfl) | exact (fun h=>nomatch h) | (simp;done) | omega | (simp [big];done) | exact le_big (by omega) | exact lt_big (by omega))))
   all_goals first | (exfalso;omega;done) | exact NextP.mk ⟨i+1,g⟩ ⟨hi,w2,w3⟩ (by (try dsimp only);omega) rfl
set_option maxRecDepth 100000 in
set_option maxHeartbeats 20000000 in
theorem any_call {fr:Int} {c:Bool} {l:List (Int × Int)} {K:V→List B→Prop} (hl:CutsOk l) (hn:l.length≤1000) (hf:0≤fr∧fr≤200000) (h1:∀ r,afF fr l=some r→K (.bool false) [fB1 r]) (h2:afF fr l=none→∀ g,K (.bool true) [fB1 g]):CallP FB md 0 (.fn 23 []) [.sl c l.length (shC l),.fn 21 [.ref 0 1 0]] [fB1 fr] K:=by
 refine call_one rfl rfl rfl ?_
 cases hr:afF fr l with
 | some r =>
  replace h1:=h1 r hr
  have hi:∀ {K:V→List B→Prop},K (.int .i64 (-1)) [fB1 r]→CallP FB md 0 (.fn 43 []) [.sl c l.length (shC l),.fn 21 [.ref 0 1 0]] [fB1 fr] K:=fun k=>index_call hl hn hf (fun r' e=>by rw [hr] at e;cases e;exact k) (fun e=>by rw [hr] at e;cases e)
  repeat' (first
 | (conv=>whnf)
   first
   | refine hi ?_
   | refine Get.mk _ rfl ?_
   | refine Ends.of ?_)
  all_goals first | (exfalso;omega;done) | exact h1
 | none =>
  replace h2:=h2 hr
  have hi:∀ {K:V→List B→Prop},(∀ (i:Nat) g,K (.int .i64 (i:Nat)) [fB1 g])→CallP FB md 0 (.fn 43 []) [.sl c l.length (shC l),.fn 21 [.ref 0 1 0]] [fB1 fr] K:=fun k=>index_call hl hn hf (fun r' e=>by rw [hr] at e;cases e) (fun _=>k)
  repeat' (first
 | (conv=>whnf)
   first
   | refine hi (fun i g => ?_)
   | refine Get.mk _ rfl ?_
   | refine Ends.of ?_)
  all_goals first | (exfalso;omega;done) | exact h2 _
def afV (f:Int) (l:List (Int × Int)) (fr:Int):Int × Int :=
 if (madeP f l).2≠0 then (0,(madeP f l).2) else if outB fr 0 (f - 1)=true then (0,7) else match afF fr l with
 | none=>(0,4)
 | some r=>(r,0)
theorem made_good {f:Int} {l:List (Int × Int)} (h:(madeP f l).2=0):1≤f∧f≤200000∧l.length≤30∧CutsOk l:=by
 unfold madeP at h
 split at h
 ·cases h
 ·rename_i ho
  split at h
  ·cases h
  ·simp only [outB,Bool.or_eq_true,decide_eq_true_eq,not_or] at ho
   exact ⟨by omega,by omega,by omega,mdF_good (by omega) (by omega) h⟩
set_option maxRecDepth 100000 in
set_option maxHeartbeats 20000000 in
theorem after_ok {f fr:Int} {c:Bool} {l:List (Int × Int)}:Fun FB md 6 [.int .i64 f,.sl c l.length (shC l),.int .i64 fr] (.tup [.int .i64 (afV f l fr).1,.int .i64 (afV f l fr).2]):=by
 have hm:=made_ok (f:=f) (c:=c) (l:=l)
 unfold afV
 by_cases he:(madeP f l).2=0
 rotate_left
 ·rw [if_pos he]
  generalize (madeP f l).2=e at *
  generalize (madeP f l).1=e1 at *
  refine fun_of rfl rfl ?_
  repeat' (first
 | (conv=>whnf)
   first
   | (refine Br.decF ?_ ?_;(focus first | assumption | omega))
   | refine Br.not ?_
   | refine call_fun rfl rfl hm (.inl rfl) ?_
   | refine Get.mk _ rfl ?_
   | refine Leaves.of ?_
   | refine Vw.int ?_
   | refine Vw.tup ?_
   | refine VwL.cons ?_ ?_
   | refine VwL.nil
   | (refine Req.mk ?_ ?_;(focus first | rfl | decide | exact ⟨rfl,rfl⟩ | exact ⟨rfl,by decide⟩ | exact (fun _=>rfl) | exact (fun h=>nomatch h) | (simp;done) | omega | (simp [big];done) | exact le_big (by omega) | exact lt_big (by omega))))
  all_goals first | rfl | (exfalso;omega;done)
 rw [if_neg (fun h=>h he)]
 rw [he] at hm
 obtain ⟨g1,g2,g3,g4⟩:=made_good he
 generalize (madeP f l).1=e1 at *
 have ho:=bout_ok (n:=fr) (lo:=0) (hi:=f - 1)
 have hwf:IntKind.i64.wrap (f - 1)=f - 1:=wrap_i64 (by omega) (by omega)
 cases hb:outB fr 0 (f - 1) with
 | true =>
  rw [if_pos rfl]
  rw [hb] at ho
  refine fun_of rfl rfl ?_
  repeat' (first
 | (conv=>whnf)
   first
   | refine Bnd.eq hwf ?_
   | refine Br.t ?_
   | refine Br.f ?_
   | refine call_fun rfl rfl hm (.inl rfl) ?_
   | refine call_fun rfl rfl ho (.inl rfl) ?_
   | refine Get.mk _ rfl ?_
   | refine Leaves.of ?_
   | refine Vw.int ?_
   | refine Vw.tup ?_
   | refine VwL.cons ?_ ?_
   | refine VwL.nil
   | (refine Req.mk ?_ ?_;(focus first | rfl | decide | exact ⟨rfl,rfl⟩ | exact ⟨rfl,by decide⟩ | exact (fun _=>rfl) | exact (fun h=>nomatch h) | (simp;done) | omega | (simp [big];done) | exact le_big (by omega) | exact lt_big (by omega))))
  all_goals first | rfl | (exfalso;omega;done)
 | false =>
  rw [if_neg (by simp)]
  rw [hb] at ho
  simp only [outB,Bool.or_eq_false_iff,decide_eq_false_iff_not] at hb
  cases hr:afF fr l with
  | some r =>
   have hi:∀ {K:V→List B→Prop},K (.bool false) [fB1 r]→CallP FB md 0 (.fn 23 []) [.sl c l.length (shC l),.fn 21 [.ref 0 1 0]] [fB1 fr] K:=fun k=>any_call g4 (by omega) (by omega) (fun r' e=>by rw [hr] at e;cases e;exact k) (fun e=>by rw [hr] at e;cases e)
   refine fun_of rfl rfl ?_
   repeat' (first
 | (conv=>whnf)
   first
   | refine Bnd.eq hwf ?_
   | refine Br.f ?_
   | refine call_fun rfl rfl hm (.inl rfl) ?_
   | refine call_fun rfl rfl ho (.inl rfl) ?_
   | refine hi ?_
   | refine Get.mk _ rfl ?_
   | refine Leaves.of ?_
   | refine Vw.int ?_
   | refine Vw.tup ?_
   | refine VwL.cons ?_ ?_
   | refine VwL.nil
   | (refine Req.mk ?_ ?_;(focus first | rfl | decide | exact ⟨rfl,rfl⟩ | exact ⟨rfl,by decide⟩ | exact (fun _=>rfl) | exact (fun h=>nomatch h) | (simp;done) | omega | (simp [big];done) | exact le_big (by omega) | exact lt_big (by omega))))
   all_goals first | rfl | (exfalso;omega;done)
  | none =>
   have hi:∀ {K:V→List B→Prop},(∀ g,K (.bool true) [fB1 g])→CallP FB md 0 (.fn 23 []) [.sl c l.length (shC l),.fn 21 [.ref 0 1 0]] [fB1 fr] K:=fun k=>any_call g4 (by omega) (by omega) (fun r' e=>by rw [hr] at e;cases e) (fun _=>k)
   refine fun_of rfl rfl ?_
   repeat' (first
 | (conv=>whnf)
   first
   | refine Bnd.eq hwf ?_
   | refine Br.t ?_
   | refine Br.f ?_
   | refine call_fun rfl rfl hm (.inl rfl) ?_
   | refine call_fun rfl rfl ho (.inl rfl) ?_
   | refine hi (fun g => ?_)
   | refine Get.mk _ rfl ?_
   | refine Leaves.of ?_
   | refine Vw.int ?_
   | refine Vw.tup ?_
   | refine VwL.cons ?_ ?_
   | refine VwL.nil
   | (refine Req.mk ?_ ?_;(focus first | rfl | decide | exact ⟨rfl,rfl⟩ | exact ⟨rfl,by decide⟩ | exact (fun _=>rfl) | exact (fun h=>nomatch h) | (simp;done) | omega | (simp [big];done) | exact le_big (by omega) | exact lt_big (by omega))))
   all_goals first | rfl | (exfalso;omega;done)
end Go.Dr.T
