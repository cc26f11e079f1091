/- Chapter 06: the iterator of all alignments, for yields that may enlarge the heap (under way). -/
import Derived.Test.YtcjhgcjmomildaaGreatDoorG11
import Derived.Test.YtcjhgcjmomildaaGreatDoorG10
namespace Go.Dr.T
theorem trunc_lt {n:Nat} {tm:List V} {h:List B} (hn:h.length<n):trunc n tm h=h:=by
 unfold trunc
 rw [show h.length - n=0 by omega]
 rfl
theorem bget_trunc {n m:Nat} {tm:List V} {h:List B} (hm:m<n):bget (trunc n tm h) m=bget h m:=by
 by_cases hn:n≤h.length
 ·unfold trunc
  have key:∀ (k:Nat) (h:List B),h.length=n+k→bget (strip n tm k h) m=bget h m:=by
   intro k
   induction k with
   | zero=>intro h _;rfl
   | succ k ih =>
    intro h hl
    unfold strip
    split
    ·rw [ih _ (by rw [List.length_take];omega),bget_take (by omega)]
    ·rfl
  exact key _ h (by omega)
 ·rw [trunc_lt (by omega)]
theorem trunc_len {n:Nat} {tm:List V} {h:List B} (hn:n≤h.length):n≤(trunc n tm h).length:=strip_len (by omega)
theorem trunc_cl {n:Nat} {tm:List V} {h:List B} (c:Cl h):Cl (trunc n tm h):=by
 by_cases hn:n≤h.length
 ·exact strip_cl (by omega) c
 ·rw [trunc_lt (by omega)];exact c
theorem trunc_ref {n o r:Nat} {tm:List V} {h:List B} {b b' : B} (ho:o<n) (hb:bget h o=some b) (hv:∀ k,b.blo k=true→r<k) (hr:bget h r=some b'):bget (trunc n tm h) r=some b' := by
 by_cases hn:n≤h.length
 ·unfold trunc
  have key:∀ (k:Nat) (h:List B),h.length=n+k→bget h o=some b→bget h r=some b' → bget (strip n tm k h) r=some b' := by
   intro k
   induction k with
   | zero=>intro h _ _ e;exact e
   | succ k ih =>
    intro h hl hb hr
    unfold strip
    split
    ·rename_i hc
     rw [Bool.and_eq_true] at hc
     have h1:bget (h.take (n+k)) o=some b:=by rw [bget_take (by omega)];exact hb
     have hm:b∈h.take (n+k):=by
      have key:∀ {l:List B} {i:Nat} {b:B},bget l i=some b→b∈l:=by
       intro l
       induction l with
       | nil=>intro i b e;cases e
       | cons x l ih =>
        intro i b e
        cases i with
        | zero=>simp only [bget,Option.some.injEq] at e;subst e;simp
        | succ i=>exact List.mem_cons_of_mem _ (ih e)
      exact key h1
     have hrn:=hv _ (blo_of_hbelow hc.2 hm)
     exact ih _ (by rw [List.length_take];omega) h1 (by rw [bget_take hrn];exact hr)
    ·exact hr
  exact key _ h (by omega) hb hr
 ·rw [trunc_lt (by omega)];exact hr
def own:B→Bool
 | .blk (.sl _ _ _ :: _) _=>true
 | .blk (.nilsl :: _) _=>true
 | _=>false
structure Keep (n:Nat) (h h' : List B):Prop where
 le:h.length≤h'.length
 eq:∀ m b,n≤m→bget h m=some b→own b=false→bget h' m=some b
structure HpOk {σ:Type} (Hp:σ × Bool→List B→Prop) (N0:Nat):Prop where
 le:∀ q h,Hp q h→N0≤h.length
 cl:∀ q h,Hp q h→Cl h
 tr:∀ q h n tm,N0≤n→Hp q h→Hp q (trunc n tm h)
 app:∀ q h b,Hp q h→b.blo h.length=true→Hp q (h++[b])
 st:∀ q h m b b0,N0≤m→bget h m=some b0→own b0=false→b.blo h.length=true→Hp q h→Hp q (bset h m b)
structure AlsSpecH (x y:El) (sl:Int) (i j:Nat) (bef:List (Nat × Nat)):Prop where
 run:∀ {σ:Type} {Hp:σ × Bool→List B→Prop} {N0 id a b c e q:Nat} {ok:σ→List (Nat × Nat)→Bool} {nx:σ→List (Nat × Nat)→σ} {s0:σ} {h0:List B} {K:V→List B→Prop},
  HpOk Hp N0→(∀ q h,Hp q h→id<h.length)→(∀ p h,Hp p h→bget h a=some (.blk [.rp (pC x.sh y.sh sl (openT x y sl)) 0] false))→(∀ p h,Hp p h→bget h b=some (.blk [.int .i64 (i:Nat)] false))→(∀ p h,Hp p h→bget h c=some (.blk [.int .i64 (j:Nat)] false))→(∀ p h,Hp p h→BefOk h e bef q) →
  Hp (s0,true) h0→(∀ s h l (K:V→List B→Prop),Hp (s,true) h→l.length≤40→(∀ h', Hp (nx s l,ok s l) h' → Keep N0 h h' → K (.bool (ok s l)) h')→CallP FB md 0 (.yld id) [pvL l] h K) →
  (∀ h', Hp (goR ok nx s0 (als (shA x.l y.l sl) (openT x y sl) x.l.length y.l.length i j bef)) h' → Keep N0 h0 h' → K (.tup []) h')→CallP FB md 0 (.fn 48 [.ref a 1 0,.ref b 1 0,.ref c 1 0,.ref e 1 0]) [.yld id] h0 K
theorem goR_one {σ τ:Type} {ok:σ→τ→Bool} {nx:σ→τ→σ} {s:σ} {p:τ}:goR ok nx s [p]=(nx s p,ok s p):=by
 cases h:ok s p with
 | true=>rw [goR_t h];rfl
 | false=>rw [goR_f h]
theorem Keep.trunc {N:Nat} {h g h' : List B} {tm:List V} (k:Keep N (h++g) h'):Keep N h (trunc h.length tm h'):=by
 have hl:=k.le
 rw [List.length_append] at hl
 refine ⟨trunc_len (by omega),fun m b h1 h2 h3 => ?_⟩
 rw [bget_trunc (bget_lt h2)]
 exact k.eq m b h1 (bget_app h2) h3
set_option maxRecDepth 100000 in
set_option maxHeartbeats 20000000 in
theorem als_zero {x y:El} {sl:Int} (hx:shOk x.l) (hy0:shOk y.l) {i j:Nat} {bef:List (Nat × Nat)} (hi:i≤x.l.length) (hj:j≤y.l.length) (hbl:bef.length≤i) (hW:openT x y sl i j=0):AlsSpecH x y sl i j bef:=by
 refine ⟨?_⟩
 intro σ Hp N0 id a b c e q ok nx s0 h0 K hp hid ha hb hc he hI hy hk
 have hal:=hx.1
 have hbl0:=hy0.1
 have hI0:i<41:=by omega
 have hJ0:j<41:=by omega
 have fx:∀ p q:Nat,0+3+p * 41+q * 1=3+p * 41+q:=fun p q=>by omega
 have cij:=pC_t (a:=x.sh) (b:=y.sh) (s:=sl) (f:=openT x y sl) hI0 hJ0
 rw [← fx] at cij
 rw [als_end hW,goR_one] at hk
 have hN:=hp.le _ _ hI
 have hap:Hp (s0,true) (h0++[.blk [.yld id] false]):=hp.app _ _ _ hI (by show (false || (decide (id<h0.length) && true))=true;simp [hid _ _ hI])
 have hend:∀ h' , Hp (nx s0 bef,ok s0 bef) h' → Keep N0 (h0++[.blk [.yld id] false]) h' → K (.tup []) (trunc h0.length [.tup []] h'):=fun h' h1 h2=>hk _ (hp.tr _ _ _ _ hN h1) h2.trunc
 have ha' := ha _ _ hI
 have hb' := hb _ _ hI
 have hc' := hc _ _ hI
 refine call_one rfl rfl rfl ?_
 rcases he _ _ hI with ⟨e1,e2⟩ | ⟨e1,e2,e3⟩
 ·have hyl:∀ (K:V→List B→Prop),(∀ h', Hp (nx s0 bef,ok s0 bef) h' → Keep N0 (h0++[.blk [.yld id] false]) h' → K (.bool (ok s0 bef)) h')→CallP FB md 0 (.yld id) [.nilsl] (h0++[.blk [.yld id] false]) K:=fun K h=>by
   have:=hy s0 _ bef K hap (by omega) h
   rw [e1] at this
   exact this
  repeat' (first
 | (conv=>whnf)
   first
   | refine Idx.nat (Nat.le_of_lt_succ hI0) ?_
   | refine Idx.nat (Nat.le_of_lt_succ hJ0) ?_
   | (refine Br.decT ?_ ?_;(focus first | assumption | omega))
   | refine fLen.mk ?_
   | refine fB.i0 ?_
   | refine fB.i1 ?_
   | refine Get.newj 0 rfl rfl ?_
   | refine fB.newj 0 rfl ?_
   | refine Get.mk _ (bget_app ha') ?_
   | refine Get.mk _ (bget_app hb') ?_
   | refine Get.mk _ (bget_app hc') ?_
   | refine Get.mk _ (bget_app e2) ?_
   | refine Get.mk _ cij ?_
   | refine cloneA_nil ?_
   | refine Get.mk _ rfl ?_
   | (refine Req.mk ?_ ?_;(focus first | rfl | decide | exact ⟨rfl,rfl⟩ | exact ⟨rfl,by decide⟩ | exact (fun _=>rfl) | exact (fun h=>nomatch h) | (simp;done) | omega | (simp [big];done) | exact le_big (by omega) | exact lt_big (by omega))))
  all_goals try (exfalso;omega;done)
  refine hyl _ ?_
  intro h' q1 q2
  repeat' (first
 | (conv=>whnf)
   first
   | refine fB.mk ?_
   | refine Get.mk _ rfl ?_
   | refine Ends.of ?_)
  all_goals exact hend _ q1 q2
 ·have hne:bef.map prN≠[]:=fun h=>e1 (List.map_eq_nil_iff.1 h)
  have hl0:(bef.map prN).length≠0:=fun h=>hne (List.length_eq_zero_iff.1 h)
  have hcn:=clone_ok (c:=false) (l:=bef.map prN) (by rw [List.length_map];omega) hl0
  have hyl:∀ (K:V→List B→Prop),(∀ h', Hp (nx s0 bef,ok s0 bef) h' → Keep N0 (h0++[.blk [.yld id] false]) h' → K (.bool (ok s0 bef)) h')→CallP FB md 0 (.yld id) [.sl false (bef.map prN).length (shC (bef.map prN))] (h0++[.blk [.yld id] false]) K:=fun K h=>by
   have:=hy s0 _ bef K hap (by omega) h
   unfold pvL at this
   rw [if_neg e1] at this
   exact this
  have hvs:∀ r,views (h0++r) depth [.ms 2 q ((bef.map prN).length * 2) 0 (bef.map prN).length false]=some [.sl false (bef.map prN).length (shC (bef.map prN))]:=fun r =>
   (VwL.cons (Vw.ms (d:=63) (bget_app e3) (shC_length _) (part_all (shC_length _)) (views_shC (d:=62) _)) VwL.nil).1
  repeat' (first
 | (conv=>whnf)
   first
   | refine Idx.nat (Nat.le_of_lt_succ hI0) ?_
   | refine Idx.nat (Nat.le_of_lt_succ hJ0) ?_
   | (refine Br.decT ?_ ?_;(focus first | assumption | omega))
   | refine fLen.mk ?_
   | refine fB.i0 ?_
   | refine fB.i1 ?_
   | refine Get.newj 0 rfl rfl ?_
   | refine fB.newj 0 rfl ?_
   | refine Get.mk _ (bget_app ha') ?_
   | refine Get.mk _ (bget_app hb') ?_
   | refine Get.mk _ (bget_app hc') ?_
   | refine Get.mk _ (bget_app e2) ?_
   | refine Get.mk _ cij ?_
   | refine call_fresh rfl (hvs _) hcn ?_
   | refine Get.mk _ rfl ?_
   | (refine Req.mk ?_ ?_;(focus first | rfl | decide | exact ⟨rfl,rfl⟩ | exact ⟨rfl,by decide⟩ | exact (fun _=>rfl) | exact (fun h=>nomatch h) | (simp;done) | omega | (simp [big];done) | exact le_big (by omega) | exact lt_big (by omega))))
  all_goals try (exfalso;omega;done)
  refine hyl _ ?_
  intro h' q1 q2
  repeat' (first
 | (conv=>whnf)
   first
   | refine fB.mk ?_
   | refine Get.mk _ rfl ?_
   | refine Ends.of ?_)
  all_goals exact hend _ q1 q2
end Go.Dr.T
namespace Go.Dr.T
structure Hp1 {σ:Type} (Hp:σ × Bool→List B→Prop) (N0:Nat) (h0:List B) (yb:B) (TM:List V) (PS:List Nat) (AS BO:MC) (q:σ × Bool) (h:List B):Prop where
 hp:Hp q h
 kp:Keep N0 h0 h
 y:bget h h0.length=some yb
 r:bget h (h0.length+1)=some (.lop q.2 (if q.2=true then .nrm else .ret) TM PS AS BO)
theorem Keep.tr {N n:Nat} {h h' : List B} {tm:List V} (k:Keep N h h') (hn:h.length≤n):Keep N h (Dr.trunc n tm h'):=by
 by_cases hl:n≤h'.length
 ·exact ⟨Nat.le_trans hn (trunc_len hl),fun m b h1 h2 h3=>by rw [bget_trunc (by have:=bget_lt h2;omega)];exact k.eq m b h1 h2 h3⟩
 ·rw [trunc_lt (by omega)];exact k
theorem begins_rfH {σ τ:Type} {Hp:σ × Bool→List B→Prop} {N0:Nat} {yb:B} {TM:List V} {PS:List Nat} {AS BO:MC} {f:Nat × Nat→List τ} {ok:σ→τ→Bool} {nx:σ→τ→σ} {a b:Sh} {sl:Int} {w:Nat→Nat→Int} {i j:Nat} {s0:σ} {h0:List B} {K:V→List B→Prop}
  (ha:shOk a.l) (hb:shOk b.l) (hs:0≤sl∧sl≤200000) (hw:∀ k l,0≤w k l∧w k l≤8000000) (hi:i≤a.l.length) (hj:j≤b.l.length) (hp:HpOk Hp N0) (hI:Hp (s0,true) h0) (hyb:yb.blo h0.length=true) (hTM:blos (h0.length+1) TM=true)
  (hy:∀ s h (k l:Nat) (K:V→List B→Prop),Hp1 Hp N0 h0 yb TM PS AS BO (s,true) h→i≤k→k<a.l.length→j≤l→l<b.l.length→(∀ h', Hp1 Hp N0 h0 yb TM PS AS BO (goR ok nx s (f (k,l))) h' → K (.bool (goR ok nx s (f (k,l))).2) h')→CallP FB md 0 (.yld (h0.length+1)) [.agg [.int .i64 (k:Nat),.int .i64 (l:Nat)]] h K)
  (hk:∀ h', Hp1 Hp N0 h0 yb TM PS AS BO (goR ok nx s0 ((bgs (shA a.l b.l sl) w a.l.length b.l.length i j).flatMap f)) h' → K (.tup []) h') :
  CallP FB md 0 (.fn 47 [.rp [.int .i64 (i:Nat)] 0,.rp [.rp (pC a b sl w) 0] 0,.rp [.int .i64 (j:Nat)] 0]) [.yld (h0.length+1)] ((h0++[yb])++[.lop true .nrm TM PS AS BO]) K:=by
 have hN:=hp.le _ _ hI
 have h1:Hp (s0,true) ((h0++[yb])++[.lop true .nrm TM PS AS BO]):=hp.app _ _ _ (hp.app _ _ _ hI hyb) (by show blos _ TM=true;rw [List.length_append];exact hTM)
 refine begins_callH (σ:=σ × Bool) (Hp:=fun q h=>q.2=q.1.2∧Hp1 Hp N0 h0 yb TM PS AS BO q.1 h) (N0:=h0.length+2) (ok:=fun q p=>(goR ok nx q.1 (f p)).2) (nx:=fun q p=>goR ok nx q.1 (f p)) (s0:=(s0,true)) ha hb hs hw hi hj (fun q h h2=>bget_lt h2.2.r) (fun q h n tm hn h2=>⟨h2.1,hp.tr _ _ _ _ (by omega) h2.2.hp,h2.2.kp.tr (by omega),by rw [bget_trunc (by omega)];exact h2.2.y,by rw [bget_trunc (by omega)];exact h2.2.r⟩) ⟨rfl,h1,⟨by rw [List.length_append,List.length_append];omega,fun m b h2 h3 _=>bget_app (bget_app h3)⟩,bget_app (bget_new (i:=0)),?_⟩ ?_ ?_
 ·have:=bget_new (h:=h0++[yb]) (g:=[.lop true .nrm TM PS AS BO]) (i:=0)
  rw [List.length_append] at this
  exact this
 ·rintro ⟨s,fl⟩ h k l K2 ⟨h2,h3⟩ h4 h5 h6 h7 h8
  dsimp only at h2 h3
  subst h2
  exact hy s h k l K2 h3 h4 h5 h6 h7 fun h' h9=>h8 h' ⟨rfl,h9⟩
 ·intro h' h2
  refine hk h' ?_
  have e:∀ {l:List (Nat × Nat)} {s:σ},(goR (σ:=σ × Bool) (fun q p=>(goR ok nx q.1 (f p)).2) (fun q p=>goR ok nx q.1 (f p)) (s,true) l).1=goR ok nx s (l.flatMap f):=by
   intro l s
   rw [← goY_R]
   exact goY_flat
  rw [← e]
  exact h2.2
structure Hp2 {σ:Type} (P:σ × Bool→List B→Prop) (n0:Nat) (A:List B) (TM:List V) (PS:List Nat) (AS BO:MC) (q:σ × Bool) (h:List B):Prop where
 hp:P q h
 fr:∀ m b,bget A m=some b→bget h (n0+m)=some b
 r:bget h (n0+A.length)=some (.lop q.2 (if q.2=true then .nrm else .ret) TM PS AS BO)
theorem Hp2.ok {σ:Type} {P:σ × Bool→List B→Prop} {N1 n0:Nat} {A:List B} {TM:List V} {PS:List Nat} {AS BO:MC} (hP:HpOk P N1) (hn:N1≤n0):HpOk (Hp2 P n0 A TM PS AS BO) (n0+A.length+1) where
 le:=fun q h h2=>bget_lt h2.r
 cl:=fun q h h2=>hP.cl _ _ h2.hp
 tr:=fun q h n tm h1 h2=>⟨hP.tr _ _ _ _ (by omega) h2.hp,fun m b h3=>by rw [bget_trunc (by have:=bget_lt h3;omega)];exact h2.fr m b h3,by rw [bget_trunc (by omega)];exact h2.r⟩
 app:=fun q h b h2 h3=>⟨hP.app _ _ _ h2.hp h3,fun m b h4=>bget_app (h2.fr m b h4),bget_app h2.r⟩
 st:=fun q h m b b0 h1 g1 g2 h2 h3=>⟨hP.st _ _ _ _ _ (by omega) g1 g2 h2 h3.hp,fun m' b' h4=>by rw [bset_other (by have:=bget_lt h4;omega)];exact h3.fr m' b' h4,by rw [bset_other (by omega)];exact h3.r⟩
theorem app_list {σ:Type} {P:σ × Bool→List B→Prop} {N1:Nat} (hP:HpOk P N1) {q:σ × Bool}:∀ {A h:List B},P q h→hasc h.length A→P q (h++A)
 | [],h,hq,_=>by rw [List.append_nil];exact hq
 | b :: A,h,hq,ha=>by
  have:=app_list hP (A:=A) (h:=h++[b]) (hP.app _ _ _ hq ha.1) (by rw [List.length_append];exact ha.2)
  rwa [List.append_assoc] at this
theorem als_rfH {x y:El} {sl:Int} {i j:Nat} {bef:List (Nat × Nat)} (hspec:AlsSpecH x y sl i j bef) {σ:Type} {P:σ × Bool→List B→Prop} {N1 a b c e q:Nat} {A h:List B} {TM:List V} {PS:List Nat} {AS BO:MC} {ok:σ→List (Nat × Nat)→Bool} {nx:σ→List (Nat × Nat)→σ} {s0:σ} {K:V→List B→Prop}
  (hP:HpOk P N1) (hI:P (s0,true) h) (hA:hasc h.length A) (hTM:blos (h.length+A.length) TM=true) (hne:bef≠[])
  (ha:bget A a=some (.blk [.rp (pC x.sh y.sh sl (openT x y sl)) 0] false)) (hb:bget A b=some (.blk [.int .i64 (i:Nat)] false)) (hc:bget A c=some (.blk [.int .i64 (j:Nat)] false)) (he:bget A e=some (.blk [.ms 2 (h.length+q) ((bef.map prN).length * 2) 0 (bef.map prN).length false] false)) (hq:bget A q=some (.blk (shC (bef.map prN)) true))
  (hy:∀ s g l (K:V→List B→Prop),Hp2 P h.length A TM PS AS BO (s,true) g→l.length≤40→(∀ g', Hp2 P h.length A TM PS AS BO (nx s l,ok s l) g' → Keep (h.length+A.length+1) g g' → K (.bool (ok s l)) g')→CallP FB md 0 (.yld (h.length+A.length)) [pvL l] g K)
  (hk:∀ g', Hp2 P h.length A TM PS AS BO (goR ok nx s0 (als (shA x.l y.l sl) (openT x y sl) x.l.length y.l.length i j bef)) g' → K (.tup []) g') :
  CallP FB md 0 (.fn 48 [.ref (h.length+a) 1 0,.ref (h.length+b) 1 0,.ref (h.length+c) 1 0,.ref (h.length+e) 1 0]) [.yld (h.length+A.length)] ((h++A)++[.lop true .nrm TM PS AS BO]) K:=by
 have hN:=hP.le _ _ hI
 refine hspec.run (Hp:=Hp2 P h.length A TM PS AS BO) (q:=h.length+q) (ok:=ok) (nx:=nx) (s0:=s0) (Hp2.ok hP hN) (fun q' g hg=>by have:=bget_lt hg.r;exact this) (fun p g hg=>hg.fr _ _ ha) (fun p g hg=>hg.fr _ _ hb) (fun p g hg=>hg.fr _ _ hc) (fun p g hg=>.inr ⟨hne,hg.fr _ _ he,hg.fr _ _ hq⟩) ⟨?_,?_,?_⟩ hy (fun g' h1 _=>hk g' h1)
 ·exact hP.app _ _ _ (app_list hP hI hA) (by show blos _ TM=true;rw [List.length_append];exact hTM)
 ·exact fun m b h1=>bget_app (bget_new.trans h1)
 ·have:=bget_new (h:=h++A) (g:=[.lop true .nrm TM PS AS BO]) (i:=0)
  rw [List.length_append] at this
  exact this
structure HpB {σ:Type} (Hp:σ × Bool→List B→Prop) (N0:Nat) (h0:List B) (yb:B) (lp:B) (q:σ × Bool) (h:List B):Prop where
 hp:Hp q h
 kp:Keep N0 h0 h
 y:bget h h0.length=some yb
 r:bget h (h0.length+1)=some lp
theorem Keep.set {N m:Nat} {h h' : List B} {b:B} (k:Keep N h h') (hm:h.length≤m):Keep N h (bset h' m b) :=
 ⟨by rw [bset_len];exact k.le,fun i c h1 h2 h3=>by rw [bset_other (by have:=bget_lt h2;omega)];exact k.eq i c h1 h2 h3⟩
theorem Keep.app {N:Nat} {h h' g:List B} (k:Keep N h h'):Keep N h (h' ++ g) :=
 ⟨by rw [List.length_append];have:=k.le;omega,fun i b h1 h2 h3=>bget_app (k.eq i b h1 h2 h3)⟩
theorem HpB.ok {σ:Type} {Hp:σ × Bool→List B→Prop} {N0:Nat} {h0:List B} {yb lp:B} (hp:HpOk Hp N0) (hN:N0≤h0.length):HpOk (HpB Hp N0 h0 yb lp) (h0.length+2) where
 le:=fun q h h2=>bget_lt h2.r
 cl:=fun q h h2=>hp.cl _ _ h2.hp
 tr:=fun q h n tm h1 h2=>⟨hp.tr _ _ _ _ (by omega) h2.hp,h2.kp.tr (by omega),by rw [bget_trunc (by omega)];exact h2.y,by rw [bget_trunc (by omega)];exact h2.r⟩
 app:=fun q h b h2 h3=>⟨hp.app _ _ _ h2.hp h3,h2.kp.app,bget_app h2.y,bget_app h2.r⟩
 st:=fun q h m b b0 h1 g1 g2 h2 h3=>⟨hp.st _ _ _ _ _ (by omega) g1 g2 h2 h3.hp,h3.kp.set (by omega),by rw [bset_other (by omega)];exact h3.y,by rw [bset_other (by omega)];exact h3.r⟩
end Go.Dr.T
