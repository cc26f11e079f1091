/- Chapter 06: All, walked. -/
import Derived.Test.YtcjhgcjmomildaaGreatDoorR16A7
import Derived.Test.YtcjhgcjmomildaaGreatDoorG6
namespace Go.Dr.T
def vL (l:List (Nat × Nat)):V:=.sl (decide (l=[])) l.length (shC (l.map prN))
def vLL (L:List (List (Nat × Nat))):V:=.sl (decide (L=[])) L.length (L.map vL)
def allL (x y:El) (s most:Int):List (List (Nat × Nat)):=(als (shA x.l y.l s) (openT x y s) x.l.length y.l.length 0 0 []).take most.toNat
def allV (x y:El) (s most:Int):V:=if openE x y s≠0 then .tup [.sl true 0 [],.int .i64 (openE x y s)] else if outB most 1 200=true then .tup [.sl true 0 [],.int .i64 7] else .tup [vLL (allL x y s most),.int .i64 0]
theorem bool_by {b:Bool} {A C:Prop} (h:b=true) (hk:A):(match (generalizing:=false) b with | true=>A | false=>C):=by subst h;exact hk
theorem pvL_own {L:List (List (Nat × Nat))} {d:Bool} (h:L≠[]):own (.blk (L.map pvL) d)=true:=by
 cases L with
 | nil=>exact absurd rfl h
 | cons l L =>
  show own (.blk (pvL l :: L.map pvL) d)=true
  unfold pvL
  split <;> rfl
theorem pvL_view {h:List B} {d:Nat} (l:List (Nat × Nat)):Vw h (d+2) (pvL l) (vL l):=by
 unfold pvL vL
 by_cases e:l=[]
 ·subst e;rw [if_pos rfl];exact Vw.nil
 ·rw [if_neg e,decide_eq_false e,List.length_map];exact Vw.sl
theorem pvL_views {h:List B} {d:Nat}:∀ L:List (List (Nat × Nat)),VwL h (d+2) (L.map pvL) (L.map vL)
 | []=>VwL.nil
 | l :: L=>VwL.cons (pvL_view l) (pvL_views L)
theorem pvL_blo {n:Nat} (l:List (Nat × Nat)):(pvL l).blo n=true:=by unfold pvL;split <;> rfl
theorem pvL_blos {n:Nat}:∀ L:List (List (Nat × Nat)),blos n (L.map pvL)=true
 | []=>rfl
 | l :: L=>by rw [List.map_cons];unfold blos;rw [pvL_blo,pvL_blos L];rfl
theorem goR_take {τ:Type} {m:Nat}:∀ {l acc:List τ},acc.length<m→goR (fun (a:List τ) (_:τ)=>decide (a.length+1≠m)) (fun a p=>a++[p]) acc l=(acc++l.take (m - acc.length),decide (acc.length+l.length<m))
 | [],acc,h=>by simp [goR,h]
 | p :: l,acc,h=>by
  by_cases e:acc.length+1=m
  ·rw [goR_f (by simp [e])]
   have:m - acc.length=1:=by omega
   rw [this]
   simp
   omega
  ·rw [goR_t (by simp [e]),goR_take (by simp;omega)]
   rw [List.length_append]
   have h1:m - acc.length=(m - (acc.length+1))+1:=by omega
   simp only [List.length_cons,List.length_nil]
   rw [h1,List.take_succ_cons]
   simp
   omega
def AccOk (h:List B) (acc:List (List (Nat × Nat))):Prop :=
 (acc=[]∧bget h 3=some (.blk [.nilsl] false))∨∃ q,acc≠[]∧9≤q∧bget h 3=some (.blk [.ms 1 q acc.length 0 acc.length false] false)∧bget h q=some (.blk (acc.map pvL) false)
structure HpC (x y:El) (s:Int) (most:Nat) (acc:List (List (Nat × Nat))) (lp:B) (h:List B):Prop where
 cl:Cl h
 most:bget h 2=some (.blk [.int .i64 (most:Nat)] false)
 acc:AccOk h acc
 b4:bget h 4=some (.blk [.rp (pC x.sh y.sh s (openT x y s)) 0] false)
 b5:bget h 5=some (.blk [.nilsl] false)
 b6:bget h 6=some (.blk [.int .i64 (0:Nat)] false)
 b7:bget h 7=some (.blk [.int .i64 (0:Nat)] false)
 lop:bget h 8=some lp
section
variable {x y:El} {s:Int} {most:Nat} {acc:List (List (Nat × Nat))} {lp:B} {h:List B}
theorem HpC.le (c:HpC x y s most acc lp h):9≤h.length:=bget_lt c.lop
theorem HpC.tr {n:Nat} {tm:List V} (c:HpC x y s most acc lp h) (hn:9≤n):HpC x y s most acc lp (trunc n tm h):=by
 refine ⟨trunc_cl c.cl,by rw [bget_trunc (by omega)];exact c.most,?_,by rw [bget_trunc (by omega)];exact c.b4,by rw [bget_trunc (by omega)];exact c.b5,by rw [bget_trunc (by omega)];exact c.b6,by rw [bget_trunc (by omega)];exact c.b7,by rw [bget_trunc (by omega)];exact c.lop⟩
 rcases c.acc with ⟨e1,e2⟩ | ⟨q,e1,e2,e3,e4⟩
 ·exact .inl ⟨e1,by rw [bget_trunc (by omega)];exact e2⟩
 ·refine .inr ⟨q,e1,e2,by rw [bget_trunc (by omega)];exact e3,trunc_ref (by omega) e3 (fun k hk => ?_) e4⟩
  have:(false || (decide (q<k) && true))=true:=hk
  simpa using this
theorem HpC.app {b:B} (c:HpC x y s most acc lp h) (hb:b.blo h.length=true):HpC x y s most acc lp (h++[b]):=by
 refine ⟨c.cl.app hb,bget_app c.most,?_,bget_app c.b4,bget_app c.b5,bget_app c.b6,bget_app c.b7,bget_app c.lop⟩
 rcases c.acc with ⟨e1,e2⟩ | ⟨q,e1,e2,e3,e4⟩
 ·exact .inl ⟨e1,bget_app e2⟩
 ·exact .inr ⟨q,e1,e2,bget_app e3,bget_app e4⟩
theorem HpC.st {m:Nat} {b b0:B} (c:HpC x y s most acc lp h) (hm:9≤m) (h0:bget h m=some b0) (ho:own b0=false) (hb:b.blo h.length=true):HpC x y s most acc lp (bset h m b):=by
 have o:∀ k,k<9→bget (bset h m b) k=bget h k:=fun k hk=>bset_other (by omega)
 refine ⟨c.cl.set hb,(o 2 (by decide)).trans c.most,?_,(o 4 (by decide)).trans c.b4,(o 5 (by decide)).trans c.b5,(o 6 (by decide)).trans c.b6,(o 7 (by decide)).trans c.b7,(o 8 (by decide)).trans c.lop⟩
 rcases c.acc with ⟨e1,e2⟩ | ⟨q,e1,e2,e3,e4⟩
 ·exact .inl ⟨e1,(o 3 (by decide)).trans e2⟩
 ·refine .inr ⟨q,e1,e2,(o 3 (by decide)).trans e3,?_⟩
  rw [bset_other];exact e4
  rintro rfl
  rw [h0] at e4
  have:=Option.some.inj e4
  rw [this,pvL_own e1] at ho
  exact absurd ho (by decide)
theorem HpC.lp' {lp' : B} (c:HpC x y s most acc lp h) (hb:lp'.blo h.length=true):HpC x y s most acc lp' (bset h 8 lp'):=by
 have o:∀ k,k≠8→bget (bset h 8 lp') k=bget h k:=fun k hk=>bset_other (Ne.symm hk)
 refine ⟨c.cl.set hb,(o 2 (by decide)).trans c.most,?_,(o 4 (by decide)).trans c.b4,(o 5 (by decide)).trans c.b5,(o 6 (by decide)).trans c.b6,(o 7 (by decide)).trans c.b7,bget_same c.le⟩
 rcases c.acc with ⟨e1,e2⟩ | ⟨q,e1,e2,e3,e4⟩
 ·exact .inl ⟨e1,(o 3 (by decide)).trans e2⟩
 ·exact .inr ⟨q,e1,e2,(o 3 (by decide)).trans e3,(o q (by omega)).trans e4⟩
end
theorem Keep.refl' {N:Nat} {h h' : List B} (hl:h.length≤h'.length) (he:∀ m b,N≤m→bget h m=some b→own b=false→bget h' m=some b):Keep N h h' := ⟨hl,he⟩
set_option maxRecDepth 100000 in
theorem alsn_nil {H:List B} {C:List V} {L:Nat} {i j:Int} {K:V→List B→Prop} (hL:H.length=L) (hk:K (.fn 48 [.ref (L+0) 1 0,.ref (L+2) 1 0,.ref (L+3) 1 0,.ref (L+1) 1 0]) (H++[.blk [.rp C 0] false,.blk [.nilsl] false,.blk [.int .i64 i] false,.blk [.int .i64 j] false])):CallP FB md 0 (.fn 28 []) [.rp C 0,.nilsl,.int .i64 i,.int .i64 j] H K:=by
 have hi4:∀ (h:List B) (K:List B→Prop),(fB (unborns 4) fun r=>K (h++r))→fB (if 4=0 then h else h++unborns 4) K:=fun h K hk=>by rw [if_neg (by decide)];exact fB.tail hk
 have hji:∀ j,L+j=H.length+j:=fun j=>by rw [hL]
 have hT:trunc H.length [.fn 48 [.ref (L+0) 1 0,.ref (L+2) 1 0,.ref (L+3) 1 0,.ref (L+1) 1 0]] (H++[.blk [.rp C 0] false,.blk [.nilsl] false,.blk [.int .i64 i] false,.blk [.int .i64 j] false])=H++[.blk [.rp C 0] false,.blk [.nilsl] false,.blk [.int .i64 i] false,.blk [.int .i64 j] false]:=by
  unfold trunc
  rw [show (H++[B.blk [.rp C 0] false,.blk [.nilsl] false,.blk [.int .i64 i] false,.blk [.int .i64 j] false]).length - H.length=4 by rw [List.length_append];simp]
  unfold strip
  have:blos (H.length+3) [V.fn 48 [.ref (L+0) 1 0,.ref (L+2) 1 0,.ref (L+3) 1 0,.ref (L+1) 1 0]]=false:=by
   simp only [blos,V.blo,hL]
   simp
  rw [this,Bool.false_and]
  rfl
 have hl4:∀ r:List B,(H++r).length=L+r.length:=fun r=>by rw [List.length_append,hL]
 refine call_one rfl rfl rfl ?_
 repeat' (first
 | (conv=>whnf)
   first
   | refine fLen.as hL ?_
   | refine fLen.as (hl4 _) ?_
   | refine hi4 _ _ ?_
   | refine fB.i0 ?_
   | refine Get.newj 0 (hji 0) rfl ?_
   | refine fB.newj 0 (hji 0) ?_
   | refine Get.newj 1 (hji 1) rfl ?_
   | refine fB.newj 1 (hji 1) ?_
   | refine Get.newj 2 (hji 2) rfl ?_
   | refine fB.newj 2 (hji 2) ?_
   | refine Get.newj 3 (hji 3) rfl ?_
   | refine fB.newj 3 (hji 3) ?_
   | refine fB.mk ?_
   | refine Get.mk _ rfl ?_
   | refine Ends.of ?_
   | (refine Req.mk ?_ ?_;(focus first | rfl | decide | exact ⟨rfl,rfl⟩ | exact ⟨rfl,by decide⟩ | exact (fun _=>rfl) | exact (fun h=>nomatch h) | (simp;done) | omega | (simp [big];done) | exact le_big (by omega) | exact lt_big (by omega))))
 all_goals first | (rw [hT];exact hk)
theorem fB.lp8 {x y:El} {s:Int} {most:Nat} {acc:List (List (Nat × Nat))} {lp0 lp:B} {h:List B} {K:List B→Prop} (c:HpC x y s most acc lp0 h) (hb:lp.blo 9=true) (hk:∀ g,HpC x y s most acc lp g→g.length=h.length→(∀ h', Keep 9 g h' → Keep 9 h h')→K g):fB (bset h 8 lp) K:=by
 have hl:=c.le
 refine fB.mk (hk _ (c.lp' (Bblo_mono hl _ hb)) (bset_len ..) fun h' k=>⟨by have:=k.le;rwa [bset_len] at this,fun m b m1 m2 m3=>k.eq m b m1 (by rw [bset_other (by omega)];exact m2) m3⟩)
section
variable {x y:El} {s:Int} {mo:Nat} {acc:List (List (Nat × Nat))} {lp:B} {g:List B} {l:List (Nat × Nat)} {v:V}
theorem fB.acc1 {K:List B→Prop} (c:HpC x y s mo [] lp g) (hv:pvL l=v) (hk:∀ G,HpC x y s mo ([]++[l]) lp G→Keep 9 g G→bget G (0+3)=some (.blk [.ms 1 (g.length+0+1) (([]:List V).length+[v].length) 0 (0+1) false] false)→K G) :
  fB (bset (g++[.unborn,.blk ([]++[v]) false]) (0+3) (.blk [.ms 1 (g.length+0+1) (([]:List V).length+[v].length) 0 (0+1) false] false)) K:=by
 subst hv
 have hl:=c.le
 have h3:bget (bset (g++[.unborn,.blk ([]++[pvL l]) false]) (0+3) (.blk [.ms 1 (g.length+0+1) (([]:List V).length+[pvL l].length) 0 (0+1) false] false)) (0+3)=some (.blk [.ms 1 (g.length+0+1) (([]:List V).length+[pvL l].length) 0 (0+1) false] false):=bget_same (by rw [List.length_append];omega)
 have o:∀ k b,k≠3→bget g k=some b→bget (bset (g++[.unborn,.blk ([]++[pvL l]) false]) (0+3) (.blk [.ms 1 (g.length+0+1) (([]:List V).length+[pvL l].length) 0 (0+1) false] false)) k=some b:=fun k b hk hb=>by rw [bset_other (by omega)];exact bget_app hb
 refine fB.mk (hk _ ⟨?_,o _ _ (by decide) c.most,.inr ⟨g.length+1,by simp,by omega,h3,?_⟩,o _ _ (by decide) c.b4,o _ _ (by decide) c.b5,o _ _ (by decide) c.b6,o _ _ (by decide) c.b7,o _ _ (by decide) c.lop⟩ ⟨by rw [bset_len,List.length_append];omega,fun m b m1 m2 _=>o m b (by omega) m2⟩ h3)
 ·refine Cl.set (cl_asc c.cl ⟨rfl,?_,trivial⟩) ?_
  ·show blos _ [pvL l]=true
   exact pvL_blos [l]
  ·rw [List.length_append]
   show (false || (decide (g.length+0+1<g.length+2) && true))=true
   simp
 ·rw [bset_other (by omega)]
  exact bget_new (i:=1)
theorem acc_more {q:Nat} {G1 G:List B} (c:HpC x y s mo acc lp g) (hv:pvL l=v) (e1:acc≠[]) (e2:9≤q) (e3:bget g 3=some (.blk [.ms 1 q acc.length 0 acc.length false] false)) (e4:bget g q=some (.blk (acc.map pvL) false))
  (hG1:G1=bset (g++[.unborn,.unborn]) q (.blk (acc.map pvL++[v]) false)) (hG:G=bset G1 (0+3) (.blk [.ms 1 q (acc.length+[v].length) 0 (acc.length+1) false] false)) :
  HpC x y s mo (acc++[l]) lp G∧Keep 9 g G∧bget G (0+3)=some (.blk [.ms 1 q (acc.length+[v].length) 0 (acc.length+1) false] false):=by
 subst hv hG1 hG
 have hl:=c.le
 have hq:=bget_lt e4
 have hle:(g++[B.unborn,B.unborn]).length=g.length+2:=by rw [List.length_append];rfl
 have h3:bget (bset (bset (g++[.unborn,.unborn]) q (.blk (acc.map pvL++[pvL l]) false)) (0+3) (.blk [.ms 1 q (acc.length+[pvL l].length) 0 (acc.length+1) false] false)) (0+3)=some (.blk [.ms 1 q (acc.length+[pvL l].length) 0 (acc.length+1) false] false):=bget_same (by rw [bset_len,hle];omega)
 have o:∀ k b,k≠3→k≠q→bget g k=some b→bget (bset (bset (g++[.unborn,.unborn]) q (.blk (acc.map pvL++[pvL l]) false)) (0+3) (.blk [.ms 1 q (acc.length+[pvL l].length) 0 (acc.length+1) false] false)) k=some b:=fun k b hk hkq hb=>by rw [bset_other (by omega),bset_other (Ne.symm hkq)];exact bget_app hb
 refine ⟨⟨?_,o _ _ (by decide) (by omega) c.most,.inr ⟨q,by simp,e2,by rw [List.length_append];exact h3,?_⟩,o _ _ (by decide) (by omega) c.b4,o _ _ (by decide) (by omega) c.b5,o _ _ (by decide) (by omega) c.b6,o _ _ (by decide) (by omega) c.b7,o _ _ (by decide) (by omega) c.lop⟩,⟨by rw [bset_len,bset_len,hle];omega,fun m b m1 m2 m3=>o m b (by omega) (fun e => ?_) m2⟩,h3⟩
 ·refine Cl.set (Cl.set (cl_asc c.cl ⟨rfl,rfl,trivial⟩) ?_) ?_
  ·show blos _ (acc.map pvL++[pvL l])=true
   rw [← List.map_singleton, ← List.map_append]
   exact pvL_blos _
  ·rw [bset_len,hle]
   show (false || (decide (q<g.length+2) && true))=true
   simp
   omega
 ·rw [bset_other (by omega),List.map_append]
  exact bget_same (by rw [hle];omega)
 ·subst e
  rw [e4] at m2
  have:=Option.some.inj m2
  rw [← this,pvL_own e1] at m3
  exact absurd m3 (by decide)
theorem acc_fin {n:Nat} {lp' : B} {h G:List B} {tm:List V} (c:HpC x y s mo acc lp G) (hk:Keep 9 h G) (hb:lp'.blo 9=true) (hn:n=h.length) (hl:9≤h.length):HpC x y s mo acc lp' (bset (trunc n tm G) 8 lp')∧Keep 9 h (bset (trunc n tm G) 8 lp'):=by
 subst hn
 have c1:=c.tr (n:=h.length) (tm:=tm) hl
 refine ⟨c1.lp' (Bblo_mono c1.le _ hb),⟨by rw [bset_len];exact trunc_len hk.le,fun m b m1 m2 m3 => ?_⟩⟩
 rw [bset_other (by omega),bget_trunc (bget_lt m2)]
 exact hk.eq m b m1 m2 m3
end
theorem all_rf {x y:El} {s:Int} {mo:Nat} {h0:List B} {TM:List V} {PS:List Nat} {AS BO:MC} {K:V→List B→Prop} (ha:shOk x.l) (hb:shOk y.l) (hs:0≤s∧s≤200000) (hmo:0<mo) (h0c:HpC x y s mo [] (.lop true .nrm TM PS AS BO) (h0++[.lop true .nrm TM PS AS BO]))
  (hy:∀ acc h l (K:V→List B→Prop),acc.length<mo→HpC x y s mo acc (.lop true .nrm TM PS AS BO) h→l.length≤40→(∀ h', HpC x y s mo (acc++[l]) (.lop (decide (acc.length+1≠mo)) (if decide (acc.length+1≠mo)=true then .nrm else .exit 1) TM PS AS BO) h' → Keep 9 h h' → K (.bool (decide (acc.length+1≠mo))) h')→CallP FB md 0 (.yld 8) [pvL l] h K)
  (hk:∀ h' fl,HpC x y s mo (allL x y s mo) (.lop fl (if fl=true then .nrm else .exit 1) TM PS AS BO) h' → K (.tup []) h'):CallP FB md 0 (.fn 48 [.ref 4 1 0,.ref 6 1 0,.ref 7 1 0,.ref 5 1 0]) [.yld 8] (h0++[.lop true .nrm TM PS AS BO]) K:=by
 have hsp:=als_callH ha hb hs x.l.length 0 0 [] rfl (Nat.zero_le _) (Nat.zero_le _) (Nat.le_refl _)
 refine hsp.run (σ:=List (List (Nat × Nat))) (Hp:=fun q h=>(q.2=true→q.1.length<mo)∧HpC x y s mo q.1 (.lop q.2 (if q.2=true then .nrm else .exit 1) TM PS AS BO) h) (N0:=9) (q:=0) (ok:=fun a _=>decide (a.length+1≠mo)) (nx:=fun a p=>a++[p]) (s0:=[]) ⟨fun q h c=>c.2.le,fun q h c=>c.2.cl,fun q h n tm hn c=>⟨c.1,c.2.tr hn⟩,fun q h b c hb=>⟨c.1,c.2.app hb⟩,fun q h m b b0 h1 h2 h3 h4 c=>⟨c.1,c.2.st h1 h2 h3 h4⟩⟩ (fun q h c=>c.2.le) (fun p h c=>c.2.b4) (fun p h c=>c.2.b6) (fun p h c=>c.2.b7) (fun p h c=>.inl ⟨rfl,c.2.b5⟩) ⟨fun _=>hmo,h0c⟩ ?_ ?_
 ·intro acc h l K2 ⟨h1,h2⟩ hl hK2
  have h1' : acc.length<mo:=h1 rfl
  refine hy acc h l K2 h1' h2 hl fun h' h3 h4=>hK2 h' ⟨fun e => ?_,h3⟩ h4
  have e' : acc.length+1≠mo:=of_decide_eq_true e
  show (acc++[l]).length<mo
  rw [List.length_append]
  simp only [List.length_cons,List.length_nil]
  omega
 ·intro h' h1 _
  rw [goR_take hmo] at h1
  exact hk h' _ h1.2
theorem res_two {tm:List V} {g:List B} {v w:V} {i G:Nat} {P:V→Prop} (h1:tg tm 8 = .ref i G 0) (hG:G=1) (hb:bget g i=some (.blk [v] false)) (h2:tg tm 9=w) (hk:P (.tup [v,w])):Get (result ⟨tm,g⟩ [.cell 8 false 1,.tmp 9]) P:=by
 subst hG
 refine ⟨.tup [v,w],?_,hk⟩
 simp only [result,results,h1,h2,hb,loadFrom,List.length_cons,List.length_nil]
 rfl
def AEnds (res:List RV) (L:List (List (Nat × Nat))) (x:X) (s:St):Prop :=
 (x = .nrm∨x = .ret)∧((L=[]∧result s res=some (.tup [.nilsl,.int .i64 0]))∨(L≠[]∧∃ q,9≤q∧result s res=some (.tup [.ms 1 q L.length 0 L.length false,.int .i64 0])∧bget s.h q=some (.blk (L.map pvL) false)∧bget s.h 5=some (.blk [.nilsl] false)))
theorem res_twoE {tm:List V} {g:List B} {v w:V} {i G:Nat} (h1:tg tm 8 = .ref i G 0) (hG:G=1) (hb:bget g i=some (.blk [v] false)) (h2:tg tm 9=w):result ⟨tm,g⟩ [.cell 8 false 1,.tmp 9]=some (.tup [v,w]):=by
 subst hG
 simp only [result,results,h1,h2,hb,loadFrom,List.length_cons,List.length_nil]
 rfl
set_option maxRecDepth 100000 in
set_option maxHeartbeats 20000000 in
theorem all_wp {x y:El} {s most:Int} (he:openE x y s=0) (hmf:outB most 1 200=false):wp FB md 0 c9.body ⟨[elA' x,elA' y,.int .i64 s,.int .i64 most]++deads (c9.ntm - c9.np),[]⟩ (AEnds c9.res (allL x y s most)):=by
 have ho:=open_ok (x:=x) (y:=y) (s:=s)
 unfold openV at ho
 obtain ⟨ha,hb,hs⟩:=open_good he
 rw [if_neg (fun h=>h he)] at ho
 have hout:=out_ok (n:=most) (lo:=1) (hi:=200)
 rw [hmf] at hout
 have hmr:1≤most∧most≤200:=by
  unfold outB at hmf
  simp at hmf
  omega
 obtain ⟨mo,rfl⟩:∃ mo:Nat,most=(mo:Int):=⟨most.toNat,by omega⟩
 refine (fV_eq (K:=fun tm=>wp FB md 0 c9.body ⟨tm,[]⟩ (AEnds c9.res (allL x y s mo)))).1 ?_
 repeat' (first
 | (conv=>whnf)
   first
   | refine Br.f ?_
   | refine call_fun rfl rfl ho (.inl rfl) ?_
   | refine call_fun rfl rfl hout (.inl rfl) ?_
   | refine alsn_nil (L:=4) rfl ?_
   | refine Get.mk _ rfl ?_
   | (refine Req.mk ?_ ?_;(focus first | rfl | decide | exact ⟨rfl,rfl⟩ | exact ⟨rfl,by decide⟩ | exact (fun _=>rfl) | exact (fun h=>nomatch h) | (simp;done) | omega | (simp [big];done) | exact le_big (by omega) | exact lt_big (by omega))))
 all_goals try (exfalso;omega)
 conv=>whnf
 refine all_rf (mo:=mo) ha hb hs (by omega) ⟨rfl,rfl,.inl ⟨rfl,rfl⟩,rfl,rfl,rfl,rfl,rfl⟩ ?_ ?_
 ·intro acc h l K2 h1 h2 hl hK2
  refine call_yld h2.lop (Nat.zero_le _) rfl ?_
  have h2l:=h2.lop
  have hbl:=pvL_blo (n:=0) l
  unfold pvL at hbl ⊢
  by_cases hl0:l=[]
  ·rw [if_pos hl0] at hbl ⊢
   have hv:pvL l = .nilsl:=by subst hl0;rfl
   repeat' (first
 | (conv=>whnf)
   first
   | refine fLen.as rfl ?_
   | refine fB.i0 ?_
   | refine ⟨rfl,?_⟩
   | refine Get.mk _ h2l ?_
   | refine fB.lp8 h2 rfl ?_)
   intro g c hgl hkg
   have hl3:=c.le
   have hU:∀ B0 B1:B,bget (g++[B0,B1]) (g.length+0+1)=some B1:=fun B0 B1=>bget_new (i:=1)
   have hbs:∀ v:V,v.blo 0=true→blos 0 [v]=true:=fun v h=>by unfold blos;rw [h];rfl
   rcases c.acc with ⟨e1,e2⟩ | ⟨q,e1,e2,e3,e4⟩
   ·subst e1
    repeat' (first
 | (conv=>whnf)
   first
   | refine fLen.as rfl ?_
   | refine fB.i2 ?_
   | refine Get.mk _ (bget_app e2) ?_
   | refine Req.mk (hU _ _) ?_
   | refine Get.newj 1 rfl rfl ?_
   | refine fB.newj 1 rfl ?_
   | refine fB.acc1 (l:=l) c hv ?_
   | (refine Ifz.pos ?_ ?_;(focus omega))
   | refine Get.mk _ rfl ?_
   | (refine Req.mk ?_ ?_;(focus first | rfl | decide | exact ⟨rfl,rfl⟩ | exact ⟨rfl,by decide⟩ | exact (fun _=>rfl) | exact (fun h=>nomatch h) | (simp;done) | omega | (simp [big];done) | exact le_big (by omega) | exact lt_big (by omega))))
    intro G c2 k2 b3
    have b2:=c2.most
    have kk:=hkg G k2
    have hf:=fun (lp' : B) (hb:lp'.blo 9=true)=>acc_fin (lp' := lp') (tm:=[]) c2 kk hb rfl h2.le
    repeat' (first
 | (conv=>whnf)
   first
   | refine Br.dec (fun _ => ?_) (fun _ => ?_)
   | refine fLen.mk ?_
   | refine fB.i0 ?_
   | refine Get.mk _ b3 ?_
   | refine Get.mk _ b2 ?_
   | refine fB.mk ?_
   | refine Get.mk _ rfl ?_
   | (refine Req.mk ?_ ?_;(focus first | rfl | decide | exact ⟨rfl,rfl⟩ | exact ⟨rfl,by decide⟩ | exact (fun _=>rfl) | exact (fun h=>nomatch h) | (simp;done) | omega | (simp [big];done) | exact le_big (by omega) | exact lt_big (by omega))))
    all_goals try (exfalso;omega;done)
    ·rename_i hd
     have e:((([]:List (List (Nat × Nat))).length+1:Nat):Int)=mo:=hd
     have hd' : decide (([]:List (List (Nat × Nat))).length+1≠mo)=false:=decide_eq_false (fun h=>h (by omega))
     have:=hK2
     rw [hd'] at this
     refine this _ (hf _ ?_).1 (hf _ ?_).2
     all_goals rfl
    ·rename_i hd
     have e:¬ ((([]:List (List (Nat × Nat))).length+1:Nat):Int)=mo:=hd
     have hd' : decide (([]:List (List (Nat × Nat))).length+1≠mo)=true:=decide_eq_true (fun h=>e (by omega))
     have:=hK2
     rw [hd'] at this
     refine this _ (hf _ ?_).1 (hf _ ?_).2
     all_goals rfl
   ·have hml:(acc.map pvL).length=acc.length:=List.length_map ..
    have hr1:∀ v:V,0+acc.length * 1=acc.length∧((acc.map pvL).length+[v].length) * (24+1)<big:=fun v=>⟨by omega,by rw [hml];simp [big];omega⟩
    repeat' (first
 | (conv=>whnf)
   first
   | refine fLen.as rfl ?_
   | refine fB.i2 ?_
   | refine Get.mk _ (bget_app e3) ?_
   | refine Get.mk _ (bget_app e4) ?_
   | refine Req.mk hml ?_
   | refine Req.mk (hr1 _) ?_
   | refine Req.mk (fun h=>nomatch h) ?_
   | refine fB.abs ?_
   | (refine Ifz.pos ?_ ?_;(focus omega))
   | refine Get.mk _ rfl ?_
   | (refine Req.mk ?_ ?_;(focus first | rfl | decide | exact ⟨rfl,rfl⟩ | exact ⟨rfl,by decide⟩ | exact (fun _=>rfl) | exact (fun h=>nomatch h) | (simp;done) | omega | (simp [big];done) | exact le_big (by omega) | exact lt_big (by omega))))
    intro G1 hG1
    have b13:bget G1 (0+3)=some (.blk [.ms 1 q acc.length 0 acc.length false] false):=by rw [hG1,bset_other (by omega)];exact bget_app e3
    repeat' (first
 | (conv=>whnf)
   first
   | refine Get.mk _ b13 ?_
   | refine fB.abs ?_
   | (refine Req.mk ?_ ?_;(focus first | rfl | decide | exact ⟨rfl,rfl⟩ | exact ⟨rfl,by decide⟩ | exact (fun _=>rfl) | exact (fun h=>nomatch h) | (simp;done) | omega | (simp [big];done) | exact le_big (by omega) | exact lt_big (by omega))))
    intro G hG
    obtain ⟨c2,k2,b3⟩:=acc_more c hv e1 e2 e3 e4 hG1 hG
    have b2:=c2.most
    have kk:=hkg G k2
    have hf:=fun (lp' : B) (hb:lp'.blo 9=true)=>acc_fin (lp' := lp') (tm:=[]) c2 kk hb rfl h2.le
    repeat' (first
 | (conv=>whnf)
   first
   | refine Br.dec (fun _ => ?_) (fun _ => ?_)
   | refine fLen.mk ?_
   | refine fB.i0 ?_
   | refine Get.mk _ b3 ?_
   | refine Get.mk _ b2 ?_
   | refine fB.mk ?_
   | refine Get.mk _ rfl ?_
   | (refine Req.mk ?_ ?_;(focus first | rfl | decide | exact ⟨rfl,rfl⟩ | exact ⟨rfl,by decide⟩ | exact (fun _=>rfl) | exact (fun h=>nomatch h) | (simp;done) | omega | (simp [big];done) | exact le_big (by omega) | exact lt_big (by omega))))
    all_goals try (exfalso;omega;done)
    ·rename_i hd
     have e:((acc.length+1:Nat):Int)=mo:=hd
     have hd' : decide (acc.length+1≠mo)=false:=decide_eq_false (fun h=>h (by omega))
     have:=hK2
     rw [hd'] at this
     refine this _ (hf _ ?_).1 (hf _ ?_).2
     all_goals rfl
    ·rename_i hd
     have e:¬ ((acc.length+1:Nat):Int)=mo:=hd
     have hd' : decide (acc.length+1≠mo)=true:=decide_eq_true (fun h=>e (by omega))
     have:=hK2
     rw [hd'] at this
     refine this _ (hf _ ?_).1 (hf _ ?_).2
     all_goals rfl
  ·rw [if_neg hl0] at hbl ⊢
   have hv:pvL l = .sl false (l.map prN).length (shC (l.map prN)):=by unfold pvL;rw [if_neg hl0]
   repeat' (first
 | (conv=>whnf)
   first
   | refine fLen.as rfl ?_
   | refine fB.i0 ?_
   | refine ⟨rfl,?_⟩
   | refine Get.mk _ h2l ?_
   | refine fB.lp8 h2 rfl ?_)
   intro g c hgl hkg
   have hl3:=c.le
   have hU:∀ B0 B1:B,bget (g++[B0,B1]) (g.length+0+1)=some B1:=fun B0 B1=>bget_new (i:=1)
   have hbs:∀ v:V,v.blo 0=true→blos 0 [v]=true:=fun v h=>by unfold blos;rw [h];rfl
   rcases c.acc with ⟨e1,e2⟩ | ⟨q,e1,e2,e3,e4⟩
   ·subst e1
    repeat' (first
 | (conv=>whnf)
   first
   | refine fLen.as rfl ?_
   | refine fB.i2 ?_
   | refine Get.mk _ (bget_app e2) ?_
   | refine Req.mk (hU _ _) ?_
   | refine Get.newj 1 rfl rfl ?_
   | refine fB.newj 1 rfl ?_
   | refine fB.acc1 (l:=l) c hv ?_
   | (refine Ifz.pos ?_ ?_;(focus omega))
   | refine Get.mk _ rfl ?_
   | (refine Req.mk ?_ ?_;(focus first | rfl | decide | exact ⟨rfl,rfl⟩ | exact ⟨rfl,by decide⟩ | exact (fun _=>rfl) | exact (fun h=>nomatch h) | (simp;done) | omega | (simp [big];done) | exact le_big (by omega) | exact lt_big (by omega))))
    intro G c2 k2 b3
    have b2:=c2.most
    have kk:=hkg G k2
    have hf:=fun (lp' : B) (hb:lp'.blo 9=true)=>acc_fin (lp' := lp') (tm:=[]) c2 kk hb rfl h2.le
    repeat' (first
 | (conv=>whnf)
   first
   | refine Br.dec (fun _ => ?_) (fun _ => ?_)
   | refine fLen.mk ?_
   | refine fB.i0 ?_
   | refine Get.mk _ b3 ?_
   | refine Get.mk _ b2 ?_
   | refine fB.mk ?_
   | refine Get.mk _ rfl ?_
   | (refine Req.mk ?_ ?_;(focus first | rfl | decide | exact ⟨rfl,rfl⟩ | exact ⟨rfl,by decide⟩ | exact (fun _=>rfl) | exact (fun h=>nomatch h) | (simp;done) | omega | (simp [big];done) | exact le_big (by omega) | exact lt_big (by omega))))
    all_goals try (exfalso;omega;done)
    ·rename_i hd
     have e:((([]:List (List (Nat × Nat))).length+1:Nat):Int)=mo:=hd
     have hd' : decide (([]:List (List (Nat × Nat))).length+1≠mo)=false:=decide_eq_false (fun h=>h (by omega))
     have:=hK2
     rw [hd'] at this
     refine this _ (hf _ ?_).1 (hf _ ?_).2
     all_goals rfl
    ·rename_i hd
     have e:¬ ((([]:List (List (Nat × Nat))).length+1:Nat):Int)=mo:=hd
     have hd' : decide (([]:List (List (Nat × Nat))).length+1≠mo)=true:=decide_eq_true (fun h=>e (by omega))
     have:=hK2
     rw [hd'] at this
     refine this _ (hf _ ?_).1 (hf _ ?_).2
     all_goals rfl
   ·have hml:(acc.map pvL).length=acc.length:=List.length_map ..
    have hr1:∀ v:V,0+acc.length * 1=acc.length∧((acc.map pvL).length+[v].length) * (24+1)<big:=fun v=>⟨by omega,by rw [hml];simp [big];omega⟩
    repeat' (first
 | (conv=>whnf)
   first
   | refine fLen.as rfl ?_
   | refine fB.i2 ?_
   | refine Get.mk _ (bget_app e3) ?_
   | refine Get.mk _ (bget_app e4) ?_
   | refine Req.mk hml ?_
   | refine Req.mk (hr1 _) ?_
   | refine Req.mk (fun h=>nomatch h) ?_
   | refine fB.abs ?_
   | (refine Ifz.pos ?_ ?_;(focus omega))
   | refine Get.mk _ rfl ?_
   | (refine Req.mk ?_ ?_;(focus first | rfl | decide | exact ⟨rfl,rfl⟩ | exact ⟨rfl,by decide⟩ | exact (fun _=>rfl) | exact (fun h=>nomatch h) | (simp;done) | omega | (simp [big];done) | exact le_big (by omega) | exact lt_big (by omega))))
    intro G1 hG1
    have b13:bget G1 (0+3)=some (.blk [.ms 1 q acc.length 0 acc.length false] false):=by rw [hG1,bset_other (by omega)];exact bget_app e3
    repeat' (first
 | (conv=>whnf)
   first
   | refine Get.mk _ b13 ?_
   | refine fB.abs ?_
   | (refine Req.mk ?_ ?_;(focus first | rfl | decide | exact ⟨rfl,rfl⟩ | exact ⟨rfl,by decide⟩ | exact (fun _=>rfl) | exact (fun h=>nomatch h) | (simp;done) | omega | (simp [big];done) | exact le_big (by omega) | exact lt_big (by omega))))
    intro G hG
    obtain ⟨c2,k2,b3⟩:=acc_more c hv e1 e2 e3 e4 hG1 hG
    have b2:=c2.most
    have kk:=hkg G k2
    have hf:=fun (lp' : B) (hb:lp'.blo 9=true)=>acc_fin (lp' := lp') (tm:=[]) c2 kk hb rfl h2.le
    repeat' (first
 | (conv=>whnf)
   first
   | refine Br.dec (fun _ => ?_) (fun _ => ?_)
   | refine fLen.mk ?_
   | refine fB.i0 ?_
   | refine Get.mk _ b3 ?_
   | refine Get.mk _ b2 ?_
   | refine fB.mk ?_
   | refine Get.mk _ rfl ?_
   | (refine Req.mk ?_ ?_;(focus first | rfl | decide | exact ⟨rfl,rfl⟩ | exact ⟨rfl,by decide⟩ | exact (fun _=>rfl) | exact (fun h=>nomatch h) | (simp;done) | omega | (simp [big];done) | exact le_big (by omega) | exact lt_big (by omega))))
    all_goals try (exfalso;omega;done)
    ·rename_i hd
     have e:((acc.length+1:Nat):Int)=mo:=hd
     have hd' : decide (acc.length+1≠mo)=false:=decide_eq_false (fun h=>h (by omega))
     have:=hK2
     rw [hd'] at this
     refine this _ (hf _ ?_).1 (hf _ ?_).2
     all_goals rfl
    ·rename_i hd
     have e:¬ ((acc.length+1:Nat):Int)=mo:=hd
     have hd' : decide (acc.length+1≠mo)=true:=decide_eq_true (fun h=>e (by omega))
     have:=hK2
     rw [hd'] at this
     refine this _ (hf _ ?_).1 (hf _ ?_).2
     all_goals rfl
 ·intro h' fl h1
  have h1l:=h1.lop
  have hr:bget h' (8+0)=_:=h1l
  dsimp only
  generalize allL x y s mo=L at h1 hr ⊢
  cases fl
  all_goals
   first | rw [h1l] | skip
   repeat' (first
 | (conv=>whnf)
   first
   | refine fB.lp8 h1 rfl ?_)
   intro g c _ _
   rcases c.acc with ⟨e1,e2⟩ | ⟨q,e1,e2,e3,e4⟩
   ·subst e1
    repeat' (first
 | (conv=>whnf)
   first
   | refine fLen.mk ?_
   | refine fB.i0 ?_
   | refine Get.mk _ e2 ?_
   | refine fB.as (bset_same e2) ?_
   | refine Get.mk _ rfl ?_
   | (refine Req.mk ?_ ?_;(focus first | rfl | decide | exact ⟨rfl,rfl⟩ | exact ⟨rfl,by decide⟩ | exact (fun _=>rfl) | exact (fun h=>nomatch h) | (simp;done) | omega | (simp [big];done) | exact le_big (by omega) | exact lt_big (by omega))))
    all_goals first | (exfalso;omega;done) | skip
    exact ⟨.inr rfl,.inl ⟨rfl,res_twoE rfl rfl e2 rfl⟩⟩
   ·repeat' (first
 | (conv=>whnf)
   first
   | refine fLen.mk ?_
   | refine fB.i0 ?_
   | refine Get.mk _ e3 ?_
   | refine fB.as (bset_same e3) ?_
   | refine Get.mk _ rfl ?_
   | (refine Req.mk ?_ ?_;(focus first | rfl | decide | exact ⟨rfl,rfl⟩ | exact ⟨rfl,by decide⟩ | exact (fun _=>rfl) | exact (fun h=>nomatch h) | (simp;done) | omega | (simp [big];done) | exact le_big (by omega) | exact lt_big (by omega))))
    all_goals first | (exfalso;omega;done) | skip
    exact ⟨.inr rfl,.inr ⟨e1,q,by omega,res_twoE rfl rfl e3 rfl,e4,c.b5⟩⟩
theorem all_lv {L:List (List (Nat × Nat))} {res:List RV} {x:X} {s:St} (h:AEnds res L x s):Leaves res (.tup [vLL L,.int .i64 0]) x s:=by
 obtain ⟨h1,h2⟩:=h
 rcases h2 with ⟨e1,e2⟩ | ⟨e1,q,_,e3,e4,_⟩
 ·subst e1
  exact ⟨_,h1,e2,(Vw.tup (d:=63) (VwL.cons Vw.nil (VwL.cons (Vw.int rfl) VwL.nil))).1⟩
 ·refine ⟨_,h1,e3,(Vw.tup (d:=63) (VwL.cons ?_ (VwL.cons (Vw.int rfl) VwL.nil))).1⟩
  have hlm:(L.map pvL).length=L.length:=List.length_map ..
  have:=Vw.ms (h:=s.h) (d:=62) (es:=1) (id:=q) (g:=L.length) (off:=0) (len:=L.length) (clip:=false) e4 hlm (part_all (by omega)) (pvL_views (d:=60) L)
  unfold vLL
  rw [decide_eq_false e1]
  exact this
end Go.Dr.T
