/- Chapter 06: Whole as a function of what it is given; the table with it. -/
import Derived.Test.YtcjhgcjmomildaaGreatDoorR16T4
import Derived.Test.YtcjhgcjmomildaaGreatDoorR16A8
import Derived.Test.YtcjhgcjmomildaaGreatDoorG15
import Derived.Test.YtcjhgcjmomildaaGreatDoorG16
namespace Go.Dr.T
def wayP (D:List PE) (a t ab:Int):Option (List Int):=(wayGo D a t ab 1002 0 []).getD none
def keysOf (D:List PE):List Int:=D.map (·.k)
def wholeV (l:List El):V :=
 if vldE l≠0 then .tup [.sl true 0 [],.bool false,.int .i64 (vldE l)] else
 match roundP (fun k=>wayP (pAll l) k k k) (isort (keysOf (pAll l))) with
 | some _=>.tup [.sl true 0 [],.bool false,.int .i64 161]
 | none=>match wgo (pAll l) (pAll l).length (keysOf (pAll l)) [] with
  | some A=>.tup [lw false A,.bool (onlyN (fun a b=>wayP (pAll l) a b 0) A A.length),.int .i64 0]
  | none=>.dead
def WholeOk (c:Bool) (l:List El):Prop:=wpm FB1 md 0 c14.body ⟨[elsV c l]++deads (c14.ntm - c14.np),[]⟩ (Leaves c14.res (wholeV l))
open Classical in
noncomputable def whoG (as:List V):Option V:=if h:∃ p:Bool × List El,as=[elsV p.1 p.2]∧WholeOk p.1 p.2 then some (wholeV (Classical.choose h).2) else none
theorem whoG_eq {c:Bool} {l:List El} (hw:WholeOk c l):whoG [elsV c l]=some (wholeV l):=by
 have h:∃ p:Bool × List El,[elsV c l]=[elsV p.1 p.2]∧WholeOk p.1 p.2:=⟨(c,l),rfl,hw⟩
 have e:=(Classical.choose_spec h).1
 unfold whoG
 rw [dif_pos h]
 generalize Classical.choose h=q at *
 simp only [elsV,List.cons.injEq,V.sl.injEq,and_true] at e
 rw [elC_inj e.2.2]
theorem whoG_some {as:List V} {v:V} (h:whoG as=some v):∃ c l,as=[elsV c l]∧WholeOk c l∧v=wholeV l:=by
 unfold whoG at h
 split at h
 ·rename_i hx
  cases h
  obtain ⟨h1,h2⟩:=Classical.choose_spec hx
  exact ⟨_,_,h1,h2,rfl⟩
 ·cases h
noncomputable def FB2:Nat→Option Fc
 | 14=>some (knFc 1 14 (plainKn whoG))
 | n=>FB1 n
theorem sub2:Sub' FB1 FB2:=by
 intro f fc h
 unfold FB2
 split
 ·cases h
 ·exact h
theorem view_none {h:List B} {d:Nat} (l:List El) (hw:wholeV l ≠ .dead):V.view h (d+2) (wholeV l)=some (wholeV l):=by
 have key:∀ (A:List Int) (b:Bool),V.view h (d+2) (.tup [lw false A,.bool b,.int .i64 0])=some (.tup [lw false A,.bool b,.int .i64 0]):=fun A b =>
  (Vw.tup (VwL.cons ⟨view_lw _ _⟩ (VwL.cons (Vw.bool rfl) (VwL.cons (Vw.int rfl) VwL.nil)))).1
 unfold wholeV at hw ⊢
 split at hw
 ·rename_i h1;rw [if_pos h1];rfl
 ·rename_i h1
  rw [if_neg h1]
  split at hw
  ·rfl
  ·split at hw
   ·exact key _ _
   ·exact absurd rfl hw
theorem whole_fun {c:Bool} {l:List El} (hw:WholeOk c l) (hd:wholeV l ≠ .dead):Fun FB2 md 14 [elsV c l] (wholeV l):=fun_kn rfl rfl (whoG_eq hw) (view_none l hd)
theorem gatherV_view {l:List El}:V.view [] depth (gatherV l)=some (gatherV l):=by
 unfold gatherV
 split <;> rfl
set_option maxRecDepth 100000 in
set_option maxHeartbeats 20000000 in
theorem whole_err {c:Bool} {l:List El} (hv:vldE l≠0):WholeOk c l:=by
 have hg:=gather_fun (c:=c) (l:=l) gatherV_view
 unfold gatherV at hg
 rw [if_pos hv] at hg
 unfold WholeOk wholeV
 rw [if_pos hv]
 generalize vldE l=e at *
 refine (fV_eq (K:=fun tm=>wpm FB1 md 0 _ ⟨tm,[]⟩ _)).1 ?_
 repeat' (first
 | (conv=>whnf)
   first
   | (refine Br.decF ?_ ?_;(focus first | assumption | omega))
   | refine Br.not ?_
   | refine call_fun rfl rfl hg (.inl rfl) ?_
   | refine Get.mk _ rfl ?_
   | refine Leaves.of ?_
   | refine Vw.bool ?_
   | refine Vw.int ?_
   | refine Vw.nil
   | refine Vw.tup ?_
   | refine VwL.cons ?_ ?_
   | refine VwL.nil)
 all_goals first | rfl | (exfalso;omega;done)
set_option maxRecDepth 100000 in
set_option maxHeartbeats 20000000 in
theorem whole_rnd {c:Bool} {l:List El} (hv:vldE l=0) (hn:(pAll l).length≤1000000)
  (hw:∀ k∈keysOf (pAll l),Fun FB1 md 36 [gatV (pAll l),.int .i64 k,.int .i64 k,.int .i64 k] (wayV (wayP (pAll l) k k k))) (hne:∀ k,wayP (pAll l) k k k≠some [])
  {x:List Int} (hr:roundP (fun k=>wayP (pAll l) k k k) (isort (keysOf (pAll l)))=some x):WholeOk c l:=by
 have hg:=gather_fun (c:=c) (l:=l) gatherV_view
 unfold gatherV at hg
 rw [if_neg (fun h=>h hv)] at hg
 unfold WholeOk wholeV
 rw [if_neg (fun h=>h hv),hr]
 have hxn:x≠[]:=fun h=>by
  subst h
  exact round_ne (w:=fun k=>wayP (pAll l) k k k) hne _ none (by simp) hr
 obtain ⟨y,r,rfl⟩:∃ y r,x=y :: r:=by
  cases x with
  | nil=>exact absurd rfl hxn
  | cons y r=>exact ⟨y,r,rfl⟩
 generalize pAll l=D at *
 have hrc:∀ {h:List B} {ro:Nat} {K:V→List B→Prop},K (bestV (some (y :: r))) h→CallP FB1 md ro (.fn 33 []) [gatV D] h K:=fun hk=>round_call hn hw hne (by rw [show isort (D.map (·.k))=isort (keysOf D) from rfl,hr];exact hk)
 refine (fV_eq (K:=fun tm=>wpm FB1 md 0 _ ⟨tm,[]⟩ _)).1 ?_
 repeat' (first
 | (conv=>whnf)
   first
   | refine Br.t ?_
   | refine Br.f ?_
   | refine call_fun rfl rfl hg (.inl rfl) ?_
   | refine hrc ?_
   | refine Get.mk _ rfl ?_
   | refine Leaves.of ?_
   | refine Vw.bool ?_
   | refine Vw.int ?_
   | refine Vw.nil
   | refine Vw.tup ?_
   | refine VwL.cons ?_ ?_
   | refine VwL.nil)
 all_goals first | rfl | (exfalso;omega;done)
theorem whole_all {c:Bool} {l:List El} {A:List Int} (hv:vldE l=0) (hn:(pAll l).length≤100000) (hL:∀ e∈pAll l,e.L.length≤100000) (nd:(keysOf (pAll l)).Nodup)
  (hw:∀ k∈keysOf (pAll l),Fun FB1 md 36 [gatV (pAll l),.int .i64 k,.int .i64 k,.int .i64 k] (wayV (wayP (pAll l) k k k))) (hne:∀ k,wayP (pAll l) k k k≠some [])
  (hr:roundP (fun k=>wayP (pAll l) k k k) (isort (keysOf (pAll l)))=none) (hgo:wgo (pAll l) (pAll l).length (keysOf (pAll l)) []=some A)
  (hw2:∀ i,0<i→i<A.length→Fun FB1 md 36 [gatV (pAll l),.int .i64 (kAt A (i - 1)),.int .i64 (kAt A i),.int .i64 0] (wayV (wayP (pAll l) (kAt A (i - 1)) (kAt A i) 0))):WholeOk c l:=by
 have hg:=gather_fun (c:=c) (l:=l) gatherV_view
 unfold gatherV at hg
 rw [if_neg (fun h=>h hv)] at hg
 unfold WholeOk wholeV
 rw [if_neg (fun h=>h hv),hr,hgo]
 exact whole_walk hg hn hL nd hw hne hr hgo (w2:=fun a b=>wayP (pAll l) a b 0) hw2 c14 rfl
end Go.Dr.T
namespace Go.Dr.T
structure FzA where
 x:El
 y:El
 s:Int
 most:Int
 id:Nat
def FzA.good (a:FzA):Prop:=openE a.x a.y a.s=0∧outB a.most 1 200=false∧allL a.x a.y a.s a.most≠[]
def FzA.v (a:FzA):V:=.tup [vLL (allL a.x a.y a.s a.most),.int .i64 0]
def FzA.own (a:FzA) (ro:Nat) (as:List V) (h:List B):Prop :=
 as=[elA' a.x,.agg [.str a.y.nm,.ms 2 a.id (a.y.l.length * 2) 0 a.y.l.length false,.int .i64 a.y.g],.int .i64 a.s,.int .i64 a.most]∧bget h a.id=some (.blk (shC a.y.l) true)∧ro≤a.id∧a.y.c=false∧a.y.l≠[]∧a.good
def FzA.val (a:FzA) (as:List V) (h:List B):Prop:=h=[]∧as=[elA' a.x,elA' a.y,.int .i64 a.s,.int .i64 a.most]∧a.id=0∧a.good
open Classical in
noncomputable def gFz (ro:Nat) (as:List V) (h:List B):Option (V × List B) :=
 if e:∃ a:FzA,a.val as h then some ((Classical.choose e).v,[])
 else if e:∃ a:FzA,a.own ro as h then some ((Classical.choose e).v,bset h (Classical.choose e).id (.blk (shC (Classical.choose e).y.l++[.nilp]) true))
 else none
theorem El.ext' {a b:El} (h1:a.nm=b.nm) (h2:a.c=b.c) (h3:a.l=b.l) (h4:a.g=b.g):a=b:=by
 cases a;cases b;simp_all
theorem elA_inj {a b:El} (h:elA' a=elA' b):a=b:=by
 simp only [elA', El.v,V.agg.injEq,List.cons.injEq,V.str.injEq,V.sl.injEq,V.int.injEq,true_and,and_true] at h
 exact El.ext' h.1 h.2.1.1 (shC_inj h.2.1.2.2) h.2.2
theorem FzA.val_inj {a b:FzA} {as:List V} {h:List B} (p:a.val as h) (q:b.val as h):a=b:=by
 obtain ⟨_,p1,p2,_⟩:=p
 obtain ⟨_,q1,q2,_⟩:=q
 rw [p1] at q1
 simp only [List.cons.injEq,V.int.injEq,true_and,and_true] at q1
 obtain ⟨h1,h2,h3,h4⟩:=q1
 have:=elA_inj h1
 have:=elA_inj h2
 cases a;cases b;simp_all
theorem FzA.own_inj {a b:FzA} {ro:Nat} {as:List V} {h:List B} (p:a.own ro as h) (q:b.own ro as h):a=b:=by
 obtain ⟨p1,p2,_,p3,_⟩:=p
 obtain ⟨q1,q2,_,q3,_⟩:=q
 rw [p1] at q1
 simp only [List.cons.injEq,V.int.injEq,V.agg.injEq,V.str.injEq,V.ms.injEq,true_and,and_true] at q1
 obtain ⟨h1,⟨h2,⟨h3,_,_⟩,h4⟩,h5,h6⟩:=q1
 have e1:=elA_inj h1
 rw [h3,q2] at p2
 have e2:a.y.l=b.y.l:=(shC_inj (B.blk.inj (Option.some.inj p2)).1).symm
 have e3:a.y=b.y:=El.ext' h2 (p3.trans q3.symm) e2 h4
 cases a;cases b;simp_all
theorem FzA.not_val {a b:FzA} {ro:Nat} {as:List V} {h:List B} (p:a.own ro as h) (q:b.val as h):False:=by
 obtain ⟨q1,_⟩:=q
 obtain ⟨_,p2,_⟩:=p
 rw [q1] at p2
 cases p2
theorem gFz_val {a:FzA} {ro:Nat} {as:List V} {h:List B} (p:a.val as h):gFz ro as h=some (a.v,[]):=by
 have e:∃ a:FzA,a.val as h:=⟨a,p⟩
 unfold gFz
 rw [dif_pos e,FzA.val_inj (Classical.choose_spec e) p]
theorem gFz_own {a:FzA} {ro:Nat} {as:List V} {h:List B} (p:a.own ro as h):gFz ro as h=some (a.v,bset h a.id (.blk (shC a.y.l++[.nilp]) true)):=by
 have n:¬ ∃ a:FzA,a.val as h:=fun ⟨b,q⟩=>FzA.not_val p q
 have e:∃ a:FzA,a.own ro as h:=⟨a,p⟩
 unfold gFz
 rw [dif_neg n,dif_pos e,FzA.own_inj (Classical.choose_spec e) p]
theorem gFz_some {ro:Nat} {as:List V} {h h' : List B} {v:V} (g:gFz ro as h=some (v,h')):∃ a:FzA,(a.val as h∧v=a.v∧h' = [])∨(a.own ro as h∧v=a.v∧h' = bset h a.id (.blk (shC a.y.l++[.nilp]) true)):=by
 unfold gFz at g
 split at g
 ·rename_i e
  simp only [Option.some.injEq,Prod.mk.injEq] at g
  exact ⟨_,.inl ⟨Classical.choose_spec e,g.1.symm,g.2.symm⟩⟩
 ·split at g
  ·rename_i e
   simp only [Option.some.injEq,Prod.mk.injEq] at g
   exact ⟨_,.inr ⟨Classical.choose_spec e,g.1.symm,g.2.symm⟩⟩
  ·cases g
theorem shC_blo:∀ l:List (Int × Int),blos 0 (shC l)=true
 | []=>rfl
 | _ :: l=>by simp only [shC,blos,V.blo,Bool.true_and];exact shC_blo l
theorem shC_ones:∀ l:List (Int × Int),ones (shC l)=true
 | []=>rfl
 | _ :: l=>by simp only [shC,ones,V.one,Bool.true_and];exact shC_ones l
theorem elA_blo (x:El):(elA' x).blo 0=true:=by simp only [elA', El.v,V.blo,blos,Bool.and_self]
theorem rows_R {k k' : K} (hsz:k.w.heap.size≤k'.w.heap.size) (hok:∀ b,k.ok b→b<k.w.heap.size→k'.ok b∧k'.w.heap[b]?=k.w.heap[b]?):∀ {L:List (List (Nat × Nat))} {xs:List Value},RL k (L.map pvL) xs→RL k' (L.map vL) xs
 | [],xs,h=>by simpa [RL] using h
 | l :: L,xs,h=>by
  simp only [List.map_cons,RL] at h ⊢
  obtain ⟨x,r,rfl,h1,h2⟩:=h
  refine ⟨x,r,rfl,?_,rows_R hsz hok h2⟩
  unfold pvL at h1
  unfold vL
  by_cases e:l=[]
  ·subst e
   rw [if_pos rfl] at h1
   simp only [R] at h1 ⊢
   exact .inl ⟨none,h1,rfl,rfl⟩
  ·rw [if_neg e,List.length_map] at h1
   rw [decide_eq_false e]
   exact R.over hsz hok (by rfl) h1
theorem rows_pure:∀ L:List (List (Nat × Nat)),V.pure (L.map vL)
 | []=>⟨rfl,rfl⟩
 | l :: L=>by
  obtain ⟨h1,h2⟩:=rows_pure L
  exact ⟨by simp only [List.map_cons,ones,h1,vL,V.one,Bool.and_self],by simp only [List.map_cons,blos,h2,vL,V.blo,Bool.and_self]⟩
theorem pvL_ones:∀ L:List (List (Nat × Nat)),(L.map pvL).length=L.length:=fun L=>List.length_map ..
theorem kn_fz {P:Program} (hF:TableOk P FB) {f:Nat} {fn:Func} (hf:P.funcs[f]?=some fn) (hfc:cFunc P fn=some c9):KnOk P f 4 gFz:=by
 intro ro k as xs v h' gk ha hlen hg Q hQ
 obtain ⟨a,⟨⟨hh,has,_,he,hm,_⟩,rfl,rfl⟩ | ⟨⟨has,hb,hro,hc,hne,he,hm,hL⟩,rfl,rfl⟩⟩:=gFz_some hg
 ·subst has
  obtain ⟨n,x,s,hr,hx⟩:=wp_ok (all_wp he hm)
  obtain ⟨v0,l1,l2,l3⟩:=all_lv hx
  have hr:=hr n (Nat.le_refl _)
  rw [← hh] at hr
  refine call_wp (ro:=0) (all_walks hF n).1 hf hfc gk ha rfl hr l1 l2 fun y k1 hk1 g1 e1 hy => ?_
  obtain ⟨q1,q2,q3⟩:=back_none gk hh g1 e1 (by rw [hk1];exact l3) hy
  exact hQ y { k with w:=k1.w } hh q1 (q2 ro) q3
 subst has
 obtain ⟨n,x,s,hr,hx⟩:=wp_ok (all_wp (x:=a.x) (y:=a.y) (s:=a.s) (most:=a.most) he hm)
 obtain ⟨l1,l2⟩:=hx
 rcases l2 with ⟨l2,_⟩ | ⟨_,q,hq9,l3,l4,l5⟩
 ·exact absurd l2 hL
 have hr:=hr n (Nat.le_refl _)
 have hlv:=live_blk hb
 obtain ⟨hn0,hlt⟩:=gk.at hlv
 -- what the call may read: what could be read, and the block that is given up
 let A:Nat→Prop:=fun b=>k.ok b∨b=(k.β a.id).1
 have g0:=bare_good (P:=P) A k.w
 simp only [RL] at ha
 obtain ⟨X,r1,rfl,hX,Y,r2,rfl,hY,S,r3,rfl,hS,M,r4,rfl,hM,rfl⟩:=ha
 have ok0:∀ b,k.ok b→b<k.w.heap.size→(K.bare A k.w).ok b∧(K.bare A k.w).w.heap[b]?=k.w.heap[b]?:=fun b h1 h2=>⟨.inl ⟨h2,.inl h1⟩,rfl⟩
 have hX' : R (K.bare A k.w) (elA' a.x) X:=R.over (k:=k) (k' := K.bare A k.w) (Nat.le_refl _) ok0 (elA_blo _) hX
 have hY' : R (K.bare A k.w) (elA' a.y) Y:=by
  simp only [elA', El.v,R,RL] at hY ⊢
  obtain ⟨vs,rfl,n1,t1,rfl,hn1,n2,t2,rfl,hn2,n3,t3,rfl,hn3,rfl⟩:=hY
  refine ⟨_,rfl,n1,_,rfl,hn1,n2,_,rfl,?_,n3,_,rfl,hn3,rfl⟩
  obtain ⟨b,o,cap,c,dat,rfl,c1,c2,c3,c4,c5⟩:=hn2
  rw [hb] at c1
  cases c1
  have hlen2:(shC a.y.l).length=a.y.l.length * 2:=shC_length _
  obtain ⟨d1,rfl,d2⟩:=c5 hlen2.symm
  have hpos:0<a.y.l.length:=List.length_pos_iff.2 hne
  obtain ⟨_,d3,_⟩:=d2 (by omega)
  obtain ⟨zs,z1,z2,z3⟩:=own_cells gk hb (part_all (c:=shC a.y.l) (n:=a.y.l.length * 2) hlen2) d3
  refine .inr ⟨_,o,cap,zs,rfl,.inr ⟨.inl ⟨hlt,.inr rfl⟩,hlt⟩,z1,?_,⟨shC_ones _,shC_blo _⟩,c3,fun h => ?_⟩
  ·exact RL.over (k:=k) (k' := K.bare A k.w) (Nat.le_refl _) ok0 (shC_blo _) z2
  ·rw [hc] at h;cases h
 have hS' : R (K.bare A k.w) (.int .i64 a.s) S:=by simp only [R] at hS ⊢; exact hS
 have hM' : R (K.bare A k.w) (.int .i64 a.most) M:=by simp only [R] at hM ⊢; exact hM
 refine call_wp (ro:=0) (k:=K.bare A k.w) (all_walks hF n).1 hf hfc g0 (RL.cons hX' (RL.cons hY' (RL.cons hS' (RL.cons hM' RL.nil)))) rfl hr l1 l3 fun y k1 hk1 g1 e1 hy => ?_
 have hbel:Go.RowKit.Below k.w.heap.size k.w k1.w:=e1.low
 have hs1:k.w.heap.size≤k1.w.heap.size:=hbel.size
 have hn1:k1.n0=k.w.heap.size:=e1.n0
 have hA1:k1.A=A:=e1.A
 rw [← hk1] at l4 l5
 obtain ⟨q1,q2,q3,q4,qs,qr,qT,q5,q6⟩:=g1.blk q _ _ l4
 obtain ⟨j1,j2,j3,j4,js,jr,jT,j5,j6⟩:=g1.blk 5 _ _ l5
 have hjq:(k1.β 5).1≠(k1.β q).1:=fun e=>absurd (g1.inj 5 q (live_blk l5) (live_blk l4) e) (by omega)
 have hk1l:=(g1.at (live_blk l5)).2
 have hq1l:=(g1.at (live_blk l4)).2
 obtain ⟨g2,e2⟩:=gk.upd (id:=a.id) (c' := shC a.y.l++[.nilp]) (dat:=true) (p:=((k1.β 5).1,(shC a.y.l).length+1)) (w' := k1.w) (ro:=ro) (xs:=[]) (rest:=js++jr) (T:=jT) (bget_lt hb) hro
  (.inr ⟨_,hb,by rw [List.length_append];exact Nat.le_add_right _ _,fun e=>by rw [List.length_append] at e;exact absurd e (by simp)⟩) (hbel.mono gk.size) (fun b hb' _=>hbel.block b hb') (by show k.n0≤(k1.β 5).1;have:=gk.size;omega) (.inl (by show k.w.heap.size≤(k1.β 5).1;omega)) j5
  (by show (shC a.y.l).length+1≤_;rw [List.length_append];exact Nat.le_refl _) (by
   have:(shC a.y.l++[V.nilp]).drop ((shC a.y.l).length+1)=[]:=List.drop_eq_nil_of_le (by rw [List.length_append];exact Nat.le_refl _)
   show RL k ((shC a.y.l++[V.nilp]).drop ((shC a.y.l).length+1)) []
   rw [this];exact RL.nil) (by rw [ones_append,shC_ones];rfl) (fun _=>by
   have h2:∀ l m:List V,scalars l=true→scalars m=true→scalars (l++m)=true:=fun l m=>by
    intro hl hm
    induction l with
    | nil=>exact hm
    | cons v l ih=>simp only [List.cons_append,scalars,Bool.and_eq_true] at hl ⊢; exact ⟨hl.1,ih hl.2⟩
   exact h2 _ _ (scal_sh _) rfl)
 -- what is no own block any more
 have nown:∀ b,(∀ i,live k.h i→i≠a.id→b≠(k.β i).1)→b≠(k1.β 5).1→¬ (k.set a.id (.blk (shC a.y.l++[.nilp]) true) ((k1.β 5).1,(shC a.y.l).length+1) k1.w).own b:=by
  rintro b n1 n2 ⟨i,li,e⟩
  by_cases hi:i=a.id
  ·subst hi
   simp only [K.set,if_true] at e
   exact n2 e.symm
  ·simp only [K.set,hi,if_false] at e
   refine n1 i ?_ hi e.symm
   obtain ⟨b', hb1,hb2⟩:=li
   simp only [K.set,bget_bset] at hb1
   rw [if_neg (fun h=>hi h.1.symm)] at hb1
   exact ⟨b', hb1,hb2⟩
 have ok1:∀ b,k1.ok b→b<k1.w.heap.size→(k.set a.id (.blk (shC a.y.l++[.nilp]) true) ((k1.β 5).1,(shC a.y.l).length+1) k1.w).ok b∧(k.set a.id (.blk (shC a.y.l++[.nilp]) true) ((k1.β 5).1,(shC a.y.l).length+1) k1.w).w.heap[b]?=k1.w.heap[b]?:=by
  intro b h1 _
  refine ⟨?_,rfl⟩
  rcases h1 with ⟨h1,h2⟩ | ⟨h1,h2⟩
  ·rw [hA1] at h2
   rw [hn1] at h1
   rcases h2 with (⟨h2,h3⟩ | ⟨h2,h3⟩) | rfl
   ·exact .inl ⟨h2,h3⟩
   ·exact .inr ⟨h2,nown b (fun i li _ e=>h3 ⟨i,li,e.symm⟩) (by omega)⟩
   ·exact .inr ⟨hn0,nown _ (fun i li hi e=>hi (gk.inj i a.id li hlv e.symm)) (by omega)⟩
  ·rw [hn1] at h1
   exact .inr ⟨Nat.le_trans gk.size h1,nown b (fun i li _ e=>by have:=(gk.at li).2;omega) (fun e=>h2 ⟨5,live_blk l5,e.symm⟩)⟩
 refine hQ y (k.set a.id (.blk (shC a.y.l++[.nilp]) true) ((k1.β 5).1,(shC a.y.l).length+1) k1.w) rfl g2 e2 ?_
 simp only [R,RL] at hy
 obtain ⟨vs,rfl,x1,t1,rfl,hm1,x2,t2,rfl,hx2,rfl⟩:=hy
 obtain ⟨b,o,cap,c,dat,rfl,c1,c2,c3,c4,c5⟩:=hm1
 rw [l4] at c1
 cases c1
 have hml:((allL a.x a.y a.s a.most).map pvL).length=(allL a.x a.y a.s a.most).length:=List.length_map ..
 obtain ⟨d1,rfl,d2⟩:=c5 hml.symm
 have hpos:0<(allL a.x a.y a.s a.most).length:=List.length_pos_iff.2 hL
 obtain ⟨_,d3,_⟩:=d2 (by omega)
 obtain ⟨zs,z1,z2,z3⟩:=own_cells g1 l4 (part_all (n:=(allL a.x a.y a.s a.most).length) hml) d3
 unfold FzA.v vLL
 rw [decide_eq_false hL]
 simp only [R,RL]
 refine ⟨_,rfl,_,_,rfl,.inr ⟨_,o,cap,zs,rfl,.inr ⟨?_,hq1l⟩,z1,rows_R (k:=k1) (k' := k.set a.id (.blk (shC a.y.l++[.nilp]) true) ((k1.β 5).1,(shC a.y.l).length+1) k1.w) (Nat.le_refl _) ok1 z2,rows_pure _,c3,fun h=>by cases h⟩,_,_,rfl,hx2,rfl⟩
 exact .inr ⟨by show k.n0≤_;have:=gk.size;omega,nown _ (fun i li _ e=>by have:=(gk.at li).2;omega) (Ne.symm hjq)⟩
noncomputable def FB9:Nat→Option Fc
 | 9=>some (knFc 4 9 gFz)
 | n=>FB2 n
theorem sub9:Sub' FB2 FB9:=by
 intro f fc h
 unfold FB9
 split
 ·cases h
 ·exact h
theorem vL_view {h:List B} {d:Nat}:∀ l:List (Nat × Nat),V.view h (d+2) (vL l)=some (vL l)
 | []=>rfl
 | _ :: _=>Vw.sl.1
theorem vLL_view {h:List B} {d:Nat}:∀ L:List (List (Nat × Nat)),V.view h (d+3) (vLL L)=some (vLL L)
 | []=>rfl
 | _ :: _=>Vw.sl.1
theorem all_fun {x y:El} {s most:Int} (he:openE x y s=0) (hm:outB most 1 200=false) (hL:allL x y s most≠[]):Fun FB9 md 9 [elA' x,elA' y,.int .i64 s,.int .i64 most] (.tup [vLL (allL x y s most),.int .i64 0]):=by
 have p:(⟨x,y,s,most,0⟩:FzA).val [elA' x,elA' y,.int .i64 s,.int .i64 most] []:=⟨rfl,rfl,rfl,he,hm,hL⟩
 refine ⟨knFc 4 9 gFz,rfl,rfl,1,.ret,⟨[.tup [vLL (allL x y s most),.int .i64 0]],[]⟩,_,fun m hm' => ?_,.inr rfl,rfl,(Vw.tup (d:=63) (VwL.cons ⟨vLL_view (d:=60) _⟩ (VwL.cons (Vw.int rfl) VwL.nil))).1⟩
 cases m with
 | zero=>omega
 | succ m =>
  show run FB9 md (m+1) 0 (.kn 4 9) _=_
  have hF:FB9 9=some (knFc 4 9 gFz):=rfl
  simp only [run,hF]
  show (match some gFz with
   | none=>none
   | some g=>match g 0 (([elA' x,elA' y,.int .i64 s,.int .i64 most]++deads ((knFc 4 9 gFz).ntm - (knFc 4 9 gFz).np)).take 4) [] with
    | none=>none
    | some (v,h)=>some (X.ret,(⟨[v],h⟩:St)))=_
  have e:([elA' x,elA' y,.int .i64 s,.int .i64 most]++deads ((knFc 4 9 gFz).ntm - (knFc 4 9 gFz).np)).take 4=[elA' x,elA' y,.int .i64 s,.int .i64 most]:=rfl
  rw [e]
  simp only [gFz_val p]
  rfl
end Go.Dr.T
namespace Go.Dr.T
theorem wanL_is:∀ (d:Nat) (ks:List Nat) (t:Nat),ks.length - t=d→(wantL ks t).map prN=wanT (ks.drop t) t
 | 0,ks,t,h=>by
  rw [wantL_end (by omega),List.drop_eq_nil_of_le (by omega)]
  rfl
 | d+1,ks,t,h=>by
  have ht:t<ks.length:=by omega
  rw [wantL_step ht,List.drop_eq_getElem_cons ht,List.map_cons,wanL_is d ks (t+1) (by omega)]
  rfl
theorem cens_all {x:El} {b:Int} (he:x.e=0) (hp:∀ p∈x.l,0<p.1):openE x (ptE x b) 0=0∧allL x (ptE x b) 0 2=[wantL (ksT b x.l.length) 0]:=by
 have hy:=pt_e (b:=b) he hp
 have ho:openE x (ptE x b) 0=0:=by rw [openE_3 he hy];rfl
 obtain ⟨ha,hb,hs⟩:=open_good ho
 have hPt:=pt_is (b:=b) he hp
 obtain ⟨a1,a2,a3⟩:=cut_als hPt ha hb hs.1 _ 0 0 rfl ⟨Nat.zero_le _,fun _=>Nat.zero_le _⟩ (Nat.zero_le _)
 exact ⟨ho,by unfold allL;rw [a1];rfl⟩
set_option maxRecDepth 100000 in
set_option maxHeartbeats 20000000 in
theorem sameOne {c d e f:Bool} {l:List (Int × Int)} (hl:l.length≤1000):Fun FB md 10 [.sl c 1 [.sl e l.length (shC l)],.sl d 1 [.sl f l.length (shC l)]] (.bool true):=by
 have hp:=pairs_ok (c:=e) (d:=f) (l:=l) (by omega)
 refine fun_of rfl rfl ?_
 repeat' (first
 | (conv=>whnf)
   first
   | refine Br.f ?_)
 all_goals try (exfalso;omega;done)
 refine LoopP.by (fun i:Nat=>i≤1) (fun i=>[(5,.int .i64 (i:Nat))]) (fun _=>[]) (fun i=>1 - i) 0 (Nat.zero_le _) rfl ?_
 rintro i hi'
 dsimp only
 by_cases hi:i<1
 rotate_left
 ·repeat' (first
 | (conv=>whnf)
   first
   | (refine Br.decF ?_ ?_;(focus first | assumption | omega))
   | refine Get.mk _ rfl ?_
   | refine Leaves.of ?_
   | refine Vw.bool ?_)
  all_goals first | rfl | (exfalso;omega)
 obtain rfl:i=0:=by omega
 have h1:cellAt [V.sl e l.length (shC l)] (0 * 1)=some (.sl e l.length (shC l)):=rfl
 have h2:cellAt [V.sl f l.length (shC l)] (0 * 1)=some (.sl f l.length (shC l)):=rfl
 repeat' (first
 | (conv=>whnf)
   first
   | refine Br.t ?_
   | refine Br.f ?_
   | (refine Bnd.i64 ?_ ?_ ?_;(focus omega);(focus omega))
   | refine Get.mk _ h1 ?_
   | refine Get.mk _ h2 ?_
   | refine call_fun rfl rfl hp (.inl rfl) ?_
   | (refine Idx.nat ?_ ?_;(focus omega))
   | (refine Req.mk ?_ ?_;(focus first | rfl | decide | exact ⟨rfl,rfl⟩ | exact ⟨rfl,by decide⟩ | exact (fun _=>rfl) | exact (fun h=>nomatch h) | (simp;done) | omega | (simp [big];done) | exact le_big (by omega) | exact lt_big (by omega))))
 all_goals first | (exfalso;omega;done) | exact NextP.mk 1 (by decide) (by decide) rfl
set_option maxRecDepth 100000 in
set_option maxHeartbeats 20000000 in
theorem sameNil {c d e:Bool}:Fun FB md 10 [.sl c 1 [.sl e 0 []],.sl d 1 [.nilsl]] (.bool true):=by
 have hp:Fun FB md 29 [.sl e 0 [],.sl true 0 []] (.bool true):=pairs_ok (c:=e) (d:=true) (l:=[]) (by decide)
 refine fun_of rfl rfl ?_
 repeat' (first
 | (conv=>whnf)
   first
   | refine Br.f ?_)
 all_goals try (exfalso;omega;done)
 refine LoopP.by (fun i:Nat=>i≤1) (fun i=>[(5,.int .i64 (i:Nat))]) (fun _=>[]) (fun i=>1 - i) 0 (Nat.zero_le _) rfl ?_
 rintro i hi'
 dsimp only
 by_cases hi:i<1
 rotate_left
 ·repeat' (first
 | (conv=>whnf)
   first
   | (refine Br.decF ?_ ?_;(focus first | assumption | omega))
   | refine Get.mk _ rfl ?_
   | refine Leaves.of ?_
   | refine Vw.bool ?_)
  all_goals first | rfl | (exfalso;omega)
 obtain rfl:i=0:=by omega
 have h1:cellAt [V.sl e 0 []] (0 * 1)=some (.sl e 0 []):=rfl
 have h2:cellAt [V.nilsl] (0 * 1)=some .nilsl:=rfl
 repeat' (first
 | (conv=>whnf)
   first
   | refine Br.t ?_
   | refine Br.f ?_
   | (refine Bnd.i64 ?_ ?_ ?_;(focus omega);(focus omega))
   | refine Get.mk _ h1 ?_
   | refine Get.mk _ h2 ?_
   | refine call_fun rfl rfl hp (.inl rfl) ?_
   | (refine Idx.nat ?_ ?_;(focus omega))
   | (refine Req.mk ?_ ?_;(focus first | rfl | decide | exact ⟨rfl,rfl⟩ | exact ⟨rfl,by decide⟩ | exact (fun _=>rfl) | exact (fun h=>nomatch h) | (simp;done) | omega | (simp [big];done) | exact le_big (by omega) | exact lt_big (by omega))))
 all_goals first | (exfalso;omega;done) | exact NextP.mk 1 (by decide) (by decide) rfl
theorem call_fz {x y:El} {s most:Int} {id n:Nat} {h:List B} {K:V→List B→Prop} (hb:bget h id=some (.blk (shC y.l) true)) (hn:n=y.l.length) (hc:y.c=false) (hne:y.l≠[]) (ho:openE x y s=0) (hm:outB most 1 200=false) (hL:allL x y s most≠[]) (hk:K (.tup [vLL (allL x y s most),.int .i64 0]) (bset h id (.blk (shC y.l++[.nilp]) true))):CallP FB9 md 0 (.fn 9 []) [.agg [.str x.nm,.sl x.c x.l.length (shC x.l),.int .i64 x.g],.agg [.str y.nm,.ms 2 id (n * 2) 0 n false,.int .i64 y.g],.int .i64 s,.int .i64 most] h K:=by
 subst hn
 have p:(⟨x,y,s,most,id⟩:FzA).own 0 [.agg [.str x.nm,.sl x.c x.l.length (shC x.l),.int .i64 x.g],.agg [.str y.nm,.ms 2 id (y.l.length * 2) 0 y.l.length false,.int .i64 y.g],.int .i64 s,.int .i64 most] h:=⟨rfl,hb,Nat.zero_le _,hc,hne,ho,hm,hL⟩
 refine call_kn1 (np:=4) (g:=gFz) (by simp [mode,md,blos,V.blo]) rfl rfl (gFz_own p) ?_
 rw [trunc_same (bset_len ..)]
 exact hk
end Go.Dr.T
