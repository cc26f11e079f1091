/- Chapter 06: the document's list of all alignments, walked. -/
import Derived.Test.YtfhphjloaelgoaaGreatDoorG12
namespace Go.Dr.T
def rHd:MC:=.seq (.reg false 0 [⟨some 36,none,0,.mv (.t 17)⟩,⟨some 37,none,0,.mv (.t 16)⟩,⟨some 38,none,2,.len false (.t 37)⟩,⟨some 39,none,7,.bo .lss (.t 36) (.t 38)⟩,⟨some 40,none,15,.mv (.t 39)⟩,⟨some 41,some (40,true),31,.mv (.t 15)⟩,⟨some 42,some (40,true),63,.len false (.t 41)⟩,⟨some 43,some (40,true),31,.mv (.t 6)⟩,⟨some 44,some (40,true),255,.bo .lss (.t 42) (.t 43)⟩,⟨some 45,none,511,.pk (.t 40) (.t 44) (.c (.bool false))⟩]) (.cond (.t 45) .skip (.exit 0))
def rCl:MC:=.reg true 0 [⟨some 48,none,0,.ld true 3 (.t 7)⟩,⟨some 49,none,0,.ld true 3 (.t 8)⟩,⟨some 50,none,0,.mv (.t 2)⟩,⟨some 51,none,0,.mv (.t 3)⟩,⟨some 52,none,0,.mv (.t 16)⟩,⟨some 53,none,0,.mv (.t 17)⟩,⟨some 54,none,48,.ia 2 (.t 52) (.t 53)⟩,⟨some 55,none,112,.fa 0 (.t 54)⟩,⟨some 56,none,240,.ld false 1 (.t 55)⟩,⟨some 57,none,496,.bo .add (.t 56) (.c (.int .i64 1))⟩,⟨some 58,none,0,.mv (.t 16)⟩,⟨some 59,none,0,.mv (.t 17)⟩,⟨some 60,none,3072,.ia 2 (.t 58) (.t 59)⟩,⟨some 61,none,7168,.fa 1 (.t 60)⟩,⟨some 62,none,15360,.ld false 1 (.t 61)⟩,⟨some 63,none,31744,.bo .add (.t 62) (.c (.int .i64 1))⟩,⟨some 64,none,0,.mv (.t 6)⟩,⟨some 65,none,0,.mv (.t 15)⟩,⟨some 66,none,131072,.len false (.t 65)⟩,⟨some 67,none,458752,.bo .sub (.t 64) (.t 66)⟩,⟨some 68,none,1048575,.call (.c (.fn 60 [])) [.t 48,.t 49,.t 50,.t 51,.t 57,.t 63,.t 67]⟩,⟨some 18,none,2097151,.mv (.t 68)⟩]
def c60z:Fc:=⟨89,7,[.tmp 14],.seq (.reg false 2 [⟨some 7,none,0,.bx 0 (.t 0)⟩,⟨some 8,none,0,.bx 1 (.t 1)⟩,⟨some 14,none,0,.mv (.c .nilsl)⟩]) (.seq (.seq (.reg false 0 [⟨some 20,none,0,.mv (.t 3)⟩,⟨some 21,none,0,.mv (.t 4)⟩,⟨some 22,none,3,.ia 1 (.t 20) (.t 21)⟩,⟨some 23,none,7,.ld false 1 (.t 22)⟩,⟨some 24,none,0,.mv (.t 5)⟩,⟨some 25,none,31,.ia 1 (.t 23) (.t 24)⟩,⟨some 26,none,63,.ld false 1 (.t 25)⟩,⟨some 27,none,127,.bo .eql (.t 26) (.c (.int .i64 0))⟩]) (.cond (.t 27) (.seq (.reg false 1 [⟨some 28,none,0,.bl 0 1 1 [.nilsl] [(0,1,.c .nilsl)]⟩,⟨some 14,none,1,.mv (.t 28)⟩]) .ret) .skip)) (.seq (.reg false 0 [⟨some 15,none,0,.mv (.c .nilsl)⟩]) (.seq (.reg false 0 [⟨some 29,none,0,.ld true 3 (.t 7)⟩,⟨some 30,none,0,.ld true 3 (.t 8)⟩,⟨some 31,none,0,.mv (.t 2)⟩,⟨some 32,none,0,.mv (.t 3)⟩,⟨some 33,none,0,.mv (.t 4)⟩,⟨some 34,none,0,.mv (.t 5)⟩,⟨some 35,none,63,.call (.c (.fn 58 [])) [.t 29,.t 30,.t 31,.t 32,.t 33,.t 34]⟩,⟨some 16,none,127,.mv (.t 35)⟩]) (.seq (.seq (.reg false 0 [⟨some 17,none,0,.mv (.c (.int .i64 0))⟩]) (.block 0 (.loop (.seq rHd (.seq (.block 1 (.seq rCl (.seq (.reg false 0 [⟨some 19,none,0,.mv (.c (.int .i64 0))⟩]) (.block 2 (.loop (.seq (.seq (.reg false 0 [⟨some 69,none,0,.mv (.t 19)⟩,⟨some 70,none,0,.mv (.t 18)⟩,⟨some 71,none,2,.len false (.t 70)⟩,⟨some 72,none,7,.bo .lss (.t 69) (.t 71)⟩]) (.cond (.t 72) .skip (.exit 2))) (.seq (.block 3 (.reg true 3 [⟨some 75,none,0,.mv (.t 15)⟩,⟨some 76,none,0,.mv (.t 16)⟩,⟨some 77,none,0,.mv (.t 17)⟩,⟨some 78,none,6,.ia 2 (.t 76) (.t 77)⟩,⟨some 79,none,14,.ld true 2 (.t 78)⟩,⟨some 80,none,30,.bs 1 [.int .i64 0,.int .i64 0] [(0,2,.t 79)]⟩,⟨some 81,none,0,.mv (.t 18)⟩,⟨some 82,none,0,.mv (.t 19)⟩,⟨some 83,none,192,.ia 1 (.t 81) (.t 82)⟩,⟨some 84,none,448,.ld false 1 (.t 83)⟩,⟨some 85,none,1022,.app 0 2 16 true (.t 80) (.t 84)⟩,⟨some 86,none,2046,.bl 1 1 1 [.nilsl] [(0,1,.t 85)]⟩,⟨some 87,none,4095,.app 2 1 24 false (.t 75) (.t 86)⟩,⟨some 15,none,8191,.mv (.t 87)⟩])) (.reg false 0 [⟨some 73,none,0,.mv (.t 19)⟩,⟨some 74,none,1,.bo .add (.t 73) (.c (.int .i64 1))⟩,⟨some 19,none,3,.mv (.t 74)⟩])))))))) (.reg false 0 [⟨some 46,none,0,.mv (.t 17)⟩,⟨some 47,none,1,.bo .add (.t 46) (.c (.int .i64 1))⟩,⟨some 17,none,3,.mv (.t 47)⟩])))))) (.seq (.reg false 0 [⟨some 88,none,0,.mv (.t 15)⟩,⟨some 14,none,1,.mv (.t 88)⟩]) .ret))))),none⟩
theorem c60_eq:FB 60=some c60z:=by with_unfolding_all rfl
attribute [irreducible] rHd rCl
def msH:List (Option Nat):=[none,none,none,none,none,none,none,none,none,none,none,none,none,none,none,none,none,none,none,none,none,none,none,none,none,none,none,none,none,none,none,none,none,none,none,none,some 36,some 37,some 38,some 39,some 40,some 41,some 42,some 43,some 44,some 45]
def msC:List (Option Nat):=[none,none,none,none,none,none,none,none,none,none,none,none,none,none,none,none,none,none,some 18,none,none,none,none,none,none,none,none,none,none,none,none,none,none,none,none,none,none,none,none,none,none,none,none,none,none,none,none,none,some 48,some 49,some 50,some 51,some 52,some 53,some 54,some 55,some 56,some 57,some 58,some 59,some 60,some 61,some 62,some 63,some 64,some 65,some 66,some 67,some 68]
def msI:List (Option Nat):=[none,none,none,none,none,none,none,none,none,none,none,none,none,none,none,some 15,none,none,none,none,none,none,none,none,none,none,none,none,none,none,none,none,none,none,none,none,some 36,some 37,some 38,some 39,some 40,some 41,some 42,some 43,some 44,some 45,none,none,some 48,some 49,some 50,some 51,some 52,some 53,some 54,some 55,some 56,some 57,some 58,some 59,some 60,some 61,some 62,some 63,some 64,some 65,some 66,some 67,some 68]
def alv:V→Bool
 | .dead=>false
 | _=>true
def alB (f:Nat→V):List Nat→Bool
 | []=>true
 | k :: l=>alv (f k) && alB f l
theorem alB_ne {f:Nat→V}:∀ {l:List Nat} {k:Nat},alB f l=true→k∈l→f k ≠ .dead
 | [],_,_,hk=>nomatch hk
 | j :: l,k,h,hk=>by
  simp only [alB,Bool.and_eq_true] at h
  rcases List.mem_cons.1 hk with e | e
  ·subst e;intro e;rw [e] at h;exact absurd h.1 (by decide)
  ·exact alB_ne h.2 e
def slH:List Nat:=[36,37,38,39,40,41,42,43,44,45]
def slC:List Nat:=[48,49,50,51,52,53,54,55,56,57,58,59,60,61,62,63,64,65,66,67,68]
def ms15:List (Option Nat):=[none,none,none,none,none,none,none,none,none,none,none,none,none,none,none,some 15]
theorem FO.new {x y:El} {h:List B} {l:List (Nat × Nat)} {b0 b1:B} {c:V} (e:FO x y h .nilsl []) (h0:b0.blo h.length=true) (h1:b1.blo (h.length+1)=true) (hc:c.blo (h.length+2)=true) (rc:Rc (h++[b0,b1,.blk ([]++[c]) false]) c l) :
  FO x y (h++[b0,b1,.blk ([]++[c]) false]) (.ms 1 (h.length+0+2) (([]:List V).length+[c].length) 0 (0+1) false) ([]++[l]):=by
 have hl:=bget_lt e.b1
 refine ⟨cl_asc e.cl ⟨h0,h1,?_,trivial⟩,bget_app e.b0,bget_app e.b1,.inr ⟨h.length+2,[c],by simp,by omega,rfl,bget_new (i:=2),rc,trivial⟩⟩
 show (false || blos (h.length+1+1) [c])=true
 unfold blos blos
 rw [hc];rfl
theorem FO.grow {x y:El} {h:List B} {L:List (List (Nat × Nat))} {l:List (Nat × Nat)} {b0 b1 b2:B} {c:V} {q:Nat} {C:List V} (cl:Cl h) (g0:bget h 0=some (elB x)) (g1:bget h 1=some (elB y)) (hq2:2≤q) (hq:bget h q=some (.blk C false)) (hr:Rows h C L) (h0:b0.blo h.length=true) (h1:b1.blo (h.length+1)=true) (h2:b2.blo (h.length+2)=true) (hc:c.blo (h.length+3)=true)
  (rc:Rc (bset (h++[b0,b1,b2]) q (.blk (C++[c]) false)) c l):FO x y (bset (h++[b0,b1,b2]) q (.blk (C++[c]) false)) (.ms 1 q (L.length+[c].length) 0 (L.length+1) false) (L++[l]):=by
 have hql:=bget_lt hq
 have hcl:=cl_asc cl (A:=[b0,b1,b2]) ⟨h0,h1,h2,trivial⟩
 have hn:(h++[b0,b1,b2]).length=h.length+3:=by rw [List.length_append];rfl
 refine ⟨hcl.set ?_,by rw [bset_other (by omega)];exact bget_app g0,by rw [bset_other (by omega)];exact bget_app g1,.inr ⟨q,C++[c],by simp,hq2,by rw [List.length_append];rfl,bget_same (by omega),Rows.app (Rows.mono (X:=C) (fun r n hc b hb => ?_) (fun c hc=>hc) hr) rc⟩⟩
 ·show (false || blos (h++[b0,b1,b2]).length (C++[c]))=true
  rw [hn]
  have hC:blos (h.length+3) C=true:=by
   have h5:=blo_of_hbelow cl (mem_bget hq)
   have h6:blos h.length C=true:=by simpa [B.blo] using h5
   exact blos_mono (by omega) _ h6
  have key:∀ C:List V,blos (h.length+3) C=true→blos (h.length+3) (C++[c])=true:=by
   intro C
   induction C with
   | nil=>intro _;show (c.blo _ && true)=true;rw [hc];rfl
   | cons v C ih =>
    intro h
    rw [List.cons_append]
    unfold blos at h ⊢
    rw [Bool.and_eq_true] at h ⊢
    exact ⟨h.1,ih h.2⟩
  rw [key C hC];rfl
 ·by_cases hrq:q=r
  ·subst hrq;rw [hq] at hb;cases hb
  ·rw [bset_other hrq];exact bget_app hb
theorem shC_cons {p:Nat × Nat} {l:List (Nat × Nat)}:[V.int .i64 (p.1:Nat),.int .i64 (p.2:Nat)]++shC (l.map pI)=shC ((p :: l).map pI):=rfl
def lsF (x y:El) (s:Int) (i j most:Nat):List (List (Nat × Nat)):=(als (shA x.l y.l s) (openT x y s) x.l.length y.l.length i j []).take most
def fromV (x y:El) (s:Int) (i j most:Nat):V:=.sl (decide (openT x y s i j=0∨lsF x y s i j most=[])) (lsF x y s i j most).length ((lsF x y s i j most).map vF)
def FromOk (x y:El) (s:Int) (i j:Nat):Prop:=∀ most:Nat,1≤most→most≤200→Fun FB md 60 [elA' x,elA' y,.int .i64 s,tabV x.l.length y.l.length (openT x y s),.int .i64 (i:Nat),.int .i64 (j:Nat),.int .i64 (most:Nat)] (fromV x y s i j most)
theorem fB.i3 {h g:List B} {K:List B→Prop} (hk:fB g fun r=>K (h++r)):fB (if 3=0 then h else h++g) K:=by rw [if_neg (by decide)];exact fB.tail hk
theorem bool_no {b:Bool} {A C:Prop} (h:b=false) (hk:C):(match (generalizing:=false) b with | true=>A | false=>C):=by subst h;exact hk
structure FrA where
 k:Nat
 L:List (List (Nat × Nat))
 v:V
 h:List B
theorem vF_get {L:List (List (Nat × Nat))} {n:Nat} {l:List (Nat × Nat)} (h:L[n]?=some l):cellAt (L.map vF) (n * 1)=some (vF l):=by
 rw [cellAt_eq,Nat.mul_one,List.getElem?_map,h];rfl
theorem pI_part {P:List (Nat × Nat)} {k:Nat} {p:Nat × Nat} (h:P[k]?=some p):part (shC (P.map pI)) (k * 2) 2=some [.int .i64 (p.1:Nat),.int .i64 (p.2:Nat)]:=by
 have:(P.map pI)[k]?=some (pI p):=by rw [List.getElem?_map,h];rfl
 exact shC_part this
theorem shC_cells:∀ {l:List (Int × Int)} {k:Nat} {p:Int × Int},l[k]?=some p→(shC l)[k * 2+0]?=some (.int .i64 p.1)∧(shC l)[k * 2+1]?=some (.int .i64 p.2)
 | [],_,_,h=>by simp at h
 | q :: l,0,p,h=>by
  simp only [List.getElem?_cons_zero,Option.some.injEq] at h
  subst h
  exact ⟨rfl,rfl⟩
 | q :: l,k+1,p,h=>by
  have:=shC_cells (l:=l) (k:=k) (p:=p) (by simpa using h)
  rw [show (k+1) * 2+0=(k * 2+0)+1+1 by omega,show (k+1) * 2+1=(k * 2+1)+1+1 by omega]
  exact this
theorem pI_c0 {P:List (Nat × Nat)} {k:Nat} {p:Nat × Nat} (h:P[k]?=some p):cellAt (shC (P.map pI)) (k * 2+0)=some (.int .i64 (p.1:Nat)):=by
 rw [cellAt_eq]
 exact (shC_cells (p:=pI p) (by rw [List.getElem?_map,h];rfl)).1
theorem pI_c1 {P:List (Nat × Nat)} {k:Nat} {p:Nat × Nat} (h:P[k]?=some p):cellAt (shC (P.map pI)) (k * 2+1)=some (.int .i64 (p.2:Nat)):=by
 rw [cellAt_eq]
 exact (shC_cells (p:=pI p) (by rw [List.getElem?_map,h];rfl)).2
set_option maxRecDepth 100000 in
set_option maxHeartbeats 20000000 in
theorem from_step {x y:El} {s:Int} (ha:shOk x.l) (hb:shOk y.l) (hs:0≤s∧s≤200000) {i j:Nat} (hi:i≤x.l.length) (hj:j≤y.l.length) (ih:∀ k l,i≤k→k<x.l.length→j≤l→l<y.l.length→FromOk x y s (k+1) (l+1)):FromOk x y s i j:=by
 intro most hm1 hm2
 have hal:=ha.1
 have hbl:=hb.1
 have hWr:=openT_rng (s:=s) ha hb
 have hI0:i≤x.l.length+1 - 1:=by omega
 have hJ0:j≤y.l.length+1 - 1:=by omega
 have tij:=tab_get (n:=x.l.length) (m:=y.l.length) (i:=i) (T:=openT x y s) hi
 have cij:=row_get (m:=y.l.length) (j:=j) (f:=openT x y s i) hj
 by_cases hW:openT x y s i j=0
 ·have hres:fromV x y s i j most = .sl true 1 [.nilsl]:=by
   unfold fromV lsF
   rw [als_end hW,decide_eq_true (.inl hW)]
   obtain ⟨m,rfl⟩:∃ m,most=m+1:=⟨most - 1,by omega⟩
   rw [List.take_succ_cons,List.take_nil]
   show V.sl true 1 [vF []]=_
   rw [show vF [] = .nilsl from if_pos rfl]
  rw [hres]
  refine fun_rn c60_eq rfl ?_
  repeat' (first
 | (conv=>whnf)
   first
   | refine Idx.nat hI0 ?_
   | refine Idx.nat hJ0 ?_
   | (refine Br.decT ?_ ?_;(focus first | assumption | omega))
   | refine Rn.seq ?_
   | refine Rn.cond ?_
   | refine Rn.reg ?_
   | refine Rn.ret ?_
   | refine Get.mk _ tij ?_
   | refine Get.mk _ cij ?_
   | refine Get.mk _ rfl ?_
   | refine Leaves.of ?_
   | refine Vw.sl
   | (refine Req.mk ?_ ?_;(focus first | rfl | decide | exact ⟨rfl,rfl⟩ | exact ⟨rfl,by decide⟩ | exact (fun _=>rfl) | exact (fun h=>nomatch h) | (simp;done) | omega | (simp [big];done) | exact le_big (by omega) | exact lt_big (by omega))))
  all_goals first | (exfalso;omega;done)
 have hnx:=next_ok (x:=x) (y:=y) (s:=s) (W:=openT x y s) (i:=i) (j:=j) ha hb hs hWr hi hj
 have hP:=begins_same (s:=s) ha hb i j
 have hres:lsF x y s i j most=((bgs (shA x.l y.l s) (openT x y s) x.l.length y.l.length i j).flatMap fun p=>(als (shA x.l y.l s) (openT x y s) x.l.length y.l.length (p.1+1) (p.2+1) []).map (p :: ·)).take most:=by unfold lsF;rw [als_cons hW]
 have hmem:∀ p∈bgs (shA x.l y.l s) (openT x y s) x.l.length y.l.length i j,i≤p.1∧p.1<x.l.length∧j≤p.2∧p.2<y.l.length:=fun p hp=>bgs_mem hp
 rw [← hP] at hnx
 have hPl:(bgs (shA x.l y.l s) (openT x y s) x.l.length y.l.length i j).length≤1600:=by
  rw [hP]
  have:=bgB_len (S:=shA x.l y.l s) (W:=openT x y s) (n:=x.l.length) (m:=y.l.length) (v:=openT x y s i j) (j:=j) hbl _ i rfl
  have e:(bgA (shA x.l y.l s) (openT x y s) x.l.length y.l.length i j).length≤40 * (x.l.length - i):=this
  omega
 have hfv:fromV x y s i j most = .sl (decide (lsF x y s i j most=[])) (lsF x y s i j most).length ((lsF x y s i j most).map vF):=by
  unfold fromV
  congr 1
  simp [hW]
 rw [hfv]
 generalize bgs (shA x.l y.l s) (openT x y s) x.l.length y.l.length i j=P at *
 obtain ⟨cl,hcl⟩:=lsP_eq (P.map pI)
 rw [List.length_map] at hcl
 rw [hcl] at hnx
 refine fun_rn c60_eq rfl ?_
 repeat' (first
 | (conv=>whnf)
   first
   | refine Idx.nat hI0 ?_
   | refine Idx.nat hJ0 ?_
   | (refine Br.decF ?_ ?_;(focus first | assumption | omega))
   | refine Rn.seq ?_
   | refine Rn.block ?_
   | refine Rn.cond ?_
   | refine Rn.reg ?_
   | refine Rn.skip ?_
   | refine Get.mk _ tij ?_
   | refine Get.mk _ cij ?_
   | refine call_fun rfl rfl hnx (.inl rfl) ?_
   | refine Get.mk _ rfl ?_
   | (refine Req.mk ?_ ?_;(focus first | rfl | decide | exact ⟨rfl,rfl⟩ | exact ⟨rfl,by decide⟩ | exact (fun _=>rfl) | exact (fun h=>nomatch h) | (simp;done) | omega | (simp [big];done) | exact le_big (by omega) | exact lt_big (by omega))))
 all_goals try (exfalso;omega;done)
 refine Rn.loop (fun a:FrA=>a.k≤P.length∧2≤a.h.length∧FO x y a.h a.v a.L∧a.L=((P.take a.k).flatMap fun p=>(als (shA x.l y.l s) (openT x y s) x.l.length y.l.length (p.1+1) (p.2+1) []).map (p :: ·)).take most) (fun a=>[(15,a.v),(17,.int .i64 (a.k:Nat))]) (fun a=>a.h) (fun a=>P.length - a.k) ⟨0,[],.nilsl,[elB x,elB y]⟩ ⟨Nat.zero_le _,Nat.le_refl _,⟨rfl,rfl,rfl,.inl ⟨rfl,rfl⟩⟩,by simp⟩ rfl ?_
 rintro ⟨k,L,v,h⟩ ⟨w1,w2,w3,w4⟩
 dsimp only at w1 w2 w3 w4 ⊢
 have hLm:L.length≤most:=by rw [w4,List.length_take];omega
 have b0:=w3.b0
 have b1:=w3.b1
 by_cases hgo:k<P.length∧L.length<most
 rotate_left
 ·have hfin:lsF x y s i j most=L:=by
   rw [hres,w4]
   refine (fl_stop ?_).symm
   rw [← w4]
   omega
  rw [hfin]
  have hvw:=w3.view (d:=61)
  unfold rHd
  rcases w3.lo with ⟨e1,rfl⟩ | ⟨q,C,e1,e2,rfl,e4,e5⟩
  ·have e1' : L.length=0:=by rw [e1];rfl
   repeat' (first
 | (conv=>whnf)
   first
   | refine hvw
   | refine Br.f ?_
   | (refine Br.decF ?_ ?_;(focus first | assumption | omega))
   | refine Rn.seq ?_
   | refine Rn.cond ?_
   | refine Rn.reg ?_
   | refine Rn.exit ?_
   | refine Rn.ret ?_
   | refine fLen.mk ?_
   | refine fB.i0 ?_
   | refine fB.mk ?_
   | refine Get.mk _ rfl ?_
   | refine Leaves.of ?_)
   all_goals first | (exfalso;omega;done)
  ·repeat' (first
 | (conv=>whnf)
   first
   | refine hvw
   | refine Br.f ?_
   | (refine Br.decT ?_ ?_;(focus first | assumption | omega))
   | (refine Br.decF ?_ ?_;(focus first | assumption | omega))
   | refine Br.dec (fun _ => ?_) (fun _ => ?_)
   | refine Rn.seq ?_
   | refine Rn.cond ?_
   | refine Rn.reg ?_
   | refine Rn.exit ?_
   | refine Rn.ret ?_
   | refine fLen.mk ?_
   | refine fB.i0 ?_
   | refine fB.mk ?_
   | refine Get.mk _ rfl ?_
   | refine Leaves.of ?_)
   all_goals first | (exfalso;omega;done)
 obtain ⟨hk,hLlt⟩:=hgo
 repeat' (first
 | (conv=>whnf)
   first
   | refine Rn.seq ?_
   | refine fB.mk ?_)
 refine Rn.meet msH (fun f h' => h' = h∧alB f slH=true) ?_ ?_
 ·unfold rHd
  rcases w3.lo with ⟨e1,rfl⟩ | ⟨q,C,e1,e2,rfl,e4,e5⟩
  ·have e1' : L.length=0:=by rw [e1];rfl
   repeat' (first
 | (conv=>whnf)
   first
   | (refine Br.decT ?_ ?_;(focus first | assumption | omega))
   | refine Rn.seq ?_
   | refine Rn.cond ?_
   | refine Rn.reg ?_
   | refine Rn.skip ?_
   | refine fLen.mk ?_
   | refine fB.i0 ?_)
   all_goals first | (exfalso;omega;done) | exact Meets.of rfl (by repeat (first | exact trivial | refine ⟨rfl,?_⟩ | exact rfl)) ⟨rfl,rfl⟩
  ·repeat' (first
 | (conv=>whnf)
   first
   | (refine Br.decT ?_ ?_;(focus first | assumption | omega))
   | refine Rn.seq ?_
   | refine Rn.cond ?_
   | refine Rn.reg ?_
   | refine Rn.skip ?_
   | refine fLen.mk ?_
   | refine fB.i0 ?_)
   all_goals first | (exfalso;omega;done) | exact Meets.of rfl (by repeat (first | exact trivial | refine ⟨rfl,?_⟩ | exact rfl)) ⟨rfl,rfl⟩
 rintro f1 h1 ⟨rfl,al1⟩
 repeat' (first
 | (conv=>whnf)
   first
   | refine Rn.seq ?_
   | refine Rn.block ?_)
 all_goals try (exfalso;omega;done)
 obtain ⟨p,hp⟩:∃ p,P[k]?=some p:=⟨_,List.getElem?_eq_getElem hk⟩
 obtain ⟨m1,m2,m3,m4⟩:=hmem p (List.mem_of_getElem? hp)
 have hcall:=ih p.1 p.2 m1 m2 m3 m4 (most - L.length) (by omega) (by omega)
 unfold fromV at hcall
 have hlR:lsF x y s (p.1+1) (p.2+1) (most - L.length)=(als (shA x.l y.l s) (openT x y s) x.l.length y.l.length (p.1+1) (p.2+1) []).take (most - L.length):=rfl
 have hR40:∀ l∈lsF x y s (p.1+1) (p.2+1) (most - L.length),l.length≤40:=fun l hl=>by
  have:=als_len _ _ _ l rfl (List.mem_of_mem_take hl)
  omega
 have hRl:(lsF x y s (p.1+1) (p.2+1) (most - L.length)).length≤200:=by rw [hlR,List.length_take];omega
 generalize decide (openT x y s (p.1+1) (p.2+1)=0∨lsF x y s (p.1+1) (p.2+1) (most - L.length)=[])=cr at hcall
 generalize lsF x y s (p.1+1) (p.2+1) (most - L.length)=R at *
 have hpp:=pI_part hp
 have hc0:cellAt (shC (P.map pI)) (k * 2+0)=some (.int .i64 (p.1:Nat)):=pI_c0 hp
 have hc1:cellAt (shC (P.map pI)) (k * 2+1)=some (.int .i64 (p.2:Nat)):=pI_c1 hp
 have hw1:IntKind.i64.wrap ((p.1:Int)+1)=((p.1+1:Nat):Int):=by rw [wrap_i64 (by omega) (by omega)];omega
 have hw2:IntKind.i64.wrap ((p.2:Int)+1)=((p.2+1:Nat):Int):=by rw [wrap_i64 (by omega) (by omega)];omega
 have hwm:IntKind.i64.wrap ((most:Int) - (L.length:Nat))=((most - L.length:Nat):Int):=by rw [wrap_i64 (by omega) (by omega)];omega
 have hkP:k≤P.length - 1:=by omega
 have hP0:0<P.length:=by omega
 refine Rn.meet msC (fun f h' => h' = h1∧alB f slC=true∧f 18 = .sl cr R.length (R.map vF)) ?_ ?_
 ·unfold rCl
  rcases w3.lo with ⟨e1,rfl⟩ | ⟨q,C,e1,e2,rfl,e4,e5⟩
  ·have e1' : L.length=0:=by rw [e1];rfl
   have hwm:IntKind.i64.wrap ((most:Int) - 0)=((most - L.length:Nat):Int):=by rw [wrap_i64 (by omega) (by omega)];omega
   repeat' (first
 | (conv=>whnf)
   first
   | refine Bnd.eq hw1 ?_
   | refine Bnd.eq hw2 ?_
   | refine Bnd.eq hwm ?_
   | refine Idx.nat hkP ?_
   | refine Rn.reg ?_
   | refine Req.mk hP0 ?_
   | refine Get.mk _ hc0 ?_
   | refine Get.mk _ hc1 ?_
   | refine call_fun rfl rfl hcall (.inl rfl) ?_
   | refine fLen.mk ?_
   | refine fB.i0 ?_
   | refine Get.mk _ b0 ?_
   | refine Get.mk _ b1 ?_
   | refine Get.mk _ rfl ?_
   | (refine Req.mk ?_ ?_;(focus first | rfl | decide | exact ⟨rfl,rfl⟩ | exact ⟨rfl,by decide⟩ | exact (fun _=>rfl) | exact (fun h=>nomatch h) | (simp;done) | omega | (simp [big];done) | exact le_big (by omega) | exact lt_big (by omega))))
   all_goals first | (exfalso;omega;done) | exact Meets.of rfl (by repeat (first | exact trivial | refine ⟨rfl,?_⟩ | exact rfl)) ⟨rfl,rfl,rfl⟩
  ·repeat' (first
 | (conv=>whnf)
   first
   | refine Bnd.eq hw1 ?_
   | refine Bnd.eq hw2 ?_
   | refine Bnd.eq hwm ?_
   | refine Idx.nat hkP ?_
   | refine Rn.reg ?_
   | refine Req.mk hP0 ?_
   | refine Get.mk _ hc0 ?_
   | refine Get.mk _ hc1 ?_
   | refine call_fun rfl rfl hcall (.inl rfl) ?_
   | refine fLen.mk ?_
   | refine fB.i0 ?_
   | refine Get.mk _ b0 ?_
   | refine Get.mk _ b1 ?_
   | refine Get.mk _ rfl ?_
   | (refine Req.mk ?_ ?_;(focus first | rfl | decide | exact ⟨rfl,rfl⟩ | exact ⟨rfl,by decide⟩ | exact (fun _=>rfl) | exact (fun h=>nomatch h) | (simp;done) | omega | (simp [big];done) | exact le_big (by omega) | exact lt_big (by omega))))
   all_goals first | (exfalso;omega;done) | exact Meets.of rfl (by repeat (first | exact trivial | refine ⟨rfl,?_⟩ | exact rfl)) ⟨rfl,rfl,rfl⟩
 rintro f2 h2 ⟨rfl,al2,h18⟩
 simp only [msC,mrg,h18]
 repeat' (first
 | (conv=>whnf)
   first
   | refine Rn.seq ?_
   | refine Rn.block ?_
   | refine Rn.reg ?_
   | refine fLen.mk ?_
   | refine fB.i0 ?_)
 all_goals try (exfalso;omega;done)
 refine Rn.loopM msI ?_ (fun a:FrA=>a.k≤R.length∧h2.length≤a.h.length∧FO x y a.h a.v a.L∧a.L=L++(R.take a.k).map (p :: ·)) (fun a=>[(15,a.v),(19,.int .i64 (a.k:Nat))]) (fun a=>a.h) (fun a=>R.length - a.k) ⟨0,L,v,h2⟩ ⟨Nat.zero_le _,Nat.le_refl _,w3,by simp⟩ rfl ?_
 ·refine ⟨w3.lo.alive,?_⟩
  repeat (first | exact trivial | refine ⟨alB_ne al1 (by decide),?_⟩ | refine ⟨alB_ne al2 (by decide),?_⟩)
 rintro ⟨n,L', v', h'⟩ ⟨z1,z2,z3,z4⟩
 dsimp only at z1 z2 z3 z4 ⊢
 have d0:=z3.b0
 have d1:=z3.b1
 by_cases hn:n<R.length
 rotate_left
 ·repeat' (first
 | (conv=>whnf)
   first
   | (refine Br.decF ?_ ?_;(focus first | assumption | omega))
   | (refine Bnd.i64 ?_ ?_ ?_;(focus omega);(focus omega))
   | refine Rn.seq ?_
   | refine Rn.cond ?_
   | refine Rn.reg ?_
   | refine Rn.exit ?_
   | refine fLen.mk ?_
   | refine fB.i0 ?_
   | refine fB.mk ?_)
  all_goals first | (exfalso;omega;done) | skip
  have e3:L' = ((P.take (k+1)).flatMap fun p=>(als (shA x.l y.l s) (openT x y s) x.l.length y.l.length (p.1+1) (p.2+1) []).map (p :: ·)).take most:=by
   rw [z4,List.take_of_length_le (by omega),fl_step hp (by rw [← w4];exact hLlt), ← w4,hlR,List.map_take]
  exact NextP.of (fun N=>(⟨k+1,L', v', N⟩:FrA)) ⟨by (try dsimp only);omega,norm_len (Nat.le_trans w2 z2),z3.norm (Nat.le_trans w2 z2) rfl rfl rfl,e3⟩ (by (try dsimp only);omega) rfl
 obtain ⟨l,hl⟩:∃ l,R[n]?=some l:=⟨_,List.getElem?_eq_getElem hn⟩
 have hl40:=hR40 l (List.mem_of_getElem? hl)
 have hlc:=vF_get hl
 have hL' : L'.length<1000:=by rw [z4,List.length_append,List.length_map,List.length_take];omega
 have z5:L' ++ [p :: l]=L++(R.take (n+1)).map (p :: ·):=by
  obtain ⟨h1,h2⟩:=List.getElem?_eq_some_iff.1 hl
  rw [z4,List.append_assoc, ← List.take_append_getElem h1,List.map_append,h2]
  rfl
 have hn1:n≤R.length - 1:=by omega
 have hR0:0<R.length:=by omega
 unfold vF at hlc
 have hU0:∀ b0 b1 b2:B,bget (h' ++ [b0,b1,b2]) (h'.length+0+0)=some b0:=fun b0 b1 b2=>bget_new (i:=0)
 have hU2:∀ b0 b1 b2:B,bget (h' ++ [b0,b1,b2]) (h'.length+0+2)=some b2:=fun b0 b1 b2=>bget_new (i:=2)
 have hUr:[V.int .i64 (p.1:Nat),.int .i64 (p.2:Nat)].length=1 * 2∧bget (h' ++ [B.unborn,.unborn,.unborn]) (h'.length+0+0)=some .unborn:=⟨rfl,hU0 _ _ _⟩
 have hlt:=bget_lt d1
 by_cases hl0:l=[]
 ·rw [if_pos hl0] at hlc
  subst hl0
  have hrc:∀ h,Rc h (.sl true 1 [V.int .i64 (p.1:Nat),.int .i64 (p.2:Nat)]) (p :: []):=fun h=>.inl ⟨p,rfl,rfl⟩
  rcases z3.lo with ⟨e1,rfl⟩ | ⟨q,C,e1,e2,rfl,e4,e5⟩
  ·subst e1
   repeat' (first
 | (conv=>whnf)
   first
   | refine Idx.nat hkP ?_
   | refine Idx.nat hn1 ?_
   | (refine Br.decT ?_ ?_;(focus first | assumption | omega))
   | (refine Bnd.i64 ?_ ?_ ?_;(focus omega);(focus omega))
   | refine Rn.seq ?_
   | refine Rn.block ?_
   | refine Rn.cond ?_
   | refine Rn.reg ?_
   | refine Rn.skip ?_
   | refine Req.mk hP0 ?_
   | refine Req.mk hR0 ?_
   | refine Get.mk _ hpp ?_
   | refine Get.mk _ hlc ?_
   | refine fLen.mk ?_
   | refine fB.i0 ?_
   | refine fB.i3 ?_
   | refine Req.mk hUr ?_
   | refine Req.mk (hU2 _ _ _) ?_
   | refine Get.newj 2 rfl rfl ?_
   | refine fB.newj 2 rfl ?_
   | refine fB.mk ?_
   | refine Ifz.zero ?_
   | (refine Ifz.pos ?_ ?_;(focus omega))
   | refine Get.mk _ rfl ?_
   | (refine Req.mk ?_ ?_;(focus first | rfl | decide | exact ⟨rfl,rfl⟩ | exact ⟨rfl,by decide⟩ | exact (fun _=>rfl) | exact (fun h=>nomatch h) | (simp;done) | omega | (simp [big];done) | exact le_big (by omega) | exact lt_big (by omega))))
   all_goals first | (exfalso;omega;done) | skip
   conv=>whnf
   exact NextP.of (fun N=>(⟨n+1,[]++[p :: []],.ms 1 (h'.length+0+2) (([]:List V).length+[V.sl true 1 [V.int .i64 (p.1:Nat),.int .i64 (p.2:Nat)]].length) 0 (0+1) false,N⟩:FrA)) ⟨by (try dsimp only);omega,norm_len (by rw [List.length_append];omega),(FO.new z3 rfl rfl rfl (hrc _)).norm (by rw [List.length_append];omega) rfl rfl rfl,z5⟩ (by (try dsimp only);omega) rfl
  ·have hCl:=e5.len
   have hq:∀ r,bget (h' ++ r) q=some (.blk C false):=fun r=>bget_app e4
   have hg:0+L'.length * 1=L'.length∧(C.length+1) * (24+1)<big:=⟨by omega,by rw [hCl];show (L'.length+1) * (24+1)<68719476736;omega⟩
   repeat' (first
 | (conv=>whnf)
   first
   | refine Idx.nat hkP ?_
   | refine Idx.nat hn1 ?_
   | (refine Br.decT ?_ ?_;(focus first | assumption | omega))
   | (refine Bnd.i64 ?_ ?_ ?_;(focus omega);(focus omega))
   | refine Rn.seq ?_
   | refine Rn.block ?_
   | refine Rn.cond ?_
   | refine Rn.reg ?_
   | refine Rn.skip ?_
   | refine Req.mk hP0 ?_
   | refine Req.mk hR0 ?_
   | refine Get.mk _ hpp ?_
   | refine Get.mk _ hlc ?_
   | refine fLen.mk ?_
   | refine fB.i0 ?_
   | refine fB.i3 ?_
   | refine Req.mk hUr ?_
   | refine Get.mk _ (hq _) ?_
   | refine Req.mk hCl ?_
   | refine Req.mk hg ?_
   | refine fB.mk ?_
   | refine Ifz.zero ?_
   | (refine Ifz.pos ?_ ?_;(focus omega))
   | refine Get.mk _ rfl ?_
   | (refine Req.mk ?_ ?_;(focus first | rfl | decide | exact ⟨rfl,rfl⟩ | exact ⟨rfl,by decide⟩ | exact (fun _=>rfl) | exact (fun h=>nomatch h) | (simp;done) | omega | (simp [big];done) | exact le_big (by omega) | exact lt_big (by omega))))
   all_goals first | (exfalso;omega;done) | skip
   conv=>whnf
   exact NextP.of (fun N=>(⟨n+1,L' ++ [p :: []],.ms 1 q (L'.length+[V.sl true 1 [V.int .i64 (p.1:Nat),.int .i64 (p.2:Nat)]].length) 0 (L'.length+1) false,N⟩:FrA)) ⟨by (try dsimp only);omega,norm_len (by rw [bset_len,List.length_append];omega),(FO.grow z3.cl d0 d1 e2 e4 e5 rfl rfl rfl rfl (hrc _)).norm (by rw [bset_len,List.length_append];omega) rfl rfl rfl,z5⟩ (by (try dsimp only);omega) rfl
 ·rw [if_neg hl0] at hlc
  have hl0' : l.length≠0:=fun h=>hl0 (List.length_eq_zero_iff.1 h)
  have hsl:(shC (l.map pI)).length=l.length * 2:=by rw [shC_length,List.length_map]
  have hr2:([V.int .i64 (p.1:Nat),.int .i64 (p.2:Nat)].length+(shC (l.map pI)).length) * (16+1)<big:=by rw [hsl];show (2+l.length * 2) * (16+1)<68719476736;omega
  have hsc:true=true→scalars ([V.int .i64 (p.1:Nat),.int .i64 (p.2:Nat)]++shC (l.map pI))=true:=fun _=>by rw [shC_cons];exact scal_sh _
  have hg1:(([]:List V).length+1) * (24+1)<big:=by show (0+1) * (24+1)<68719476736;decide
  have hbc:∀ n,h'.length<n→(V.ms 2 (h'.length+0+0) ([V.int .i64 (p.1:Nat),.int .i64 (p.2:Nat)].length+(shC (l.map pI)).length) 0 (1+l.length) false).blo n=true:=fun n hn=>decide_eq_true hn
  have hbb:∀ n,h'.length<n→(B.blk [V.ms 2 (h'.length+0+0) ([V.int .i64 (p.1:Nat),.int .i64 (p.2:Nat)].length+(shC (l.map pI)).length) 0 (1+l.length) false] false).blo n=true:=fun n hn=>by show (false || (decide (h'.length+0+0<n) && true))=true;simp [hn]
  have hrc:∀ h,bget h h'.length=some (.blk ([V.int .i64 (p.1:Nat),.int .i64 (p.2:Nat)]++shC (l.map pI)) true)→Rc h (V.ms 2 (h'.length+0+0) ([V.int .i64 (p.1:Nat),.int .i64 (p.2:Nat)].length+(shC (l.map pI)).length) 0 (1+l.length) false) (p :: l):=fun h hb=>.inr ⟨h'.length,by rw [List.length_cons];omega,by omega,by
   rw [hsl]
   simp only [List.length_cons,List.length_nil,V.ms.injEq,Nat.add_zero,true_and,and_true]
   omega,hb⟩
  have hb0:∀ g n,blos 0 [V.ms 2 (h'.length+0+0) g 0 n false]=false:=fun g n=>by simp [blos,V.blo]
  rcases z3.lo with ⟨e1,rfl⟩ | ⟨q,C,e1,e2,rfl,e4,e5⟩
  ·subst e1
   repeat' (first
 | (conv=>whnf)
   first
   | refine Idx.nat hkP ?_
   | refine Idx.nat hn1 ?_
   | (refine Br.decT ?_ ?_;(focus first | assumption | omega))
   | (refine Bnd.i64 ?_ ?_ ?_;(focus omega);(focus omega))
   | refine Rn.seq ?_
   | refine Rn.block ?_
   | refine Rn.cond ?_
   | refine Rn.reg ?_
   | refine Rn.skip ?_
   | refine Req.mk hP0 ?_
   | refine Req.mk hR0 ?_
   | refine Get.mk _ hpp ?_
   | refine Get.mk _ hlc ?_
   | refine fLen.mk ?_
   | refine fB.i0 ?_
   | refine fB.i3 ?_
   | refine Req.mk hUr ?_
   | refine Req.mk (hU2 _ _ _) ?_
   | refine Req.mk hsl ?_
   | refine Req.mk hr2 ?_
   | refine Req.mk hsc ?_
   | refine Ifz.pos hl0' ?_
   | refine Req.mk hg1 ?_
   | refine Get.newj 0 rfl rfl ?_
   | refine fB.newj 0 rfl ?_
   | refine Get.newj 1 rfl rfl ?_
   | refine fB.newj 1 rfl ?_
   | refine Get.newj 2 rfl rfl ?_
   | refine fB.newj 2 rfl ?_
   | refine fB.mk ?_
   | (refine Ifz.pos ?_ ?_;(focus omega))
   | refine Get.mk _ rfl ?_
   | (refine Req.mk ?_ ?_;(focus first | rfl | decide | exact ⟨rfl,rfl⟩ | exact ⟨rfl,by decide⟩ | exact (fun _=>rfl) | exact (fun h=>nomatch h) | (simp;done) | omega | (simp [big];done) | exact le_big (by omega) | exact lt_big (by omega))))
   all_goals first | (exfalso;omega;done) | skip
   conv=>whnf
   exact NextP.of (fun N=>(⟨n+1,[]++[p :: l],.ms 1 (h'.length+0+2) (([]:List V).length+[V.ms 2 (h'.length+0+0) ([V.int .i64 (p.1:Nat),.int .i64 (p.2:Nat)].length+(shC (l.map pI)).length) 0 (1+l.length) false].length) 0 (0+1) false,N⟩:FrA)) ⟨by (try dsimp only);omega,norm_len (by rw [List.length_append];omega),(FO.new (b0:=.blk ([V.int .i64 (p.1:Nat),.int .i64 (p.2:Nat)]++shC (l.map pI)) true) z3 rfl (hbb _ (by omega)) (hbc _ (by omega)) (hrc _ (bget_new (i:=0)))).norm (by rw [List.length_append];omega) rfl rfl rfl,z5⟩ (by (try dsimp only);omega) rfl
  ·have hCl:=e5.len
   have hq:∀ r,bget (h' ++ r) q=some (.blk C false):=fun r=>bget_app e4
   have hg:0+L'.length * 1=L'.length∧(C.length+1) * (24+1)<big:=⟨by omega,by rw [hCl];show (L'.length+1) * (24+1)<68719476736;omega⟩
   repeat' (first
 | (conv=>whnf)
   first
   | refine Idx.nat hkP ?_
   | refine Idx.nat hn1 ?_
   | (refine Br.decT ?_ ?_;(focus first | assumption | omega))
   | (refine Bnd.i64 ?_ ?_ ?_;(focus omega);(focus omega))
   | refine Rn.seq ?_
   | refine Rn.block ?_
   | refine Rn.cond ?_
   | refine Rn.reg ?_
   | refine Rn.skip ?_
   | refine Req.mk hP0 ?_
   | refine Req.mk hR0 ?_
   | refine Get.mk _ hpp ?_
   | refine Get.mk _ hlc ?_
   | refine fLen.mk ?_
   | refine fB.i0 ?_
   | refine fB.i3 ?_
   | refine Req.mk hUr ?_
   | refine Req.mk hsl ?_
   | refine Req.mk hr2 ?_
   | refine Req.mk hsc ?_
   | refine Ifz.pos hl0' ?_
   | refine Get.mk _ (hq _) ?_
   | refine Req.mk hCl ?_
   | refine Req.mk hg ?_
   | refine Get.newj 0 rfl rfl ?_
   | refine fB.newj 0 rfl ?_
   | refine Get.newj 1 rfl rfl ?_
   | refine fB.newj 1 rfl ?_
   | refine fB.mk ?_
   | (refine Ifz.pos ?_ ?_;(focus omega))
   | refine Get.mk _ rfl ?_
   | (refine Req.mk ?_ ?_;(focus first | rfl | decide | exact ⟨rfl,rfl⟩ | exact ⟨rfl,by decide⟩ | exact (fun _=>rfl) | exact (fun h=>nomatch h) | (simp;done) | omega | (simp [big];done) | exact le_big (by omega) | exact lt_big (by omega))))
   all_goals first | (exfalso;omega;done) | skip
   conv=>whnf
   exact NextP.of (fun N=>(⟨n+1,L' ++ [p :: l],.ms 1 q (L'.length+[V.ms 2 (h'.length+0+0) ([V.int .i64 (p.1:Nat),.int .i64 (p.2:Nat)].length+(shC (l.map pI)).length) 0 (1+l.length) false].length) 0 (L'.length+1) false,N⟩:FrA)) ⟨by (try dsimp only);omega,norm_len (by rw [bset_len,List.length_append];omega),(FO.grow (b0:=.blk ([V.int .i64 (p.1:Nat),.int .i64 (p.2:Nat)]++shC (l.map pI)) true) z3.cl d0 d1 e2 e4 e5 rfl (hbb _ (by omega)) rfl (hbc _ (by omega)) (hrc _ (by rw [bset_other (by have:=bget_lt e4;omega)];exact bget_new (i:=0)))).norm (by rw [bset_len,List.length_append];omega) rfl rfl rfl,z5⟩ (by (try dsimp only);omega) rfl
theorem from_ok {x y:El} {s:Int} (ha:shOk x.l) (hb:shOk y.l) (hs:0≤s∧s≤200000):∀ (d i j:Nat),x.l.length - i=d→i≤x.l.length→j≤y.l.length→FromOk x y s i j:=by
 intro d
 induction d using Nat.strongRecOn with
 | ind d ih =>
  intro i j hd hi hj
  exact from_step ha hb hs hi hj fun k l h1 h2 h3 h4=>ih (x.l.length - (k+1)) (by omega) (k+1) (l+1) rfl (by omega) (by omega)
def rAllV (x y:El) (s most:Int):V:=if openE x y s≠0 then .tup [.sl true 0 [],.int .i64 (openE x y s)] else if outB most 1 200=true then .tup [.sl true 0 [],.int .i64 7] else .tup [fromV x y s 0 0 most.toNat,.int .i64 0]
set_option maxRecDepth 100000 in
set_option maxHeartbeats 20000000 in
theorem refAll_ok {x y:El} {s most:Int}:Fun FB md 24 [elA' x,elA' y,.int .i64 s,.int .i64 most] (rAllV x y s most):=by
 have ho:=two_ok (x:=x) (y:=y) (s:=s)
 have hin:=in_ok (n:=most) (lo:=1) (hi:=200)
 unfold rAllV
 by_cases he:openE x y s=0
 rotate_left
 ·rw [if_pos he]
  generalize openE x y s=e at *
  refine fun_of rfl rfl ?_
  repeat' (first
 | (conv=>whnf)
   first
   | refine Br.f ?_
   | (refine Br.decF ?_ ?_;(focus first | assumption | omega))
   | refine Br.not ?_
   | refine call_fun rfl rfl ho (.inl rfl) ?_
   | refine Get.mk _ rfl ?_
   | refine Leaves.of ?_
   | refine Vw.int ?_
   | refine Vw.nil
   | refine Vw.tup ?_
   | refine VwL.cons ?_ ?_
   | refine VwL.nil
   | (refine Req.mk ?_ ?_;(focus first | rfl | decide | exact ⟨rfl,rfl⟩ | exact ⟨rfl,by decide⟩ | exact (fun _=>rfl) | exact (fun h=>nomatch h) | (simp;done) | omega | (simp [big];done) | exact le_big (by omega) | exact lt_big (by omega))))
  all_goals first | rfl | (exfalso;omega)
 obtain ⟨ha,hb,hs⟩:=open_good he
 rw [if_neg (fun h=>h he)]
 rw [he] at ho
 cases hm:outB most 1 200 with
 | true =>
  rw [if_pos rfl]
  rw [hm] at hin
  refine fun_of rfl rfl ?_
  repeat' (first
 | (conv=>whnf)
   first
   | refine Br.t ?_
   | refine call_fun rfl rfl ho (.inl rfl) ?_
   | refine call_fun rfl rfl hin (.inl rfl) ?_
   | refine Get.mk _ rfl ?_
   | refine Leaves.of ?_
   | refine Vw.int ?_
   | refine Vw.nil
   | refine Vw.tup ?_
   | refine VwL.cons ?_ ?_
   | refine VwL.nil
   | (refine Req.mk ?_ ?_;(focus first | rfl | decide | exact ⟨rfl,rfl⟩ | exact ⟨rfl,by decide⟩ | exact (fun _=>rfl) | exact (fun h=>nomatch h) | (simp;done) | omega | (simp [big];done) | exact le_big (by omega) | exact lt_big (by omega))))
  all_goals first | rfl | (exfalso;omega)
 | false =>
  rw [if_neg (by decide)]
  rw [hm] at hin
  have hmr:1≤most∧most≤200:=by
   unfold outB at hm
   simp at hm
   omega
  obtain ⟨mo,rfl⟩:∃ mo:Nat,most=(mo:Int):=⟨most.toNat,by omega⟩
  have hbh:=(behind_ok (x:=x) (y:=y) (s:=s) (bi := -1) (bj := -1) ha hb hs).any
  rw [wT_none] at hbh
  have hno:=none_ok
  have hfr:=from_ok ha hb hs x.l.length 0 0 rfl (Nat.zero_le _) (Nat.zero_le _) mo (by omega) (by omega)
  have e:((mo:Int)).toNat=mo:=by omega
  rw [e]
  unfold fromV at hfr ⊢
  generalize lsF x y s 0 0 mo=L at *
  generalize decide (openT x y s 0 0=0∨L=[])=c at hfr ⊢
  refine fun_of rfl rfl ?_
  repeat' (first
 | (conv=>whnf)
   first
   | refine Br.t ?_
   | refine Br.f ?_
   | refine call_fun rfl rfl ho (.inl rfl) ?_
   | refine call_fun rfl rfl hin (.inl rfl) ?_
   | refine call_fun rfl rfl hno (.inl rfl) ?_
   | refine call_fun rfl rfl hbh (.inl rfl) ?_
   | refine call_fun rfl rfl hfr (.inl rfl) ?_
   | refine Get.mk _ rfl ?_
   | refine Leaves.of ?_
   | refine Vw.int ?_
   | refine Vw.sl
   | refine Vw.tup ?_
   | refine VwL.cons ?_ ?_
   | refine VwL.nil
   | (refine Req.mk ?_ ?_;(focus first | rfl | decide | exact ⟨rfl,rfl⟩ | exact ⟨rfl,by decide⟩ | exact (fun _=>rfl) | exact (fun h=>nomatch h) | (simp;done) | omega | (simp [big];done) | exact le_big (by omega) | exact lt_big (by omega))))
  all_goals first | rfl | (exfalso;omega)
end Go.Dr.T
