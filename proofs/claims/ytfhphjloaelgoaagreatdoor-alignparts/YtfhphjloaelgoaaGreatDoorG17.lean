/- Chapter 06: the table in which Whole gives a block of its own; Awake over it. -/
import Derived.Test.YtfhphjloaelgoaaGreatDoorG16
import Derived.Test.YtfhphjloaelgoaaGreatDoorG12
import Derived.Test.YtfhphjloaelgoaaGreatDoorG5
import Derived.Test.YtfhphjloaelgoaaGreatDoorG15
namespace Go.Dr.T
def AL (l:List El):List Int:=(wgo (pAll l) (pAll l).length (keysOf (pAll l)) []).getD []
def OL (l:List El):Bool:=onlyN (fun a b=>wayP (pAll l) a b 0) (AL l) (AL l).length
def WBk (c:Bool) (l:List El):Prop:=wpm FB1 md 0 c33.body ⟨[elsV c l]++deads (c33.ntm - c33.np),[]⟩ (WEnds c33.res (AL l) (OL l))
open Classical in
noncomputable def gB (_:Nat) (as:List V) (h:List B):Option (V × List B) :=
 if hx:h=[]∧∃ p:Bool × List El,as=[elsV p.1 p.2]∧WBk p.1 p.2 then some (w0 (AL (Classical.choose hx.2).2) (OL (Classical.choose hx.2).2),wh0 (AL (Classical.choose hx.2).2)) else none
theorem gB_eq {c:Bool} {l:List El} {ro:Nat} (hw:WBk c l):gB ro [elsV c l] []=some (w0 (AL l) (OL l),wh0 (AL l)):=by
 have h:([]:List B)=[]∧∃ p:Bool × List El,[elsV c l]=[elsV p.1 p.2]∧WBk p.1 p.2:=⟨rfl,(c,l),rfl,hw⟩
 have e:=(Classical.choose_spec h.2).1
 unfold gB
 rw [dif_pos h]
 generalize Classical.choose h.2=q at *
 simp only [elsV,List.cons.injEq,V.sl.injEq,and_true] at e
 rw [elC_inj e.2.2]
theorem gB_some {ro:Nat} {as:List V} {h h' : List B} {v:V} (e:gB ro as h=some (v,h')):h=[]∧∃ c l,as=[elsV c l]∧WBk c l∧v=w0 (AL l) (OL l)∧h' = wh0 (AL l):=by
 unfold gB at e
 split at e
 ·rename_i hx
  simp only [Option.some.injEq,Prod.mk.injEq] at e
  obtain ⟨h1,h2⟩:=Classical.choose_spec hx.2
  exact ⟨hx.1,_,_,h1,h2,e.1.symm,e.2.symm⟩
 ·cases e
noncomputable def FB3:Nat→Option Fc
 | 33=>some (knFc 1 33 gB)
 | n=>FB1 n
theorem sub3:Sub' FB1 FB3:=by
 intro f fc h
 unfold FB3
 split
 ·cases h
 ·exact h
theorem w0_view (A:List Int) (o:Bool):VwF (wh0 A) depth (w0 A o) (.tup [lw false A,.bool o,.int .i64 0]):=by
 unfold wh0 w0
 cases A with
 | nil =>
  rw [if_pos rfl,if_pos rfl]
  exact VwF.tup (d:=63) (VwLF.cons ⟨rfl,rfl⟩ (VwLF.cons (VwF.bool rfl) (VwLF.cons (VwF.int rfl) VwLF.nil)))
 | cons x l =>
  rw [if_neg (by simp),if_neg (by simp)]
  have hl:(ofInts (x :: l)).length=(x :: l).length:=by simp [ofInts]
  have hi:∀ {d:Nat} (L:List Int),VwLF [B.blk (ofInts (x :: l)) true] (d+1) (ofInts L) (ofInts L):=fun {d} L=>by
   induction L with
   | nil=>exact VwLF.nil
   | cons y L ih=>exact VwLF.cons (VwF.int rfl) ih
  have hv:VwF [B.blk (ofInts (x :: l)) true] 63 (.ms 1 0 (x :: l).length 0 (x :: l).length false) (lw false (x :: l)):=VwF.ms (d:=62) rfl hl (part_all (by rw [hl,Nat.mul_one])) (hi _)
  exact VwF.tup (d:=63) (VwLF.cons hv (VwLF.cons (VwF.bool rfl) (VwLF.cons (VwF.int rfl) VwLF.nil)))
theorem wholeB_funF {c:Bool} {l:List El} (hw:WBk c l):FunF FB3 md 33 [elsV c l] (.tup [lw false (AL l),.bool (OL l),.int .i64 0]):=by
 have hv:=w0_view (AL l) (OL l)
 refine ⟨knFc 1 33 gB,rfl,rfl,1,.ret,⟨[w0 (AL l) (OL l)],wh0 (AL l)⟩,w0 (AL l) (OL l),fun m hm => ?_,.inr rfl,rfl,hv.1,hv.2⟩
 cases m with
 | zero=>omega
 | succ m =>
  show run FB3 md (m+1) 0 (.kn 1 33) _=_
  have hF:FB3 33=some (knFc 1 33 gB):=rfl
  simp only [run,hF]
  show (match some gB with
   | none=>none
   | some g=>match g 0 (([elsV c l]++deads ((knFc 1 33 gB).ntm - (knFc 1 33 gB).np)).take 1) [] with
    | none=>none
    | some (v,h)=>some (X.ret,(⟨[v],h⟩:St)))=_
  have e:([elsV c l]++deads ((knFc 1 33 gB).ntm - (knFc 1 33 gB).np)).take 1=[elsV c l]:=rfl
  rw [e]
  simp only [gB_eq hw]
theorem FunF.fun {F:Nat→Option Fc} {md:Nat→Nat} {f:Nat} {as:List V} {v:V} (h:FunF F md f as v):Fun F md f as v:=by
 obtain ⟨fc,h1,h2,n,x,st,v0,h3,h4,h5,h6,_⟩:=h
 exact ⟨fc,h1,h2,n,x,st,v0,h3,h4,h5,h6⟩
theorem wbk_all {c:Bool} {l:List El} (hv:vldE l=0) (hr:roundP (fun k=>wayP (pAll l) k k k) (isort (keysOf (pAll l)))=none):WBk c l:=by
 have hg:=gather_fun (c:=c) (l:=l) gatherV_view
 unfold gatherV at hg
 rw [if_neg (fun h=>h hv)] at hg
 have w:=wg_all hv
 have hl:=w.len
 obtain ⟨A,hA⟩:=w.order hr
 have e:AL l=A:=by unfold AL;rw [hA];rfl
 unfold WBk OL
 rw [e]
 exact whole_bk hg (by omega) (fun e he=>by have:=(w.ent he).1;omega) w.nd (fun k _=>w.funs) (fun k=>w.ne) hr hA (w2:=fun a b=>wayP (pAll l) a b 0) (fun i _ _=>w.funs) c33 rfl
theorem wbk3 {c:Bool}:WBk c el3:=wbk_all vld3 (by decide +kernel)
theorem wholeB3_v:V.tup [lw false (AL el3),.bool (OL el3),.int .i64 0] = .tup [.sl false 5 (ofInts [1,2,3,5,4]),.bool true,.int .i64 0]:=veq_eq (by decide +kernel)
def whR:V:=.tup [.sl false 5 (ofInts [1,2,3,5,4]),.bool true,.int .i64 0]
theorem wholeB3_doc:Fun FB3 md 33 [elsV false el3] whR:=by
 have:=FunF.fun (wholeB_funF (c:=false) wbk3)
 rwa [wholeB3_v] at this
theorem gatherB3_doc:Fun FB3 md 65 [elsV false el3] (gatherV el3):=(gather_fun gatherV_view).tab sub3
end Go.Dr.T
namespace Go.Dr.T
theorem ptL_sub {b:Int} {a:List (Int × Int)}:∀ (d i:Nat),a.length - i=d→(ptL b a i).Sublist (a.drop i)
 | 0,i,h=>by
  unfold ptL
  rw [ptF_end (by omega)]
  exact List.nil_sublist _
 | d+1,i,h=>by
  have hi:i<a.length:=by omega
  have ih:=ptL_sub (b:=b) (a:=a) d (i+1) (by omega)
  rw [List.drop_eq_getElem_cons hi]
  unfold ptL at ih ⊢
  by_cases hb:bitE b i=1
  ·rw [ptF_t hi hb,List.map_cons]
   have:a.getD i (0,0)=a[i]:=by simp [List.getD,hi]
   rw [this]
   exact ih.cons_cons _
  ·rw [ptF_f hi hb]
   exact ih.cons _
theorem known_all {l:List (Int × Int)} (h:∀ p∈l,0<p.1):known l=l.map (·.1):=by
 unfold known
 rw [List.filter_eq_self]
 intro m hm
 obtain ⟨p,hp,rfl⟩:=List.mem_map.1 hm
 have:=h p hp
 simp;omega
theorem ckF_all {l:List (Int × Int)} (h:∀ i,i<l.length→eF l i=0):∀ (d i:Nat),l.length - i=d→ckF l i d=(0,0)
 | 0,i,_=>rfl
 | d+1,i,hd=>by
  rw [ckF,if_neg (by rw [h i (by omega)];simp)]
  exact ckF_all h d (i+1) (by omega)
theorem ckE_part {nm:List UInt8} {l:List (Int × Int)} {g:Int} (hn:nmOk nm=true) (hg:outB g 0 9=false) (hl:l.length≤40) (hp:∀ p∈l,0<p.1∧p.1≤999∧1≤p.2∧p.2≤200000) (nd:(l.map (·.1)).Nodup):(ckE nm l g).2=0:=by
 unfold ckE
 rw [if_neg (by rw [hn];simp),if_neg (by rw [hg];simp),if_neg (by omega),ckF_all (fun i hi => ?_) l.length 0 rfl]
 have hx:l[i]?=some l[i]:=List.getElem?_eq_getElem hi
 have h:=hp l[i] (List.getElem_mem _)
 unfold eF
 rw [hx]
 dsimp only
 have h1:(outB l[i].1 0 999 || outB l[i].2 1 200000)=false:=by
  simp only [outB,Bool.or_eq_false_iff,decide_eq_false_iff_not]
  omega
 rw [h1,if_neg (by simp),if_neg]
 rintro ⟨_,hm⟩
 obtain ⟨q,hq,he⟩:=List.mem_map.1 hm
 rw [List.mem_take_iff_getElem] at hq
 obtain ⟨j,hj,hjq⟩:=hq
 have hj' : j<l.length:=by omega
 have:=(List.getElem?_inj (l:=l.map (·.1)) (i:=j) (j:=i) (by rw [List.length_map];exact hj') nd).1 (by
  rw [List.getElem?_map,List.getElem?_map,hx,List.getElem?_eq_getElem hj']
  rw [hjq]
  exact congrArg some he)
 omega
theorem dupF_no:∀ {l pre:List El},((pre++l).map (·.nm)).Nodup→dupF pre l=false
 | [],_,_=>rfl
 | x :: l,pre,h=>by
  have ih:=dupF_no (l:=l) (pre:=pre++[x]) (by simpa using h)
  rw [dupF,ih,Bool.or_false]
  unfold nmE
  rw [List.any_eq_false]
  intro y hy
  rw [List.map_append,List.nodup_append] at h
  have:=h.2.2 y.nm (List.mem_map.2 ⟨y,hy,rfl⟩) x.nm (by simp)
  simpa using this
theorem nexts_pw {R:Int→Int→Prop} {a b:Int}:∀ {K:List Int},K.Pairwise R→(a,b)∈nexts K→R a b
 | [],_,h=>by cases h
 | [x],_,h=>by cases h
 | x :: y :: K,hp,h=>by
  rw [nexts] at h
  rw [List.pairwise_cons] at hp
  rcases List.mem_cons.1 h with h | h
  ·cases h
   exact hp.1 b (by simp)
  ·exact nexts_pw hp.2 h
theorem idx_pw {M:List Int} (nd:M.Nodup):M.Pairwise fun a b=>M.idxOf a<M.idxOf b:=by
 rw [List.pairwise_iff_getElem]
 intro i j hi hj hij
 rw [nd.idxOf_getElem,nd.idxOf_getElem]
 exact hij
structure Prts (M:List Int) (l:List El):Prop where
 nd:M.Nodup
 vd:vldE l=0
 sb:∀ y∈l,(known y.l).Sublist M
theorem Prts.dir {M:List Int} {l:List El} (h:Prts M l) {a b:Int} (hm:(a,b)∈dirsOf l):M.idxOf a<M.idxOf b:=by
 obtain ⟨y,hy,hk⟩:=List.mem_flatMap.1 hm
 exact nexts_pw ((idx_pw h.nd).sublist (h.sb y hy)) hk
theorem round_all {w:Int→Option (List Int)}:∀ {S:List Int},(∀ k∈S,w k=none)→S.foldl (rStep w) none=none
 | [],_=>rfl
 | k :: S,h=>by
  rw [List.foldl_cons]
  have:rStep w none k=none:=by unfold rStep;rw [h k (by simp)]
  rw [this]
  exact round_all fun j hj=>h j (List.mem_cons_of_mem _ hj)
theorem Prts.round {M:List Int} {l:List El} (h:Prts M l) (S:List Int):roundP (fun k=>wayP (pAll l) k k k) S=none:=by
 refine round_all fun k _ => ?_
 have w:=wg_all h.vd
 have g:=pi_all (l:=l) (fun x hx p hp=>((vld_el h.vd hx).2 p hp).1)
 have hd:∀ x y,y∈gS (pAll l) x→M.idxOf x<M.idxOf y:=fun x y hm=>h.dir ((g.ls x y).1 (gS_mem.1 hm))
 cases hw:wayP (pAll l) k k k with
 | none=>rfl
 | some p =>
  exfalso
  obtain ⟨q,hq,hk⟩:=w.iff.1 (by rw [hw];rfl)
  have key:∀ q,Rch (gS (pAll l)) k k q→M.idxOf k≤M.idxOf q:=fun q hq=>by
   induction hq with
   | base=>exact Nat.le_refl _
   | step _ h1 _ ih=>have:=hd _ _ h1;omega
  have:=key q hq
  have:=hd q k hk
  omega
theorem Prts.rnd {M:List Int} {l:List El} (h:Prts M l):rndP l=none:=h.round mks
theorem nexts_at {M:List Int}:∀ {i:Nat} {a b:Int},M[i]?=some a→M[i+1]?=some b→(a,b)∈nexts M:=by
 induction M with
 | nil=>intro i a b h;cases h
 | cons x M ih =>
  intro i a b h1 h2
  cases M with
  | nil=>rw [List.getElem?_cons_succ] at h2;cases h2
  | cons y M =>
   rw [nexts]
   cases i with
   | zero=>cases h1;cases h2;simp
   | succ i =>
    rw [List.getElem?_cons_succ] at h1 h2
    exact List.mem_cons_of_mem _ (ih h1 h2)
theorem Prts.order {M:List Int} {l:List El} (h:Prts M l) {y:El} (hy:y∈l) (hk:known y.l=M) {A:List Int} (o:OrdOk l A):A=M:=by
 have hmm:∀ m,m∈A ↔ m∈M:=fun m=>by
  rw [o.mm]
  constructor
  ·intro hm
   obtain ⟨z,hz,hm⟩:=List.mem_flatMap.1 hm
   exact (h.sb z hz).mem hm
  ·intro hm
   exact List.mem_flatMap.2 ⟨y,hy,by rw [hk];exact hm⟩
 have hp:A.Perm M:=(List.perm_ext_iff_of_nodup o.nd h.nd).2 hmm
 have hl:=hp.length_eq
 have hdir:∀ i a b,M[i]?=some a→M[i+1]?=some b→(a,b)∈dirsOf l:=fun i a b h1 h2=>List.mem_flatMap.2 ⟨y,hy,by rw [hk];exact nexts_at h1 h2⟩
 have hpos:∀ m∈M,∃ i,A[i]?=some m∧i=A.idxOf m∧i<A.length:=fun m hm=>by
  obtain ⟨i,hi⟩:=List.getElem?_of_mem ((hmm m).2 hm)
  obtain ⟨h1,h2⟩:=List.getElem?_eq_some_iff.1 hi
  exact ⟨i,hi,by rw [← h2,o.nd.idxOf_getElem],h1⟩
 have hstep:∀ i a b,M[i]?=some a→M[i+1]?=some b→A.idxOf a<A.idxOf b:=fun i a b h1 h2=>by
  obtain ⟨p,p1,p2,_⟩:=hpos a (List.mem_of_getElem? h1)
  obtain ⟨q,q1,q2,_⟩:=hpos b (List.mem_of_getElem? h2)
  have:=o.lt p q a b p1 q1 (hdir i a b h1 h2)
  omega
 have hlow:∀ i a,M[i]?=some a→i≤A.idxOf a:=by
  intro i
  induction i with
  | zero=>intro a _;exact Nat.zero_le _
  | succ i ih =>
   intro a ha
   have hlt:=(List.getElem?_eq_some_iff.1 ha).1
   have hb:M[i]?=some M[i]:=List.getElem?_eq_getElem (by omega)
   have:=ih _ hb
   have:=hstep i _ _ hb ha
   omega
 have hup:∀ d i a,M.length - 1 - i=d→M[i]?=some a→A.idxOf a≤i:=by
  intro d
  induction d with
  | zero =>
   intro i a hd ha
   have hlt:=(List.getElem?_eq_some_iff.1 ha).1
   obtain ⟨p,_,p2,p3⟩:=hpos a (List.mem_of_getElem? ha)
   omega
  | succ d ih =>
   intro i a hd ha
   have hb:M[i+1]?=some M[i+1]:=List.getElem?_eq_getElem (by omega)
   have:=ih (i+1) _ (by omega) hb
   have:=hstep i _ _ ha hb
   omega
 apply List.ext_getElem?
 intro i
 by_cases hi:i<M.length
 ·have ha:M[i]?=some M[i]:=List.getElem?_eq_getElem hi
  obtain ⟨p,p1,p2,_⟩:=hpos _ (List.mem_of_getElem? ha)
  have:=hlow i _ ha
  have:=hup _ i _ rfl ha
  rw [ha, ← p1]
  congr 1
  omega
 ·rw [List.getElem?_eq_none (by omega),List.getElem?_eq_none (by omega)]
theorem Prts.only {M:List Int} {l:List El} (h:Prts M l) {y:El} (hy:y∈l) (hk:known y.l=M):AL l=M∧OL l=true:=by
 have w:=wg_all h.vd
 have g:=pi_all (l:=l) (fun x hx p hp=>((vld_el h.vd hx).2 p hp).1)
 obtain ⟨A,hA⟩:=w.order (h.round _)
 have e:AL l=A:=by unfold AL;rw [hA];rfl
 have hM:A=M:=h.order hy hk (order_ok h.vd hA)
 refine ⟨e.trans hM,?_⟩
 unfold OL
 rw [e,hM]
 unfold onlyN
 rw [List.all_eq_true]
 intro i hi
 rw [List.mem_range] at hi
 cases i with
 | zero=>rfl
 | succ i =>
  rw [Bool.or_eq_true]
  right
  refine w.iff.2 ⟨_,.base,gS_mem.2 ((g.ls _ _).2 (List.mem_flatMap.2 ⟨y,hy,?_⟩))⟩
  rw [hk]
  exact nexts_at (i:=i) (by rw [Nat.add_sub_cancel];exact kAt_get (by omega)) (kAt_get hi)
set_option maxRecDepth 100000 in
set_option maxHeartbeats 20000000 in
theorem roundF_ok {c:Bool} {l:List El} (hv:vldE l=0) (hr:rndP l=none):FunF FB1 md 36 [elsV c l] (.tup [.sl true 0 [],.int .i64 0]):=by
 have hg:=gather_fun (c:=c) (l:=l) gatherV_view
 unfold gatherV at hg
 rw [if_neg (fun h=>h hv)] at hg
 have w:=wg_all hv
 have hl:=w.len
 have hrn:=w.round
 unfold rndP at hr
 rw [hr] at hrn
 have hrc:∀ {h:List B} {ro:Nat} {K:V→List B→Prop},K .nilsl h→CallP FB1 md ro (.fn 66 []) [gatV (pAll l)] h K:=fun hk=>round_call (w:=fun k=>wayP (pAll l) k k k) (by omega) (fun k _=>w.funs) (fun k=>w.ne) (by rw [show (pAll l).map (·.k)=keysOf (pAll l) from rfl,hrn];exact hk)
 generalize pAll l=D at *
 refine funF_of rfl rfl ?_
 repeat' (first
 | (conv=>whnf)
   first
   | refine Br.f ?_
   | refine call_fun rfl rfl hg (.inl rfl) ?_
   | refine hrc ?_
   | refine Get.mk _ rfl ?_
   | refine LeavesF.of ?_
   | refine VwF.int ?_
   | refine VwF.nil
   | refine VwF.tup ?_
   | refine VwLF.cons ?_ ?_
   | refine VwLF.nil)
 all_goals first | rfl | (exfalso;omega;done)
end Go.Dr.T
namespace Go.Dr.T
def kwnB (l:List V) (v:V) (as:List V):Option V:=match veqs as l with
 | true=>some v
 | false=>none
theorem kwnB_eq {l:List V} {v w:V} {as:List V} (h:kwnB l v as=some w):as=l∧w=v:=by
 unfold kwnB at h
 split at h <;> cases h
 rename_i e
 exact ⟨veqs_eq e,rfl⟩
noncomputable def SB1 (n:Nat):Option (List V→Option V) :=
 match n with
 | 33=>some (kwnB [elsV false el3] whR)
 | 65=>some (kwnB [elsV false el3] (gatherV el3))
 | _=>none
theorem knownB1:Known FB3 md SB1:=by
 intro fn g hg as v h
 unfold SB1 at hg
 split at hg
 ·cases hg
  obtain ⟨rfl,rfl⟩:=kwnB_eq h
  exact wholeB3_doc
 ·cases hg
  obtain ⟨rfl,rfl⟩:=kwnB_eq h
  exact gatherB3_doc
 ·cases hg
theorem bestB_doc:Fun FB3 md 21 [elA elN,elA elP,.int .i64 10] (.tup [.int .i64 205,.int .i64 1,.int .i64 0]):=fun_is knownB1 (n:=300) (by decide +kernel)
theorem judgeB_doc:Fun FB3 md 26 [elA elN,elA elP,.int .i64 10,.sl true 1 (ofInts [1,1])] (.tup [.int .i64 0,.int .i64 160]):=fun_is knownB1 (n:=300) (by decide +kernel)
def allBR:V:=.tup [.sl false 1 [.sl false 1 (ofInts [2,0])],.int .i64 0]
theorem allB_doc:Fun FB3 md 23 [elA elN,elA elU,.int .i64 20,.int .i64 1] allBR:=fun_is knownB1 (n:=400) (by decide +kernel)
def verBR:V:=.tup [.sl false 5 (ofInts [1,0,0,2,0,1,3,0,2,5,2,1,4,0,3]),.int .i64 334,.int .i64 0]
theorem verB_doc:Fun FB3 md 42 [elsV false el3,.sl true 5 (ofInts [1,2,3,5,4])] verBR:=fun_is knownB1 (n:=300) (by decide +kernel)
noncomputable def SB2 (n:Nat):Option (List V→Option V) :=
 match n with
 | 21=>some (kwnB [elA elN,elA elP,.int .i64 10] (.tup [.int .i64 205,.int .i64 1,.int .i64 0]))
 | 26=>some (kwnB [elA elN,elA elP,.int .i64 10,.sl true 1 (ofInts [1,1])] (.tup [.int .i64 0,.int .i64 160]))
 | 23=>some (kwnB [elA elN,elA elU,.int .i64 20,.int .i64 1] allBR)
 | 42=>some (kwnB [elsV false el3,.sl true 5 (ofInts [1,2,3,5,4])] verBR)
 | n=>SB1 n
theorem knownB2:Known FB3 md SB2:=by
 intro fn g hg as v h
 unfold SB2 at hg
 split at hg
 ·cases hg
  obtain ⟨rfl,rfl⟩:=kwnB_eq h
  exact bestB_doc
 ·cases hg
  obtain ⟨rfl,rfl⟩:=kwnB_eq h
  exact judgeB_doc
 ·cases hg
  obtain ⟨rfl,rfl⟩:=kwnB_eq h
  exact allB_doc
 ·cases hg
  obtain ⟨rfl,rfl⟩:=kwnB_eq h
  exact verB_doc
 ·exact knownB1 _ _ hg as v h
theorem awakeB:Fun FB3 md 20 [] (.bool true):=fun_is knownB2 (n:=300) (by decide +kernel)
end Go.Dr.T
