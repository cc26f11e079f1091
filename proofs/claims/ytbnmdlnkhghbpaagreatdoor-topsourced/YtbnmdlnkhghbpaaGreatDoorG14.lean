/- Top, of chapter 06: gather: its rounds. -/
import Derived.Test.YtbnmdlnkhghbpaaGreatDoorG13
namespace Go.Dr.T6
open Go.Dr.T
theorem Q5j {α:Type} {P:α→Prop} {I:α→St} {μ:α→Nat} {a:α} {mk:List Bool} {hl:Nat} {tm:List V} {x0:B} {H G l0:List B} {ks vs:List V} {E':List Ent} (f:List B→α) (hk:ks=Q00 (entK E')) (hv:vs=entV E') (h:GH (H++G) E') (hh:hl=(hp x0 l0).length) (hn:l0.length≤H.length)
  (h1:∀ T,l0.length≤T.length→GH T E'→P (f T)) (h2:∀ T,μ (f T)<μ a) (h3:∀ T,(⟨Q0m mk tm,hp (.mp (Q00 (entK E')) (entV E')) T⟩:St)=I (f T)):NextP P I μ a (norm mk hl ⟨tm,hp (.mp ks vs) H++G⟩):=by
 subst hk hv
 obtain ⟨T,e1,e2,e3⟩:=h.norm (mk:=mk) (tm:=tm) (ks:=Q00 (entK E')) hh hn
 exact NextP.mk (f T) (h1 T e2 e3) (h2 T) (e1.trans (h3 T))
theorem nextG0 {α:Type} {P:α→Prop} {I:α→St} {μ:α→Nat} {a:α} {mk:List Bool} {hl:Nat} {tm:List V} {x0:B} {H l0:List B} {ks vs:List V} {E':List Ent} (f:List B→α) (hk:ks=Q00 (entK E')) (hv:vs=entV E') (h:GH H E') (hh:hl=(hp x0 l0).length) (hn:l0.length≤H.length)
  (h1:∀ T,l0.length≤T.length→GH T E'→P (f T)) (h2:∀ T,μ (f T)<μ a) (h3:∀ T,(⟨Q0m mk tm,hp (.mp (Q00 (entK E')) (entV E')) T⟩:St)=I (f T)):NextP P I μ a (norm mk hl ⟨tm,hp (.mp ks vs) H⟩):=by
 have:=Q5j (P:=P) (I:=I) (μ:=μ) (a:=a) (tm:=tm) (G:=[]) f hk hv (by simpa using h) hh hn h1 h2 h3
 rwa [List.append_nil] at this
theorem map_set {E:List Ent} (nd:(entK E).Nodup) {j:Nat} {e e':Ent} (hj:E[j]?=some e):(E.set j e').map Ent.p=(E.map Ent.p).map fun q=>if q.k=e.k then e'.p else q:=by
 apply List.ext_getElem?
 intro i
 rw [jH,jH,jH,List.getElem?_set]
 by_cases hi:j=i
 ·subst hi
  rw [if_pos rfl,if_pos (jB.1 hj).1,hj]
  simp [Ent.p]
 ·rw [if_neg hi]
  cases hq:E[i]? with
  | none=>rfl
  | some q =>
   have hne:q.k≠e.k:=fun hk=>hi ((List.getElem?_inj (l:=entK E) (i:=j) (j:=i) (by simpa [entK] using (jB.1 hj).1) nd).1 (by simp [entK,hj,hq,hk]))
   simp only [Option.map_some,jA]
   rw [if_neg (by simpa [Ent.p] using hne)]
theorem p_up {E:List Ent} (nd:(entK E).Nodup) {j id:Nat} {e:Ent} {a m:Int} (hj:E[j]?=some e) (hk:e.k=a) (hm:m∉e.L):(E.set j ⟨a,id,false,e.L++[m]⟩).map Ent.p=pUp (E.map Ent.p) a m:=by
 rw [map_set nd hj,pUp]
 apply List.map_congr_left
 intro q hq
 obtain ⟨x,hx,rfl⟩:=List.mem_map.1 hq
 by_cases h:x.k=a
 ·have hxe:x=e:=by
   obtain ⟨i,hi⟩:=List.getElem?_of_mem hx
   have:=(List.getElem?_inj (l:=entK E) (i:=j) (j:=i) (by simpa [entK] using (jB.1 hj).1) nd).1 (by simp [entK,hj,hi,hk,h])
   subst this;rw [hj] at hi;cases hi;rfl
  subst hxe
  rw [if_pos (show x.p.k=x.k from rfl),if_pos ⟨h,hm⟩]
  simp [Ent.p,h]
 ·rw [if_neg (by rw [hk];exact h),if_neg (fun hh=>h hh.1)]
theorem p_none {E:List Ent} (nd:(entK E).Nodup) {j:Nat} {e:Ent} {a m:Int} (hj:E[j]?=some e) (hk:e.k=a) (hm:m∈e.L):pUp (E.map Ent.p) a m=E.map Ent.p:=by
 unfold pUp
 conv=>rhs;rw [← List.map_id (E.map Ent.p)]
 apply List.map_congr_left
 intro q hq
 obtain ⟨x,hx,rfl⟩:=List.mem_map.1 hq
 refine if_neg fun ⟨h,hh⟩=>?_
 obtain ⟨i,hi⟩:=List.getElem?_of_mem hx
 have:=(List.getElem?_inj (l:=entK E) (i:=j) (j:=i) (by simpa [entK] using (jB.1 hj).1) nd).1 (by simp [entK,hj,hi,hk];exact h.symm)
 subst this;rw [hj] at hi;cases hi
 exact hh hm
theorem p_cl {E:List Ent} (nd:(entK E).Nodup) {j:Nat} {e:Ent} {m:Int} (hj:E[j]?=some e) (hk:e.k=m):(E.set j ⟨m,e.id,true,e.L⟩).map Ent.p=pCl (E.map Ent.p) m:=by
 have hin:m∈(E.map Ent.p).map (·.k):=by
  rw [List.mem_map];exact ⟨e.p,List.mem_map.2 ⟨e,jE hj,rfl⟩,hk⟩
 rw [map_set nd hj,pCl,if_pos hin]
 apply List.map_congr_left
 intro q hq
 obtain ⟨x,hx,rfl⟩:=List.mem_map.1 hq
 by_cases h:x.k=m
 ·have hxe:x=e:=by
   obtain ⟨i,hi⟩:=List.getElem?_of_mem hx
   have:=(List.getElem?_inj (l:=entK E) (i:=j) (j:=i) (by simpa [entK] using (jB.1 hj).1) nd).1 (by simp [entK,hj,hi,hk,h])
   subst this;rw [hj] at hi;cases hi;rfl
  subst hxe
  rw [if_pos (show x.p.k=x.k from rfl),if_pos (show x.p.k=m from h)]
  simp [Ent.p,h]
 ·rw [if_neg (by rw [hk];exact h),if_neg (show ¬ x.p.k=m from h)]
theorem p_new {E:List Ent} {m:Int} (hm:m∉entK E):(E++[(⟨m,0,true,[]⟩:Ent)]).map Ent.p=pCl (E.map Ent.p) m:=by
 rw [pCl,if_neg (by simpa [entK,Ent.p] using hm)]
 simp [Ent.p]
theorem Q8m {l:List (Int × Int)} {j:Nat} {p:Int × Int} {s:List PE × Int} (hp:l[j]?=some p):(l.take (j+1)).foldl Q80 s=Q80 ((l.take j).foldl Q80 s) p:=by
 have:l.take (j+1)=l.take j++[p]:=by rw [List.take_add_one,hp];rfl
 rw [this,List.foldl_append];rfl
theorem Q9x {l:List El} {i:Nat} {x:El} (hx:l[i]?=some x):Q1f (l.take (i+1))=Q1f (l.take i)++known x.l:=by
 have:l.take (i+1)=l.take i++[x]:=by rw [List.take_add_one,hx];rfl
 rw [this];simp [Q1f]
theorem Qd7 {l:List El} {i:Nat} {x:El} (hx:l[i]?=some x):Q26 (l.take (i+1))=Q26 (l.take i)++nexts (known x.l):=by
 have:l.take (i+1)=l.take i++[x]:=by rw [List.take_add_one,hx];rfl
 rw [this];simp [Q26]
theorem Qch {l:List El} {i:Nat} {x:El} (hx:l[i]?=some x):pAll (l.take (i+1))=pEl (pAll (l.take i)) x:=by
 have:l.take (i+1)=l.take i++[x]:=by rw [List.take_add_one,hx];rfl
 rw [this];simp [pAll,List.foldl_append]
theorem Qm7 {l:List (Int × Int)} (h:∀ i p,l[i]?=some p→0≤p.1∧p.1≤999∧1≤p.2∧p.2≤200000∧(p.1≠0→p.1∉(l.take i).map (·.1))) {j:Nat} {m:Int} (hm:m∈known (l.take j)):0<m:=by
 have h0:=Qb6 hm
 obtain ⟨p,hp,rfl⟩:=List.mem_map.1 (Q8d hm)
 obtain ⟨i,hi⟩:=List.getElem?_of_mem (List.mem_of_mem_take hp)
 have:=(h i p hi).1
 omega
structure OS where
 i:Nat
 H:List B
 E:List Ent
structure OOk (l:List El) (a:OS):Prop where
 le:a.i≤l.length
 gh:GH a.H a.E
 gd:GD a.E
 ge:GE a.E (Q1f (l.take a.i)) (Q26 (l.take a.i))
 pe:a.E.map Ent.p=pAll (l.take a.i)
 du:dupF [] l=dupF (l.take a.i) (l.drop a.i)
 bd:∀ e∈a.E,e.L.length≤41*a.i
structure IS where
 j:Nat
 H:List B
 E:List Ent
structure IOk (i:Nat) (F0:List PE) (A:List Int) (D:List (Int × Int)) (n0:Nat) (l:List (Int × Int)) (a:IS):Prop where
 le:a.j≤l.length
 ln:n0≤a.H.length
 gh:GH a.H a.E
 gd:GD a.E
 ge:GE a.E (A++known (l.take a.j)) (D++nexts (known (l.take a.j)))
 pe:(a.E.map Ent.p,lastM (known (l.take a.j)))=(l.take a.j).foldl Q80 (F0,0)
 cl:∀ e∈a.E,known (l.take a.j)≠[]→e.k=lastM (known (l.take a.j))→e.c=true
 bd:∀ e∈a.E,e.L.length≤41*i+a.j
theorem IOk.zero {i:Nat} {F0:List PE} {A:List Int} {D:List (Int × Int)} {n0:Nat} {l:List (Int × Int)} {j:Nat} {H T:List B} {E:List Ent} {f:Int} (o:IOk i F0 A D n0 l ⟨j,H,E⟩) (hp:l[j]?=some (0,f)) (h1:n0≤T.length) (h2:GH T E):IOk i F0 A D n0 l ⟨j+1,T,E⟩:=by
 obtain ⟨p1,p2,p3,p4,p5,p6,p7,p8⟩:=o
 dsimp only at p1 p2 p3 p4 p5 p6 p7 p8
 have hks:=Q3b hp
 rw [if_pos rfl] at hks
 refine ⟨(jB.1 hp).1,h1,h2,p4,?_,?_,?_,fun e he=>?_⟩
 ·dsimp only;rw [hks];exact p5
 ·dsimp only;rw [hks,Q8m hp,← p6];rfl
 ·dsimp only;rw [hks];exact p7
 ·have:=p8 e he;dsimp only at *;omega
theorem IOk.mark {i:Nat} {F0:List PE} {A:List Int} {D:List (Int × Int)} {n0:Nat} {l:List (Int × Int)} {j:Nat} {T:List B} {E E1 E2:List Ent} {m f:Int} (hE:(E.map Ent.p,lastM (known (l.take j)))=(l.take j).foldl Q80 (F0,0)) (hp:l[j]?=some (m,f)) (hm:m≠0) (hne:∀ x∈known (l.take j),0<x)
  (g1:GE E1 (A++known (l.take j)) (D++(nexts (known (l.take j))++(if known (l.take j)=[] then [] else [(lastM (known (l.take j)),m)])))) (d1:GD E1) (b1:∀ e∈E1,e.L.length≤41*i+(j+1))
  (hup:E1.map Ent.p=if known (l.take j)=[] then E.map Ent.p else pUp (E.map Ent.p) (lastM (known (l.take j))) m)
  (h2:(∃ jm em,E1[jm]?=some em∧em.k=m∧E2=E1.set jm ⟨m,em.id,true,em.L⟩)∨(m∉entK E1∧(∀ b,(m,b)∉D++(nexts (known (l.take j))++(if known (l.take j)=[] then [] else [(lastM (known (l.take j)),m)])))∧E2=E1++[⟨m,0,true,[]⟩]))
  (h1:n0≤T.length) (h3:GH T E2):IOk i F0 A D n0 l ⟨j+1,T,E2⟩:=by
 have hks:=Q3b hp
 rw [if_neg hm] at hks
 simp only at hks
 have hstep:(l.take (j+1)).foldl Q80 (F0,0)=(pCl (E1.map Ent.p) m,m):=by
  rw [Q8m hp,← hE,Q80,if_neg hm]
  simp only
  congr 2
  rw [hup]
  by_cases hk:known (l.take j)=[]
  ·rw [if_pos hk,hk,if_neg (by simp [lastM])]
  ·rw [if_neg hk,if_pos (hne _ (Q2x hk))]
 have hA:∀ k,k∈(A++known (l.take j))++[m]↔k∈A++known (l.take (j+1)):=fun k=>by rw [hks,jO]
 have hD:∀ p,p∈D++(nexts (known (l.take j))++(if known (l.take j)=[] then [] else [(lastM (known (l.take j)),m)]))↔p∈D++nexts (known (l.take (j+1))):=fun p=>by rw [hks,Q6d]
 have hlast:lastM (known (l.take (j+1)))=m:=by rw [hks,lastM_snoc]
 rcases h2 with ⟨jm,em,hj,hk,rfl⟩|⟨hmk,hmd,rfl⟩
 ·have hge:=GE.put g1 (e':=⟨m,em.id,true,em.L⟩) hj hk.symm rfl
  have hmA:m∈A++known (l.take j):=(g1.ks m).1 (by rw [← hk];exact List.mem_map.2 ⟨em,jE hj,rfl⟩)
  refine ⟨(jB.1 hp).1,h1,h3,?_,hge.same (fun k=>?_) hD,?_,fun e he _ hek=>?_,fun e he=>?_⟩
  ·unfold GD at d1 ⊢
   exact GD.set d1 fun i x hi hne h1 h2=>by
    have hjl:=(jB.1 hj)
    have hil:=(jB.1 hi)
    rw [List.pairwise_iff_getElem] at d1
    by_cases hlt:i<jm
    ·have:=d1 i jm hil.1 hjl.1 hlt
     rw [hil.2,hjl.2] at this
     exact this h1 h2
    ·have:=d1 jm i hjl.1 hil.1 (by omega)
     rw [hil.2,hjl.2] at this
     exact (this h2 h1).symm
  ·rw [← hA,jK (s:=A++known (l.take j))]
   constructor
   ·exact .inl
   ·rintro (h|h)
    ·exact h
    ·rw [jJ] at h;subst h;exact hmA
  ·dsimp only;rw [hstep,hlast,p_cl g1.nd hj hk]
  ·dsimp only at hek he;rw [hlast] at hek
   rcases List.mem_or_eq_of_mem_set he with hx|rfl
   ·obtain ⟨q,hq⟩:=List.getElem?_of_mem he
    rw [List.getElem?_set] at hq
    split at hq
    ·split at hq
     ·cases hq;rfl
     ·cases hq
    ·rename_i hne
     exfalso
     have hne2:=(List.getElem?_inj (l:=entK E1) (i:=jm) (j:=q) (by simpa [entK] using (jB.1 hj).1) g1.nd).1 (by simp [entK,hj,hq,hk,hek])
     exact hne hne2
   ·rfl
  ·rcases List.mem_or_eq_of_mem_set he with hx|rfl
   ·exact b1 e hx
   ·exact b1 em (jE hj)
 ·have hnA:m∉A++known (l.take j):=fun h=>hmk ((g1.ks m).2 h)
  have hge:=GE.new g1 (e:=⟨m,0,true,[]⟩) hnA rfl hmd
  refine ⟨(jB.1 hp).1,h1,h3,d1.snoc rfl,hge.same hA hD,?_,fun e he _ hek=>?_,fun e he=>?_⟩
  ·dsimp only;rw [hstep,hlast,p_new hmk]
  ·dsimp only at hek he;rw [hlast] at hek
   rcases jK.1 he with hx|hx
   ·exfalso;exact hmk (hek▸List.mem_map.2 ⟨e,hx,rfl⟩)
   ·rw [jJ] at hx;subst hx;rfl
  ·rcases jK.1 he with hx|hx
   ·exact b1 e hx
   ·rw [jJ] at hx;subst hx;simp
end Go.Dr.T6
namespace Go.Dr.T6
open Go.Dr.T
def srtE (seen:List Nat) (E:List Ent):List Ent:=E.mapIdx fun j e=>if j∈seen then ⟨e.k,e.id,e.c,Q0k e.L⟩ else e
theorem Q2b {seen:List Nat} {E:List Ent} {j:Nat} {e:Ent} (h:E[j]?=some e):(srtE seen E)[j]?=some (if j∈seen then ⟨e.k,e.id,e.c,Q0k e.L⟩ else e):=by
 simp [srtE,h]
theorem Qot (E:List Ent):srtE [] E=E:=by
 apply List.ext_getElem?
 intro j
 cases h:E[j]? with
 | none=>simp [srtE,h]
 | some e=>rw [Q2b h];simp
theorem Qgd (seen:List Nat) (E:List Ent):(srtE seen E).length=E.length:=by simp [srtE]
theorem Qrm {id:Nat} {c:Bool} {L M:List Int} (h:L.length=M.length):lv id c L=lv id c M:=by
 cases L with
 | nil=>cases M with
  | nil=>rfl
  | cons y m=>simp at h
 | cons x l=>cases M with
  | nil=>simp at h
  | cons y m=>simp only [List.length_cons,Nat.add_right_cancel_iff] at h;simp only [lv,h]
theorem Q2p {L:List Int}:Q0k L=[]↔L=[]:=by
 rw [← List.length_eq_zero_iff,Q21,List.length_eq_zero_iff]
theorem Qkk {seen:List Nat} {E:List Ent} {j:Nat} {e:Ent} (h:E[j]?=some e):srtE (seen++[j]) E=(srtE seen E).set j ⟨e.k,e.id,e.c,Q0k e.L⟩:=by
 apply List.ext_getElem?
 intro i
 rw [List.getElem?_set]
 by_cases hi:j=i
 ·subst hi
  rw [if_pos rfl,Q2b h,if_pos (show j∈seen++[j] by simp),if_pos (by rw [Qgd];exact (jB.1 h).1)]
 ·rw [if_neg hi]
  cases hq:E[i]? with
  | none=>simp [srtE,hq]
  | some q =>
   rw [Q2b hq,Q2b hq]
   have:(i∈seen++[j])↔i∈seen:=by simp;intro h;exact absurd h.symm hi
   simp only [this]
theorem Qkl {x:B} {H G:List B} {id:Nat} {c:Bool} {L:List Int} {K:V→List B→Prop} (hb:L≠[]→bget H id=some (.blk (Q00 L) true)) (hl:L.length≤140737488355328)
  (hk:K (.tup []) (hp x (if L=[] then H else bset H id (.blk (Q00 (Q0k L)) true))++G)):CallP FB md 0 (.fn 49 []) [lv id c L] (hp x H++G) K:=by
 cases L with
 | nil =>
  refine Qhs (v:=.tup []) (h':=hp x H++G) rfl rfl rfl rfl ?_
  rw [Q28 rfl]
  simpa using hk
 | cons y r =>
  have hb:=hb (by simp)
  have hbg:bget (hp x H++G) (id+1)=some (.blk (Q00 (y::r)) true):=HP.bget_o hb
  have hlt:=Q05 hb
  have hset:bset (hp x H++G) (id+1) (.blk (Q00 (Q0k (y::r))) true)=hp x (bset H id (.blk (Q00 (Q0k (y::r))) true))++G:=by
   rw [Qbt (by rw [Q22];omega),Q4q,Q4q];rfl
  have hol:(Q00 (y::r)).length=r.length+1:=by simp [Q00]
  have hover:over (Q00 (y::r)) 0 (Q00 (Q0k (y::r)))=Q00 (Q0k (y::r)):=by
   rw [Q43 _ _ _ (by simp [Q00,Q21])]
   have:(Q00 (Q0k (y::r))).length=(Q00 (y::r)).length:=by simp [Q00,Q21]
   simp [this]
  have hints:Q4u (((Q00 (y::r)).drop 0).take (r.length+1))=some (y::r):=by
   rw [List.drop_zero,List.take_of_length_le (by omega)]
   have:∀ l:List Int,Q4u (Q00 l)=some l:=by
    intro l
    induction l with
    | nil=>rfl
    | cons a l ih =>
     show (Q4u (Q00 l)).map (a :: ·)=_
     rw [ih];rfl
   exact this _
  simp only [List.length_cons] at hl
  have hg:srtG 0 ([lv id c (y::r)]++[]) (hp x H++G)=some (.tup [],bset (hp x H++G) (id+1) (.blk (Q00 (Q0k (y::r))) true)):=by
   simp only [List.append_nil,lv,srtG]
   rw [if_neg (by omega),hbg]
   simp only
   rw [if_pos ⟨Nat.zero_le _,hol.symm,by omega,by omega⟩,hints]
   simp only
   rw [hover]
  refine Qhs (v:=.tup []) rfl rfl rfl hg ?_
  rw [Q28 (by rw [Q03]),hset]
  simpa using hk
structure RS where
 seen:List Nat
 H:List B
structure ROk (E:List Ent) (n:Nat) (a:RS):Prop where
 len:a.H.length=n
 gh:GH a.H (srtE a.seen E)
 nd:a.seen.Nodup
 bd:∀ s∈a.seen,s<E.length
theorem lastO_snoc:∀ {l:List Nat} {s:Nat},lastO (l++[s])=some s
 | [],_=>rfl
 | [a],s=>rfl
 | a::b::l,s=>by simpa only [List.cons_append,lastO] using lastO_snoc (l:=b::l) (s:=s)
theorem Ql2 {n j s:Nat} (h:(List.range n)[j]?=some s):s=j∧j<n:=by
 obtain ⟨h1,h2⟩:=jB.1 h
 rw [List.getElem_range] at h2
 exact ⟨h2.symm,by simpa using h1⟩
theorem cur_of {E:List Ent} {seen:List Nat} {s:Nat} {e:Ent} (h:E[s]?=some e):mcur (0+0) [.it (0+0) (entK E).length (entK E).length (seen++[s]),.mp (Q00 (entK E)) (entV E)]=some (.tup [.int .i64 e.k,e.v],none):=by
 have hs:=(jB.1 h).1
 have hl:(Q00 (entK E)).length=E.length:=by simp [Q00,entK]
 have hl2:(entK E).length=E.length:=by simp [entK]
 have hid:(List.range E.length).idxOf s=s:=by
  have:=List.getElem_idxOf (x:=s) (xs:=List.range E.length) (by rw [List.idxOf_lt_length_iff];exact List.mem_range.2 hs)
  rwa [List.getElem_range] at this
 simp only [mcur,if_true,lastO_snoc,B.ents,hl,hl2,hid,List.length_range,hs,decide_true,Bool.and_self]
 rw [Q7p (l:=Q00 (entK E)) (v:=.int .i64 e.k) (by simp [Q00,entK,h]),Q7p (l:=entV E) (v:=e.v) (by simp [entV,h])]
theorem ROk.next {E:List Ent} {n:Nat} {a:RS} (o:ROk E n a) (gd:GD E) {s:Nat} {e:Ent} (hs:E[s]?=some e) (hn:s∉a.seen):ROk E n ⟨a.seen++[s],if e.L=[] then a.H else bset a.H e.id (.blk (Q00 (Q0k e.L)) true)⟩:=by
 obtain ⟨o1,o2,o3,o4⟩:=o
 have hsl:=(jB.1 hs).1
 refine ⟨?_,?_,?_,?_⟩
 ·dsimp only;split
  ·exact o1
  ·rw [Q03];exact o1
 ·dsimp only
  rw [Qkk hs]
  have hcur:(srtE a.seen E)[s]?=some e:=by rw [Q2b hs,if_neg hn]
  by_cases he:e.L=[]
  ·rw [if_pos he]
   exact o2.set fun hne=>absurd (Q2p.2 he) hne
  ·rw [if_neg he]
   have hb:=o2 e (jE hcur) he
   intro x hx hne
   obtain ⟨i,hi⟩:=List.getElem?_of_mem hx
   rw [List.getElem?_set] at hi
   by_cases his:s=i
   ·rw [if_pos his] at hi
    split at hi
    ·cases hi
     exact Q0b (Q05 hb)
    ·cases hi
   ·rw [if_neg his] at hi
    have hxm:=jE hi
    rw [Q02]
    ·exact o2 x hxm hne
    ·-- another entry lies in another block
     have hil:=(jB.1 hi)
     have hie:i<E.length:=by have:=hil.1;rwa [Qgd] at this
     have hq:=Q2b (seen:=a.seen) (jC hie)
     rw [hi] at hq
     have hid:x.id=E[i].id:=by cases hq;split<;>rfl
     have hL:E[i].L≠[]:=fun h0=>hne (by cases hq;split;exact Q2p.2 h0;exact h0)
     rw [hid]
     unfold GD at gd
     rw [List.pairwise_iff_getElem] at gd
     have hse:E[s]=e:=(jB.1 hs).2
     by_cases hlt:s<i
     ·have:=gd s i hsl hie hlt (by rw [hse];exact he) hL
      rw [hse] at this;exact this
     ·have:=gd i s hie hsl (by omega) hL (by rw [hse];exact he)
      rw [hse] at this;exact this.symm
 ·dsimp only
  rw [List.nodup_append]
  exact ⟨o3,by simp,fun x hx y hy=>by rw [jJ] at hy;subst hy;rintro rfl;exact hn hx⟩
 ·dsimp only
  intro x hx
  rcases jK.1 hx with hx|hx
  ·exact o4 x hx
  ·rw [jJ] at hx;subst hx;exact hsl
theorem Q1z:∀ {n:Nat} {l:List Nat},l.Nodup→(∀ x∈l,x<n)→l.length≤n
 | 0,[],_,_=>Nat.le_refl _
 | 0,x::l,_,h=>absurd (h x (by simp)) (Nat.not_lt_zero _)
 | n+1,l,hd,h=>by
  by_cases hn:n∈l
  ·have h1:=Q1z (n:=n) (l:=l.erase n) (hd.erase n) (fun x hx=>by
    have:=h x (List.mem_of_mem_erase hx)
    have hne:x≠n:=fun e=>by subst e;exact ((List.Nodup.mem_erase_iff hd).1 hx).1 rfl
    omega)
   rw [List.length_erase_of_mem hn] at h1
   omega
  ·exact Nat.le_succ_of_le (Q1z hd fun x hx=>by
    have:=h x hx
    have hne:x≠n:=fun e=>hn (e▸hx)
    omega)
theorem ROk.more {E:List Ent} {n:Nat} {a:RS} (o:ROk E n a) {s:Nat} (hs:s<E.length) (hn:s∉a.seen):a.seen.length<E.length:=by
 have h1:(a.seen++[s]).Nodup:=by
  rw [List.nodup_append]
  exact ⟨o.nd,by simp,fun x hx y hy=>by rw [jJ] at hy;subst hy;rintro rfl;exact hn hx⟩
 have:=Q1z h1 (n:=E.length) (by
  intro x hx
  rcases jK.1 hx with hx|hx
  ·exact o.bd x hx
  ·rw [jJ] at hx;subst hx;exact hs)
 simp at this;omega
theorem Qou {E:List Ent} {seen:List Nat} (h:∀ s∈List.range E.length,s∈seen):srtE (List.range E.length) E=srtE seen E:=by
 apply List.ext_getElem?
 intro j
 cases hq:E[j]? with
 | none=>simp [srtE,hq]
 | some e =>
  have hj:=List.mem_range.2 (jB.1 hq).1
  rw [Q2b hq,Q2b hq,if_pos hj,if_pos (h j hj)]
theorem Qoi {E:List Ent} {H G:List B} (gh:GH H (srtE (List.range E.length) E)) {d:Nat}:V.view (hp (.mp (Q00 (entK E)) (entV E)) H++G) (d+3) (.mr (0+0))=some (gatV (E.map Ent.p)):=by
 have hk:∀ l,mapO (V.view (hp (.mp (Q00 (entK E)) (entV E)) H++G) (d+2)) (Q00 l)=some (Q00 l):=fun l=>Q4g l
 have hv:∀ l:List Ent,(∀ e∈l,∃ j:Nat,E[j]?=some e)→mapO (V.view (hp (.mp (Q00 (entK E)) (entV E)) H++G) (d+2)) (entV l)=some ((l.map Ent.p).map PE.v):=by
  intro l
  induction l with
  | nil=>intro _;rfl
  | cons e l ih =>
   intro hl
   obtain ⟨j,hj⟩:=hl e (by simp)
   have hm:(srtE (List.range E.length) E)[j]?=some ⟨e.k,e.id,e.c,Q0k e.L⟩:=by
    rw [Q2b hj,if_pos (List.mem_range.2 (jB.1 hj).1)]
   have h1:V.view (hp (.mp (Q00 (entK E)) (entV E)) H++G) (d+2) (lv e.id e.c (Q0k e.L))=some (lw e.c (Q0k e.L)) :=
    Qdz fun hne=>HP.bget_o (gh _ (jE hm) hne)
   rw [Qrm (M:=e.L) (Q21 _)] at h1
   have:=(VwL.cons ⟨h1⟩ ⟨ih (fun x hx=>hl x (by simp [hx]))⟩).1
   exact this
 have h3:=hv E fun e he=>List.getElem?_of_mem he
 have hb:bget (hp (.mp (Q00 (entK E)) (entV E)) H++G) (0+0)=some (.mp (Q00 (entK E)) (entV E)):=HP.bget_0
 have e1:(E.map Ent.p).map (·.k)=entK E:=by simp [entK,Ent.p,Function.comp_def]
 show (match bget _ (0+0) with|some (.mp ks vs)=>_|_=>_)=_
 rw [hb]
 show (match mapO (V.view _ (d+2)) (Q00 (entK E)) with|some a=>_|none=>_)=_
 rw [hk]
 show (match mapO (V.view _ (d+2)) (entV E) with|some b=>some (V.rm (Q00 (entK E)) b)|none=>none)=_
 rw [h3,gatV,e1]
end Go.Dr.T6
