/- Top, of chapter 06: gather: the marks of elements, and which are directly behind which: the state. -/
import Derived.Test.YtbnmdlnkhghbpaaGreatDoorG12
namespace Go.Dr.T6
open Go.Dr.T
def known (l:List (Int × Int)):List Int:=(l.map (·.1)).filter fun m=>decide (m≠0)
def nexts:List Int→List (Int × Int)
 | a::b::l=>(a,b)::nexts (b::l)
 | _=>[]
def lastM:List Int→Int
 | []=>0
 | [a]=>a
 | _::b::l=>lastM (b::l)
def Q1f (l:List El):List Int:=l.flatMap fun e=>known e.l
def Q26 (l:List El):List (Int × Int):=l.flatMap fun e=>nexts (known e.l)
theorem Q6d {m:Int}:∀ {l:List Int},nexts (l++[m])=nexts l++(if l=[] then [] else [(lastM l,m)])
 | []=>rfl
 | [a]=>rfl
 | a::b::l=>by
  have:=Q6d (m:=m) (l:=b::l)
  simp only [List.cons_append,nexts,lastM] at this ⊢
  rw [this];simp
theorem lastM_snoc {m:Int}:∀ {l:List Int},lastM (l++[m])=m
 | []=>rfl
 | [a]=>rfl
 | a::b::l=>by simpa only [List.cons_append,lastM] using lastM_snoc (m:=m) (l:=b::l)
theorem Q2x:∀ {l:List Int},l≠[]→lastM l∈l
 | [a],_=>by simp [lastM]
 | a::b::l,_=>by
  have:=Q2x (l:=b::l) (by simp)
  simp only [lastM];exact List.mem_cons_of_mem _ this
theorem Q3b {l:List (Int × Int)} {i:Nat} {p:Int × Int} (h:l[i]?=some p):known (l.take (i+1))=if p.1=0 then known (l.take i) else known (l.take i)++[p.1]:=by
 have:l.take (i+1)=l.take i++[p]:=by rw [List.take_add_one,h];rfl
 rw [this]
 unfold known
 by_cases hp:p.1=0
 ·simp [hp]
 ·simp [hp]
theorem Qb6 {l:List (Int × Int)} {m:Int} (h:m∈known l):m≠0:=by
 unfold known at h
 have:=(List.mem_filter.1 h).2
 simpa using this
structure Ent where
 k:Int
 id:Nat
 c:Bool
 L:List Int
def lv (id:Nat) (c:Bool):List Int→V
 | []=>.nilsl
 | _::r=>.ms 1 (id+1) (r.length+1) 0 (r.length+1) c
def Ent.v (e:Ent):V:=lv e.id e.c e.L
def entK (E:List Ent):List Int:=E.map (·.k)
def entV (E:List Ent):List V:=E.map (·.v)
def GH (H:List B) (E:List Ent):Prop:=∀ e∈E,e.L≠[]→bget H e.id=some (.blk (Q00 e.L) true)
def GD (E:List Ent):Prop:=E.Pairwise fun a b=>a.L≠[]→b.L≠[]→a.id≠b.id
structure GE (E:List Ent) (A:List Int) (D:List (Int × Int)):Prop where
 nd:(entK E).Nodup
 ks:∀ k,k∈entK E↔k∈A
 ln:∀ e∈E,e.L.Nodup
 ls:∀ e∈E,∀ b,b∈e.L↔(e.k,b)∈D
theorem GH.app {H G:List B} {E:List Ent} (h:GH H E):GH (H++G) E:=fun e he hn=>Q01 (h e he hn)
theorem GH.lt {H:List B} {E:List Ent} (h:GH H E) {e:Ent} (he:e∈E) (hn:e.L≠[]):e.id<H.length:=Q05 (h e he hn)
theorem Qq2 {E:List Ent} {n:Nat} (h:blos n (entV E)=true) {e:Ent} (he:e∈E) (hn:e.L≠[]):e.id+1<n:=by
 have:=Q99 h (List.mem_map.2 ⟨e,he,rfl⟩)
 unfold Ent.v at this
 cases hL:e.L with
 | nil=>exact absurd hL hn
 | cons x r=>rw [hL] at this;simpa [lv,V.blo] using this
theorem GH.norm {mk:List Bool} {hl:Nat} {tm:List V} {ks:List V} {x0:B} {H G l0:List B} {E:List Ent} (h:GH (H++G) E) (hh:hl=(hp x0 l0).length) (hn:l0.length≤H.length):∃ T,norm mk hl ⟨tm,hp (.mp ks (entV E)) H++G⟩=⟨Q0m mk tm,hp (.mp ks (entV E)) T⟩∧l0.length≤T.length∧GH T E:=by
 obtain ⟨T,h1,h2,j,rfl,h3⟩:=Qte (mk:=mk) (tm:=tm) (x:=.mp ks (entV E)) (g:=G) hh hn
 refine ⟨_,h1,h2,fun e he hne=>?_⟩
 have hb:=h e he hne
 have hlt:=h.lt he hne
 rw [Q09]
 ·exact hb
 ·rcases h3 with rfl|⟨_,h3,_⟩
  ·exact hlt
  ·simp only [B.blo,jF] at h3
   have:=Qq2 h3.2 he hne
   omega
theorem Q3g (E:List Ent) (e:Ent):entK (E++[e])=entK E++[e.k]:=by simp [entK]
theorem Q5u (E:List Ent) (e:Ent):entV (E++[e])=entV E++[e.v]:=by simp [entV]
theorem Q1s {E:List Ent} {j:Nat} {e e':Ent} (hj:E[j]?=some e) (hk:e'.k=e.k):entK (E.set j e')=entK E:=by
 unfold entK
 apply List.ext_getElem?
 intro i
 rw [jH,jH,List.getElem?_set]
 split
 ·rename_i h;subst h
  rw [hj];split
  ·simp [hk]
  ·rename_i h;have:=(jB.1 hj).1;omega
 ·rfl
theorem Qk6:∀ (l:List V) (j:Nat) (v:V),tset l j v=l.set j v
 | [],_,_=>rfl
 | _::_,0,_=>rfl
 | x::l,j+1,v=>by simp only [tset,List.set_cons_succ,Qk6 l j v]
theorem Q2q (E:List Ent) (j:Nat) (e:Ent):entV (E.set j e)=tset (entV E) j e.v:=by
 rw [Qk6];simp [entV,List.map_set]
theorem Q7p:∀ {l:List V} {j:Nat} {v:V},l[j]?=some v→tg l j=v
 | _::_,0,_,h=>by simpa [tg] using h
 | _::l,j+1,_,h=>Q7p (l:=l) (by simpa using h)
theorem Q8s {E:List Ent} {j:Nat} {e:Ent} (h:E[j]?=some e):tg (entV E) j=e.v:=Q7p (by simp [entV,h])
theorem Q5t {E:List Ent} {k:Int} (h:k∈entK E):∃ j e,E[j]?=some e∧e.k=k∧Q0w 0 (.int .i64 k) (Q00 (entK E)) 0=some (some j):=by
 obtain ⟨j,h1,h2,h3⟩:=Q39 (i:=0) h
 rw [Nat.zero_add] at h3
 have h1':j<E.length:=by simpa [entK] using h1
 refine ⟨j,E[j],jC h1',?_,h3⟩
 simp [entK,jC h1'] at h2
 exact h2
theorem GE.more {E:List Ent} {A:List Int} {D:List (Int × Int)} (g:GE E A D) {j:Nat} {e e':Ent} {m:Int} (hj:E[j]?=some e) (hk:e'.k=e.k) (hL:e'.L=e.L++[m]) (hm:m∉e.L):GE (E.set j e') A (D++[(e.k,m)]):=by
 have hnk:=Q1s hj hk
 have hin:∀ x∈E.set j e',x=e'∨(x∈E∧x.k≠e.k):=fun x hx=>by
  obtain ⟨i,hi,rfl⟩:=List.mem_iff_getElem.1 hx
  rw [List.getElem_set]
  split
  ·exact .inl rfl
  ·rename_i hne
   refine .inr ⟨List.getElem_mem _,fun hkk=>hne ?_⟩
   have hi':i<E.length:=by simpa using hi
   obtain ⟨hjl,hje⟩:=jB.1 hj
   have:=(List.getElem?_inj (l:=entK E) (i:=j) (j:=i) (by simpa [entK] using hjl) g.nd).1 (by simp only [entK,jH,jC hjl,jC hi',Option.map_some,hje,hkk])
   exact this
 have hmem:=jE hj
 refine ⟨by rw [hnk];exact g.nd,by rw [hnk];exact g.ks,fun x hx=>?_,fun x hx b=>?_⟩
 ·rcases hin x hx with rfl|⟨hx,_⟩
  ·rw [hL,List.nodup_append]
   exact ⟨g.ln _ hmem,by simp,fun a ha b hb=>by rw [jJ] at hb;subst hb;rintro rfl;exact hm ha⟩
  ·exact g.ln x hx
 ·rcases hin x hx with rfl|⟨hx,hne⟩
  ·rw [hL,hk,jK,jK,g.ls e hmem,jJ,jJ]
   simp
  ·rw [g.ls x hx,jK,jJ]
   constructor
   ·exact .inl
   ·rintro (h|h)
    ·exact h
    ·simp only [jN] at h;exact absurd h.1 hne
theorem GE.same {E:List Ent} {A A':List Int} {D D':List (Int × Int)} (g:GE E A D) (hA:∀ k,k∈A↔k∈A') (hD:∀ p,p∈D↔p∈D'):GE E A' D':=⟨g.nd,fun k=>(g.ks k).trans (hA k),g.ln,fun e he b=>(g.ls e he b).trans (hD _)⟩
theorem GE.put {E:List Ent} {A:List Int} {D:List (Int × Int)} (g:GE E A D) {j:Nat} {e e':Ent} (hj:E[j]?=some e) (hk:e'.k=e.k) (hL:e'.L=e.L):GE (E.set j e') A D:=by
 have hmem:=jE hj
 have hin:∀ x∈E.set j e',x=e'∨x∈E:=fun x hx=>(List.mem_or_eq_of_mem_set hx).symm
 refine ⟨by rw [Q1s hj hk];exact g.nd,by rw [Q1s hj hk];exact g.ks,fun x hx=>?_,fun x hx b=>?_⟩
 ·rcases hin x hx with rfl|hx
  ·rw [hL];exact g.ln _ hmem
  ·exact g.ln x hx
 ·rcases hin x hx with rfl|hx
  ·rw [hL,hk];exact g.ls _ hmem b
  ·exact g.ls x hx b
theorem GE.new {E:List Ent} {A:List Int} {D:List (Int × Int)} (g:GE E A D) {e:Ent} (hk:e.k∉A) (hL:e.L=[]) (hD:∀ b,(e.k,b)∉D):GE (E++[e]) (A++[e.k]) D:=by
 refine ⟨?_,fun k=>?_,fun x hx=>?_,fun x hx b=>?_⟩
 ·rw [Q3g,List.nodup_append]
  exact ⟨g.nd,by simp,fun a ha b hb=>by rw [jJ] at hb;subst hb;rintro rfl;exact hk ((g.ks _).1 ha)⟩
 ·rw [Q3g,jK,jK,g.ks]
 ·rcases jK.1 hx with hx|hx
  ·exact g.ln x hx
  ·rw [jJ] at hx;subst hx;rw [hL];exact .nil
 ·rcases jK.1 hx with hx|hx
  ·exact g.ls x hx b
  ·rw [jJ] at hx;subst hx;rw [hL];simp [hD b]
theorem GH.set {H:List B} {E:List Ent} (h:GH H E) {j:Nat} {e':Ent} (he:e'.L≠[]→bget H e'.id=some (.blk (Q00 e'.L) true)):GH H (E.set j e'):=fun x hx hn=>by
 rcases List.mem_or_eq_of_mem_set hx with hx|rfl
 ·exact h x hx hn
 ·exact he hn
theorem GD.set {E:List Ent} (h:GD E) {j:Nat} {e':Ent} (hd:∀ i x,E[i]?=some x→i≠j→x.L≠[]→e'.L≠[]→x.id≠e'.id):GD (E.set j e'):=by
 unfold GD at h ⊢
 rw [List.pairwise_iff_getElem] at h ⊢
 intro a b ha hb hab h1 h2
 have ha':a<E.length:=by simpa using ha
 have hb':b<E.length:=by simpa using hb
 rw [List.getElem_set] at h1 ⊢
 rw [List.getElem_set] at h2 ⊢
 by_cases hja:j=a
 ·have hjb:j≠b:=by omega
  rw [if_pos hja] at h1 ⊢
  rw [if_neg hjb] at h2 ⊢
  exact (hd b _ (jC hb') (by omega) h2 h1).symm
 ·rw [if_neg hja] at h1 ⊢
  by_cases hjb:j=b
  ·rw [if_pos hjb] at h2 ⊢
   exact hd a _ (jC ha') (by omega) h1 h2
  ·rw [if_neg hjb] at h2 ⊢
   exact h a b ha' hb' hab h1 h2
theorem GD.snoc {E:List Ent} (h:GD E) {e:Ent} (hL:e.L=[]):GD (E++[e]):=by
 unfold GD at h ⊢
 rw [List.pairwise_append]
 exact ⟨h,by simp,fun a _ b hb _ h2=>by rw [jJ] at hb;subst hb;exact absurd hL h2⟩
end Go.Dr.T6
namespace Go.Dr.T6
open Go.Dr.T
structure PE where
 k:Int
 c:Bool
 L:List Int
def Ent.p (e:Ent):PE:=⟨e.k,e.c,e.L⟩
def pUp (F:List PE) (a m:Int):List PE:=F.map fun e=>if e.k=a∧m∉e.L then ⟨e.k,false,e.L++[m]⟩ else e
def pCl (F:List PE) (m:Int):List PE:=if m∈F.map (·.k) then F.map fun e=>if e.k=m then ⟨e.k,true,e.L⟩ else e else F++[⟨m,true,[]⟩]
def Q80 (s:List PE × Int) (p:Int × Int):List PE × Int:=if p.1=0 then s else (pCl (if 0<s.2 then pUp s.1 s.2 p.1 else s.1) p.1,p.1)
def pEl (F:List PE) (x:El):List PE:=(x.l.foldl Q80 (F,0)).1
def pAll (l:List El):List PE:=l.foldl pEl []
def lw (c:Bool):List Int→V
 | []=>.sl true 0 []
 | x::r=>.sl c (r.length+1) (Q00 (x::r))
def PE.v (e:PE):V:=lw e.c (Q0k e.L)
def gatV (F:List PE):V:=.rm (Q00 (F.map (·.k))) (F.map PE.v)
def dupF (pre:List El):List El→Bool
 | []=>false
 | x::r=>nmE x.nm pre||dupF (pre++[x]) r
def vldE (l:List El):Int:=if 8<l.length then 3 else if ckd l≠0 then ckd l else if dupF [] l then 5 else 0
def Q1l (l:List El):V:=if vldE l≠0 then .tup [.nilmap,.int .i64 (vldE l)] else .tup [gatV (pAll l),.int .i64 0]
theorem Qur {id:Nat} {c:Bool} {L:List Int} {h:List B} {ro:Nat} {K:V→List B→Prop} (hb:L≠[]→id+1<h.length) (hl:L.length≤140737488355328) (hk:K (lv id true L) h):CallP FB md ro (.fn 48 []) [lv id c L] h K:=by
 cases L with
 | nil =>
  refine Qhr rfl rfl rfl ?_
  repeat' ((conv=>whnf);first|refine fLen.mk ?_|refine fB.mk ?_|refine zI ?_|refine Get.mk _ rfl ?_|refine Ends.of ?_|refine zR ?_)
  exact hk
 | cons x r =>
  simp only [List.length_cons] at hl
  have hlt:=hb (by simp)
  refine Qhr rfl rfl rfl ?_
  have e1:r.length+1-0=r.length+1:=rfl
  repeat' ((conv=>whnf);first|refine fLen.mk ?_|refine fB.mk ?_|refine Req.mk (decide_eq_true hlt) ?_|refine zN ?_|refine Get.mk _ rfl ?_|refine Ends.of ?_)
  simpa [lv] using hk
theorem Q4g {h:List B} {d:Nat}:∀ l:List Int,mapO (V.view h (d+1)) (Q00 l)=some (Q00 l)
 | []=>rfl
 | x::l=>by
  have:=Q4g (h:=h) (d:=d) l
  simp only [Q00,List.map_cons,mapO,V.view] at this ⊢
  rw [this]
theorem Qdz {h:List B} {d id:Nat} {c:Bool} {L:List Int} (hb:L≠[]→bget h (id+1)=some (.blk (Q00 L) true)):V.view h (d+2) (lv id c L)=some (lw c L):=by
 cases L with
 | nil=>rfl
 | cons x r =>
  have:=hb (by simp)
  have hl:(Q00 (x::r)).length=r.length+1:=by simp [Q00]
  have hp:part (Q00 (x::r)) 0 ((r.length+1)*1)=some (Q00 (x::r)):=Q0y (by rw [hl,Nat.mul_one])
  exact (Vw.ms (clip:=c) this hl hp ⟨Q4g _⟩).1
theorem Qoh {x:B} {H G:List B} {id:Nat} {c:Bool} {L:List Int} {m:Int} (hb:L≠[]→bget H id=some (.blk (Q00 L) true)):Q1o (hp x H++G) depth [lv id c L,.int .i64 m]=some [lw c L,.int .i64 m]:=by
 have:=Qdz (h:=hp x H++G) (d:=62) (id:=id) (c:=c) (L:=L) (fun hn=>HP.bget_o (hb hn))
 exact (VwL.cons ⟨this⟩ (VwL.cons (Vw.int rfl) VwL.nil)).1
theorem Q3t {x:B} {H G:List B} {id:Nat} {c:Bool} {L:List Int} {ro:Nat} {K:V→List B→Prop} (hb:L≠[]→id<H.length) (hl:L.length≤140737488355328) (hk:K (lv id true L) (hp x H++G)):CallP FB md ro (.fn 48 []) [lv id c L] (hp x H++G) K :=
 Qur (fun hn=>by have:=hb hn;rw [jD,Q22];omega) hl hk
theorem Q8x {c:Bool} {L:List Int} {m:Int} (hl:L.length≤140737488355328):Fun FB md 47 [lw c L,.int .i64 m] (.bool (hasB m L)):=by
 cases L with
 | nil=>exact Q54 (l:=[]) (by simp)
 | cons x r=>exact Q54 (l:=x::r) hl
theorem Qhk:∀ {l:List (Int × Int)} {k i:Nat},(ckF l i k).2=0→∀ n,i≤n→n<i+k→eF l n=0
 | l,0,i,_,n,h1,h2=>by omega
 | l,k+1,i,h,n,h1,h2=>by
  unfold ckF at h
  by_cases he:eF l i≠0
  ·rw [if_pos he] at h;exact absurd h he
  ·rw [if_neg he] at h
   by_cases hn:n=i
   ·subst hn;exact Classical.not_not.1 he
   ·exact Qhk h n (by omega) (by omega)
theorem Qud {l:List (Int × Int)} {i:Nat} {p:Int × Int} (hp:l[i]?=some p) (h:eF l i=0):0≤p.1∧p.1≤999∧1≤p.2∧p.2≤200000∧(p.1≠0→p.1∉(l.take i).map (·.1)):=by
 unfold eF at h
 rw [hp] at h
 simp only at h
 split at h
 ·cases h
 ·rename_i h1
  split at h
  ·cases h
  ·rename_i h2
   simp only [outB,Bool.or_eq_true,jG,not_or] at h1
   obtain ⟨⟨a,b⟩,c,d⟩:=h1
   refine ⟨by omega,by omega,by omega,by omega,fun hn hm=>h2 ⟨by omega,hm⟩⟩
theorem Qnq {nm:List UInt8} {l:List (Int × Int)} {g:Int} (h:(ckE nm l g).2=0):nmOk nm=true∧0≤g∧g≤9∧l.length≤40∧∀ i p,l[i]?=some p→0≤p.1∧p.1≤999∧1≤p.2∧p.2≤200000∧(p.1≠0→p.1∉(l.take i).map (·.1)):=by
 unfold ckE at h
 split at h
 ·cases h
 ·rename_i h1
  split at h
  ·cases h
  ·rename_i h2
   split at h
   ·cases h
   ·rename_i h3
    simp only [outB,Bool.or_eq_true,jG,not_or] at h2
    refine ⟨by simpa using h1,by omega,by omega,by omega,fun i p hp=>Qud hp (Qhk h i (Nat.zero_le _) ?_)⟩
    rw [Nat.zero_add];exact (jB.1 hp).1
theorem Qhj {l:List El} (h:ckd l=0):∀ x∈l,x.e=0:=by
 induction l with
 | nil=>simp
 | cons a l ih =>
  unfold ckd at h
  by_cases ha:a.e≠0
  ·rw [if_pos ha] at h;exact absurd h ha
  ·rw [if_neg ha] at h
   intro x hx
   rcases List.mem_cons.1 hx with rfl|hx
   ·exact Classical.not_not.1 ha
   ·exact ih h x hx
theorem Q8d {l:List (Int × Int)} {i:Nat} {m:Int} (h:m∈known (l.take i)):m∈(l.take i).map (·.1):=(List.mem_filter.1 h).1
end Go.Dr.T6
