/- Top, of chapter 06: Whole as a function of what it is given; the table with it. -/
import Derived.Test.YtbnmdlnkhghbpaaGreatDoorR20T4
import Derived.Test.YtbnmdlnkhghbpaaGreatDoorG12
import Derived.Test.YtbnmdlnkhghbpaaGreatDoorDrJ
namespace Go.Dr.T6
open Go.Dr.T
def wayP (D:List PE) (a t ab:Int):Option (List Int):=(Q65 D a t ab 1002 0 []).getD none
def Q1c (D:List PE):List Int:=D.map (·.k)
theorem Qcy {l:List El}:V.view [] depth (Q1l l)=some (Q1l l):=by
 unfold Q1l
 split<;>rfl
end Go.Dr.T6
namespace Go.Dr.T6
open Go.Dr.T
theorem Qet (F:List PE) (a m:Int):Q1c (pUp F a m)=Q1c F:=by
 unfold Q1c pUp
 rw [List.map_map]
 apply List.map_congr_left
 intro e _
 dsimp only [Function.comp]
 split
 ·rfl
 ·rfl
theorem Q8o {p:PE→Bool} {f:PE→PE} (h:∀ e,p (f e)=p e):∀ l:List PE,(l.map f).find? p=(l.find? p).map f
 | []=>rfl
 | e::l=>by
  rw [List.map_cons,List.find?_cons,List.find?_cons,h]
  split
  ·rfl
  ·exact Q8o h l
theorem Qef {F:List PE} {o:Int} (h:o∉Q1c F):pM F o=[]:=by
 unfold pM
 rw [List.find?_eq_none.2 (fun e he=>by
  simp only [jG]
  exact fun hk=>h (hk▸List.mem_map.2 ⟨e,he,rfl⟩))]
theorem Qre {F:List PE} {o:Int} (h:o∈Q1c F):∃ e∈F,e.k=o∧F.find? (fun e=>decide (e.k=o))=some e∧pM F o=e.L:=by
 unfold pM
 cases hf:F.find? (fun e=>decide (e.k=o)) with
 | none =>
  obtain ⟨e,he,hk⟩:=List.mem_map.1 h
  have:=List.find?_eq_none.1 hf e he
  simp [hk] at this
 | some e =>
  exact ⟨e,List.mem_of_find?_eq_some hf,by simpa using List.find?_some hf,rfl,rfl⟩
theorem pM_up {F:List PE} {a m o:Int}:pM (pUp F a m) o=if o=a∧a∈Q1c F∧m∉pM F a then pM F o++[m] else pM F o:=by
 have e:(pUp F a m).find? (fun e=>decide (e.k=o))=(F.find? (fun e=>decide (e.k=o))).map fun e=>if e.k=a∧m∉e.L then ⟨e.k,false,e.L++[m]⟩ else e:=by
  unfold pUp
  refine Q8o (fun e=>?_) F
  split<;>rfl
 by_cases ho:o∈Q1c F
 ·obtain ⟨e1,he,hk,hf,hL⟩:=Qre ho
  rw [show pM (pUp F a m) o=(match (pUp F a m).find? (fun e=>decide (e.k=o)) with|some e=>e.L|none=>[]) from rfl,e,hf,hL]
  dsimp only [Option.map]
  by_cases hoa:o=a
  ·subst hoa
   by_cases hm:m∈e1.L
   ·rw [if_neg (fun h=>h.2 hm),if_neg (fun h=>h.2.2 (by rw [hL];exact hm))]
   ·rw [if_pos ⟨hk,hm⟩,if_pos ⟨rfl,ho,by rw [hL];exact hm⟩]
  ·rw [if_neg (fun h=>hoa (hk.symm.trans h.1)),if_neg (fun h=>hoa h.1)]
 ·rw [Qef (F:=pUp F a m) (by rw [Qet];exact ho),if_neg (show ¬ (o=a∧a∈Q1c F∧m∉pM F a) from fun h=>ho (by rw [h.1];exact h.2.1)),Qef ho]
theorem pM_cl {F:List PE} {m o:Int}:pM (pCl F m) o=pM F o:=by
 unfold pCl
 split
 ·have e:=Q8o (p:=fun e=>decide (e.k=o)) (f:=fun e:PE=>if e.k=m then ⟨e.k,true,e.L⟩ else e) (fun e=>by split<;>rfl) F
  unfold pM
  rw [e]
  cases F.find? (fun e=>decide (e.k=o)) with
  | none=>rfl
  | some e1 =>
   dsimp only [Option.map]
   split<;>rfl
 ·rename_i hm
  unfold pM
  rw [List.find?_append]
  cases hf:F.find? (fun e=>decide (e.k=o)) with
  | some e1=>rfl
  | none =>
   rw [Option.none_or,List.find?_cons,List.find?_nil]
   dsimp only
   by_cases h:m=o
   ·rw [decide_eq_true h]
   ·rw [decide_eq_false h]
theorem Qm8 {F:List PE} {m:Int}:Q1c (pCl F m)=if m∈Q1c F then Q1c F else Q1c F++[m]:=by
 unfold pCl
 by_cases h:m∈Q1c F
 ·rw [if_pos h,if_pos (show m∈F.map (·.k) from h)]
  unfold Q1c
  rw [List.map_map]
  apply List.map_congr_left
  intro e _
  dsimp only [Function.comp]
  split<;>rfl
 ·rw [if_neg h,if_neg (show ¬ m∈F.map (·.k) from h)]
  simp [Q1c]
structure PI (F:List PE) (A:List Int) (D:List (Int × Int)):Prop where
 nd:(Q1c F).Nodup
 ks:∀ k,k∈Q1c F↔k∈A
 ls:∀ o b,b∈pM F o↔(o,b)∈D
 ln:∀ o,(pM F o).Nodup
theorem PI.up {F:List PE} {A:List Int} {D:List (Int × Int)} (g:PI F A D) {a m:Int} (ha:a∈Q1c F):PI (pUp F a m) A (D++[(a,m)]):=by
 refine ⟨by rw [Qet];exact g.nd,fun k=>by rw [Qet];exact g.ks k,fun o b=>?_,fun o=>?_⟩
 ·rw [pM_up,jK,← g.ls o b,jJ,jN]
  by_cases hoa:o=a
  ·subst hoa
   by_cases hm:m∈pM F o
   ·rw [if_neg (fun h=>h.2.2 hm)]
    constructor
    ·exact .inl
    ·rintro (h|⟨_,rfl⟩)
     ·exact h
     ·exact hm
   ·rw [if_pos ⟨rfl,ha,hm⟩,jK,jJ]
    constructor
    ·rintro (h|h)
     ·exact .inl h
     ·exact .inr ⟨rfl,h⟩
    ·rintro (h|⟨_,h⟩)
     ·exact .inl h
     ·exact .inr h
  ·rw [if_neg (fun h=>hoa h.1)]
   constructor
   ·exact .inl
   ·rintro (h|⟨h,_⟩)
    ·exact h
    ·exact absurd h hoa
 ·rw [pM_up]
  split
  ·rename_i h
   rw [List.nodup_append]
   refine ⟨g.ln o,by simp,fun x hx y hy=>?_⟩
   rw [jJ] at hy
   subst hy
   intro e
   subst e
   exact h.2.2 (h.1▸hx)
  ·exact g.ln o
theorem PI.cl {F:List PE} {A:List Int} {D:List (Int × Int)} (g:PI F A D) {m:Int}:PI (pCl F m) (A++[m]) D:=by
 refine ⟨?_,fun k=>?_,fun o b=>by rw [pM_cl];exact g.ls o b,fun o=>by rw [pM_cl];exact g.ln o⟩
 ·rw [Qm8]
  split
  ·exact g.nd
  ·rename_i h
   rw [List.nodup_append]
   refine ⟨g.nd,by simp,fun x hx y hy=>?_⟩
   rw [jJ] at hy
   subst hy
   intro e
   subst e
   exact h hx
 ·rw [Qm8,jK,jJ,← g.ks k]
  split
  ·rename_i h
   constructor
   ·exact .inl
   ·rintro (h1|rfl)
    ·exact h1
    ·exact h
  ·rw [jK,jJ]
theorem PI.el {F:List PE} {A:List Int} {D:List (Int × Int)} (g:PI F A D) {x:El} (hx:∀ p∈x.l,0≤p.1):PI (pEl F x) (A++known x.l) (D++nexts (known x.l)):=by
 have key:∀ i,i≤x.l.length→PI ((x.l.take i).foldl Q80 (F,0)).1 (A++known (x.l.take i)) (D++nexts (known (x.l.take i)))∧((x.l.take i).foldl Q80 (F,0)).2=lastM (known (x.l.take i)):=by
  intro i
  induction i with
  | zero =>
   intro _
   refine ⟨?_,rfl⟩
   simpa [known,nexts] using g
  | succ i ih =>
   intro hi
   obtain ⟨g1,h2⟩:=ih (by omega)
   obtain ⟨p,hp⟩:∃ p,x.l[i]?=some p:=⟨_,jC (by omega)⟩
   rw [Q8m hp,Q3b hp]
   have hst:∀ s:List PE × Int,Q80 s p=if p.1=0 then s else (pCl (if 0<s.2 then pUp s.1 s.2 p.1 else s.1) p.1,p.1):=fun s=>rfl
   rw [hst]
   by_cases h0:p.1=0
   ·rw [if_pos h0,if_pos h0]
    exact ⟨g1,h2⟩
   ·rw [if_neg h0,if_neg h0]
    refine ⟨?_,lastM_snoc.symm⟩
    rw [h2,Q6d,← jO,← jO]
    by_cases hk:known (x.l.take i)=[]
    ·rw [if_pos hk,hk]
     rw [if_neg (show ¬ 0<lastM [] from by decide)]
     have:=g1.cl (m:=p.1)
     rw [hk] at this
     simpa using this
    ·rw [if_neg hk]
     have hl:=Q2x hk
     have hpos:0<lastM (known (x.l.take i)):=by
      have h3:=Qb6 hl
      obtain ⟨q,hq,e⟩:=List.mem_map.1 (Q8d hl)
      have:=hx q (List.mem_of_mem_take hq)
      omega
     rw [if_pos hpos]
     exact (g1.up ((g1.ks _).2 (List.mem_append_right _ hl))).cl
 have:=(key x.l.length (Nat.le_refl _)).1
 rwa [List.take_length] at this
theorem pi_all {l:List El} (h:∀ x∈l,∀ p∈x.l,0≤p.1):PI (pAll l) (Q1f l) (Q26 l):=by
 have key:∀ i,i≤l.length→PI (pAll (l.take i)) (Q1f (l.take i)) (Q26 (l.take i)):=by
  intro i
  induction i with
  | zero=>intro _;exact ⟨List.nodup_nil,fun k=>Iff.rfl,fun o b=>by simp [pAll,pM,Q26],fun o=>by simp [pAll,pM]⟩
  | succ i ih =>
   intro hi
   obtain ⟨x,hx⟩:∃ x,l[i]?=some x:=⟨_,jC (by omega)⟩
   rw [Qch hx,Q9x hx,Qd7 hx]
   exact (ih (by omega)).el (h x (jE hx))
 have:=key l.length (Nat.le_refl _)
 rwa [List.take_length] at this
theorem vld_good {l:List El} (h:vldE l=0):l.length≤8∧ckd l=0∧dupF [] l=false:=by
 unfold vldE at h
 split at h
 ·cases h
 ·rename_i h1
  split at h
  ·rename_i h2;exact absurd h h2
  ·rename_i h2
   split at h
   ·cases h
   ·rename_i h3
    exact ⟨by omega,Classical.not_not.1 h2,by simpa using h3⟩
theorem vld_el {l:List El} (h:vldE l=0) {x:El} (hx:x∈l):x.l.length≤40∧∀ p∈x.l,0≤p.1∧p.1≤999∧1≤p.2∧p.2≤200000:=by
 obtain ⟨_,_,_,h4,h5⟩:=Qnq (Qhj (vld_good h).2.1 x hx)
 refine ⟨h4,fun p hp=>?_⟩
 obtain ⟨i,hi⟩:=List.getElem?_of_mem hp
 have:=h5 i p hi
 exact ⟨this.1,this.2.1,this.2.2.1,this.2.2.2.1⟩
theorem Qcn {a b:Int}:∀ {l:List Int},(a,b)∈nexts l→a∈l∧b∈l
 | [],h=>by cases h
 | [x],h=>by cases h
 | x::y::l,h=>by
  rw [nexts] at h
  rcases List.mem_cons.1 h with h|h
  ·rw [jN] at h;obtain ⟨rfl,rfl⟩:=h;simp
  ·have:=Qcn h
   exact ⟨List.mem_cons_of_mem _ this.1,List.mem_cons_of_mem _ this.2⟩
theorem Qq4 {l:List El} {a b:Int} (h:(a,b)∈Q26 l):a∈Q1f l∧b∈Q1f l:=by
 obtain ⟨x,hx,hm⟩:=List.mem_flatMap.1 h
 have:=Qcn hm
 exact ⟨List.mem_flatMap.2 ⟨x,hx,this.1⟩,List.mem_flatMap.2 ⟨x,hx,this.2⟩⟩
theorem Qcs {l:List El} (h:vldE l=0) {m:Int} (hm:m∈Q1f l):1≤m∧m≤999:=by
 obtain ⟨x,hx,hm⟩:=List.mem_flatMap.1 hm
 have h0:=Qb6 hm
 obtain ⟨p,hp,rfl⟩:=List.mem_map.1 (List.mem_filter.1 hm).1
 have:=(vld_el h hx).2 p hp
 omega
end Go.Dr.T6
namespace Go.Dr.T6
open Go.Dr.T
def fresh (g:Int→List Int) (a ab:Int) (sn:List Int) (q:Int):List Int:=(g q).filter fun k=>decide (k∉sn∧ab<k∧k≠a)
def pgo (g:Int→List Int) (a t ab:Int):Nat→List (List Int)→List Int→Option (Option (List Int))
 | 0,_,_=>none
 | _+1,[],_=>some none
 | n+1,p::ps,sn=>if t∈g (lastM p) then some (some p) else pgo g a t ab n (ps++(fresh g a ab sn (lastM p)).map fun k=>p++[k]) (sn++fresh g a ab sn (lastM p))
theorem Qb9 {a ab q:Int}:∀ {L:List Int} {bf:List (Int × Int)},L.Nodup→L.foldl (stQ a ab q) bf=bf++(L.filter fun k=>decide (k∉bf.map (·.1)∧ab<k∧k≠a)).map fun k=>(k,q)
 | [],bf,_=>by simp
 | k::L,bf,nd=>by
  rw [List.nodup_cons] at nd
  rw [List.foldl_cons,List.filter_cons]
  by_cases h:k∉bf.map (·.1)∧ab<k∧k≠a
  ·rw [Qe3 h,Qb9 nd.2,if_pos (decide_eq_true h),List.map_cons,jO]
   congr 1
   rw [List.singleton_append]
   congr 2
   apply List.filter_congr
   intro x hx
   rw [decide_eq_decide,List.map_append,jK]
   have:¬ x=k:=fun e=>nd.1 (e▸hx)
   simp [this]
  ·rw [Qe4 h,Qb9 nd.2,if_neg (by simpa using h)]
theorem Qhm {a:Int} {bf:List (Int × Int)}:∀ {n:Nat} {k:Int} {cs:List Int},chain a bf n k=some cs→chain a bf (n+1) k=some cs
 | 0,k,cs,h=>by
  unfold chain at h ⊢
  split at h
  ·rename_i hk;rw [if_pos hk];exact h
  ·cases h
 | n+1,k,cs,h=>by
  rw [chain] at h ⊢
  split at h
  ·rename_i hk;rw [if_pos hk];exact h
  ·rename_i hk
   rw [if_neg hk]
   cases hl:lkp bf k with
   | none=>rw [hl] at h;cases h
   | some p =>
    rw [hl] at h
    dsimp only at h ⊢
    cases hc:chain a bf n p with
    | none=>rw [hc] at h;cases h
    | some r=>rw [hc] at h;rw [Qhm hc];exact h
theorem Qhn {a:Int} {bf:List (Int × Int)} {n m:Nat} {k:Int} {cs:List Int} (h:chain a bf n k=some cs) (hm:n≤m):chain a bf m k=some cs:=by
 obtain ⟨d,rfl⟩:=Nat.le.dest hm
 induction d with
 | zero=>exact h
 | succ d ih=>exact Qhm (ih (by omega))
theorem Qtp {bf e:List (Int × Int)} {k p:Int} (h:lkp bf k=some p):lkp (bf++e) k=some p:=by
 unfold lkp at h ⊢
 rw [List.find?_append]
 cases hf:bf.find? fun p=>decide (k=p.1) with
 | none=>rw [hf] at h;cases h
 | some x=>rw [hf] at h;exact h
theorem Q8z {a:Int} {bf e:List (Int × Int)}:∀ {n:Nat} {k:Int} {cs:List Int},chain a bf n k=some cs→chain a (bf++e) n k=some cs
 | 0,k,cs,h=>by
  unfold chain at h ⊢
  exact h
 | n+1,k,cs,h=>by
  rw [chain] at h ⊢
  split at h
  ·rename_i hk;rw [if_pos hk];exact h
  ·rename_i hk
   rw [if_neg hk]
   cases hl:lkp bf k with
   | none=>rw [hl] at h;cases h
   | some p =>
    rw [hl] at h
    rw [Qtp hl]
    dsimp only at h ⊢
    cases hc:chain a bf n p with
    | none=>rw [hc] at h;cases h
    | some r=>rw [hc] at h;rw [Q8z hc];exact h
theorem Qto {bf:List (Int × Int)} {L:List Int} {k q:Int} (h:k∉bf.map (·.1)) (hk:k∈L):lkp (bf++L.map fun k=>(k,q)) k=some q:=by
 unfold lkp
 rw [List.find?_append,List.find?_eq_none.2 (fun p hp=>by
  simp only [jG]
  exact fun e=>h (e▸List.mem_map.2 ⟨p,hp,rfl⟩)),Option.none_or]
 induction L with
 | nil=>cases hk
 | cons x L ih =>
  rw [List.map_cons,List.find?_cons]
  by_cases e:k=x
  ·rw [decide_eq_true e];rfl
  ·rw [decide_eq_false e]
   exact ih (by rcases List.mem_cons.1 hk with h|h;exact absurd h e;exact h)
structure PW (a:Int) (bf:List (Int × Int)) (P:List (List Int)):Prop where
 ln:P.length=bf.length+1
 wy:∀ i p,P[i]?=some p→∃ q cs,(qu a bf)[i]?=some q∧lastM p=q∧chain a bf i q=some cs∧p=(cs++[a]).reverse
 nd:∀ k∈bf.map (·.1),k≠a
theorem PW.step {a:Int} {bf:List (Int × Int)} {P:List (List Int)} (w:PW a bf P) {i:Nat} {p:List Int} {q:Int} (hp:P[i]?=some p) (hq:(qu a bf)[i]?=some q) {L:List Int} (hL:∀ k∈L,k∉bf.map (·.1)∧k≠a):PW a (bf++L.map fun k=>(k,q)) (P++L.map fun k=>p++[k]):=by
 have hi:i<P.length:=(jB.1 hp).1
 have hqa:qu a (bf++L.map fun k=>(k,q))=qu a bf++L:=by simp only [qu,List.map_append,List.map_map,show ((fun x:Int × Int=>x.1) ∘ fun k=>(k,q))=id from rfl,List.map_id,List.cons_append]
 have hqn:(qu a bf).length=P.length:=by rw [w.ln,Q9r]
 refine ⟨by rw [jD,jD,List.length_map,List.length_map,w.ln];omega,fun j p' hj=>?_,fun k hk=>?_⟩
 ·by_cases hjl:j<P.length
  ·rw [List.getElem?_append_left hjl] at hj
   obtain ⟨q',cs,h1,h2,h3,h4⟩:=w.wy j p' hj
   exact ⟨q',cs,by rw [hqa,List.getElem?_append_left (by omega)];exact h1,h2,Q8z h3,h4⟩
  ·rw [List.getElem?_append_right (by omega),jH] at hj
   cases hk:L[j-P.length]? with
   | none=>rw [hk] at hj;cases hj
   | some k =>
    rw [hk,Option.map_some,jA] at hj
    subst hj
    have hkm:=jE hk
    obtain ⟨q',cs,h1,h2,h3,h4⟩:=w.wy i p hp
    rw [h1,jA] at hq
    subst hq
    have hx:=hL k hkm
    refine ⟨k,k::cs,by rw [hqa,List.getElem?_append_right (by omega),hqn];exact hk,lastM_snoc,?_,by rw [h4];simp⟩
    refine Qhn (n:=i+1) ?_ (by omega)
    rw [chain,if_neg hx.2,Qto hx.1 hkm]
    dsimp only
    rw [Q8z h3]
    rfl
 ·rw [List.map_append,jK] at hk
  rcases hk with hk|hk
  ·exact w.nd k hk
  ·rw [List.map_map,show ((fun x:Int × Int=>x.1) ∘ fun k=>(k,q))=id from rfl,List.map_id] at hk
   exact (hL k hk).2
theorem Qjo {D:List PE} {a t ab:Int} (nd:∀ q,(pM D q).Nodup):∀ {n at':Nat} {bf:List (Int × Int)} {P:List (List Int)},PW a bf P→at'≤P.length →
  Q65 D a t ab n at' bf=pgo (fun q=>Q0k (pM D q)) a t ab n (P.drop at') (bf.map (·.1))
 | 0,at',bf,P,w,h=>by rw [Q65,pgo]
 | n+1,at',bf,P,w,h=>by
  rw [Q65]
  have hqn:(qu a bf).length=P.length:=by rw [w.ln,Q9r]
  by_cases hat:at'<P.length
  ·rw [List.drop_eq_getElem_cons hat,pgo]
   have hp:P[at']?=some P[at']:=jC hat
   generalize P[at']=p at *
   obtain ⟨q,cs,h1,h2,h3,h4⟩:=w.wy at' p hp
   rw [h1,h2]
   dsimp only
   have hm:(t∈Q0k (pM D q))↔t∈pM D q:=(Q11 _).mem_iff
   by_cases ht:t∈pM D q
   ·rw [if_pos ht,if_pos (hm.2 ht),Qhn h3 (by have:=w.ln;omega),h4]
    rfl
   ·rw [if_neg ht,if_neg (fun h=>ht (hm.1 h)),Qb9 ((Q11 _).nodup_iff.2 (nd q))]
    have hf:(Q0k (pM D q)).filter (fun k=>decide (k∉bf.map (·.1)∧ab<k∧k≠a))=fresh (fun q=>Q0k (pM D q)) a ab (bf.map (·.1)) q:=rfl
    rw [hf]
    have hL:∀ k∈fresh (fun q=>Q0k (pM D q)) a ab (bf.map (·.1)) q,k∉bf.map (·.1)∧k≠a:=fun k hk=>by
     have:=(List.mem_filter.1 hk).2
     simp only [jG] at this
     exact ⟨this.1,this.2.2⟩
    rw [Qjo nd (w.step hp h1 hL) (by rw [jD];omega)]
    congr 1
    ·rw [List.drop_append_of_le_length (by omega)]
    ·rw [List.map_append,List.map_map,show ((fun x:Int × Int=>x.1) ∘ fun k=>(k,q))=id from rfl,List.map_id]
  ·rw [List.drop_eq_nil_of_le (by omega),pgo,List.getElem?_eq_none (by omega)]
theorem Qjn {D:List PE} {a t ab:Int} (nd:∀ q,(pM D q).Nodup) {n:Nat}:Q65 D a t ab n 0 []=pgo (fun q=>Q0k (pM D q)) a t ab n [[a]] [] :=
 Qjo (P:=[[a]]) nd ⟨rfl,(fun i p hp=>by
  cases i with
  | zero=>rw [List.getElem?_cons_zero,jA] at hp;subst hp;exact ⟨a,[],rfl,rfl,by rw [chain,if_pos rfl],rfl⟩
  | succ i =>
   rw [List.getElem?_cons_succ,List.getElem?_nil] at hp
   cases hp),fun k hk=>by cases hk⟩ (Nat.zero_le _)
theorem Qgq {g:Int→List Int} {a t ab:Int} {U:List Int} (hg:∀ q,(g q).Nodup∧∀ k∈g q,k∈U):∀ {n:Nat} {Q:List (List Int)} {sn:List Int},sn.Nodup→(∀ k∈sn,k∈U)→Q.length+U.length<n+sn.length→∃ r,pgo g a t ab n Q sn=some r
 | 0,Q,sn,nd,hs,h=>by
  have:=List.Nodup.length_le_of_subset nd hs
  omega
 | n+1,[],sn,nd,hs,h=>⟨none,by rw [pgo]⟩
 | n+1,p::ps,sn,nd,hs,h=>by
  rw [pgo]
  split
  ·exact ⟨_,rfl⟩
  ·have hf:∀ k∈fresh g a ab sn (lastM p),k∉sn∧k∈U:=fun k hk=>by
    have:=List.mem_filter.1 hk
    simp only [jG] at this
    exact ⟨this.2.1,(hg _).2 k this.1⟩
   refine Qgq hg ?_ ?_ ?_
   ·rw [List.nodup_append]
    exact ⟨nd,(hg _).1.filter _,fun x hx y hy e=>(hf y hy).1 (e▸hx)⟩
   ·intro k hk
    rcases jK.1 hk with hk|hk
    ·exact hs k hk
    ·exact (hf k hk).2
   ·simp only [jD,List.length_map,List.length_cons] at h ⊢
    omega
theorem Qrd {g:Int→List Int} {a t ab:Int}:∀ {n:Nat} {Q:List (List Int)} {sn:List Int} {p:List Int},(∀ p∈Q,p≠[])→pgo g a t ab n Q sn=some (some p)→p≠[]
 | 0,Q,sn,p,hq,h=>by rw [pgo] at h;cases h
 | n+1,[],sn,p,hq,h=>by rw [pgo] at h;cases h
 | n+1,x::ps,sn,p,hq,h=>by
  rw [pgo] at h
  split at h
  ·rw [jA,jA] at h;subst h;exact hq _ (by simp)
  ·refine Qrd (fun y hy=>?_) h
   rcases jK.1 hy with hy|hy
   ·exact hq y (by simp [hy])
   ·obtain ⟨k,_,rfl⟩:=List.mem_map.1 hy
    simp
inductive Rch (g:Int→List Int) (a ab:Int):Int→Prop
 | base:Rch g a ab a
 | step {q k:Int}:Rch g a ab q→k∈g q→ab<k→Rch g a ab k
end Go.Dr.T6
namespace Go.Dr.T6
open Go.Dr.T
def mks:List Int:=ofR 999
where ofR:Nat→List Int
 | 0=>[]
 | n+1=>ofR n++[((n+1:Nat):Int)]
theorem Qek {k:Int}:∀ {n:Nat},k∈mks.ofR n↔1≤k∧k≤n
 | 0=>by simp only [mks.ofR,List.not_mem_nil,false_iff];omega
 | n+1=>by rw [mks.ofR,jK,Qek,jJ];omega
theorem Qm4:∀ n,(mks.ofR n).length=n
 | 0=>rfl
 | n+1=>by rw [mks.ofR,jD,Qm4];rfl
theorem Qkj:∀ n,(mks.ofR n).Pairwise (· < ·)
 | 0=>List.Pairwise.nil
 | n+1=>by
  rw [mks.ofR,List.pairwise_append]
  refine ⟨Qkj n,List.pairwise_singleton ..,fun x hx y hy=>?_⟩
  rw [jJ] at hy
  have:=(Qek (n:=n)).1 hx
  omega
theorem Qb4 {k:Int}:k∈mks↔1≤k∧k≤999:=Qek
theorem Qem:mks.length=999:=Qm4 999
theorem Qmc {L:List Int} (nd:L.Nodup) (h:∀ k∈L,1≤k∧k≤999):Q0k L=mks.filter fun k=>decide (k∈L):=by
 have s1:(mks.filter fun k=>decide (k∈L)).Pairwise (· < ·):=(Qkj 999).filter _
 refine List.Perm.eq_of_pairwise (le:=fun x y:Int=>x≤y) (fun a b _ _ h1 h2=>by omega) (Q2f L) (s1.imp (fun h=>by omega)) ?_
 refine (List.perm_ext_iff_of_nodup ((Q11 L).nodup_iff.2 nd) (s1.imp (fun h=>by omega))).2 fun k=>?_
 rw [(Q11 L).mem_iff,List.mem_filter,Qb4]
 simp only [jG]
 exact ⟨fun hk=>⟨h k hk,hk⟩,fun h=>h.2⟩
structure Wg (D:List PE):Prop where
 nd:(Q1c D).Nodup
 rk:∀ k∈Q1c D,1≤k∧k≤999
 ln:∀ q,(pM D q).Nodup
 rl:∀ q,∀ k∈pM D q,1≤k∧k≤999
 kl:∀ q,∀ k∈pM D q,q∈Q1c D∧k∈Q1c D
theorem wg_all {l:List El} (h:vldE l=0):Wg (pAll l):=by
 have g:=pi_all (l:=l) (fun x hx p hp=>((vld_el h hx).2 p hp).1)
 have hm:∀ q,∀ k∈pM (pAll l) q,q∈Q1f l∧k∈Q1f l:=fun q k hk=>Qq4 ((g.ls q k).1 hk)
 exact ⟨g.nd,fun k hk=>Qcs h ((g.ks k).1 hk),g.ln,fun q k hk=>Qcs h (hm q k hk).2,fun q k hk=>⟨(g.ks _).2 (hm q k hk).1,(g.ks _).2 (hm q k hk).2⟩⟩
theorem Wg.len {D:List PE} (w:Wg D):D.length≤999:=by
 have:=List.Nodup.length_le_of_subset w.nd (fun k hk=>Qb4.2 (w.rk k hk))
 rwa [Qem,Q1c,List.length_map] at this
theorem pM_ent {D:List PE} (nd:(Q1c D).Nodup) {e:PE} (he:e∈D):pM D e.k=e.L:=by
 obtain ⟨i,e1,h1,h2,h3,h4⟩:=Ql8 nd (List.mem_map.2 ⟨e,he,rfl⟩)
 obtain ⟨e2,h5,h6,h7,h8⟩:=Qre (F:=D) (o:=e.k) (List.mem_map.2 ⟨e,he,rfl⟩)
 have:e2=e:=by
  have key:∀ {l:List PE},(l.map (·.k)).Nodup→∀ a∈l,∀ b∈l,a.k=b.k→a=b:=by
   intro l
   induction l with
   | nil=>intro _ a ha;cases ha
   | cons x l ih =>
    intro nd a ha b hb hk
    rw [List.map_cons,List.nodup_cons] at nd
    rcases List.mem_cons.1 ha with e1|h1<;>rcases List.mem_cons.1 hb with e2|h2
    ·rw [e1,e2]
    ·exact absurd (List.mem_map.2 ⟨b,h2,by rw [← hk,e1]⟩) nd.1
    ·exact absurd (List.mem_map.2 ⟨a,h1,by rw [hk,e2]⟩) nd.1
    ·exact ih nd.2 a h1 b h2 hk
  exact key nd e2 h5 e he h6
 rw [h8,this]
theorem Wg.ent {D:List PE} (w:Wg D) {e:PE} (he:e∈D):e.L.length≤999∧∀ k∈e.L,1≤k∧k≤999:=by
 have h1:=w.rl e.k
 have h2:=w.ln e.k
 rw [pM_ent w.nd he] at h1 h2
 refine ⟨?_,h1⟩
 have:=List.Nodup.length_le_of_subset h2 (fun k hk=>Qb4.2 (h1 k hk))
 rwa [Qem] at this
abbrev gS (D:List PE) (q:Int):List Int:=Q0k (pM D q)
theorem gS_mem {D:List PE} {q k:Int}:k∈gS D q↔k∈pM D q:=(Q11 _).mem_iff
theorem Wg.ends {D:List PE} (w:Wg D) {a t ab:Int}:∃ r,pgo (gS D) a t ab 1002 [[a]] []=some r :=
 Qgq (U:=mks) (fun q=>⟨(Q11 _).nodup_iff.2 (w.ln q),fun k hk=>Qb4.2 (w.rl q k (gS_mem.1 hk))⟩) List.nodup_nil (fun k hk=>by cases hk) (by rw [Qem];simp)
theorem Wg.way {D:List PE} (w:Wg D) {a t ab:Int}:pgo (gS D) a t ab 1002 [[a]] []=some (wayP D a t ab)∧Q65 D a t ab 1002 0 []=some (wayP D a t ab):=by
 obtain ⟨r,hr⟩:=w.ends (a:=a) (t:=t) (ab:=ab)
 unfold wayP
 rw [Qjn w.ln,hr]
 exact ⟨rfl,rfl⟩
theorem Wg.ne {D:List PE} (w:Wg D) {a t ab:Int}:wayP D a t ab≠some []:=fun h=>by
 have:=w.way (a:=a) (t:=t) (ab:=ab)
 rw [h] at this
 exact Qrd (fun p hp=>by rw [jJ] at hp;subst hp;simp) this.1 rfl
theorem Wg.funs {D:List PE} (w:Wg D) {a t ab:Int}:Fun FB1 md 54 [gatV D,.int .i64 a,.int .i64 t,.int .i64 ab] (wayV (wayP D a t ab)) :=
 Qsd (by have:=w.len;omega) (fun e he=>by have:=(w.ent he).1;omega) (fun e he=>(w.ent he).2) w.nd w.way.2
theorem Wg.other {D:List PE} (w:Wg D) {a t ab:Int} (h:a∉Q1c D):wayP D a t ab=none:=by
 have h1:=(w.way (a:=a) (t:=t) (ab:=ab)).1
 have hg:gS D a=[]:=by rw [gS,Qef h];rfl
 rw [pgo,show lastM [a]=a from rfl,hg,if_neg (by simp)] at h1
 rw [show fresh (gS D) a ab [] a=[] by unfold fresh;rw [hg];rfl] at h1
 rw [show (1001:Nat)=1000+1 from rfl,List.map_nil,List.append_nil,pgo] at h1
 exact (Option.some.inj h1).symm
theorem Q42 {w:Int→Option (List Int)} {p:Int→Bool} (h:∀ k,p k=false→w k=none):∀ (L:List Int) (b:Option (List Int)),(L.filter p).foldl (Qcf w) b=L.foldl (Qcf w) b
 | [],b=>rfl
 | k::L,b=>by
  rw [List.filter_cons,List.foldl_cons]
  cases hp:p k with
  | true=>rw [if_pos rfl,List.foldl_cons];exact Q42 h L _
  | false =>
   rw [if_neg (by simp),Q42 h L b]
   congr 1
   unfold Qcf
   rw [h k hp]
theorem Wg.round {D:List PE} (w:Wg D):Q3x (fun k=>wayP D k k k) (Q0k (Q1c D))=Q3x (fun k=>wayP D k k k) mks:=by
 rw [Qmc w.nd w.rk]
 exact Q42 (fun k hk=>w.other (by simpa using hk)) mks none
end Go.Dr.T6
namespace Go.Dr.T6
open Go.Dr.T
theorem scr_ok {s:List Int} (h:scrE s=0):s.length≤60∧(∀ m∈s,1≤m∧m≤999)∧s.Nodup:=by
 unfold scrE at h
 split at h
 ·cases h
 ·split at h
  ·cases h
  ·rename_i h1 h2
   split at h
   ·rename_i nd
    refine ⟨by omega,fun m hm=>?_,nd⟩
    unfold anyO at h2
    simp only [List.any_eq_true,not_exists,not_and,Bool.not_eq_true] at h2
    have:=h2 m hm
    simp only [outB,jL,jI] at this
    omega
   ·cases h
end Go.Dr.T6
