/- Chapter 06: all best alignments, plain: the list, in order. -/
import Derived.Test.YtcjhgcjmomildaaGreatDoorG8
import Derived.Test.YtcjhgcjmomildaaGreatDoorG7
import Derived.Test.YtcjhgcjmomildaaGreatDoorG4
namespace Go.Dr.T
def goR {σ τ:Type} (ok:σ→τ→Bool) (nx:σ→τ→σ):σ→List τ→σ × Bool
 | s,[]=>(s,true)
 | s,p :: ps=>if ok s p=true then goR ok nx (nx s p) ps else (nx s p,false)
theorem goR_t {σ τ:Type} {ok:σ→τ→Bool} {nx:σ→τ→σ} {p:τ} {l:List τ} {s:σ} (h:ok s p=true):goR ok nx s (p :: l)=goR ok nx (nx s p) l:=by
 conv=>lhs;unfold goR
 rw [if_pos h]
theorem goR_f {σ τ:Type} {ok:σ→τ→Bool} {nx:σ→τ→σ} {p:τ} {l:List τ} {s:σ} (h:ok s p=false):goR ok nx s (p :: l)=(nx s p,false):=by
 conv=>lhs;unfold goR
 rw [if_neg (by simp [h])]
theorem goR_app_t {σ τ:Type} {ok:σ→τ→Bool} {nx:σ→τ→σ}:∀ {l k:List τ} {s s' : σ},goR ok nx s l=(s', true)→goR ok nx s (l++k)=goR ok nx s' k
 | [],k,s,s', h=>by
  simp only [goR,Prod.mk.injEq] at h
  rw [h.1];rfl
 | p :: l,k,s,s', h=>by
  cases hp:ok s p with
  | true=>rw [goR_t hp] at h;rw [List.cons_append,goR_t hp];exact goR_app_t h
  | false=>rw [goR_f hp] at h;simp at h
theorem goR_app_f {σ τ:Type} {ok:σ→τ→Bool} {nx:σ→τ→σ}:∀ {l k:List τ} {s s' : σ},goR ok nx s l=(s', false)→goR ok nx s (l++k)=(s', false)
 | [],k,s,s', h=>by simp [goR] at h
 | p :: l,k,s,s', h=>by
  cases hp:ok s p with
  | true=>rw [goR_t hp] at h;rw [List.cons_append,goR_t hp];exact goR_app_f h
  | false=>rw [goR_f hp] at h;rw [List.cons_append,goR_f hp];exact h
theorem goR_inv {σ τ:Type} {ok:σ→τ→Bool} {nx:σ→τ→σ} {Iv:σ→Prop} (hn:∀ s p,Iv s→ok s p=true→Iv (nx s p)):∀ {l:List τ} {s:σ},Iv s→(goR ok nx s l).2=true→Iv (goR ok nx s l).1
 | [],s,h,_=>h
 | p :: l,s,h,e=>by
  cases hp:ok s p with
  | true=>rw [goR_t hp] at e ⊢; exact goR_inv hn (hn s p h hp) e
  | false=>rw [goR_f hp] at e;simp at e
theorem goY_flat {σ τ:Type} {ok:σ→τ→Bool} {nx:σ→τ→σ} {f:Nat × Nat→List τ}:∀ {l:List (Nat × Nat)} {s:σ},goY (σ:=σ × Bool) (fun q p=>(goR ok nx q.1 (f p)).2) (fun q p=>goR ok nx q.1 (f p)) (s,true) l=goR ok nx s (l.flatMap f)
 | [],s=>rfl
 | p :: l,s=>by
  unfold goY
  dsimp only
  rw [List.flatMap_cons]
  cases h:goR ok nx s (f p) with
  | mk s' b =>
   cases b with
   | true=>rw [if_pos rfl,goR_app_t h];exact goY_flat
   | false=>rw [if_neg (by simp),goR_app_f h]
theorem goY_R {σ:Type} {ok:σ→Nat × Nat→Bool} {nx:σ→Nat × Nat→σ}:∀ {l:List (Nat × Nat)} {s:σ},goY ok nx s l=(goR ok nx s l).1
 | [],s=>rfl
 | p :: l,s=>by
  cases h:ok s p with
  | true=>rw [goR_t h];unfold goY;rw [if_pos h];exact goY_R
  | false=>rw [goR_f h];unfold goY;rw [if_neg (by simp [h])]
theorem flat_ext {α β:Type} {f g:α→List β}:∀ {l:List α},(∀ a∈l,f a=g a)→l.flatMap f=l.flatMap g
 | [],_=>rfl
 | a :: l,h=>by rw [List.flatMap_cons,List.flatMap_cons,h a (by simp),flat_ext fun b hb=>h b (by simp [hb])]
def alsF (S W:Nat→Nat→Int) (n m:Nat):Nat→Nat→Nat→List (Nat × Nat)→List (List (Nat × Nat))
 | 0,_,_,_=>[]
 | d+1,i,j,bef=>if W i j=0 then [bef] else (bgs S W n m i j).flatMap fun p=>alsF S W n m d (p.1+1) (p.2+1) (bef++[p])
theorem alsF_more {S W:Nat→Nat→Int} {n m:Nat}:∀ {d d' i j:Nat} {bef:List (Nat × Nat)},i≤n→n - i<d→n - i<d' → alsF S W n m d i j bef=alsF S W n m d' i j bef
 | 0,_,_,_,_,_,h,_=>absurd h (by omega)
 | _+1,0,_,_,_,_,_,h=>absurd h (by omega)
 | d+1,d' + 1,i,j,bef,hi,h1,h2=>by
  unfold alsF
  split
  ·rfl
  ·refine flat_ext fun p hp => ?_
   have:=bgs_mem hp
   exact alsF_more (by omega) (by omega) (by omega)
def als (S W:Nat→Nat→Int) (n m i j:Nat) (bef:List (Nat × Nat)):List (List (Nat × Nat)):=alsF S W n m (n - i+1) i j bef
theorem als_end {S W:Nat→Nat→Int} {n m i j:Nat} {bef:List (Nat × Nat)} (h:W i j=0):als S W n m i j bef=[bef]:=by unfold als alsF;rw [if_pos h]
theorem als_step {S W:Nat→Nat→Int} {n m i j:Nat} {bef:List (Nat × Nat)} (h:W i j≠0):als S W n m i j bef=(bgs S W n m i j).flatMap fun p=>als S W n m (p.1+1) (p.2+1) (bef++[p]):=by
 unfold als
 conv=>lhs;unfold alsF
 rw [if_neg h]
 refine flat_ext fun p hp => ?_
 have:=bgs_mem hp
 exact alsF_more (by omega) (by omega) (by omega)
theorem als_front {S W:Nat→Nat→Int} {n m:Nat}:∀ (d i j:Nat) (bef:List (Nat × Nat)),n - i=d→als S W n m i j bef=(als S W n m i j []).map (bef ++ ·):=by
 intro d
 induction d using Nat.strongRecOn with
 | ind d ih =>
  intro i j bef hd
  by_cases h:W i j=0
  ·rw [als_end h,als_end h];simp
  ·rw [als_step h,als_step h,List.map_flatMap]
   refine flat_ext fun p hp => ?_
   have:=bgs_mem hp
   rw [ih (n - (p.1+1)) (by omega) _ _ (bef++[p]) rfl,ih (n - (p.1+1)) (by omega) _ _ ([]++[p]) rfl,List.map_map]
   simp [Function.comp_def]
theorem als_cons {S W:Nat→Nat→Int} {n m i j:Nat} (h:W i j≠0):als S W n m i j []=(bgs S W n m i j).flatMap fun p=>(als S W n m (p.1+1) (p.2+1) []).map (p :: ·):=by
 rw [als_step h]
 refine flat_ext fun p _ => ?_
 rw [als_front _ _ _ ([]++[p]) rfl]
 simp
end Go.Dr.T
namespace Go.Dr.T
structure Pt (a b:List (Int × Int)) (ks:List Nat):Prop where
 inc:ks.Pairwise (· < ·)
 lt:∀ k∈ks,k<a.length
 eq:b=ks.map fun k=>a.getD k (0,0)
 pos:∀ p∈a,0<p.1
 dif:∀ i j,i<a.length→j<a.length→(a.getD i (0,0)).1=(a.getD j (0,0)).1→i=j
theorem shr_self {s:Int} {p:Int × Int} (hs:0≤s) (hp:0<p.1):shr s p p=p.2:=by
 obtain ⟨m,n⟩:=p
 rw [shr_case,if_neg (by simp at hp ⊢; omega),if_neg (by simp at hp;omega),if_neg (by simp)]
 simp
theorem shr_other {s:Int} {p q:Int × Int} (hp:0<p.1) (hq:0<q.1) (h:p.1≠q.1):shr s p q=0:=by
 obtain ⟨m,n⟩:=p
 obtain ⟨m', n'⟩:=q
 dsimp only at *
 have h2:¬ (m=0∨m' = 0):=by omega
 rw [shr_case,if_neg h2,if_pos h]
 split <;> rfl
section
variable {a b:List (Int × Int)} {ks:List Nat} {s:Int}
theorem Pt.len (h:Pt a b ks):b.length=ks.length:=by rw [h.eq,List.length_map]
theorem Pt.at (h:Pt a b ks) {t:Nat} (ht:t<ks.length):b.getD t (0,0)=a.getD (ks[t]) (0,0):=by
 rw [h.eq,List.getD_eq_getElem?_getD,List.getElem?_map,List.getElem?_eq_getElem ht];rfl
theorem Pt.mem (h:Pt a b ks) {k:Nat} (hk:k<a.length):0<(a.getD k (0,0)).1:=by
 rw [List.getD_eq_getElem?_getD,List.getElem?_eq_getElem hk]
 exact h.pos _ (List.getElem_mem hk)
theorem Pt.S (h:Pt a b ks) (hs:0≤s) {k t:Nat} (hk:k<a.length) (ht:t<ks.length):shA a b s k t=if k=ks[t] then (b.getD t (0,0)).2 else 0:=by
 have hkt:=h.lt _ (List.getElem_mem ht)
 unfold shA
 rw [h.at ht]
 by_cases e:k=ks[t]
 ·subst e;rw [if_pos rfl];exact shr_self hs (h.mem hkt)
 ·rw [if_neg e];exact shr_other (h.mem hk) (h.mem hkt) fun e2=>e (h.dif _ _ hk hkt e2)
theorem frS_at {b:List (Int × Int)} {t:Nat} (h:t<b.length):frS (b.drop t)=(b.getD t (0,0)).2+frS (b.drop (t+1)):=by
 rw [List.drop_eq_getElem_cons h,frS,List.getD_eq_getElem?_getD,List.getElem?_eq_getElem h];rfl
theorem frS_gap {b:List (Int × Int)} (hb:frOk b) {t l:Nat} (h:t<l) (hl:l≤b.length):frS (b.drop l)<frS (b.drop t):=by
 obtain ⟨d,rfl⟩:∃ d,l=t+1+d:=⟨l - (t+1),by omega⟩
 clear h
 induction d generalizing t with
 | zero =>
  rw [frS_at (t:=t) (by omega)]
  have:=hb _ (List.getElem_mem (show t<b.length by omega))
  rw [List.getD_eq_getElem?_getD,List.getElem?_eq_getElem (show t<b.length by omega)]
  dsimp only [Option.getD]
  rw [Nat.add_zero]
  omega
 | succ d ih =>
  have h1:=ih (t:=t+1) (by omega)
  rw [frS_at (t:=t) (by omega)]
  have:=hb _ (List.getElem_mem (show t<b.length by omega))
  rw [List.getD_eq_getElem?_getD,List.getElem?_eq_getElem (show t<b.length by omega)]
  dsimp only [Option.getD]
  rw [show t+1+(d+1)=t+1+1+d by omega]
  omega
def Fits (ks:List Nat) (i t:Nat):Prop:=t≤ks.length∧∀ h:t<ks.length,i≤ks[t]
theorem Pt.step (h:Pt a b ks) {t:Nat} (ht:t<ks.length):Fits ks (ks[t]+1) (t+1) :=
 ⟨ht,fun h2=>(List.pairwise_iff_getElem.1 h.inc) t (t+1) ht h2 (Nat.lt_succ_self t)⟩
theorem Pt.worth (h:Pt a b ks) (ha:shOk a) (hb:shOk b) (hs:0≤s):∀ (d i t:Nat),ks.length - t=d→Fits ks i t→wT a b s (-1) 0 i t=frS (b.drop t):=by
 intro d
 induction d with
 | zero =>
  intro i t hd hf
  have hl:=h.len
  have:=hf.1
  rw [wT_end2 (by omega),List.drop_of_length_le (by omega)];rfl
 | succ d ih =>
  intro i t hd hf
  have hl:=h.len
  have ht:t<ks.length:=by omega
  have hkt:=h.lt _ (List.getElem_mem ht)
  have h1:=ih (ks[t]+1) (t+1) (by omega) (h.step ht)
  have e:=h.S (s:=s) hs hkt ht
  rw [if_pos rfl] at e
  have hpos:0<(b.getD t (0,0)).2:=by
   have:=hb.fr _ (List.getElem_mem (show t<b.length by omega))
   rw [List.getD_eq_getElem?_getD,List.getElem?_eq_getElem (show t<b.length by omega)]
   dsimp only [Option.getD]
   omega
  have h2:=wT_take (s:=s) ha hb hkt (show t<b.length by omega) (by rw [e];exact hpos)
  have h3:=wT_mono1 (s:=s) ha hb (j:=t) i (ks[t]) (hf.2 ht)
  have h4:=wN_right (s:=s) ha.fr hb.fr (a.length - i) (b.length - t) (by omega) (by omega)
  rw [show b.length - (b.length - t)=t by omega] at h4
  have h5:wT a b s (-1) 0 i t≤frS (b.drop t):=h4
  rw [frS_at (by omega)] at h5 ⊢
  omega
theorem flat_one {α:Type} {g:Nat→List α} {c N:Nat} {x:α} (hc:g c=[x]) (ho:∀ k,k≠c→k<N→g k=[]):∀ (d i:Nat),i≤c→c<i+d→i+d≤N→(List.range' i d).flatMap g=[x]
 | 0,i,h1,h2,_=>absurd h2 (by omega)
 | d+1,i,h1,h2,h3=>by
  rw [List.range'_succ,List.flatMap_cons]
  by_cases e:i=c
  ·subst e
   rw [hc]
   have:(List.range' (i+1) d).flatMap g=[]:=by
    rw [List.flatMap_eq_nil_iff]
    intro k hk
    have:=List.mem_range'_1.1 hk
    exact ho k (by omega) (by omega)
   rw [this];rfl
  ·rw [ho i e (by omega),List.nil_append]
   exact flat_one hc ho d (i+1) (by omega) (by omega) (by omega)
theorem Pt.pairs (h:Pt a b ks) (ha:shOk a) (hb:shOk b) (hs:0≤s) {i t:Nat} (ht:t<ks.length) (hf:Fits ks i t):bgA (shA a b s) (wT a b s (-1) 0) a.length b.length i t=[(ks[t],t)]:=by
 have hl:=h.len
 have hkt:=h.lt _ (List.getElem_mem ht)
 have key:∀ k l,k<a.length→t≤l→l<ks.length→((0<shA a b s k l∧shA a b s k l+wT a b s (-1) 0 (k+1) (l+1)=wT a b s (-1) 0 i t) ↔ (k=ks[t]∧l=t)):=fun k l hk h1 h2=>by
  rw [h.S hs hk h2]
  by_cases e:k=ks[l]
  ·rw [if_pos e]
   have hw:=h.worth ha hb hs _ (k+1) (l+1) rfl (by rw [e];exact h.step h2)
   have hw2:=h.worth ha hb hs _ i t rfl hf
   have hfl:=frS_at (b:=b) (t:=l) (by omega)
   have hpos:0<(b.getD l (0,0)).2:=by
    have:=hb.fr _ (List.getElem_mem (show l<b.length by omega))
    rw [List.getD_eq_getElem?_getD,List.getElem?_eq_getElem (show l<b.length by omega)]
    dsimp only [Option.getD]
    omega
   constructor
   ·rintro ⟨_,q⟩
    have hlt:l=t:=by
     by_cases hlt:l=t
     ·exact hlt
     ·have:=frS_gap hb.fr (show t<l by omega) (by omega:l≤b.length)
      omega
    subst hlt
    exact ⟨e,rfl⟩
   ·rintro ⟨_,q⟩
    subst q
    exact ⟨hpos,by omega⟩
  ·rw [if_neg e]
   constructor
   ·rintro ⟨q,_⟩;exact absurd q (by omega)
   ·rintro ⟨q,r⟩;subst r;exact absurd q e
 unfold bgA
 refine flat_one (c:=ks[t]) (N:=a.length) ?_ ?_ _ _ (hf.2 ht) (by have:=hf.2 ht;omega) (by have:=hf.2 ht;omega)
 ·have e:bgR (shA a b s) (wT a b s (-1) 0) b.length (wT a b s (-1) 0 i t) t ks[t]=(ks[t],t) :: bgR (shA a b s) (wT a b s (-1) 0) b.length (wT a b s (-1) 0 i t) (t+1) ks[t]:=by
   rw [bgR_step (by omega),if_pos ((key _ _ hkt (Nat.le_refl _) ht).2 ⟨rfl,rfl⟩)]
  rw [e]
  have e2:bgR (shA a b s) (wT a b s (-1) 0) b.length (wT a b s (-1) 0 i t) (t+1) ks[t]=[]:=by
   unfold bgR
   rw [List.map_eq_nil_iff,List.filter_eq_nil_iff]
   intro l hl'
   have:=List.mem_range'_1.1 hl'
   simp only [decide_eq_true_eq]
   rw [key _ _ hkt (by omega) (by omega)]
   omega
  rw [e2]
 ·intro k hk hka
  unfold bgR
  rw [List.map_eq_nil_iff,List.filter_eq_nil_iff]
  intro l hl'
  have:=List.mem_range'_1.1 hl'
  simp only [decide_eq_true_eq]
  rw [key _ _ hka (by omega) (by omega)]
  exact fun q=>hk q.1
def wantL (ks:List Nat) (t:Nat):List (Nat × Nat):=(List.range' t (ks.length - t)).map fun l=>(ks.getD l 0,l)
theorem wantL_step {t:Nat} (ht:t<ks.length):wantL ks t=(ks[t],t) :: wantL ks (t+1):=by
 unfold wantL
 rw [show ks.length - t=(ks.length - (t+1))+1 by omega,List.range'_succ,List.map_cons,List.getD_eq_getElem?_getD,List.getElem?_eq_getElem ht];rfl
theorem wantL_end {t:Nat} (ht:ks.length≤t):wantL ks t=[]:=by unfold wantL;rw [show ks.length - t=0 by omega];rfl
end
theorem cut_als {x y:El} {ks:List Nat} {s:Int} (h:Pt x.l y.l ks) (ha:shOk x.l) (hb:shOk y.l) (hs:0≤s):∀ (d i t:Nat),ks.length - t=d→Fits ks i t→i≤x.l.length→als (shA x.l y.l s) (openT x y s) x.l.length y.l.length i t []=[wantL ks t]∧cT x y s i t=1∧openT x y s i t=frS (y.l.drop t):=by
 have hW:openT x y s=wT x.l y.l s (-1) 0:=by funext i j;exact openT_eq i j
 intro d
 induction d with
 | zero =>
  intro i t hd hf hi
  have hl:=h.len
  have:=hf.1
  have h0:openT x y s i t=0:=by rw [hW];exact wT_end2 (by omega)
  refine ⟨?_,?_,?_⟩
  ·rw [als_end h0,wantL_end (by omega)]
  ·rw [cT_eq ha hb hi (by omega),if_pos h0]
  ·rw [h0,List.drop_of_length_le (by omega)];rfl
 | succ d ih =>
  intro i t hd hf hi
  have hl:=h.len
  have ht:t<ks.length:=by omega
  have hkt:=h.lt _ (List.getElem_mem ht)
  have hw:=h.worth ha hb hs _ i t rfl hf
  rw [← hW] at hw
  have hpos:0<openT x y s i t:=by
   rw [hw]
   have:=frS_gap hb.fr (show t<t+1 by omega) (show t+1≤y.l.length by omega)
   have:=(frS_pos (hb.fr.drop (n:=t+1))).1
   omega
  have hp:=h.pairs ha hb hs ht hf
  rw [← hW] at hp
  obtain ⟨i1,i2,_⟩:=ih (ks[t]+1) (t+1) (by omega) (h.step ht) (by omega)
  refine ⟨?_,?_,hw⟩
  ·rw [als_cons (by omega),begins_same ha hb,hp,wantL_step ht]
   simp [i1]
  ·rw [cT_eq ha hb hi (by omega),if_neg (by omega),hp]
   simp [i2]
   decide
end Go.Dr.T
namespace Go.Dr.T
theorem sumA_snoc {s:Sht}:∀ {l:List Sht},sumA (l++[s])=sumA l+s.1
 | []=>by show s.1+0=0+s.1;omega
 | a :: l=>by
  have:=sumA_snoc (s:=s) (l:=l)
  simp only [List.cons_append,sumA]
  omega
theorem sumK_snoc {s:Sht}:∀ {l:List Sht},sumK (l++[s])=sumK l+if s.2 then s.1 else 0
 | []=>by show (if s.2 then s.1 else 0)+0=0+if s.2 then s.1 else 0;omega
 | a :: l=>by
  have:=sumK_snoc (s:=s) (l:=l)
  simp only [List.cons_append,sumK]
  omega
theorem keptL_snoc {s:Sht}:∀ {l:List Sht} {at' left:Int},keptL at' left (l++[s])=keptL at' left l++if s.2 then [(at' + sumA l,left+sumK l)] else []
 | [],at', left=>by
  show keptL at' left [s]=[]++if s.2 then [(at' + 0,left+0)] else []
  rw [Int.add_zero,Int.add_zero]
  unfold keptL keptL
  rfl
 | a :: l,at', left=>by
  simp only [List.cons_append,keptL,sumA,sumK]
  split
  ·rw [keptL_snoc,List.cons_append,Int.add_assoc,Int.add_assoc]
  ·rw [keptL_snoc,Int.add_assoc,Int.zero_add]
theorem cutF_snoc {s:Sht}:∀ {l:List Sht} {left:Int},cutF left (l++[s])=cutF left l++if s.2 then [] else [(left+sumK l,left+sumK l+s.1 - 1)]
 | [],left=>by
  show cutF left [s]=[]++if s.2 then [] else [(left+0,left+0+s.1 - 1)]
  rw [Int.add_zero]
  unfold cutF cutF
  rfl
 | a :: l,left=>by
  simp only [List.cons_append,cutF,sumK]
  split
  ·rw [cutF_snoc,Int.add_assoc]
  ·rw [cutF_snoc,List.cons_append,Int.zero_add]
theorem cutL_snoc {s:Sht}:∀ {l:List Sht} {at' : Int},cutL at' (l++[s])=cutL at' l++if s.2 then [] else [(at' + sumA l,at' + sumA l+s.1 - 1)]
 | [],at' => by
  show cutL at' [s]=[]++if s.2 then [] else [(at' + 0,at' + 0+s.1 - 1)]
  rw [Int.add_zero]
  unfold cutL cutL
  rfl
 | a :: l,at' => by
  simp only [List.cons_append,cutL,sumA]
  split
  ·rw [cutL_snoc,Int.add_assoc]
  ·rw [cutL_snoc,List.cons_append,Int.add_assoc]
def bitE (b:Int) (i:Nat):Int:=(b.fdiv (2 ^ (min (IntKind.u64.wrap ((i:Int).tmod 64)).toNat IntKind.u64.bits))).tmod 2
def bitB (b:Int) (i:Nat):Bool:=decide (bitE b i=1)
def shS (b:Int) (l:List (Int × Int)) (k:Nat):List Sht:=(List.range k).map fun i=>((l.getD i (0,0)).2,bitB b i)
def ksT (b:Int) (k:Nat):List Nat:=(List.range k).filter (bitB b)
def kT (b:Int) (l:List (Int × Int)) (k:Nat):List (Int × Int):=(ksT b k).map fun i=>l.getD i (0,0)
def atT (b:Int) (l:List (Int × Int)) (k:Nat):Int:=sumA (shS b l k)
def leT (b:Int) (l:List (Int × Int)) (k:Nat):Int:=sumK (shS b l k)
def bT (b:Int) (l:List (Int × Int)) (k:Nat):List Int:=(keptL 0 0 (shS b l k)).map Prod.fst
def aT (b:Int) (l:List (Int × Int)) (k:Nat):List Int:=(keptL 0 0 (shS b l k)).map Prod.snd
def wanT:List Nat→Nat→List (Int × Int)
 | [],_=>[]
 | k :: ks,t=>((k:Int),(t:Int)) :: wanT ks (t+1)
def cuT (b:Int) (back:Bool) (l:List (Int × Int)) (k:Nat):List (Int × Int):=if back then (cutL 0 (shS b l k)).reverse else cutF 0 (shS b l k)
section
variable {b:Int} {l:List (Int × Int)} {k:Nat} {back:Bool}
theorem shS_S:shS b l (k+1)=shS b l k++[((l.getD k (0,0)).2,bitB b k)]:=by unfold shS;rw [List.range_succ,List.map_append];rfl
theorem ksT_S:ksT b (k+1)=ksT b k++if bitB b k then [k] else []:=by
 unfold ksT
 rw [List.range_succ,List.filter_append]
 congr 1
 simp only [List.filter_cons,List.filter_nil]
theorem atT_S:atT b l (k+1)=atT b l k+(l.getD k (0,0)).2:=by unfold atT;rw [shS_S,sumA_snoc]
theorem leT_t (h:bitB b k=true):leT b l (k+1)=leT b l k+(l.getD k (0,0)).2:=by unfold leT;rw [shS_S,sumK_snoc,h];rfl
theorem leT_f (h:bitB b k=false):leT b l (k+1)=leT b l k:=by unfold leT;rw [shS_S,sumK_snoc,h];exact Int.add_zero _
theorem kT_t (h:bitB b k=true):kT b l (k+1)=kT b l k++[l.getD k (0,0)]:=by unfold kT;rw [ksT_S,h,List.map_append];rfl
theorem kT_f (h:bitB b k=false):kT b l (k+1)=kT b l k:=by unfold kT;rw [ksT_S,h,List.map_append];exact List.append_nil _
theorem bT_t (h:bitB b k=true):bT b l (k+1)=bT b l k++[atT b l k]:=by unfold bT;rw [shS_S,keptL_snoc,h,List.map_append];simp [atT]
theorem bT_f (h:bitB b k=false):bT b l (k+1)=bT b l k:=by unfold bT;rw [shS_S,keptL_snoc,h,List.map_append];simp
theorem aT_t (h:bitB b k=true):aT b l (k+1)=aT b l k++[leT b l k]:=by unfold aT;rw [shS_S,keptL_snoc,h,List.map_append];simp [leT]
theorem aT_f (h:bitB b k=false):aT b l (k+1)=aT b l k:=by unfold aT;rw [shS_S,keptL_snoc,h,List.map_append];simp
theorem wanT_app {c:List Nat}:∀ {a:List Nat} {t:Nat},wanT (a++c) t=wanT a t++wanT c (t+a.length)
 | [],t=>rfl
 | x :: a,t=>by
  simp only [List.cons_append,wanT,wanT_app,List.length_cons]
  rw [show t+1+a.length=t+(a.length+1) by omega]
theorem wanT_len:∀ {a:List Nat} {t:Nat},(wanT a t).length=a.length
 | [],_=>rfl
 | _ :: a,t=>by simp only [wanT,List.length_cons,wanT_len]
theorem wan_t (h:bitB b k=true):wanT (ksT b (k+1)) 0=wanT (ksT b k) 0++[((k:Int),((ksT b k).length:Int))]:=by rw [ksT_S,h,wanT_app,Nat.zero_add];rfl
theorem wan_f (h:bitB b k=false):wanT (ksT b (k+1)) 0=wanT (ksT b k) 0:=by rw [ksT_S,h];simp
theorem ksT_f (h:bitB b k=false):ksT b (k+1)=ksT b k:=by rw [ksT_S,h];simp
theorem ksT_t (h:bitB b k=true):ksT b (k+1)=ksT b k++[k]:=by rw [ksT_S,h];simp
theorem cuT_t (h:bitB b k=true):cuT b back l (k+1)=cuT b back l k:=by
 unfold cuT
 rw [shS_S,cutL_snoc,cutF_snoc,h]
 simp
theorem cuT_fF (h:bitB b k=false):cuT b false l (k+1)=cuT b false l k++[(leT b l k,leT b l k+(l.getD k (0,0)).2 - 1)]:=by
 show cutF 0 (shS b l (k+1))=cutF 0 (shS b l k)++_
 rw [shS_S,cutF_snoc,h,Int.zero_add]
 rfl
theorem cuT_fB (h:bitB b k=false):cuT b true l (k+1)=(atT b l k,atT b l k+(l.getD k (0,0)).2 - 1) :: cuT b true l k:=by
 show (cutL 0 (shS b l (k+1))).reverse=_ :: (cutL 0 (shS b l k)).reverse
 rw [shS_S,cutL_snoc,h,Int.zero_add,List.reverse_append]
 rfl
theorem kT_len:(kT b l k).length=(ksT b k).length:=by unfold kT;rw [List.length_map]
theorem ksT_le:(ksT b k).length≤k:=by
 unfold ksT
 have:=List.length_filter_le (bitB b) (List.range k)
 rwa [List.length_range] at this
theorem bT_len:(bT b l k).length=(ksT b k).length∧(aT b l k).length=(ksT b k).length:=by
 induction k with
 | zero=>exact ⟨rfl,rfl⟩
 | succ k ih =>
  cases h:bitB b k with
  | true=>rw [bT_t h,aT_t h,ksT_t h,List.length_append,List.length_append,List.length_append,ih.1,ih.2];exact ⟨rfl,rfl⟩
  | false=>rw [bT_f h,aT_f h,ksT_f h];exact ih
theorem cuT_len:(cuT b back l k).length≤k:=by
 induction k with
 | zero=>cases back <;> exact Nat.le_refl _
 | succ k ih =>
  cases h:bitB b k with
  | true=>rw [cuT_t h];omega
  | false =>
   cases back with
   | false=>rw [cuT_fF h,List.length_append];simp;omega
   | true=>rw [cuT_fB h,List.length_cons];omega
end
theorem ckF_0 {l:List (Int × Int)}:∀ {k i:Nat},(∀ n,i≤n→n<i+k→eF l n=0)→(ckF l i k).2=0
 | 0,_,_=>rfl
 | k+1,i,h=>by
  unfold ckF
  rw [if_neg (by rw [h i (Nat.le_refl _) (by omega)];decide)]
  exact ckF_0 fun n h1 h2=>h n (by omega) (by omega)
theorem ck_is {nm:List UInt8} {l:List (Int × Int)} {g:Int} (h1:nmOk nm=true) (h2:0≤g∧g≤9) (h3:l.length≤40) (h4:∀ i p,l[i]?=some p→0≤p.1∧p.1≤999∧1≤p.2∧p.2≤200000∧(p.1≠0→p.1 ∉ (l.take i).map (·.1))):(ckE nm l g).2=0:=by
 unfold ckE
 rw [if_neg (by rw [h1];decide),if_neg (by simp only [outB,Bool.or_eq_true,decide_eq_true_eq];omega),if_neg (by omega)]
 refine ckF_0 fun n _ h => ?_
 rw [Nat.zero_add] at h
 obtain ⟨a1,a2,a3,a4,a5⟩:=h4 n _ (List.getElem?_eq_getElem h)
 unfold eF
 rw [List.getElem?_eq_getElem h]
 dsimp only
 rw [if_neg (by simp only [outB,Bool.or_eq_true,decide_eq_true_eq];omega),if_neg (fun e=>a5 (by omega) e.2)]
def ptE (x:El) (b:Int):El:=⟨x.nm,decide (kT b x.l x.l.length=[]),kT b x.l x.l.length,x.g⟩
theorem pt_is {x:El} {b:Int} (he:x.e=0) (hp:∀ p∈x.l,0<p.1):Pt x.l (ptE x b).l (ksT b x.l.length):=by
 obtain ⟨_,_,_,_,h2⟩:=ck_good he
 have hd:∀ i j,i<j→j<x.l.length→(x.l.getD i (0,0)).1≠(x.l.getD j (0,0)).1:=fun i j hij hj e=>by
  have h3:=(h2 j _ (List.getElem?_eq_getElem hj)).2.2.2.2
  have h4:=hp _ (List.getElem_mem hj)
  refine h3 (by omega) ?_
  rw [List.mem_map]
  refine ⟨x.l[i],?_,?_⟩
  ·rw [List.mem_iff_getElem?]
   exact ⟨i,by rw [List.getElem?_take,if_pos hij,List.getElem?_eq_getElem (by omega)]⟩
  ·rw [List.getD_eq_getElem?_getD,List.getElem?_eq_getElem (by omega),List.getD_eq_getElem?_getD,List.getElem?_eq_getElem hj] at e
   exact e
 refine ⟨?_,?_,rfl,hp,fun i j hi hj e => ?_⟩
 ·unfold ksT
  exact List.pairwise_lt_range.filter _
 ·intro k hk
  unfold ksT at hk
  exact List.mem_range.1 (List.mem_filter.1 hk).1
 ·rcases Nat.lt_trichotomy i j with h | h | h
  ·exact absurd e (hd i j h hj)
  ·exact h
  ·exact absurd e.symm (hd j i h hi)
theorem pt_e {x:El} {b:Int} (he:x.e=0) (hp:∀ p∈x.l,0<p.1):(ptE x b).e=0:=by
 have hP:=pt_is (b:=b) he hp
 obtain ⟨g1,g2,g3,g4,g5⟩:=ck_good he
 refine ck_is g1 ⟨g2,g3⟩ ?_ fun i p hip => ?_
 ·rw [hP.len]
  have:=ksT_le (b:=b) (k:=x.l.length)
  omega
 ·obtain ⟨hi,hpe⟩:=List.getElem?_eq_some_iff.1 hip
  have hi' : i<(ksT b x.l.length).length:=by rw [← hP.len];exact hi
  have hk:=hP.lt _ (List.getElem_mem hi')
  have hat:=hP.at hi'
  rw [List.getD_eq_getElem?_getD,hip,List.getD_eq_getElem?_getD,List.getElem?_eq_getElem hk] at hat
  have hat:p=x.l[(ksT b x.l.length)[i]]:=hat
  obtain ⟨a1,a2,a3,a4,_⟩:=g5 _ _ (List.getElem?_eq_getElem hk)
  rw [← hat] at a1 a2 a3 a4
  refine ⟨a1,a2,a3,a4,fun _ hm => ?_⟩
  rw [List.mem_map] at hm
  obtain ⟨q,hq,hqe⟩:=hm
  rw [List.mem_iff_getElem?] at hq
  obtain ⟨j,hj⟩:=hq
  rw [List.getElem?_take] at hj
  split at hj
  ·rename_i hji
   obtain ⟨hj1,hj2⟩:=List.getElem?_eq_some_iff.1 hj
   have hj' : j<(ksT b x.l.length).length:=by omega
   have hkj:=hP.lt _ (List.getElem_mem hj')
   have haj:=hP.at hj'
   rw [List.getD_eq_getElem?_getD,hj] at haj
   have haj:q=x.l.getD (ksT b x.l.length)[j] (0,0):=haj
   have e:=hP.dif _ _ hkj hk (by rw [← haj,List.getD_eq_getElem?_getD,List.getElem?_eq_getElem hk];show q.1=(x.l[(ksT b x.l.length)[i]]).1;rw [← hat];exact hqe)
   have:=(List.pairwise_iff_getElem.1 hP.inc) j i hj' hi' hji
   omega
  ·cases hj
theorem wanT_L {ks:List Nat}:∀ (d t:Nat),ks.length - t=d→(wantL ks t).map (fun p=>((p.1:Int),(p.2:Int)))=wanT (ks.drop t) t:=by
 intro d
 induction d with
 | zero=>intro t h;rw [wantL_end (by omega),List.drop_of_length_le (by omega)];rfl
 | succ d ih =>
  intro t h
  have ht:t<ks.length:=by omega
  rw [wantL_step ht,List.map_cons,ih (t+1) (by omega),List.drop_eq_getElem_cons ht];rfl
end Go.Dr.T
