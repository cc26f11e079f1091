/- Chapter 06: all best alignments, plain: the list, in order. -/
import Derived.Test.YtfhphjloaelgoaaGreatDoorG6
import Derived.Test.YtfhphjloaelgoaaGreatDoorG5
import Derived.Test.YtfhphjloaelgoaaGreatDoorG3
namespace Go.Dr.T
def goR {σ τ:Type} (ok:σ→τ→Bool) (nx:σ→τ→σ):σ→List τ→σ × Bool
 | s,[]=>(s,true)
 | s,p :: ps=>if ok s p=true then goR ok nx (nx s p) ps else (nx s p,false)
theorem goR_t {σ τ:Type} {ok:σ→τ→Bool} {nx:σ→τ→σ} {p:τ} {l:List τ} {s:σ} (h:ok s p=true):goR ok nx s (p :: l)=goR ok nx (nx s p) l:=by
 conv=>lhs;unfold goR
 rw [if_pos h]
theorem goR_f {σ τ:Type} {ok:σ→τ→Bool} {nx:σ→τ→σ} {p:τ} {l:List τ} {s:σ} (h:ok s p=false):goR ok nx s (p :: l)=(nx s p,false):=by
 conv=>lhs;unfold goR
 rw [if_neg (by simp [h])]
theorem goR_app_t {σ τ:Type} {ok:σ→τ→Bool} {nx:σ→τ→σ}:∀ {l k:List τ} {s s' : σ},goR ok nx s l=(s', true)→goR ok nx s (l++k)=goR ok nx s' k
 | [],k,s,s', h=>by
  simp only [goR,Prod.mk.injEq] at h
  rw [h.1];rfl
 | p :: l,k,s,s', h=>by
  cases hp:ok s p with
  | true=>rw [goR_t hp] at h;rw [List.cons_append,goR_t hp];exact goR_app_t h
  | false=>rw [goR_f hp] at h;simp at h
theorem goR_app_f {σ τ:Type} {ok:σ→τ→Bool} {nx:σ→τ→σ}:∀ {l k:List τ} {s s' : σ},goR ok nx s l=(s', false)→goR ok nx s (l++k)=(s', false)
 | [],k,s,s', h=>by simp [goR] at h
 | p :: l,k,s,s', h=>by
  cases hp:ok s p with
  | true=>rw [goR_t hp] at h;rw [List.cons_append,goR_t hp];exact goR_app_f h
  | false=>rw [goR_f hp] at h;rw [List.cons_append,goR_f hp];exact h
theorem goR_inv {σ τ:Type} {ok:σ→τ→Bool} {nx:σ→τ→σ} {Iv:σ→Prop} (hn:∀ s p,Iv s→ok s p=true→Iv (nx s p)):∀ {l:List τ} {s:σ},Iv s→(goR ok nx s l).2=true→Iv (goR ok nx s l).1
 | [],s,h,_=>h
 | p :: l,s,h,e=>by
  cases hp:ok s p with
  | true=>rw [goR_t hp] at e ⊢; exact goR_inv hn (hn s p h hp) e
  | false=>rw [goR_f hp] at e;simp at e
theorem goY_flat {σ τ:Type} {ok:σ→τ→Bool} {nx:σ→τ→σ} {f:Nat × Nat→List τ}:∀ {l:List (Nat × Nat)} {s:σ},goY (σ:=σ × Bool) (fun q p=>(goR ok nx q.1 (f p)).2) (fun q p=>goR ok nx q.1 (f p)) (s,true) l=goR ok nx s (l.flatMap f)
 | [],s=>rfl
 | p :: l,s=>by
  unfold goY
  dsimp only
  rw [List.flatMap_cons]
  cases h:goR ok nx s (f p) with
  | mk s' b =>
   cases b with
   | true=>rw [if_pos rfl,goR_app_t h];exact goY_flat
   | false=>rw [if_neg (by simp),goR_app_f h]
theorem goY_R {σ:Type} {ok:σ→Nat × Nat→Bool} {nx:σ→Nat × Nat→σ}:∀ {l:List (Nat × Nat)} {s:σ},goY ok nx s l=(goR ok nx s l).1
 | [],s=>rfl
 | p :: l,s=>by
  cases h:ok s p with
  | true=>rw [goR_t h];unfold goY;rw [if_pos h];exact goY_R
  | false=>rw [goR_f h];unfold goY;rw [if_neg (by simp [h])]
theorem flat_ext {α β:Type} {f g:α→List β}:∀ {l:List α},(∀ a∈l,f a=g a)→l.flatMap f=l.flatMap g
 | [],_=>rfl
 | a :: l,h=>by rw [List.flatMap_cons,List.flatMap_cons,h a (by simp),flat_ext fun b hb=>h b (by simp [hb])]
def alsF (S W:Nat→Nat→Int) (n m:Nat):Nat→Nat→Nat→List (Nat × Nat)→List (List (Nat × Nat))
 | 0,_,_,_=>[]
 | d+1,i,j,bef=>if W i j=0 then [bef] else (bgs S W n m i j).flatMap fun p=>alsF S W n m d (p.1+1) (p.2+1) (bef++[p])
theorem alsF_more {S W:Nat→Nat→Int} {n m:Nat}:∀ {d d' i j:Nat} {bef:List (Nat × Nat)},i≤n→n - i<d→n - i<d' → alsF S W n m d i j bef=alsF S W n m d' i j bef
 | 0,_,_,_,_,_,h,_=>absurd h (by omega)
 | _+1,0,_,_,_,_,_,h=>absurd h (by omega)
 | d+1,d' + 1,i,j,bef,hi,h1,h2=>by
  unfold alsF
  split
  ·rfl
  ·refine flat_ext fun p hp => ?_
   have:=bgs_mem hp
   exact alsF_more (by omega) (by omega) (by omega)
def als (S W:Nat→Nat→Int) (n m i j:Nat) (bef:List (Nat × Nat)):List (List (Nat × Nat)):=alsF S W n m (n - i+1) i j bef
theorem als_end {S W:Nat→Nat→Int} {n m i j:Nat} {bef:List (Nat × Nat)} (h:W i j=0):als S W n m i j bef=[bef]:=by unfold als alsF;rw [if_pos h]
theorem als_step {S W:Nat→Nat→Int} {n m i j:Nat} {bef:List (Nat × Nat)} (h:W i j≠0):als S W n m i j bef=(bgs S W n m i j).flatMap fun p=>als S W n m (p.1+1) (p.2+1) (bef++[p]):=by
 unfold als
 conv=>lhs;unfold alsF
 rw [if_neg h]
 refine flat_ext fun p hp => ?_
 have:=bgs_mem hp
 exact alsF_more (by omega) (by omega) (by omega)
theorem als_front {S W:Nat→Nat→Int} {n m:Nat}:∀ (d i j:Nat) (bef:List (Nat × Nat)),n - i=d→als S W n m i j bef=(als S W n m i j []).map (bef ++ ·):=by
 intro d
 induction d using Nat.strongRecOn with
 | ind d ih =>
  intro i j bef hd
  by_cases h:W i j=0
  ·rw [als_end h,als_end h];simp
  ·rw [als_step h,als_step h,List.map_flatMap]
   refine flat_ext fun p hp => ?_
   have:=bgs_mem hp
   rw [ih (n - (p.1+1)) (by omega) _ _ (bef++[p]) rfl,ih (n - (p.1+1)) (by omega) _ _ ([]++[p]) rfl,List.map_map]
   simp [Function.comp_def]
theorem als_cons {S W:Nat→Nat→Int} {n m i j:Nat} (h:W i j≠0):als S W n m i j []=(bgs S W n m i j).flatMap fun p=>(als S W n m (p.1+1) (p.2+1) []).map (p :: ·):=by
 rw [als_step h]
 refine flat_ext fun p _ => ?_
 rw [als_front _ _ _ ([]++[p]) rfl]
 simp
end Go.Dr.T
namespace Go.Dr.T
structure Pt (a b:List (Int × Int)) (ks:List Nat):Prop where
 inc:ks.Pairwise (· < ·)
 lt:∀ k∈ks,k<a.length
 eq:b=ks.map fun k=>a.getD k (0,0)
 pos:∀ p∈a,0<p.1
 dif:∀ i j,i<a.length→j<a.length→(a.getD i (0,0)).1=(a.getD j (0,0)).1→i=j
theorem shr_self {s:Int} {p:Int × Int} (hs:0≤s) (hp:0<p.1):shr s p p=p.2:=by
 obtain ⟨m,n⟩:=p
 rw [shr_case,if_neg (by simp at hp ⊢; omega),if_neg (by simp at hp;omega),if_neg (by simp)]
 simp
theorem shr_other {s:Int} {p q:Int × Int} (hp:0<p.1) (hq:0<q.1) (h:p.1≠q.1):shr s p q=0:=by
 obtain ⟨m,n⟩:=p
 obtain ⟨m', n'⟩:=q
 dsimp only at *
 have h2:¬ (m=0∨m' = 0):=by omega
 rw [shr_case,if_neg h2,if_pos h]
 split <;> rfl
section
variable {a b:List (Int × Int)} {ks:List Nat} {s:Int}
theorem Pt.len (h:Pt a b ks):b.length=ks.length:=by rw [h.eq,List.length_map]
theorem Pt.at (h:Pt a b ks) {t:Nat} (ht:t<ks.length):b.getD t (0,0)=a.getD (ks[t]) (0,0):=by
 rw [h.eq,List.getD_eq_getElem?_getD,List.getElem?_map,List.getElem?_eq_getElem ht];rfl
theorem Pt.mem (h:Pt a b ks) {k:Nat} (hk:k<a.length):0<(a.getD k (0,0)).1:=by
 rw [List.getD_eq_getElem?_getD,List.getElem?_eq_getElem hk]
 exact h.pos _ (List.getElem_mem hk)
theorem Pt.S (h:Pt a b ks) (hs:0≤s) {k t:Nat} (hk:k<a.length) (ht:t<ks.length):shA a b s k t=if k=ks[t] then (b.getD t (0,0)).2 else 0:=by
 have hkt:=h.lt _ (List.getElem_mem ht)
 unfold shA
 rw [h.at ht]
 by_cases e:k=ks[t]
 ·subst e;rw [if_pos rfl];exact shr_self hs (h.mem hkt)
 ·rw [if_neg e];exact shr_other (h.mem hk) (h.mem hkt) fun e2=>e (h.dif _ _ hk hkt e2)
theorem frS_at {b:List (Int × Int)} {t:Nat} (h:t<b.length):frS (b.drop t)=(b.getD t (0,0)).2+frS (b.drop (t+1)):=by
 rw [List.drop_eq_getElem_cons h,frS,List.getD_eq_getElem?_getD,List.getElem?_eq_getElem h];rfl
theorem frS_gap {b:List (Int × Int)} (hb:frOk b) {t l:Nat} (h:t<l) (hl:l≤b.length):frS (b.drop l)<frS (b.drop t):=by
 obtain ⟨d,rfl⟩:∃ d,l=t+1+d:=⟨l - (t+1),by omega⟩
 clear h
 induction d generalizing t with
 | zero =>
  rw [frS_at (t:=t) (by omega)]
  have:=hb _ (List.getElem_mem (show t<b.length by omega))
  rw [List.getD_eq_getElem?_getD,List.getElem?_eq_getElem (show t<b.length by omega)]
  dsimp only [Option.getD]
  rw [Nat.add_zero]
  omega
 | succ d ih =>
  have h1:=ih (t:=t+1) (by omega)
  rw [frS_at (t:=t) (by omega)]
  have:=hb _ (List.getElem_mem (show t<b.length by omega))
  rw [List.getD_eq_getElem?_getD,List.getElem?_eq_getElem (show t<b.length by omega)]
  dsimp only [Option.getD]
  rw [show t+1+(d+1)=t+1+1+d by omega]
  omega
def Fits (ks:List Nat) (i t:Nat):Prop:=t≤ks.length∧∀ h:t<ks.length,i≤ks[t]
theorem Pt.step (h:Pt a b ks) {t:Nat} (ht:t<ks.length):Fits ks (ks[t]+1) (t+1) :=
 ⟨ht,fun h2=>(List.pairwise_iff_getElem.1 h.inc) t (t+1) ht h2 (Nat.lt_succ_self t)⟩
theorem Pt.worth (h:Pt a b ks) (ha:shOk a) (hb:shOk b) (hs:0≤s):∀ (d i t:Nat),ks.length - t=d→Fits ks i t→wT a b s (-1) 0 i t=frS (b.drop t):=by
 intro d
 induction d with
 | zero =>
  intro i t hd hf
  have hl:=h.len
  have:=hf.1
  rw [wT_end2 (by omega),List.drop_of_length_le (by omega)];rfl
 | succ d ih =>
  intro i t hd hf
  have hl:=h.len
  have ht:t<ks.length:=by omega
  have hkt:=h.lt _ (List.getElem_mem ht)
  have h1:=ih (ks[t]+1) (t+1) (by omega) (h.step ht)
  have e:=h.S (s:=s) hs hkt ht
  rw [if_pos rfl] at e
  have hpos:0<(b.getD t (0,0)).2:=by
   have:=hb.fr _ (List.getElem_mem (show t<b.length by omega))
   rw [List.getD_eq_getElem?_getD,List.getElem?_eq_getElem (show t<b.length by omega)]
   dsimp only [Option.getD]
   omega
  have h2:=wT_take (s:=s) ha hb hkt (show t<b.length by omega) (by rw [e];exact hpos)
  have h3:=wT_mono1 (s:=s) ha hb (j:=t) i (ks[t]) (hf.2 ht)
  have h4:=wN_right (s:=s) ha.fr hb.fr (a.length - i) (b.length - t) (by omega) (by omega)
  rw [show b.length - (b.length - t)=t by omega] at h4
  have h5:wT a b s (-1) 0 i t≤frS (b.drop t):=h4
  rw [frS_at (by omega)] at h5 ⊢
  omega
theorem flat_one {α:Type} {g:Nat→List α} {c N:Nat} {x:α} (hc:g c=[x]) (ho:∀ k,k≠c→k<N→g k=[]):∀ (d i:Nat),i≤c→c<i+d→i+d≤N→(List.range' i d).flatMap g=[x]
 | 0,i,h1,h2,_=>absurd h2 (by omega)
 | d+1,i,h1,h2,h3=>by
  rw [List.range'_succ,List.flatMap_cons]
  by_cases e:i=c
  ·subst e
   rw [hc]
   have:(List.range' (i+1) d).flatMap g=[]:=by
    rw [List.flatMap_eq_nil_iff]
    intro k hk
    have:=List.mem_range'_1.1 hk
    exact ho k (by omega) (by omega)
   rw [this];rfl
  ·rw [ho i e (by omega),List.nil_append]
   exact flat_one hc ho d (i+1) (by omega) (by omega) (by omega)
theorem Pt.pairs (h:Pt a b ks) (ha:shOk a) (hb:shOk b) (hs:0≤s) {i t:Nat} (ht:t<ks.length) (hf:Fits ks i t):bgA (shA a b s) (wT a b s (-1) 0) a.length b.length i t=[(ks[t],t)]:=by
 have hl:=h.len
 have hkt:=h.lt _ (List.getElem_mem ht)
 have key:∀ k l,k<a.length→t≤l→l<ks.length→((0<shA a b s k l∧shA a b s k l+wT a b s (-1) 0 (k+1) (l+1)=wT a b s (-1) 0 i t) ↔ (k=ks[t]∧l=t)):=fun k l hk h1 h2=>by
  rw [h.S hs hk h2]
  by_cases e:k=ks[l]
  ·rw [if_pos e]
   have hw:=h.worth ha hb hs _ (k+1) (l+1) rfl (by rw [e];exact h.step h2)
   have hw2:=h.worth ha hb hs _ i t rfl hf
   have hfl:=frS_at (b:=b) (t:=l) (by omega)
   have hpos:0<(b.getD l (0,0)).2:=by
    have:=hb.fr _ (List.getElem_mem (show l<b.length by omega))
    rw [List.getD_eq_getElem?_getD,List.getElem?_eq_getElem (show l<b.length by omega)]
    dsimp only [Option.getD]
    omega
   constructor
   ·rintro ⟨_,q⟩
    have hlt:l=t:=by
     by_cases hlt:l=t
     ·exact hlt
     ·have:=frS_gap hb.fr (show t<l by omega) (by omega:l≤b.length)
      omega
    subst hlt
    exact ⟨e,rfl⟩
   ·rintro ⟨_,q⟩
    subst q
    exact ⟨hpos,by omega⟩
  ·rw [if_neg e]
   constructor
   ·rintro ⟨q,_⟩;exact absurd q (by omega)
   ·rintro ⟨q,r⟩;subst r;exact absurd q e
 unfold bgA
 refine flat_one (c:=ks[t]) (N:=a.length) ?_ ?_ _ _ (hf.2 ht) (by have:=hf.2 ht;omega) (by have:=hf.2 ht;omega)
 ·have e:bgR (shA a b s) (wT a b s (-1) 0) b.length (wT a b s (-1) 0 i t) t ks[t]=(ks[t],t) :: bgR (shA a b s) (wT a b s (-1) 0) b.length (wT a b s (-1) 0 i t) (t+1) ks[t]:=by
   rw [bgR_step (by omega),if_pos ((key _ _ hkt (Nat.le_refl _) ht).2 ⟨rfl,rfl⟩)]
  rw [e]
  have e2:bgR (shA a b s) (wT a b s (-1) 0) b.length (wT a b s (-1) 0 i t) (t+1) ks[t]=[]:=by
   unfold bgR
   rw [List.map_eq_nil_iff,List.filter_eq_nil_iff]
   intro l hl'
   have:=List.mem_range'_1.1 hl'
   simp only [decide_eq_true_eq]
   rw [key _ _ hkt (by omega) (by omega)]
   omega
  rw [e2]
 ·intro k hk hka
  unfold bgR
  rw [List.map_eq_nil_iff,List.filter_eq_nil_iff]
  intro l hl'
  have:=List.mem_range'_1.1 hl'
  simp only [decide_eq_true_eq]
  rw [key _ _ hka (by omega) (by omega)]
  exact fun q=>hk q.1
def wantL (ks:List Nat) (t:Nat):List (Nat × Nat):=(List.range' t (ks.length - t)).map fun l=>(ks.getD l 0,l)
theorem wantL_step {t:Nat} (ht:t<ks.length):wantL ks t=(ks[t],t) :: wantL ks (t+1):=by
 unfold wantL
 rw [show ks.length - t=(ks.length - (t+1))+1 by omega,List.range'_succ,List.map_cons,List.getD_eq_getElem?_getD,List.getElem?_eq_getElem ht];rfl
theorem wantL_end {t:Nat} (ht:ks.length≤t):wantL ks t=[]:=by unfold wantL;rw [show ks.length - t=0 by omega];rfl
end
theorem cut_als {x y:El} {ks:List Nat} {s:Int} (h:Pt x.l y.l ks) (ha:shOk x.l) (hb:shOk y.l) (hs:0≤s):∀ (d i t:Nat),ks.length - t=d→Fits ks i t→i≤x.l.length→als (shA x.l y.l s) (openT x y s) x.l.length y.l.length i t []=[wantL ks t]∧cT x y s i t=1∧openT x y s i t=frS (y.l.drop t):=by
 have hW:openT x y s=wT x.l y.l s (-1) 0:=by funext i j;exact openT_eq i j
 intro d
 induction d with
 | zero =>
  intro i t hd hf hi
  have hl:=h.len
  have:=hf.1
  have h0:openT x y s i t=0:=by rw [hW];exact wT_end2 (by omega)
  refine ⟨?_,?_,?_⟩
  ·rw [als_end h0,wantL_end (by omega)]
  ·rw [cT_eq ha hb hi (by omega),if_pos h0]
  ·rw [h0,List.drop_of_length_le (by omega)];rfl
 | succ d ih =>
  intro i t hd hf hi
  have hl:=h.len
  have ht:t<ks.length:=by omega
  have hkt:=h.lt _ (List.getElem_mem ht)
  have hw:=h.worth ha hb hs _ i t rfl hf
  rw [← hW] at hw
  have hpos:0<openT x y s i t:=by
   rw [hw]
   have:=frS_gap hb.fr (show t<t+1 by omega) (show t+1≤y.l.length by omega)
   have:=(frS_pos (hb.fr.drop (n:=t+1))).1
   omega
  have hp:=h.pairs ha hb hs ht hf
  rw [← hW] at hp
  obtain ⟨i1,i2,_⟩:=ih (ks[t]+1) (t+1) (by omega) (h.step ht) (by omega)
  refine ⟨?_,?_,hw⟩
  ·rw [als_cons (by omega),begins_same ha hb,hp,wantL_step ht]
   simp [i1]
  ·rw [cT_eq ha hb hi (by omega),if_neg (by omega),hp]
   simp [i2]
   decide
end Go.Dr.T
namespace Go.Dr.T
def lsP (l:List (Int × Int)):V:=if l=[] then .sl true 0 [] else .sl false l.length (shC l)
def idOf:V→Nat
 | .ms _ id _ _ _ _=>id
 | _=>0
theorem shC_appS:∀ {l m:List (Int × Int)},shC (l++m)=shC l++shC m
 | [],m=>rfl
 | p :: l,m=>by simp only [List.cons_append,shC,shC_appS (l:=l)]
theorem lsP_eq (l:List (Int × Int)):∃ c,lsP l = .sl c l.length (shC l):=by
 unfold lsP
 split
 ·rename_i h;subst h;exact ⟨true,rfl⟩
 ·exact ⟨false,rfl⟩
end Go.Dr.T
namespace Go.Dr.T
theorem shC_append:∀ {l m:List (Int × Int)},shC (l++m)=shC l++shC m
 | [],m=>rfl
 | p :: l,m=>by simp only [List.cons_append,shC,shC_append (l:=l)]
theorem views_sh {h:List B} {d:Nat}:∀ l:List (Int × Int),VwL h (d+1) (shC l) (shC l)
 | []=>VwL.nil
 | _ :: l=>VwL.cons (Vw.int rfl) (VwL.cons (Vw.int rfl) (views_sh l))
theorem scalars_sh:∀ l:List (Int × Int),scalars (shC l)=true
 | []=>rfl
 | _ :: l=>by simp only [shC,scalars,V.scalar,Bool.true_and];exact scalars_sh l
theorem ckF_val {l:List (Int × Int)} {e:Int} (he:e≠0):∀ k i,(∀ j,i≤j→j<i+k→eF l j=0∨eF l j=e)→((ckF l i k).2=0∧∀ j,i≤j→j<i+k→eF l j=0)∨((ckF l i k).2=e∧∃ j,i≤j∧j<i+k∧eF l j=e):=by
 intro k
 induction k with
 | zero=>intro i _;exact .inl ⟨rfl,fun j h1 h2=>by omega⟩
 | succ k ih =>
  intro i h
  unfold ckF
  rcases h i (Nat.le_refl _) (by omega) with h0 | h0
  ·rw [if_neg (by simp [h0])]
   rcases ih (i+1) (fun j h1 h2=>h j (by omega) (by omega)) with ⟨h1,h2⟩ | ⟨h1,j,h2,h3,h4⟩
   ·refine .inl ⟨h1,fun j h3 h4 => ?_⟩
    by_cases hj:j=i
    ·subst hj;exact h0
    ·exact h2 j (by omega) (by omega)
   ·exact .inr ⟨h1,j,by omega,by omega,h4⟩
  ·rw [if_pos (by rw [h0];exact he)]
   exact .inr ⟨h0,i,Nat.le_refl _,by omega,h0⟩
theorem eF_ok {nm:List UInt8} {l:List (Int × Int)} {g:Int} (h:(ckE nm l g).2=0) {j:Nat} (hj:j<l.length):eF l j=0:=by
 obtain ⟨_,_,_,_,h2⟩:=ck_good h
 obtain ⟨a,b,c,d,e⟩:=h2 j l[j] (List.getElem?_eq_getElem hj)
 unfold eF
 rw [List.getElem?_eq_getElem hj]
 dsimp only
 rw [if_neg (by simp only [outB,Bool.or_eq_true,decide_eq_true_eq];omega),if_neg (fun q=>e (by omega) q.2)]
def outP (p:Int × Int):Bool:=outB p.1 0 999 || outB p.2 1 200000
theorem eF_cons0 {l:List (Int × Int)} {p:Int × Int}:eF (p :: l) 0=if outP p=true then 7 else 0:=by
 unfold eF outP
 simp
theorem eF_consS {l:List (Int × Int)} {p:Int × Int} {j:Nat} (hj:j<l.length) (h:eF l j=0):eF (p :: l) (j+1)=if 0<l[j].1∧l[j].1=p.1 then 5 else 0:=by
 unfold eF at h ⊢
 rw [List.getElem?_eq_getElem hj] at h
 rw [List.getElem?_cons_succ,List.getElem?_eq_getElem hj]
 dsimp only at h ⊢
 split at h
 ·cases h
 ·rename_i h1
  rw [if_neg h1]
  split at h
  ·cases h
  ·rename_i h2
   rw [List.take_succ_cons,List.map_cons]
   by_cases hc:0<l[j].1∧l[j].1=p.1
   ·rw [if_pos hc,if_pos ⟨hc.1,by rw [hc.2];simp⟩]
   ·rw [if_neg hc,if_neg]
    rintro ⟨h3,h4⟩
    rcases List.mem_cons.1 h4 with h5 | h5
    ·exact hc ⟨h3,h5⟩
    ·exact h2 ⟨h3,h5⟩
theorem eF_app {l:List (Int × Int)} {p:Int × Int} {j:Nat} (hj:j<l.length):eF (l++[p]) j=eF l j:=by
 unfold eF
 rw [List.getElem?_append_left hj,List.take_append_of_le_length (by omega)]
theorem eF_last {l:List (Int × Int)} {p:Int × Int}:eF (l++[p]) l.length=if outP p=true then 7 else if 0<p.1∧p.1∈l.map (·.1) then 5 else 0:=by
 unfold eF outP
 rw [List.getElem?_append_right (Nat.le_refl _),Nat.sub_self,List.take_left]
 rfl
theorem ck_both {nm:List UInt8} {l:List (Int × Int)} {g:Int} {p:Int × Int} (h:(ckE nm l g).2=0):(ckE nm (p :: l) g).2=(ckE nm (l++[p]) g).2:=by
 obtain ⟨h1,h2,h3,h4,h5⟩:=ck_good h
 have hall:∀ j,j<l.length→eF l j=0:=fun j hj=>eF_ok h hj
 unfold ckE
 have hn:¬ nmOk nm=false:=by simp [h1]
 have hg:¬ outB g 0 9=true:=by simp only [outB,Bool.or_eq_true,decide_eq_true_eq];omega
 rw [if_neg hn,if_neg hn,if_neg hg,if_neg hg]
 have hlen:(l++[p]).length=(p :: l).length:=by simp
 rw [hlen]
 split
 ·rfl
 cases hp:outP p with
 | true =>
  have e1:(ckF (p :: l) 0 (p :: l).length).2=7:=by
   have:=ckF_err (l:=p :: l) (i:=0) (by simp) (by rw [eF_cons0,hp];decide)
   rw [Nat.sub_zero] at this
   rw [this,eF_cons0,hp];rfl
  rw [e1]
  rcases ckF_val (l:=l++[p]) (e:=7) (by decide) (p :: l).length 0 (fun j _ hj=>by
   by_cases hj' : j<l.length
   ·rw [eF_app hj'];exact .inl (hall j hj')
   ·have:j=l.length:=by simp at hj;omega
    subst this
    rw [eF_last,hp];exact .inr rfl) with ⟨_,h6⟩ | ⟨h6,_⟩
  ·have:=h6 l.length (Nat.zero_le _) (by simp)
   rw [eF_last,hp] at this
   cases this
  ·rw [h6]
 | false =>
  have c1:∀ j,0≤j→j<0+(p :: l).length→eF (p :: l) j=0∨eF (p :: l) j=5:=by
   intro j _ hj
   cases j with
   | zero=>rw [eF_cons0,hp];exact .inl rfl
   | succ j =>
    rw [eF_consS (by simpa using hj) (hall j (by simpa using hj))]
    split
    ·exact .inr rfl
    ·exact .inl rfl
  have c2:∀ j,0≤j→j<0+(p :: l).length→eF (l++[p]) j=0∨eF (l++[p]) j=5:=by
   intro j _ hj
   by_cases hj' : j<l.length
   ·rw [eF_app hj'];exact .inl (hall j hj')
   ·have:j=l.length:=by simp at hj;omega
    subst this
    rw [eF_last,hp]
    simp only [Bool.false_eq_true,if_false]
    split
    ·exact .inr rfl
    ·exact .inl rfl
  rcases ckF_val (e:=5) (by decide) _ _ c1 with ⟨a1,a2⟩ | ⟨a1,j,a2,a3,a4⟩
  ·rcases ckF_val (e:=5) (by decide) _ _ c2 with ⟨b1,b2⟩ | ⟨b1,j,b2,b3,b4⟩
   ·rw [a1,b1]
   ·exfalso
    by_cases hj' : j<l.length
    ·rw [eF_app hj', hall j hj'] at b4;cases b4
    ·have:j=l.length:=by simp at b3;omega
     subst this
     rw [eF_last,hp] at b4
     simp only [Bool.false_eq_true,if_false] at b4
     split at b4
     ·rename_i hc
      obtain ⟨q,hq,hqe⟩:=List.mem_map.1 hc.2
      obtain ⟨i,hi,rfl⟩:=List.getElem_of_mem hq
      have:=a2 (i+1) (Nat.zero_le _) (by simp;omega)
      rw [eF_consS hi (hall i hi),if_pos ⟨by rw [hqe];exact hc.1,hqe⟩] at this
      cases this
     ·cases b4
  ·rcases ckF_val (e:=5) (by decide) _ _ c2 with ⟨b1,b2⟩ | ⟨b1,_⟩
   ·exfalso
    cases j with
    | zero=>rw [eF_cons0,hp] at a4;cases a4
    | succ j =>
     have hj:j<l.length:=by simpa using a3
     rw [eF_consS hj (hall j hj)] at a4
     split at a4
     ·rename_i hc
      have:=b2 l.length (Nat.zero_le _) (by simp)
      rw [eF_last,hp] at this
      simp only [Bool.false_eq_true,if_false] at this
      rw [if_pos ⟨by rw [← hc.2];exact hc.1,by rw [← hc.2];exact List.mem_map.2 ⟨_,List.getElem_mem hj,rfl⟩⟩] at this
      cases this
     ·cases a4
   ·rw [a1,b1]
theorem ckd_two {x y:El}:ckd [x,y]=if x.e≠0 then x.e else if y.e≠0 then y.e else 0:=rfl
theorem openE_0 {x y:El} {s:Int} (h:openE x y s=0):x.e=0∧y.e=0∧0≤s∧s≤200000:=by
 have h3:=(open_good h).2.2
 unfold openE at h
 rw [ckd_two] at h
 by_cases hx:x.e=0
 ·by_cases hy:y.e=0
  ·exact ⟨hx,hy,h3⟩
  ·have e:(if x.e≠0 then x.e else if y.e≠0 then y.e else 0)=y.e:=by rw [if_neg (by simp [hx]),if_pos hy]
   rw [e,if_pos hy] at h;exact absurd h hy
 ·have e:(if x.e≠0 then x.e else if y.e≠0 then y.e else 0)=x.e:=by rw [if_pos hx]
  rw [e,if_pos hx] at h;exact absurd h hx
theorem openE_of {x y:El} {s:Int} (hy:y.e=0) (hs:0≤s∧s≤200000):openE x y s=x.e:=by
 unfold openE
 rw [ckd_two]
 by_cases hx:x.e=0
 ·have e:(if x.e≠0 then x.e else if y.e≠0 then y.e else 0)=0:=by rw [if_neg (by simp [hx]),if_neg (by simp [hy])]
  rw [e,if_neg (by decide),if_neg (by simp only [outB,Bool.or_eq_true,decide_eq_true_eq];omega),hx]
 ·have e:(if x.e≠0 then x.e else if y.e≠0 then y.e else 0)=x.e:=by rw [if_pos hx]
  rw [e,if_pos hx]
end Go.Dr.T
