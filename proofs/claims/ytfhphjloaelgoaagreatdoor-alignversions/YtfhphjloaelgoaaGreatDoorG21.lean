/- Chapter 06: breadth first over numbers, as the document has it: plain. -/
import Derived.Test.YtfhphjloaelgoaaGreatDoorR06Y6
import Derived.Test.YtfhphjloaelgoaaGreatDoorR06V2
import Derived.Test.YtfhphjloaelgoaaGreatDoorG15
namespace Go.Dr.T
def lastN:List Nat→Nat
 | []=>0
 | [a]=>a
 | _ :: b :: l=>lastN (b :: l)
theorem lastN_snoc {m:Nat}:∀ {l:List Nat},lastN (l++[m])=m
 | []=>rfl
 | [_]=>rfl
 | _ :: b :: l=>by simpa only [List.cons_append,lastN] using lastN_snoc (m:=m) (l:=b :: l)
theorem lastM_nI:∀ l:List Nat,lastM (nI l)=(lastN l:Nat)
 | []=>rfl
 | [_]=>rfl
 | a :: b :: l=>by
  have:=lastM_nI (b :: l)
  simpa only [nI,List.map_cons,lastM,lastN] using this
theorem lastN_get:∀ {l:List Nat},l≠[]→l[l.length - 1]?=some (lastN l)
 | [a],_=>rfl
 | a :: b :: l,_=>by
  have:=lastN_get (l:=b :: l) (by simp)
  simp only [List.length_cons,Nat.add_sub_cancel] at this ⊢
  rw [List.getElem?_cons_succ]
  exact this
def frT (T:Nat→Nat→Bool) (f q:Nat) (sn:Nat→Bool) (m:Nat):List Nat:=(List.range' 1 (m - 1)).filter fun k=>decide (f<k) && (T q k && !sn k)
def snT (T:Nat→Nat→Bool) (f q:Nat) (sn:Nat→Bool) (m:Nat):Nat→Bool:=fun k=>sn k || decide (k∈frT T f q sn m)
theorem frT_mem {T:Nat→Nat→Bool} {f q:Nat} {sn:Nat→Bool} {m k:Nat}:k∈frT T f q sn m ↔ 1≤k∧k<m∧f<k∧T q k=true∧sn k=false:=by
 unfold frT
 rw [List.mem_filter,List.mem_range'_1]
 simp only [Bool.and_eq_true,decide_eq_true_eq,Bool.not_eq_true']
 constructor
 ·rintro ⟨⟨h1,h2⟩,h3,h4⟩
  exact ⟨h1,by omega,h3,h4⟩
 ·rintro ⟨h1,h2,h3,h4⟩
  exact ⟨⟨h1,by omega⟩,h3,h4⟩
theorem frT_start {T:Nat→Nat→Bool} {f q:Nat} {sn:Nat→Bool}:frT T f q sn (f+1)=[]:=by
 apply List.eq_nil_iff_forall_not_mem.2
 intro k hk
 have:=frT_mem.1 hk
 omega
theorem frT_step {T:Nat→Nat→Bool} {f q:Nat} {sn:Nat→Bool} {m:Nat} (h:f<m):frT T f q sn (m+1)=frT T f q sn m++(if T q m=true∧sn m=false then [m] else []):=by
 obtain ⟨d,rfl⟩:∃ d,m=d+1:=⟨m - 1,by omega⟩
 unfold frT
 rw [show d+1+1 - 1=d+1 by omega,show d+1 - 1=d by omega,List.range'_concat,List.filter_append,show 1+1 * d=d+1 by omega]
 congr 1
 rw [List.filter_cons,List.filter_nil]
 by_cases hx:T q (d+1)=true∧sn (d+1)=false
 ·rw [if_pos hx,if_pos (by simp [h,hx.1,hx.2])]
 ·rw [if_neg hx,if_neg (by simpa [h] using hx)]
theorem snT_start {T:Nat→Nat→Bool} {f q:Nat} {sn:Nat→Bool}:snT T f q sn (f+1)=sn:=by
 funext k
 unfold snT
 rw [frT_start];simp
theorem snT_at {T:Nat→Nat→Bool} {f q:Nat} {sn:Nat→Bool} {m:Nat}:snT T f q sn m m=sn m:=by
 unfold snT
 rw [decide_eq_false (fun h=>by have:=frT_mem.1 h;omega),Bool.or_false]
theorem snT_skip {T:Nat→Nat→Bool} {f q:Nat} {sn:Nat→Bool} {m:Nat} (h:f<m) (hx:¬ (T q m=true∧sn m=false)):frT T f q sn (m+1)=frT T f q sn m∧snT T f q sn (m+1)=snT T f q sn m:=by
 have e:frT T f q sn (m+1)=frT T f q sn m:=by rw [frT_step h,if_neg hx,List.append_nil]
 exact ⟨e,by unfold snT;rw [e]⟩
theorem snT_push {T:Nat→Nat→Bool} {f q:Nat} {sn:Nat→Bool} {m:Nat} (h:f<m) (hx:T q m=true∧sn m=false):frT T f q sn (m+1)=frT T f q sn m++[m]∧snT T f q sn (m+1)=upB (snT T f q sn m) m true:=by
 have e:frT T f q sn (m+1)=frT T f q sn m++[m]:=by rw [frT_step h,if_pos hx]
 refine ⟨e,?_⟩
 funext k
 unfold snT upB
 rw [e]
 by_cases hk:k=m
 ·subst hk;simp
 ·rw [if_neg hk]
  congr 1
  rw [decide_eq_decide,List.mem_append,List.mem_singleton]
  constructor
  ·rintro (h | h)
   ·exact h
   ·exact absurd h hk
  ·exact .inl
def pgoN (T:Nat→Nat→Bool) (f:Nat):Nat→List (List Nat)→(Nat→Bool)→Option (Option (List Nat))
 | 0,_,_=>none
 | _+1,[],_=>some none
 | n+1,p :: ps,sn=>if T (lastN p) f=true then some (some p) else pgoN T f n (ps++(frT T f (lastN p) sn 1000).map fun k=>p++[k]) (snT T f (lastN p) sn 1000)
theorem nI_snoc (l:List Nat) (k:Nat):nI (l++[k])=nI l++[(k:Int)]:=by simp [nI]
theorem mks_nI:mks=nI (List.range' 1 999):=by
 have key:∀ n,mks.ofR n=nI (List.range' 1 n):=by
  intro n
  induction n with
  | zero=>rfl
  | succ n ih=>rw [mks.ofR,ih,List.range'_concat,nI_snoc,show 1+1 * n=n+1 by omega]
 exact key 999
theorem pgo_N {D:List PE} (w:Wg D) {T:Nat→Nat→Bool} (hT:∀ i j:Nat,i<1000→j<1000→(T i j=true ↔ (j:Int)∈pM D (i:Int))) {f:Nat} (hf:f<1000):∀ {n:Nat} {Q:List (List Nat)} {sn:Nat→Bool} {si:List Int},
  (∀ p∈Q,lastN p<1000)→(∀ k:Nat,k<1000→(sn k=true ↔ (k:Int)∈si))→pgo (gS D) (f:Int) (f:Int) (f:Int) n (Q.map nI) si=(pgoN T f n Q sn).map fun r=>r.map nI
 | 0,Q,sn,si,hq,hs=>rfl
 | n+1,[],sn,si,hq,hs=>rfl
 | n+1,p :: ps,sn,si,hq,hs=>by
  have hp:=hq p (by simp)
  have ht:(f:Int)∈gS D (lastM (nI p)) ↔ T (lastN p) f=true:=by rw [lastM_nI,gS_mem,hT _ _ hp hf]
  have hfr:fresh (gS D) (f:Int) (f:Int) si (lastM (nI p))=nI (frT T f (lastN p) sn 1000):=by
   unfold fresh frT
   rw [lastM_nI,gS,isort_mks (w.ln _) (w.rl _),List.filter_filter,mks_nI]
   unfold nI
   rw [List.filter_map]
   congr 1
   apply List.filter_congr
   intro k hk
   rw [List.mem_range'_1] at hk
   have h1:=hT (lastN p) k hp (by omega)
   have h2:=hs k (by omega)
   simp only [Function.comp]
   rw [Bool.eq_iff_iff]
   simp only [Bool.and_eq_true,decide_eq_true_eq,Bool.not_eq_true']
   constructor
   ·rintro ⟨⟨g1,g2,g3⟩,g4⟩
    refine ⟨by omega,h1.2 g4,?_⟩
    cases hk2:sn k with
    | false=>rfl
    | true=>exact absurd (h2.1 hk2) g1
   ·rintro ⟨g1,g2,g3⟩
    exact ⟨⟨(fun h=>by rw [h2.2 h] at g3;cases g3),by omega,by omega⟩,h1.1 g2⟩
  rw [List.map_cons,pgo,pgoN]
  by_cases h:T (lastN p) f=true
  ·rw [if_pos (ht.2 h),if_pos h];rfl
  ·rw [if_neg (fun hh=>h (ht.1 hh)),if_neg h,hfr]
   have hmap:ps.map nI++(nI (frT T f (lastN p) sn 1000)).map (fun k=>nI p++[k])=(ps++(frT T f (lastN p) sn 1000).map fun k=>p++[k]).map nI:=by
    rw [List.map_append,List.map_map]
    congr 1
    unfold nI
    rw [List.map_map]
    apply List.map_congr_left
    intro k _
    simp [nI]
   rw [hmap]
   refine pgo_N w hT hf (fun x hx => ?_) (fun k hk => ?_)
   ·rcases List.mem_append.1 hx with hx | hx
    ·exact hq x (by simp [hx])
    ·obtain ⟨k,hk,rfl⟩:=List.mem_map.1 hx
     rw [lastN_snoc]
     exact (frT_mem.1 hk).2.1
   ·unfold snT
    rw [Bool.or_eq_true,decide_eq_true_eq,List.mem_append,hs k hk]
    have:(k:Int)∈nI (frT T f (lastN p) sn 1000) ↔ k∈frT T f (lastN p) sn 1000:=by
     unfold nI
     rw [List.mem_map]
     constructor
     ·rintro ⟨j,hj,e⟩
      have:j=k:=by omega
      exact this ▸ hj
     ·exact fun h=>⟨k,h,rfl⟩
    rw [this]
theorem way_N {D:List PE} (w:Wg D) {T:Nat→Nat→Bool} (hT:∀ i j:Nat,i<1000→j<1000→(T i j=true ↔ (j:Int)∈pM D (i:Int))) {f:Nat} (hf:f<1000):∃ r,pgoN T f 1002 [[f]] (fun _=>false)=some r∧wayP D f f f=r.map nI:=by
 have h1:=(w.way (a:=f) (t:=f) (ab:=f)).1
 have h2:=pgo_N w hT hf (n:=1002) (Q:=[[f]]) (sn:=fun _=>false) (si:=[]) (fun p hp=>by rw [List.mem_singleton] at hp;subst hp;exact hf) (fun k _=>by simp)
 have e:[[f]].map nI=[[(f:Int)]]:=rfl
 rw [e,h1] at h2
 cases hr:pgoN T f 1002 [[f]] (fun _=>false) with
 | none=>rw [hr] at h2;cases h2
 | some r =>
  rw [hr,Option.map_some,Option.some.injEq] at h2
  exact ⟨r,rfl,h2⟩
end Go.Dr.T
namespace Go.Dr.T
def Lw (h:List B) (l:List (Int × Int)) (v:V):Prop:=(l=[]∧v = .nilsl)∨∃ q,l≠[]∧v = .ms 2 (q+2) (l.length * 2) 0 l.length false∧bget h (q+2)=some (.blk (shC l) true)
theorem Lw.app {h:List B} {l:List (Int × Int)} {v:V} {b:B} (e:Lw h l v):Lw (h++[b]) l v:=by
 rcases e with e | ⟨q,e1,e2,e3⟩
 ·exact .inl e
 ·exact .inr ⟨q,e1,e2,bget_app e3⟩
theorem Lw.set {h:List B} {l:List (Int × Int)} {v:V} {b:B} {n:Nat} (e:Lw h l v) (hn:n<2∨idOf v≠n):Lw (bset h n b) l v:=by
 rcases e with e | ⟨q,e1,e2,e3⟩
 ·exact .inl e
 ·subst e2
  refine .inr ⟨q,e1,rfl,?_⟩
  have hne:n≠q+2:=by
   rcases hn with h | h
   ·omega
   ·exact fun e=>h e.symm
  rw [bset_other hne]
  exact e3
theorem Lw.view {h:List B} {l:List (Int × Int)} {v:V} {d:Nat} (e:Lw h l v):Vw h (d+2) v (lsP l):=by
 rcases e with ⟨rfl,rfl⟩ | ⟨q,e1,rfl,e3⟩
 ·exact Vw.nil
 ·unfold lsP
  rw [if_neg e1]
  refine Vw.ms (d:=d+1) e3 (shC_length _) (part_all (shC_length _)) ?_
  have key:∀ l:List (Int × Int),VwL h (d+1) (shC l) (shC l):=by
   intro l
   induction l with
   | nil=>exact VwL.nil
   | cons p l ih=>exact VwL.cons (Vw.int rfl) (VwL.cons (Vw.int rfl) ih)
  exact key l
theorem Lw.alive {h:List B} {l:List (Int × Int)} {v:V} (e:Lw h l v):v ≠ .dead:=by
 rcases e with ⟨_,rfl⟩ | ⟨q,_,rfl,_⟩ <;> simp
theorem Lw.norm {h:List B} {l:List (Int × Int)} {v:V} {m:List Bool} {n i:Nat} {tm:List V} (hn:n≤h.length) (e:Lw h l v) (hv:tg (masked m tm) i=v):Lw (norm m n ⟨tm,h⟩).h l v:=by
 rcases e with e | ⟨q,e1,rfl,e3⟩
 ·exact .inl e
 ·exact .inr ⟨q,e1,rfl,norm_keep (i:=i) hn (fun k hk=>by rw [hv] at hk;exact of_decide_eq_true hk) e3⟩
theorem tab_get {n m i:Nat} {T:Nat→Nat→Int} (h:i≤n):cellAt ((List.range (n+1)).map fun i=>rowV m (T i)) (i * 1)=some (rowV m (T i)):=by
 rw [cellAt_eq,Nat.mul_one]
 simp [show i<n+1 by omega]
theorem row_get {m j:Nat} {f:Nat→Int} (h:j≤m):cellAt (rowC m f) (j * 1)=some (.int .i64 (f j)):=by
 have:=rowC_get (f:=f) h
 rwa [Nat.zero_add] at this
theorem wN_none {a b:List (Int × Int)} {s:Int}:∀ k l,wN a b s (-1) (-1) k l=wN a b s (-1) 0 k l:=by
 intro k
 induction k with
 | zero=>intro l;rfl
 | succ k ihk =>
  intro l
  induction l with
  | zero=>rfl
  | succ l ihl =>
   rw [wN_S,wN_S,ihk,ihk,ihl]
   dsimp only
   by_cases h:0<shA a b s (a.length - (k+1)) (b.length - (l+1))
   ·rw [if_pos ⟨h,by omega⟩,if_pos ⟨h,by omega⟩]
   ·rw [if_neg (fun q=>h q.1),if_neg (fun q=>h q.1)]
theorem wT_none {x y:El} {s:Int}:wT x.l y.l s (-1) (-1)=openT x y s:=by
 funext i j
 rw [openT_eq]
 exact wN_none _ _
theorem none_ok:Fun FB md 57 [] (.agg [.int .i64 (-1),.int .i64 (-1)]):=by
 refine fun_of rfl rfl ?_
 repeat' (first
 | (conv=>whnf)
   first
   | refine Get.mk _ rfl ?_
   | refine Leaves.of ?_
   | refine Vw.int ?_
   | refine Vw.agg ?_
   | refine VwL.cons ?_ ?_
   | refine VwL.nil
   | (refine Req.mk ?_ ?_;(focus first | rfl | decide | exact ⟨rfl,rfl⟩ | exact ⟨rfl,by decide⟩ | exact (fun _=>rfl) | exact (fun h=>nomatch h) | (simp;done) | omega | (simp [big];done) | exact le_big (by omega) | exact lt_big (by omega))))
 all_goals rfl
end Go.Dr.T
