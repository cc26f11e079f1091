/- Chapter 06: all best alignments, plain: the list, in order. -/
import Derived.Test.YtfhphjloaelgoaaGreatDoorG23
import Derived.Test.YtfhphjloaelgoaaGreatDoorDrJ
import Derived.Test.YtfhphjloaelgoaaGreatDoorR06N1
namespace Go.Dr.T
def goR {σ τ:Type} (ok:σ→τ→Bool) (nx:σ→τ→σ):σ→List τ→σ × Bool
 | s,[]=>(s,true)
 | s,p :: ps=>if ok s p=true then goR ok nx (nx s p) ps else (nx s p,false)
theorem goR_t {σ τ:Type} {ok:σ→τ→Bool} {nx:σ→τ→σ} {p:τ} {l:List τ} {s:σ} (h:ok s p=true):goR ok nx s (p :: l)=goR ok nx (nx s p) l:=by
 conv=>lhs;unfold goR
 rw [if_pos h]
theorem goR_f {σ τ:Type} {ok:σ→τ→Bool} {nx:σ→τ→σ} {p:τ} {l:List τ} {s:σ} (h:ok s p=false):goR ok nx s (p :: l)=(nx s p,false):=by
 conv=>lhs;unfold goR
 rw [if_neg (by simp [h])]
theorem goR_app_t {σ τ:Type} {ok:σ→τ→Bool} {nx:σ→τ→σ}:∀ {l k:List τ} {s s' : σ},goR ok nx s l=(s', true)→goR ok nx s (l++k)=goR ok nx s' k
 | [],k,s,s', h=>by
  simp only [goR,Prod.mk.injEq] at h
  rw [h.1];rfl
 | p :: l,k,s,s', h=>by
  cases hp:ok s p with
  | true=>rw [goR_t hp] at h;rw [List.cons_append,goR_t hp];exact goR_app_t h
  | false=>rw [goR_f hp] at h;simp at h
theorem goR_app_f {σ τ:Type} {ok:σ→τ→Bool} {nx:σ→τ→σ}:∀ {l k:List τ} {s s' : σ},goR ok nx s l=(s', false)→goR ok nx s (l++k)=(s', false)
 | [],k,s,s', h=>by simp [goR] at h
 | p :: l,k,s,s', h=>by
  cases hp:ok s p with
  | true=>rw [goR_t hp] at h;rw [List.cons_append,goR_t hp];exact goR_app_f h
  | false=>rw [goR_f hp] at h;rw [List.cons_append,goR_f hp];exact h
theorem goR_inv {σ τ:Type} {ok:σ→τ→Bool} {nx:σ→τ→σ} {Iv:σ→Prop} (hn:∀ s p,Iv s→ok s p=true→Iv (nx s p)):∀ {l:List τ} {s:σ},Iv s→(goR ok nx s l).2=true→Iv (goR ok nx s l).1
 | [],s,h,_=>h
 | p :: l,s,h,e=>by
  cases hp:ok s p with
  | true=>rw [goR_t hp] at e ⊢; exact goR_inv hn (hn s p h hp) e
  | false=>rw [goR_f hp] at e;simp at e
theorem goY_flat {σ τ:Type} {ok:σ→τ→Bool} {nx:σ→τ→σ} {f:Nat × Nat→List τ}:∀ {l:List (Nat × Nat)} {s:σ},goY (σ:=σ × Bool) (fun q p=>(goR ok nx q.1 (f p)).2) (fun q p=>goR ok nx q.1 (f p)) (s,true) l=goR ok nx s (l.flatMap f)
 | [],s=>rfl
 | p :: l,s=>by
  unfold goY
  dsimp only
  rw [List.flatMap_cons]
  cases h:goR ok nx s (f p) with
  | mk s' b =>
   cases b with
   | true=>rw [if_pos rfl,goR_app_t h];exact goY_flat
   | false=>rw [if_neg (by simp),goR_app_f h]
theorem goY_R {σ:Type} {ok:σ→Nat × Nat→Bool} {nx:σ→Nat × Nat→σ}:∀ {l:List (Nat × Nat)} {s:σ},goY ok nx s l=(goR ok nx s l).1
 | [],s=>rfl
 | p :: l,s=>by
  cases h:ok s p with
  | true=>rw [goR_t h];unfold goY;rw [if_pos h];exact goY_R
  | false=>rw [goR_f h];unfold goY;rw [if_neg (by simp [h])]
theorem flat_ext {α β:Type} {f g:α→List β}:∀ {l:List α},(∀ a∈l,f a=g a)→l.flatMap f=l.flatMap g
 | [],_=>rfl
 | a :: l,h=>by rw [List.flatMap_cons,List.flatMap_cons,h a (by simp),flat_ext fun b hb=>h b (by simp [hb])]
def alsF (S W:Nat→Nat→Int) (n m:Nat):Nat→Nat→Nat→List (Nat × Nat)→List (List (Nat × Nat))
 | 0,_,_,_=>[]
 | d+1,i,j,bef=>if W i j=0 then [bef] else (bgs S W n m i j).flatMap fun p=>alsF S W n m d (p.1+1) (p.2+1) (bef++[p])
theorem alsF_more {S W:Nat→Nat→Int} {n m:Nat}:∀ {d d' i j:Nat} {bef:List (Nat × Nat)},i≤n→n - i<d→n - i<d' → alsF S W n m d i j bef=alsF S W n m d' i j bef
 | 0,_,_,_,_,_,h,_=>absurd h (by omega)
 | _+1,0,_,_,_,_,_,h=>absurd h (by omega)
 | d+1,d' + 1,i,j,bef,hi,h1,h2=>by
  unfold alsF
  split
  ·rfl
  ·refine flat_ext fun p hp => ?_
   have:=bgs_mem hp
   exact alsF_more (by omega) (by omega) (by omega)
def als (S W:Nat→Nat→Int) (n m i j:Nat) (bef:List (Nat × Nat)):List (List (Nat × Nat)):=alsF S W n m (n - i+1) i j bef
theorem als_end {S W:Nat→Nat→Int} {n m i j:Nat} {bef:List (Nat × Nat)} (h:W i j=0):als S W n m i j bef=[bef]:=by unfold als alsF;rw [if_pos h]
theorem als_step {S W:Nat→Nat→Int} {n m i j:Nat} {bef:List (Nat × Nat)} (h:W i j≠0):als S W n m i j bef=(bgs S W n m i j).flatMap fun p=>als S W n m (p.1+1) (p.2+1) (bef++[p]):=by
 unfold als
 conv=>lhs;unfold alsF
 rw [if_neg h]
 refine flat_ext fun p hp => ?_
 have:=bgs_mem hp
 exact alsF_more (by omega) (by omega) (by omega)
theorem als_front {S W:Nat→Nat→Int} {n m:Nat}:∀ (d i j:Nat) (bef:List (Nat × Nat)),n - i=d→als S W n m i j bef=(als S W n m i j []).map (bef ++ ·):=by
 intro d
 induction d using Nat.strongRecOn with
 | ind d ih =>
  intro i j bef hd
  by_cases h:W i j=0
  ·rw [als_end h,als_end h];simp
  ·rw [als_step h,als_step h,List.map_flatMap]
   refine flat_ext fun p hp => ?_
   have:=bgs_mem hp
   rw [ih (n - (p.1+1)) (by omega) _ _ (bef++[p]) rfl,ih (n - (p.1+1)) (by omega) _ _ ([]++[p]) rfl,List.map_map]
   simp [Function.comp_def]
theorem als_cons {S W:Nat→Nat→Int} {n m i j:Nat} (h:W i j≠0):als S W n m i j []=(bgs S W n m i j).flatMap fun p=>(als S W n m (p.1+1) (p.2+1) []).map (p :: ·):=by
 rw [als_step h]
 refine flat_ext fun p _ => ?_
 rw [als_front _ _ _ ([]++[p]) rfl]
 simp
end Go.Dr.T
namespace Go.Dr.T
theorem views_shL {h:List B} {d:Nat}:∀ l:List (Int × Int),VwLF h (d+1) (shC l) (shC l)
 | []=>VwLF.nil
 | _ :: l=>VwLF.cons (VwF.int rfl) (VwLF.cons (VwF.int rfl) (views_shL l))
theorem scal_sh:∀ l:List (Int × Int),scalars (shC l)=true
 | []=>rfl
 | _ :: l=>by simp only [shC,scalars,V.scalar,Bool.true_and];exact scal_sh l
set_option maxRecDepth 100000 in
theorem clone_ok {c:Bool} {l:List (Int × Int)} (hl:l.length≤1000) (h0:l.length≠0):FunF FB md 92 [.sl c l.length (shC l)] (.sl false l.length (shC l)):=by
 have hlen:=shC_length l
 have hr:(([]:List V).length+(shC l).length) * (16+1)<big:=by rw [hlen];simp [big];omega
 have hs:true=true→scalars ([]++shC l)=true:=fun _=>scal_sh l
 have hvw:∀ h,bget h 0=some (.blk ([]++shC l) true)→VwF h depth (.ms 2 (0+0) (([]:List V).length+(shC l).length) 0 (0+l.length) false) (.sl false l.length (shC l)):=fun h hb=>by
  show VwF h depth (.ms 2 0 (0+(shC l).length) 0 (0+l.length) false) _
  rw [Nat.zero_add,Nat.zero_add]
  exact VwF.ms (d:=63) (dat:=true) hb (by rw [List.nil_append]) (part_all (by rw [List.nil_append,hlen])) (views_shL (d:=62) l)
 have heq:eqv2 3 (.sl c l.length (shC l)) .nilsl=some false:=by unfold eqv2;simp [h0]
 refine funF_of rfl rfl ?_
 repeat' (first
 | (conv=>whnf)
   first
   | refine hvw _ rfl
   | refine Br.f ?_
   | refine Get.mk _ heq ?_
   | refine Req.mk hlen ?_
   | refine Req.mk hr ?_
   | refine Req.mk hs ?_
   | (refine Ifz.pos ?_ ?_;(focus omega))
   | refine Get.mk _ rfl ?_
   | refine LeavesF.of ?_
   | (refine Req.mk ?_ ?_;(focus first | rfl | decide | exact ⟨rfl,rfl⟩ | exact ⟨rfl,by decide⟩ | exact (fun _=>rfl) | exact (fun h=>nomatch h) | (simp;done) | omega | (simp [big];done) | exact le_big (by omega) | exact lt_big (by omega))))
 all_goals first | (exfalso;omega;done)
theorem clip_ms {id g len ro:Nat} {c:Bool} {h:List B} {K:V→List B→Prop} (hid:id<h.length) (hl:len≤1000) (hk:K (.ms 2 id g 0 len true) h):CallP FB md ro (.fn 93 []) [.ms 2 id g 0 len c] h K:=by
 have hb:(V.ms 2 id g 0 len true).blo h.length=true:=decide_eq_true hid
 have hd:decide (len=len)=true:=decide_eq_true rfl
 refine call_two rfl rfl rfl ?_
 repeat' (first
 | (conv=>whnf)
   first
   | refine fLen.mk ?_
   | refine fB.i0 ?_
   | (refine Idx.nat ?_ ?_;(focus omega))
   | refine Get.mk _ rfl ?_
   | refine Ends.of ?_)
 refine Req.mk ?_ ?_
 ·show (V.ms 2 id g (0+0 * 2) (len - 0) (decide (len=len))).blo h.length=true
  exact hb
 ·show K (V.ms 2 id g 0 len (decide (len=len))) h
  rw [hd];exact hk
theorem clipA_nil {ro:Nat} {h:List B} {K:V→List B→Prop} (hk:K .nilsl h):CallP FB md ro (.fn 93 []) [.nilsl] h K:=by
 refine call_two rfl rfl rfl ?_
 repeat' (first
 | (conv=>whnf)
   first
   | refine fLen.mk ?_
   | refine fB.i0 ?_
   | (refine Idx.int ?_ ?_ ?_;(focus omega);(focus omega))
   | refine Get.mk _ rfl ?_
   | refine Ends.of ?_
   | (refine Req.mk ?_ ?_;(focus first | rfl | decide | exact ⟨rfl,rfl⟩ | exact ⟨rfl,by decide⟩ | exact (fun _=>rfl) | exact (fun h=>nomatch h) | (simp;done) | omega | (simp [big];done) | exact le_big (by omega) | exact lt_big (by omega))))
 exact hk
theorem cloneA_nil {ro:Nat} {h:List B} {K:V→List B→Prop} (hk:K .nilsl h):CallP FB md ro (.fn 92 []) [.nilsl] h K:=by
 refine call_two rfl rfl rfl ?_
 repeat' (first
 | (conv=>whnf)
   first
   | refine Br.t ?_
   | refine fLen.mk ?_
   | refine fB.i0 ?_
   | refine Get.mk _ rfl ?_
   | refine Ends.of ?_
   | (refine Req.mk ?_ ?_;(focus first | rfl | decide | exact ⟨rfl,rfl⟩ | exact ⟨rfl,by decide⟩ | exact (fun _=>rfl) | exact (fun h=>nomatch h) | (simp;done) | omega | (simp [big];done) | exact le_big (by omega) | exact lt_big (by omega))))
 exact hk
set_option maxRecDepth 100000 in
theorem alsn_call {H:List B} {C:List V} {r g n L:Nat} {i j:Int} {K:V→List B→Prop} (hL:H.length=L) (hk:K (.fn 91 [.ref (L+0) 1 0,.ref (L+2) 1 0,.ref (L+3) 1 0,.ref (L+1) 1 0]) (H++[.blk [.rp C 0] false,.blk [.ms 2 r g 0 n false] false,.blk [.int .i64 i] false,.blk [.int .i64 j] false])):CallP FB md 0 (.fn 59 []) [.rp C 0,.ms 2 r g 0 n false,.int .i64 i,.int .i64 j] H K:=by
 have hi4:∀ (h:List B) (K:List B→Prop),(fB (unborns 4) fun r=>K (h++r))→fB (if 4=0 then h else h++unborns 4) K:=fun h K hk=>by rw [if_neg (by decide)];exact fB.tail hk
 have hji:∀ j,L+j=H.length+j:=fun j=>by rw [hL]
 have hT:trunc H.length [.fn 91 [.ref (L+0) 1 0,.ref (L+2) 1 0,.ref (L+3) 1 0,.ref (L+1) 1 0]] (H++[.blk [.rp C 0] false,.blk [.ms 2 r g 0 n false] false,.blk [.int .i64 i] false,.blk [.int .i64 j] false])=H++[.blk [.rp C 0] false,.blk [.ms 2 r g 0 n false] false,.blk [.int .i64 i] false,.blk [.int .i64 j] false]:=by
  unfold trunc
  rw [show (H++[B.blk [.rp C 0] false,.blk [.ms 2 r g 0 n false] false,.blk [.int .i64 i] false,.blk [.int .i64 j] false]).length - H.length=4 by rw [List.length_append];simp]
  unfold strip
  have:blos (H.length+3) [V.fn 91 [.ref (L+0) 1 0,.ref (L+2) 1 0,.ref (L+3) 1 0,.ref (L+1) 1 0]]=false:=by
   simp only [blos,V.blo,hL]
   simp
  rw [this,Bool.false_and]
  rfl
 have hl4:∀ r:List B,(H++r).length=L+r.length:=fun r=>by rw [List.length_append,hL]
 refine call_one rfl rfl rfl ?_
 repeat' (first
 | (conv=>whnf)
   first
   | refine fLen.as hL ?_
   | refine fLen.as (hl4 _) ?_
   | refine hi4 _ _ ?_
   | refine fB.i0 ?_
   | refine Get.newj 0 (hji 0) rfl ?_
   | refine fB.newj 0 (hji 0) ?_
   | refine Get.newj 1 (hji 1) rfl ?_
   | refine fB.newj 1 (hji 1) ?_
   | refine Get.newj 2 (hji 2) rfl ?_
   | refine fB.newj 2 (hji 2) ?_
   | refine Get.newj 3 (hji 3) rfl ?_
   | refine fB.newj 3 (hji 3) ?_
   | refine fB.mk ?_
   | refine Get.mk _ rfl ?_
   | refine Ends.of ?_
   | (refine Req.mk ?_ ?_;(focus first | rfl | decide | exact ⟨rfl,rfl⟩ | exact ⟨rfl,by decide⟩ | exact (fun _=>rfl) | exact (fun h=>nomatch h) | (simp;done) | omega | (simp [big];done) | exact le_big (by omega) | exact lt_big (by omega))))
 all_goals first | (rw [hT];exact hk)
end Go.Dr.T
namespace Go.Dr.T
def prN (p:Nat × Nat):Int × Int:=((p.1:Int),(p.2:Int))
def pvL (l:List (Nat × Nat)):V:=if l=[] then .nilsl else .sl false (l.map prN).length (shC (l.map prN))
def BefOk (Bl:List B) (e:Nat) (bef:List (Nat × Nat)) (q:Nat):Prop :=
 (bef=[]∧bget Bl e=some (.blk [.nilsl] false))∨(bef≠[]∧bget Bl e=some (.blk [.ms 2 q ((bef.map prN).length * 2) 0 (bef.map prN).length false] false)∧bget Bl q=some (.blk (shC (bef.map prN)) true))
theorem views_shC {h:List B} {d:Nat}:∀ l:List (Int × Int),VwL h (d+1) (shC l) (shC l)
 | []=>VwL.nil
 | _ :: l=>VwL.cons (Vw.int rfl) (VwL.cons (Vw.int rfl) (views_shC l))
theorem fB.i1a {h l g:List B} {K:List B→Prop} (hk:fB (l++g) fun r=>K (h++r)):fB (if 1=0 then h++l else (h++l)++g) K:=by
 rw [if_neg (by decide),List.append_assoc];exact fB.tail hk
theorem free_by' {b:Bool} {A:Prop} (h:b=true) (hk:A):(match (generalizing:=false) b with | true=>A | false=>False):=by subst h;exact hk
theorem free_cons {fp q:Fp} {b i:Nat} {l:List (Nat × Fp)} (h:(b.testBit i || fp.free q)=true) (t:freeOf fp b l=true):freeOf fp b ((i,q) :: l)=true:=by
 simp only [freeOf,h,t,Bool.and_self]
theorem free_nil {fp:Fp} {b:Nat}:freeOf fp b []=true:=rfl
theorem hbelow_app {n:Nat}:∀ {h l:List B},hbelow n h=true→hbelow n l=true→hbelow n (h++l)=true
 | [],_,_,h2=>h2
 | b :: h,l,h1,h2=>by
  simp only [hbelow,Bool.and_eq_true,List.cons_append] at h1 ⊢
  exact ⟨h1.1,hbelow_app h1.2 h2⟩
theorem Cl.apps {h l:List B} (c:Cl h) (e:hbelow (h.length+l.length) l=true):Cl (h++l):=by
 unfold Cl at c ⊢
 rw [List.length_append]
 exact hbelow_app (hbelow_mono (Nat.le_add_right _ _) _ c) e
def hasc:Nat→List B→Prop
 | _,[]=>True
 | n,b :: l=>b.blo n=true∧hasc (n+1) l
theorem cl_asc:∀ {A H:List B},Cl H→hasc H.length A→Cl (H++A)
 | [],H,c,_=>by rw [List.append_nil];exact c
 | b :: A,H,c,h=>by
  have:=cl_asc (A:=A) (H:=H++[b]) (c.app h.1) (by rw [List.length_append];exact h.2)
  rwa [List.append_assoc] at this
theorem hasc_take:∀ {A:List B} {n k:Nat},hasc n A→hasc n (A.take k)
 | [],_,k,_=>by cases k <;> exact trivial
 | b :: A,n,0,_=>trivial
 | b :: A,n,k+1,h=>⟨h.1,hasc_take h.2⟩
theorem trunc_asc {H A:List B} {n:Nat} (hL:H.length=n) (hc:Cl H) (ha:hasc n A):trunc n [] (H++A)=H:=by
 subst hL
 have key:∀ k,k≤A.length→strip H.length [] k (H++A.take k)=H:=by
  intro k
  induction k with
  | zero=>intro _;simp [strip]
  | succ k ih =>
   intro hk
   unfold strip
   have e:(H++A.take (k+1)).take (H.length+k)=H++A.take k:=by
    rw [List.take_length_add_append,List.take_take]
    congr 2
    omega
   have c:=cl_asc hc (hasc_take (k:=k) ha)
   unfold Cl at c
   rw [List.length_append,List.length_take,Nat.min_eq_left (by omega)] at c
   rw [e,c]
   exact ih (by omega)
 unfold trunc
 rw [List.length_append,Nat.add_sub_cancel_left]
 have:=key A.length (Nat.le_refl _)
 rwa [List.take_length] at this
end Go.Dr.T
namespace Go.Dr.T
theorem als_len {S W:Nat→Nat→Int} {n m:Nat}:∀ (d i j:Nat) (l:List (Nat × Nat)),n - i=d→l∈als S W n m i j []→l.length≤n - i:=by
 intro d
 induction d using Nat.strongRecOn with
 | ind d ih =>
  intro i j l hd hl
  by_cases h:W i j=0
  ·rw [als_end h,List.mem_singleton] at hl
   subst hl;simp
  ·rw [als_cons h,List.mem_flatMap] at hl
   obtain ⟨p,hp,hl⟩:=hl
   obtain ⟨l', hl', rfl⟩:=List.mem_map.1 hl
   have:=bgs_mem hp
   have:=ih (n - (p.1+1)) (by omega) _ _ l' rfl hl'
   rw [List.length_cons]
   omega
theorem take_all {α:Type} {a b:List α} {m:Nat} (h:m≤a.length):(a++b).take m=a.take m:=by
 rw [List.take_append,show m - a.length=0 by omega,List.take_zero,List.append_nil]
theorem fl_stop {α β:Type} {g:α→List β} {P:List α} {k m:Nat} (h:P.length≤k∨m≤(((P.take k).flatMap g).take m).length):((P.take k).flatMap g).take m=(P.flatMap g).take m:=by
 rcases h with h | h
 ·rw [List.take_of_length_le h]
 ·rw [List.length_take] at h
  conv=>rhs;rw [← List.take_append_drop k P,List.flatMap_append]
  rw [take_all (by omega)]
theorem fl_step {α β:Type} {g:α→List β} {P:List α} {k m:Nat} {p:α} (hp:P[k]?=some p) (h:(((P.take k).flatMap g).take m).length<m):((P.take (k+1)).flatMap g).take m=((P.take k).flatMap g).take m++(g p).take (m - (((P.take k).flatMap g).take m).length):=by
 rw [List.length_take] at h
 have h2:((P.take k).flatMap g).length<m:=by omega
 have e1:((P.take k).flatMap g).take m=(P.take k).flatMap g:=List.take_of_length_le (by omega)
 obtain ⟨hk,rfl⟩:=List.getElem?_eq_some_iff.1 hp
 rw [e1, ← List.take_append_getElem hk,List.flatMap_append,List.take_append]
 rw [e1]
 simp
def vF (l:List (Nat × Nat)):V:=if l=[] then .nilsl else .sl (decide (l.length=1)) l.length (shC (l.map pI))
def Rc (h:List B) (c:V) (l:List (Nat × Nat)):Prop :=
 (∃ p:Nat × Nat,l=[p]∧c = .sl true 1 (shC [pI p]))∨∃ r,2≤l.length∧2≤r∧c = .ms 2 r (l.length * 2) 0 l.length false∧bget h r=some (.blk (shC (l.map pI)) true)
def Rows (h:List B):List V→List (List (Nat × Nat))→Prop
 | [],[]=>True
 | c :: C,l :: L=>Rc h c l∧Rows h C L
 | _,_=>False
theorem Rows.len {h:List B}:∀ {C:List V} {L:List (List (Nat × Nat))},Rows h C L→C.length=L.length
 | [],[],_=>rfl
 | [],_ :: _,h=>h.elim
 | _ :: _,[],h=>h.elim
 | _ :: C,_ :: L,h=>by rw [List.length_cons,List.length_cons,Rows.len h.2]
theorem Rows.mono {h h' : List B} {X:List V} (hh:∀ r c,V.ms 2 r c 0 (c / 2) false∈X→∀ b,bget h r=some (.blk b true)→bget h' r=some (.blk b true)):∀ {C:List V} {L:List (List (Nat × Nat))},(∀ c∈C,c∈X)→Rows h C L→Rows h' C L
 | [],[],_,_=>trivial
 | [],_ :: _,_,h=>h.elim
 | _ :: _,[],_,h=>h.elim
 | c :: C,l :: L,hX,⟨h1,h2⟩=>by
  refine ⟨?_,Rows.mono hh (fun c hc=>hX c (by simp [hc])) h2⟩
  rcases h1 with ⟨p,e1,e2⟩ | ⟨r,e1,e2,e3,e4⟩
  ·exact .inl ⟨p,e1,e2⟩
  ·refine .inr ⟨r,e1,e2,e3,hh r (l.length * 2) ?_ _ e4⟩
   rw [show l.length * 2 / 2=l.length by omega, ← e3]
   exact hX c (by simp)
theorem Rows.app {h:List B} {c:V} {l:List (Nat × Nat)}:∀ {C:List V} {L:List (List (Nat × Nat))},Rows h C L→Rc h c l→Rows h (C++[c]) (L++[l])
 | [],[],_,hc=>⟨hc,trivial⟩
 | [],_ :: _,h,_=>h.elim
 | _ :: _,[],h,_=>h.elim
 | _ :: C,_ :: L,h,hc=>⟨h.1,Rows.app h.2 hc⟩
theorem Rc.view {h:List B} {d:Nat} {c:V} {l:List (Nat × Nat)} (e:Rc h c l):Vw h (d+2) c (vF l):=by
 rcases e with ⟨p,rfl,rfl⟩ | ⟨r,e1,e2,rfl,e4⟩
 ·unfold vF
  rw [if_neg (by simp)]
  exact Vw.sl
 ·unfold vF
  rw [if_neg (by intro h;rw [h] at e1;simp at e1),decide_eq_false (by omega)]
  refine Vw.ms (d:=d+1) e4 (by rw [shC_length,List.length_map]) (part_all (by rw [shC_length,List.length_map])) ?_
  have key:∀ l:List (Int × Int),VwL h (d+1) (shC l) (shC l):=by
   intro l
   induction l with
   | nil=>exact VwL.nil
   | cons p l ih=>exact VwL.cons (Vw.int rfl) (VwL.cons (Vw.int rfl) ih)
  exact key _
theorem Rows.view {h:List B} {d:Nat}:∀ {C:List V} {L:List (List (Nat × Nat))},Rows h C L→VwL h (d+2) C (L.map vF)
 | [],[],_=>VwL.nil
 | [],_ :: _,h=>h.elim
 | _ :: _,[],h=>h.elim
 | _ :: C,_ :: L,h=>VwL.cons h.1.view (Rows.view h.2)
def Lo (h:List B) (L:List (List (Nat × Nat))) (v:V):Prop :=
 (L=[]∧v = .nilsl)∨∃ q C,L≠[]∧2≤q∧v = .ms 1 q L.length 0 L.length false∧bget h q=some (.blk C false)∧Rows h C L
structure FO (x y:El) (h:List B) (v:V) (L:List (List (Nat × Nat))):Prop where
 cl:Cl h
 b0:bget h 0=some (elB x)
 b1:bget h 1=some (elB y)
 lo:Lo h L v
theorem mem_bget:∀ {l:List B} {i:Nat} {b:B},bget l i=some b→b∈l
 | [],_,_,e=>nomatch e
 | x :: l,0,b,e=>by simp only [bget,Option.some.injEq] at e;subst e;simp
 | x :: l,i+1,b,e=>List.mem_cons_of_mem _ (mem_bget e)
theorem norm_with {m:List Bool} {n q r:Nat} {s:St} {b b' : B} (hn:n≤s.h.length) (c:Cl s.h) (hq:bget (norm m n s).h q=some b) (hv:∀ k,b.blo k=true→r<k) (hr:bget s.h r=some b'):bget (norm m n s).h r=some b' := by
 have c' := norm_cl (m:=m) hn c
 have hb:=blo_of_hbelow c' (mem_bget hq)
 have hlt:=hv _ hb
 have e:∃ j,(norm m n s).h=s.h.take j:=by
  obtain ⟨j,_,h2,_⟩:=strip_spec (n:=n) (tm:=masked m s.tm) (k:=s.h.length - n) (h:=s.h) (by omega)
  exact ⟨j,h2⟩
 obtain ⟨j,e⟩:=e
 rw [e] at hlt ⊢
 rw [List.length_take] at hlt
 rw [bget_take (by omega)]
 exact hr
theorem Lo.alive {h:List B} {L:List (List (Nat × Nat))} {v:V} (e:Lo h L v):v ≠ .dead:=by
 rcases e with ⟨_,rfl⟩ | ⟨q,C,_,_,rfl,_⟩ <;> simp
theorem FO.norm {x y:El} {h:List B} {v:V} {L:List (List (Nat × Nat))} {m:List Bool} {n:Nat} {tm:List V} {a b a' b' : Nat} (hn:n≤h.length) (e:FO x y h v L) (h3:tg (masked m tm) 7 = .ref 0 a a') (h4:tg (masked m tm) 8 = .ref 1 b b') (h6:tg (masked m tm) 15=v):FO x y (norm m n ⟨tm,h⟩).h v L:=by
 refine ⟨norm_cl hn e.cl,norm_keep (i:=7) hn (fun k hk=>by rw [h3] at hk;exact of_decide_eq_true hk) e.b0,norm_keep (i:=8) hn (fun k hk=>by rw [h4] at hk;exact of_decide_eq_true hk) e.b1,?_⟩
 rcases e.lo with ⟨e1,e2⟩ | ⟨q,C,e1,e2,e3,e4,e5⟩
 ·exact .inl ⟨e1,e2⟩
 ·have hq:bget (Dr.norm m n ⟨tm,h⟩).h q=some (.blk C false):=norm_keep (i:=15) hn (fun k hk=>by rw [h6,e3] at hk;exact of_decide_eq_true hk) e4
  refine .inr ⟨q,C,e1,e2,e3,hq,Rows.mono (X:=C) (fun r c hc b hb=>norm_with hn e.cl hq (fun k hk => ?_) hb) (fun c hc=>hc) e5⟩
  have hk' : blos k C=true:=by simpa [B.blo] using hk
  exact of_decide_eq_true (blos_mem hk' hc)
theorem FO.view {x y:El} {h:List B} {v:V} {L:List (List (Nat × Nat))} {d:Nat} (e:FO x y h v L):Vw h (d+3) v (.sl (decide (L=[])) L.length (L.map vF)):=by
 rcases e.lo with ⟨rfl,rfl⟩ | ⟨q,C,e1,e2,rfl,e4,e5⟩
 ·exact Vw.nil
 ·rw [decide_eq_false e1]
  have hl:=e5.len
  exact Vw.ms (d:=d+2) e4 hl (part_all (by omega)) (e5.view (d:=d))
end Go.Dr.T
