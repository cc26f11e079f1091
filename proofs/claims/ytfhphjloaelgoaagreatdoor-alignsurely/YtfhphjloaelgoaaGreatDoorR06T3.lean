/- Chapter 06: way, walked. -/
import Derived.Test.YtfhphjloaelgoaaGreatDoorR06T2
namespace Go.Dr.T
def rvS (L:List Int) (i:Nat):List Int:=(List.range L.length).map fun x=>if x<i∨L.length≤x+i then kAt L (L.length - 1 - x) else kAt L x
theorem rvS_len (L:List Int) (i:Nat):(rvS L i).length=L.length:=by simp [rvS]
theorem rvS_get {L:List Int} {i x:Nat} (hx:x<L.length):(rvS L i)[x]?=some (if x<i∨L.length≤x+i then kAt L (L.length - 1 - x) else kAt L x):=by
 simp [rvS,hx]
theorem rvS_zero (L:List Int):rvS L 0=L:=by
 apply List.ext_getElem?
 intro x
 by_cases hx:x<L.length
 ·rw [rvS_get hx,if_neg (by omega),kAt_get hx]
 ·rw [List.getElem?_eq_none (by rw [rvS_len];omega),List.getElem?_eq_none (by omega)]
theorem rvS_end {L:List Int} {i:Nat} (h:L.length≤2 * i+1):rvS L i=L.reverse:=by
 apply List.ext_getElem?
 intro x
 by_cases hx:x<L.length
 ·rw [rvS_get hx,List.getElem?_reverse hx,kAt_get (by omega)]
  split
  ·rfl
  ·have:x=L.length - 1 - x:=by omega
   rw [← this]
 ·rw [List.getElem?_eq_none (by rw [rvS_len];omega),List.getElem?_eq_none (by simp;omega)]
theorem rvS_step {L:List Int} {i:Nat} (h:i<L.length - 1 - i):((rvS L i).set i (kAt L (L.length - 1 - i))).set (L.length - 1 - i) (kAt L i)=rvS L (i+1):=by
 apply List.ext_getElem?
 intro x
 by_cases hx:x<L.length
 ·rw [rvS_get hx,List.getElem?_set,List.getElem?_set,List.length_set,rvS_len,rvS_get hx]
  by_cases h1:L.length - 1 - i=x
  ·rw [if_pos h1,if_pos (by omega),if_pos (by omega)]
   congr 2;omega
  ·rw [if_neg h1]
   by_cases h2:i=x
   ·subst h2
    rw [if_pos rfl,if_pos hx,if_pos (by omega)]
   ·rw [if_neg h2]
    congr 1
    by_cases h3:x<i∨L.length≤x+i
    ·rw [if_pos h3,if_pos (by omega)]
    ·rw [if_neg h3,if_neg (by omega)]
 ·rw [List.getElem?_eq_none (by simp [rvS_len];omega),List.getElem?_eq_none (by rw [rvS_len];omega)]
theorem over_int:∀ {M:List Int} {i:Nat} {y:Int},over (ofInts M) i [.int .i64 y]=ofInts (M.set i y)
 | [],i,y=>by cases i <;> rfl
 | m :: M,0,y=>by cases M <;> rfl
 | m :: M,i+1,y=>by
  have:=over_int (M:=M) (i:=i) (y:=y)
  simp only [ofInts,List.map_cons,List.set_cons_succ,over] at this ⊢
  rw [this]
theorem cell_kAt {M:List Int} {q:Nat} (h:q<M.length):cellAt (ofInts M) (0+q * 1)=some (.int .i64 (kAt M q)):=by
 obtain ⟨y,h1,h2⟩:=ofInts_cell h
 rw [kAt_get h] at h1
 cases h1;rw [Nat.zero_add];exact h2
theorem bset_twice {h:List B} {i:Nat} {a b:B}:bset (bset h i a) i b=bset h i b:=by
 rw [bset_eq,bset_eq,bset_eq,List.set_set]
theorem fB.tw {h:List B} {i:Nat} {a b:B} {K:List B→Prop} (hk:K (bset h i b)):fB (bset (bset h i a) i b) K:=fB.mk (by rw [bset_twice];exact hk)
theorem bset_id {h:List B} {i:Nat} {a:B} (e:bget h i=some a):bset h i a=h:=by
 rw [bget_eq] at e
 rw [bset_eq]
 apply List.ext_getElem?
 intro j
 rw [List.getElem?_set]
 split
 ·rename_i hj;subst hj
  rw [if_pos (List.getElem?_eq_some_iff.1 e).1,e]
 ·rfl
theorem kAt_set_ne {M:List Int} {i j:Nat} {y:Int} (h:i≠j):kAt (M.set i y) j=kAt M j:=by
 simp [kAt,List.getD,List.getElem?_set,h]
set_option maxRecDepth 100000 in
set_option maxHeartbeats 20000000 in
theorem reverse_call {h:List B} {id:Nat} {L:List Int} {K:V→List B→Prop} (hb:bget h id=some (.blk (ofInts L) true)) (hl:L.length≤100000) (hk:K (.tup []) (bset h id (.blk (ofInts L.reverse) true))):CallP FB1 md 0 (.fn 100 []) [.ms 1 id L.length 0 L.length false] h K:=by
 refine call_one rfl rfl rfl ?_
 repeat' (first
 | (conv=>whnf)
   first
   | (refine Bnd.i64 ?_ ?_ ?_;(focus omega);(focus omega))
   | refine fLen.mk ?_
   | refine fB.if0 ?_)
 refine LoopP.by (fun i:Nat=>i≤L.length) (fun i=>[(2,.int .i64 (i:Nat)),(3,.int .i64 ((L.length:Int) - 1 - (i:Nat)))]) (fun i=>bset h id (.blk (ofInts (rvS L i)) true)) (fun i=>L.length - i) 0 (Nat.zero_le _) (by rw [rvS_zero,bset_id hb,show (L.length:Int) - 1 - ((0:Nat):Int)=L.length - 1 by omega];rfl) ?_
 rintro i hi
 dsimp only
 have hlt:=bget_lt hb
 by_cases hij:i<L.length - 1 - i
 rotate_left
 ·rw [rvS_end (by omega)]
  repeat' (first
 | (conv=>whnf)
   first
   | (refine Br.decF ?_ ?_;(focus first | assumption | omega))
   | refine fLen.mk ?_
   | refine fB.if0 ?_
   | refine fB.mk ?_
   | refine Get.mk _ rfl ?_
   | refine Ends.of ?_)
  all_goals (show K _ (trunc h.length _ (bset h id _));rw [trunc_same (by rw [bset_len])];exact hk)
 have hjj:(L.length:Int) - 1 - (i:Nat)=((L.length - 1 - i:Nat):Int):=by omega
 rw [hjj]
 obtain ⟨j,hj⟩:∃ j,L.length - 1 - i=j:=⟨_,rfl⟩
 have hbj:IntKind.i64.wrap ((j:Int) - 1)=(L.length:Int) - 1 - ((i+1:Nat):Int):=by rw [wrap_i64 (by omega) (by omega)];omega
 have hst:=rvS_step (L:=L) (i:=i) (by omega)
 rw [hj] at hst ⊢ hij
 have hml:=rvS_len L i
 have hki:kAt (rvS L i) i=kAt L i:=by
  have h1:=rvS_get (L:=L) (i:=i) (x:=i) (by omega)
  rw [if_neg (by omega),kAt_get (by rw [hml];omega)] at h1
  simpa using h1
 have hkj:kAt (rvS L i) j=kAt L j:=by
  have h1:=rvS_get (L:=L) (i:=i) (x:=j) (by omega)
  rw [if_neg (by omega),kAt_get (by rw [hml];omega)] at h1
  simpa using h1
 generalize rvS L i=M at *
 have c1:=cell_kAt (M:=M) (q:=i) (by omega)
 have c2:=cell_kAt (M:=M) (q:=j) (by omega)
 rw [hki] at c1
 rw [hkj] at c2
 have hg:=bget_same (b:=.blk (ofInts M) true) hlt
 have ov1:over (ofInts M) (0+i * 1) [.int .i64 (kAt L j)]=ofInts (M.set i (kAt L j)):=by rw [Nat.zero_add,Nat.mul_one];exact over_int
 have ov2:over (ofInts (M.set i (kAt L j))) (0+j * 1) [.int .i64 (kAt L i)]=ofInts ((M.set i (kAt L j)).set j (kAt L i)):=by rw [Nat.zero_add,Nat.mul_one];exact over_int
 have hol:(ofInts M).length=L.length:=by simp [ofInts,hml]
 have hol2:(ofInts (M.set i (kAt L j))).length=L.length:=by simp [ofInts,hml]
 have hg2:=bget_same (b:=.blk (ofInts (M.set i (kAt L j))) true) hlt
 repeat' (first
 | (conv=>whnf)
   first
   | refine Bnd.eq hbj ?_
   | (refine Br.decT ?_ ?_;(focus first | assumption | omega))
   | (refine Bnd.i64 ?_ ?_ ?_;(focus omega);(focus omega))
   | refine fLen.mk ?_
   | refine fB.if0 ?_
   | refine Get.mk _ hg ?_
   | refine Get.mk _ hg2 ?_
   | refine Get.mk _ c1 ?_
   | refine Get.mk _ c2 ?_
   | refine fVg ov1 ?_
   | refine fVg ov2 ?_
   | refine Req.mk hol ?_
   | refine Req.mk ⟨hol,by rw [hol];omega⟩ ?_
   | refine Req.mk ⟨hol2,by rw [hol2];omega⟩ ?_
   | refine fB.tw ?_
   | refine fB.mk ?_
   | (refine Idx.nat ?_ ?_;(focus omega))
   | (refine Req.mk ?_ ?_;(focus first | rfl | decide | exact ⟨rfl,rfl⟩ | exact ⟨rfl,by decide⟩ | exact (fun _=>rfl) | exact (fun h=>nomatch h) | (simp;done) | omega | (simp [big];done) | exact le_big (by omega) | exact lt_big (by omega))))
 refine NextP.mk (i+1) (by omega) (by omega) ?_
 rw [← hst]
 exact norm_same (by rw [bset_len])
def lkp (bf:List (Int × Int)) (k:Int):Option Int:=(bf.find? fun p=>decide (k=p.1)).map (·.2)
def qu (a:Int) (bf:List (Int × Int)):List Int:=a :: bf.map (·.1)
def stQ (a ab q:Int) (bf:List (Int × Int)) (k:Int):List (Int × Int):=if k ∉ bf.map (·.1)∧ab<k∧k≠a then bf++[(k,q)] else bf
def chain (a:Int) (bf:List (Int × Int)):Nat→Int→Option (List Int)
 | 0,k=>if k=a then some [] else none
 | n+1,k=>if k=a then some [] else match lkp bf k with
  | none=>none
  | some p=>(chain a bf n p).map (k :: ·)
def wayGo (D:List PE) (a t ab:Int):Nat→Nat→List (Int × Int)→Option (Option (List Int))
 | 0,_,_=>none
 | n+1,at', bf=>match (qu a bf)[at']? with
  | none=>some none
  | some q=>if t∈pM D q then (chain a bf (bf.length+1) q).map fun cs=>some (cs++[a]).reverse else wayGo D a t ab n (at' + 1) ((isort (pM D q)).foldl (stQ a ab q) bf)
theorem bf_find {k:Int}:∀ {bf:List (Int × Int)} {i:Nat},k∈bf.map (·.1)→∃ j p,mfind 0 (.int .i64 k) (ofInts (bf.map (·.1))) i=some (some (i+j))∧tg (ofInts (bf.map (·.2))) j = .int .i64 p∧lkp bf k=some p
 | [],_,h=>by simp at h
 | (x,y) :: bf,i,h=>by
  by_cases h1:k=x
  ·subst h1
   exact ⟨0,y,by simp only [List.map_cons,ofInts,mfind,eq1,if_true,decide_true];rfl,rfl,by simp [lkp]⟩
  ·obtain ⟨j,p,q1,q2,q3⟩:=bf_find (bf:=bf) (i:=i+1) (by simpa [h1] using h)
   refine ⟨j+1,p,?_,?_,?_⟩
   ·simp only [List.map_cons,ofInts,mfind,eq1,if_true,decide_eq_false h1] at q1 ⊢
    rw [q1];congr 2;omega
   ·exact q2
   ·simp only [lkp,List.find?_cons,decide_eq_false h1] at q3 ⊢; exact q3
theorem lkp_none {k:Int} {bf:List (Int × Int)} (h:k ∉ bf.map (·.1)):lkp bf k=none:=by
 unfold lkp
 rw [List.find?_eq_none.2 fun p hp=>by
  simp only [decide_eq_true_eq]
  rintro rfl;exact h (List.mem_map.2 ⟨p,hp,rfl⟩)]
 rfl
theorem chain_len {a:Int} {bf:List (Int × Int)}:∀ {n:Nat} {k:Int} {cs:List Int},chain a bf n k=some cs→cs.length≤n
 | 0,k,cs,h=>by unfold chain at h;split at h <;> cases h;simp
 | n+1,k,cs,h=>by
  unfold chain at h
  split at h
  ·cases h;simp
  ·split at h
   ·cases h
   ·rename_i p hp
    obtain ⟨r,hr,rfl⟩:=map_some h
    have:=chain_len hr
    simp;omega
end Go.Dr.T
