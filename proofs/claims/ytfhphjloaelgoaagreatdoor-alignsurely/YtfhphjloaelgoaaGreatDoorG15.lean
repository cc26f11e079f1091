/- Chapter 06: sorted: the keys of a map, in order. -/
import Derived.Test.YtfhphjloaelgoaaGreatDoorG14
namespace Go.Dr.T
def kAt (ks:List Int) (s:Nat):Int:=ks.getD s 0
def sKeys (ks:List Int) (seen:List Nat):List Int:=seen.map (kAt ks)
theorem kAt_get {ks:List Int} {s:Nat} (h:s<ks.length):ks[s]?=some (kAt ks s):=by simp [kAt,List.getD,h]
theorem tg_key {ks:List Int} {s:Nat} (h:s<ks.length):tg (ofInts ks) s = .int .i64 (kAt ks s):=tg_eq (by simp [ofInts,kAt_get h])
theorem cur1_of {ks:List Int} {vs:List V} {seen:List Nat} {s:Nat} (h:s<ks.length):mcur1 [.ir (ofInts ks) vs (seen++[s])]=some (.tup [.int .i64 (kAt ks s),tg vs s],none):=by
 have hl:(ofInts ks).length=ks.length:=by simp [ofInts]
 simp only [mcur1,lastO_snoc,hl,h,if_true,tg_key h]
theorem sKeys_snoc (ks:List Int) (seen:List Nat) (s:Nat):sKeys ks (seen++[s])=sKeys ks seen++[kAt ks s]:=by simp [sKeys]
theorem isort_congr {a b:List Int} (h:a.Perm b):isort a=isort b :=
 List.Perm.eq_of_pairwise (le:=fun x y:Int=>x≤y) (fun a b _ _ h1 h2=>by omega) (isort_sorted a) (isort_sorted b) ((isort_perm a).trans (h.trans (isort_perm b).symm))
theorem sKeys_all (ks:List Int):sKeys ks (List.range ks.length)=ks:=by
 apply List.ext_getElem?
 intro i
 simp only [sKeys,List.getElem?_map]
 by_cases h:i<ks.length
 ·rw [List.getElem?_range h,Option.map_some,kAt_get h]
 ·rw [List.getElem?_eq_none (by simp;omega),List.getElem?_eq_none (by omega)];rfl
theorem seen_perm {n:Nat} {seen:List Nat} (h1:seen.Nodup) (h2:∀ s∈seen,s<n) (h3:∀ s,s<n→s∈seen):seen.Perm (List.range n) :=
 (List.perm_ext_iff_of_nodup h1 List.nodup_range).2 fun a=>by rw [List.mem_range];exact ⟨h2 a,h3 a⟩
theorem sKeys_perm {ks:List Int} {seen:List Nat} (h1:seen.Nodup) (h2:∀ s∈seen,s<ks.length) (h3:∀ s,s<ks.length→s∈seen):(sKeys ks seen).Perm ks:=by
 have:=(seen_perm h1 h2 h3).map (kAt ks)
 rwa [show (List.range ks.length).map (kAt ks)=ks from sKeys_all ks] at this
def acB:List Int→List B
 | []=>[]
 | x :: l=>[.blk (ofInts (x :: l)) true]
theorem acB_snoc (L:List Int) (x:Int):acB (L++[x])=[.blk (ofInts (L++[x])) true]:=by cases L <;> rfl
theorem lv_snoc (id:Nat) (c:Bool) (L:List Int) (x:Int):lv id c (L++[x]) = .ms 1 (id+1) (L.length+1) 0 (L.length+1) c:=by
 cases L with
 | nil=>rfl
 | cons y l=>simp [lv]
theorem acB_ne {L:List Int} (h:L≠[]):acB L=[.blk (ofInts L) true]:=by
 cases L with
 | nil=>exact absurd rfl h
 | cons y l=>rfl
theorem sort_ac {x:B} {c:Bool} {L:List Int} {K:V→List B→Prop} (hl:L.length≤140737488355328) (hk:K (.tup []) (x :: acB (isort L))):CallP FB md 0 (.fn 98 []) [lv 0 c L] (x :: acB L) K:=by
 have h:=sort_at (x:=x) (H:=acB L) (G:=[]) (id:=0) (c:=c) (L:=L) (K:=K) (fun hn=>by rw [acB_ne hn];rfl) hl (by
  rw [List.append_nil,hp_eq]
  by_cases hn:L=[]
  ·subst hn;simpa [isort,acB] using hk
  ·rw [if_neg hn,acB_ne hn]
   rw [acB_ne (fun h=>hn (isort_nil_iff.1 h))] at hk
   exact hk)
 rwa [List.append_nil,hp_eq] at h
theorem sort_ac1 {x:B} {c:Bool} {y:Int} {l:List Int} {K:V→List B→Prop} (hl:(y :: l).length≤140737488355328) (hk:K (.tup []) [x,.blk (ofInts (isort (y :: l))) true]):CallP FB md 0 (.fn 98 []) [lv 0 c (y :: l)] [x,.blk (ofInts (y :: l)) true] K :=
 sort_ac (L:=y :: l) hl (by rw [acB_ne (fun h=>by have:=isort_nil_iff.1 h;cases this)];exact hk)
set_option maxRecDepth 100000 in
set_option maxHeartbeats 20000000 in
theorem sorted_walk {ks:List Int} {vs:List V} (hn:ks.length≤1000000) (fc:Fc) (hfc:F 67=some fc):wpm FB md 0 fc.body ⟨[.rm (ofInts ks) vs]++deads (fc.ntm - fc.np),[]⟩ (Leaves fc.res (lw false (isort ks))):=by
 cases hfc
 refine (fV_eq (K:=fun tm=>wpm FB md 0 _ ⟨tm,[]⟩ _)).1 ?_
 repeat' (first
 | (conv=>whnf)
   first
   | refine Get.mk _ rfl ?_)
 refine LoopP.by (fun seen:List Nat=>seen.Nodup∧∀ s∈seen,s<ks.length) (fun seen=>[(2,lv 0 false (sKeys ks seen))]) (fun seen=>.ir (ofInts ks) vs seen :: acB (sKeys ks seen)) (fun seen=>ks.length - seen.length) [] ⟨.nil,by simp⟩ rfl ?_
 rintro seen ⟨h1,h2⟩
 dsimp only
 have hkl:(ofInts ks).length=ks.length:=by simp [ofInts]
 have hle:seen.length≤ks.length:=nodup_le h1 h2
 have hsl:(sKeys ks seen).length=seen.length:=by simp [sKeys]
 have hperm:=sKeys_perm h1 h2
 have hnx:∀ s,s<ks.length→s ∉ seen→((seen++[s]).Nodup∧∀ t∈seen++[s],t<ks.length)∧ks.length - (seen++[s]).length<ks.length - seen.length:=fun s hs hn=>by
  have hd:(seen++[s]).Nodup:=by
   rw [List.nodup_append]
   exact ⟨h1,by simp,fun x hx y hy=>by rw [List.mem_singleton] at hy;subst hy;rintro rfl;exact hn hx⟩
  have hb:∀ t∈seen++[s],t<ks.length:=fun t ht=>by
   rcases List.mem_append.1 ht with ht | ht
   ·exact h2 t ht
   ·rw [List.mem_singleton] at ht;subst ht;exact hs
  have:=nodup_le hd hb
  refine ⟨⟨hd,hb⟩,?_⟩
  rw [List.length_append] at this ⊢
  simp at this ⊢; omega
 cases hL:sKeys ks seen with
 | nil =>
  repeat' (first
 | (conv=>whnf)
   first
   | refine Get.mk _ rfl ?_)
  refine NextR.mk (fun hall => ?_) (fun s hs hn => ?_)
  ·have e:=isort_congr (hperm fun s hs=>hall s (by rw [hkl];exact hs))
   rw [hL] at e
   rw [← e]
   repeat' (first
 | (conv=>whnf)
   first
   | refine Br.f ?_
   | (refine sort_ac (c:=false) (L:=[]) ?_ ?_;(focus simp))
   | refine Get.mk _ rfl ?_
   | refine Leaves.of ?_
   | refine Vw.nil)
  ·rw [hkl] at hs
   have hc:=cur1_of (vs:=vs) (seen:=seen) hs
   repeat' (first
 | (conv=>whnf)
   first
   | refine Br.t ?_
   | refine Get.mk _ hc ?_
   | (refine Ifz.pos ?_ ?_;(focus omega))
   | refine Get.mk _ rfl ?_
   | (refine Req.mk ?_ ?_;(focus first | rfl | decide | exact ⟨rfl,rfl⟩ | exact ⟨rfl,by decide⟩ | exact (fun _=>rfl) | exact (fun h=>nomatch h) | (simp;done) | omega | (simp [big];done) | exact le_big (by omega) | exact lt_big (by omega))))
   refine NextP.mk (seen++[s]) (hnx s hs hn).1 (hnx s hs hn).2 ?_
   rw [sKeys_snoc,hL]
   rfl
 | cons x r =>
  rw [hL] at hsl
  simp only [List.length_cons] at hsl
  repeat' (first
 | (conv=>whnf)
   first
   | refine Get.mk _ rfl ?_)
  refine NextR.mk (fun hall => ?_) (fun s hs hn => ?_)
  ·have e:=isort_congr (hperm fun s hs=>hall s (by rw [hkl];exact hs))
   rw [hL] at e
   rw [← e]
   have hvw:Vw [B.ir (ofInts ks) vs seen,.blk (ofInts (isort (x :: r))) true] depth (.ms 1 (0+1) (r.length+1) 0 (r.length+1) false) (lw false (isort (x :: r))):=⟨by have:=view_lv (h:=[B.ir (ofInts ks) vs seen,.blk (ofInts (isort (x :: r))) true]) (d:=62) (id:=0) (c:=false) (L:=isort (x :: r)) (fun _=>rfl);rwa [lv_len (isort_len _)] at this⟩
   repeat' (first
 | (conv=>whnf)
   first
   | refine Br.f ?_
   | (refine sort_ac1 ?_ ?_;(focus simp only [List.length_cons];omega))
   | exact hvw
   | refine Get.mk _ rfl ?_
   | refine Leaves.of ?_)
  ·rw [hkl] at hs
   have hc:=cur1_of (vs:=vs) (seen:=seen) hs
   have hol:(ofInts (x :: r)).length=r.length+1:=by simp [ofInts]
   repeat' (first
 | (conv=>whnf)
   first
   | refine Br.t ?_
   | refine Get.mk _ hc ?_
   | refine Req.mk hol ?_
   | refine Req.mk ⟨by omega,by rw [hol];exact lt_big (by simp;omega)⟩ ?_
   | (refine Ifz.pos ?_ ?_;(focus omega))
   | refine Get.mk _ rfl ?_
   | (refine Req.mk ?_ ?_;(focus first | rfl | decide | exact ⟨rfl,rfl⟩ | exact ⟨rfl,by decide⟩ | exact (fun _=>rfl) | exact (fun h=>nomatch h) | (simp;done) | omega | (simp [big];done) | exact le_big (by omega) | exact lt_big (by omega))))
   refine NextP.mk (seen++[s]) (hnx s hs hn).1 (hnx s hs hn).2 ?_
   have e1:ofInts (x :: r)++[V.int .i64 (kAt ks s)]=ofInts (x :: (r++[kAt ks s])):=by simp [ofInts]
   have e2:(r++[kAt ks s]).length=r.length+1:=by simp
   rw [sKeys_snoc,hL,List.cons_append]
   rw [e1]
   simp only [lv,e2,acB]
   rfl
end Go.Dr.T
namespace Go.Dr.T
theorem shC_inj:∀ {l l' : List (Int × Int)},shC l=shC l' → l=l'
 | [],[],_=>rfl
 | [],_ :: _,h=>by simp [shC] at h
 | _ :: _,[],h=>by simp [shC] at h
 | p :: l,q :: l', h=>by
  simp only [shC,List.cons.injEq,V.int.injEq,true_and] at h
  obtain ⟨h1,h2,h3⟩:=h
  rw [shC_inj h3,Prod.ext h1 h2]
theorem elC_inj:∀ {l l' : List El},elC l=elC l' → l=l'
 | [],[],_=>rfl
 | [],_ :: _,h=>by simp [elC] at h
 | _ :: _,[],h=>by simp [elC] at h
 | ⟨n,c,s,g⟩ :: l,⟨n', c', s', g'⟩ :: l', h=>by
  simp only [elC,List.cons.injEq,V.int.injEq,V.str.injEq,V.sl.injEq,true_and] at h
  obtain ⟨rfl,⟨rfl,_,h2⟩,rfl,h3⟩:=h
  rw [elC_inj h3,shC_inj h2]
open Classical in
noncomputable def gatG (as:List V):Option V:=if h:∃ p:Bool × List El,as=[elsV p.1 p.2] then some (gatherV (Classical.choose h).2) else none
theorem gatG_eq {c:Bool} {l:List El}:gatG [elsV c l]=some (gatherV l):=by
 have h:∃ p:Bool × List El,[elsV c l]=[elsV p.1 p.2]:=⟨(c,l),rfl⟩
 have e:=Classical.choose_spec h
 unfold gatG
 rw [dif_pos h]
 generalize Classical.choose h=q at *
 simp only [elsV,List.cons.injEq,V.sl.injEq,and_true] at e
 rw [elC_inj e.2.2]
theorem gatG_some {as:List V} {v:V} (h:gatG as=some v):∃ c l,as=[elsV c l]∧v=gatherV l:=by
 unfold gatG at h
 split at h
 ·rename_i hx
  cases h
  exact ⟨_,_,Classical.choose_spec hx,rfl⟩
 ·cases h
def srtdG:List V→Option V
 | [.rm kc _]=>match intsOf kc with
  | some ks=>if ks.length≤1000000 then some (lw false (isort ks)) else none
  | none=>none
 | _=>none
theorem intsOf_of:∀ l:List Int,intsOf (ofInts l)=some l
 | []=>rfl
 | x :: l=>by
  show (intsOf (ofInts l)).map (x :: ·)=_
  rw [intsOf_of l];rfl
theorem srtdG_eq {ks:List Int} {vs:List V} (h:ks.length≤1000000):srtdG [.rm (ofInts ks) vs]=some (lw false (isort ks)):=by
 simp only [srtdG,intsOf_of,h,if_true]
noncomputable def FB1:Nat→Option Fc
 | 65=>some (knFc 1 65 (plainKn gatG))
 | 67=>some (knFc 1 67 (plainKn srtdG))
 | n=>FB n
theorem sub1:Sub' FB FB1:=by
 intro f fc h
 unfold FB1
 split
 ·cases h
 ·cases h
 ·exact h
theorem gather_fun {c:Bool} {l:List El} (hv:V.view [] depth (gatherV l)=some (gatherV l)):Fun FB1 md 65 [elsV c l] (gatherV l):=fun_kn rfl rfl gatG_eq hv
theorem view_lw {h:List B} {d:Nat} (c:Bool) (l:List Int):V.view h (d+1) (lw c l)=some (lw c l):=by cases l <;> rfl
theorem sorted_fun {ks:List Int} {vs:List V} (h:ks.length≤1000000):Fun FB1 md 67 [.rm (ofInts ks) vs] (lw false (isort ks)):=fun_kn rfl rfl (srtdG_eq h) (view_lw _ _)
def wayV:Option (List Int)→V
 | none=>.tup [.sl true 0 [],.bool false]
 | some l=>.tup [.sl false l.length (ofInts l),.bool true]
def bestV:Option (List Int)→V
 | none=>.nilsl
 | some l=>.sl false l.length (ofInts l)
def rStep (w:Int→Option (List Int)) (b:Option (List Int)) (k:Int):Option (List Int) :=
 match w k with
 | none=>b
 | some l=>match b with
  | none=>some l
  | some x=>if l.length<x.length then some l else some x
def roundP (w:Int→Option (List Int)) (S:List Int):Option (List Int):=S.foldl (rStep w) none
theorem round_snoc {w:Int→Option (List Int)} {S:List Int} {i:Nat} {k:Int} (h:S[i]?=some k):roundP w (S.take (i+1))=rStep w (roundP w (S.take i)) k:=by
 have:S.take (i+1)=S.take i++[k]:=by rw [List.take_add_one,h];rfl
 rw [this,roundP,List.foldl_append];rfl
theorem round_ne {w:Int→Option (List Int)} (hne:∀ k,w k≠some []):∀ (S:List Int) (b:Option (List Int)),b≠some []→S.foldl (rStep w) b≠some []
 | [],b,h=>h
 | k :: S,b,h=>by
  refine round_ne hne S _ ?_
  unfold rStep
  have:=hne k
  split
  ·exact h
  ·rename_i l hl
   split
   ·rw [hl] at this;exact this
   ·split
    ·rw [hl] at this;exact this
    ·exact h
def lwL (l:List Int):Nat:=l.length
theorem fB.if0 {h g:List B} {K:List B→Prop} (hk:K h):fB (if 0=0 then h else g) K:=fB.mk (by rw [if_pos rfl];exact hk)
theorem lw_sl (l:List Int):∃ c,lw false l = .sl c l.length (ofInts l):=by cases l <;> exact ⟨_,rfl⟩
set_option maxRecDepth 100000 in
set_option maxHeartbeats 20000000 in
theorem round_call {D:List PE} {w:Int→Option (List Int)} {h:List B} {ro:Nat} {K:V→List B→Prop} (hn:D.length≤1000000) (hw:∀ k∈D.map (·.k),Fun FB1 md 69 [gatV D,.int .i64 k,.int .i64 k,.int .i64 k] (wayV (w k))) (hne:∀ k,w k≠some [])
  (hk:K (bestV (roundP w (isort (D.map (·.k))))) h):CallP FB1 md ro (.fn 66 []) [gatV D] h K:=by
 have hkl:(D.map (·.k)).length≤1000000:=by simpa using hn
 have hso:=sorted_fun (vs:=D.map PE.v) hkl
 have hmem:∀ k∈isort (D.map (·.k)),k∈D.map (·.k):=fun k hk=>(isort_perm _).mem_iff.1 hk
 have hlen:(isort (D.map (·.k))).length≤1000000:=by rw [isort_len];exact hkl
 generalize isort (D.map (·.k))=S at *
 obtain ⟨c,hc⟩:=lw_sl S
 rw [hc] at hso
 refine call_one rfl rfl rfl ?_
 repeat' (first
 | (conv=>whnf)
   first
   | refine fLen.mk ?_
   | refine fB.if0 ?_
   | refine call_fun rfl rfl hso (.inl rfl) ?_)
 refine LoopP.by (fun i:Nat=>i≤S.length) (fun i=>[(2,bestV (roundP w (S.take i))),(10,.int .i64 (i:Nat))]) (fun _=>h) (fun i=>S.length - i) 0 (Nat.zero_le _) rfl ?_
 rintro i hi
 dsimp only
 have hbn:roundP w (S.take i)≠some []:=round_ne hne _ _ (by simp)
 have hT:∀ tm,norm (maskOf tm) h.length ⟨tm,h⟩=⟨masked (maskOf tm) tm,h⟩:=fun tm=>norm_same rfl
 by_cases hi' : i<S.length
 rotate_left
 ·obtain rfl:i=S.length:=by omega
  rw [List.take_length]
  rw [List.take_length] at hbn
  generalize hb:roundP w S=b at *
  cases b
  all_goals
   repeat' (first
 | (conv=>whnf)
   first
   | (refine Br.decF ?_ ?_;(focus first | assumption | omega))
   | refine fLen.mk ?_
   | refine fB.if0 ?_
   | refine fB.mk ?_
   | refine Get.mk _ rfl ?_
   | refine Ends.of ?_)
  all_goals (show K _ (trunc h.length _ h);rw [trunc_same rfl];exact hk)
 obtain ⟨k,hk', hc⟩:=ofInts_cell hi'
 have hwk:=hw k (hmem k (List.mem_of_getElem? hk'))
 have hnk:=hne k
 have hsn:=round_snoc (w:=w) hk'
 unfold rStep at hsn
 generalize hb:roundP w (S.take i)=b at *
 generalize hx:w k=x at *
 cases x with
 | none =>
  dsimp only at hsn
  repeat' (first
 | (conv=>whnf)
   first
   | refine Br.f ?_
   | (refine Br.decT ?_ ?_;(focus first | assumption | omega))
   | (refine Bnd.i64 ?_ ?_ ?_;(focus omega);(focus omega))
   | refine fLen.mk ?_
   | refine fB.if0 ?_
   | refine fB.mk ?_
   | refine Get.mk _ hc ?_
   | refine call_fun rfl rfl hwk (.inl rfl) ?_
   | (refine Idx.nat ?_ ?_;(focus omega))
   | refine Get.mk _ rfl ?_
   | (refine Req.mk ?_ ?_;(focus first | rfl | decide | exact ⟨rfl,rfl⟩ | exact ⟨rfl,by decide⟩ | exact (fun _=>rfl) | exact (fun h=>nomatch h) | (simp;done) | omega | (simp [big];done) | exact le_big (by omega) | exact lt_big (by omega))))
  refine NextP.mk (i+1) hi' (by omega) ?_
  rw [hsn]
  exact norm_same rfl
 | some l =>
  obtain ⟨y,r,rfl⟩:∃ y r,l=y :: r:=by
   cases l with
   | nil=>exact absurd rfl hnk
   | cons y r=>exact ⟨y,r,rfl⟩
  cases b with
  | none =>
   dsimp only at hsn
   repeat' (first
 | (conv=>whnf)
   first
   | refine Br.t ?_
   | (refine Br.decT ?_ ?_;(focus first | assumption | omega))
   | (refine Bnd.i64 ?_ ?_ ?_;(focus omega);(focus omega))
   | refine fLen.mk ?_
   | refine fB.if0 ?_
   | refine fB.mk ?_
   | refine Get.mk _ hc ?_
   | refine call_fun rfl rfl hwk (.inl rfl) ?_
   | (refine Idx.nat ?_ ?_;(focus omega))
   | refine Get.mk _ rfl ?_
   | (refine Req.mk ?_ ?_;(focus first | rfl | decide | exact ⟨rfl,rfl⟩ | exact ⟨rfl,by decide⟩ | exact (fun _=>rfl) | exact (fun h=>nomatch h) | (simp;done) | omega | (simp [big];done) | exact le_big (by omega) | exact lt_big (by omega))))
   refine NextP.mk (i+1) hi' (by omega) ?_
   rw [hsn]
   exact norm_same rfl
  | some z =>
   obtain ⟨y', r', rfl⟩:∃ y r,z=y :: r:=by
    cases z with
    | nil=>exact absurd rfl hbn
    | cons y r=>exact ⟨y,r,rfl⟩
   dsimp only at hsn
   by_cases hlt:(y :: r).length<(y' :: r').length
   ·rw [if_pos hlt] at hsn
    repeat' (first
 | (conv=>whnf)
   first
   | refine Br.t ?_
   | refine Br.f ?_
   | (refine Br.decT ?_ ?_;(focus first | assumption | omega))
   | (refine Bnd.i64 ?_ ?_ ?_;(focus omega);(focus omega))
   | refine fLen.mk ?_
   | refine fB.if0 ?_
   | refine fB.mk ?_
   | refine Get.mk _ hc ?_
   | refine call_fun rfl rfl hwk (.inl rfl) ?_
   | (refine Idx.nat ?_ ?_;(focus omega))
   | refine Get.mk _ rfl ?_
   | (refine Req.mk ?_ ?_;(focus first | rfl | decide | exact ⟨rfl,rfl⟩ | exact ⟨rfl,by decide⟩ | exact (fun _=>rfl) | exact (fun h=>nomatch h) | (simp;done) | omega | (simp [big];done) | exact le_big (by omega) | exact lt_big (by omega))))
    refine NextP.mk (i+1) hi' (by omega) ?_
    rw [hsn]
    exact norm_same rfl
   ·rw [if_neg hlt] at hsn
    repeat' (first
 | (conv=>whnf)
   first
   | refine Br.t ?_
   | refine Br.f ?_
   | (refine Br.decT ?_ ?_;(focus first | assumption | omega))
   | (refine Br.decF ?_ ?_;(focus first | assumption | omega))
   | (refine Bnd.i64 ?_ ?_ ?_;(focus omega);(focus omega))
   | refine fLen.mk ?_
   | refine fB.if0 ?_
   | refine fB.mk ?_
   | refine Get.mk _ hc ?_
   | refine call_fun rfl rfl hwk (.inl rfl) ?_
   | (refine Idx.nat ?_ ?_;(focus omega))
   | refine Get.mk _ rfl ?_
   | (refine Req.mk ?_ ?_;(focus first | rfl | decide | exact ⟨rfl,rfl⟩ | exact ⟨rfl,by decide⟩ | exact (fun _=>rfl) | exact (fun h=>nomatch h) | (simp;done) | omega | (simp [big];done) | exact le_big (by omega) | exact lt_big (by omega))))
    refine NextP.mk (i+1) hi' (by omega) ?_
    rw [hsn]
    exact norm_same rfl
end Go.Dr.T
