/- Top, of chapter 06: way, walked. -/
import Derived.Test.YtbnmdlnkhghbpaaGreatDoorG20
namespace Go.Dr.T6
open Go.Dr.T
theorem Q4j {h:List B} {id g n:Nat} {L:List Int} {K:V→List B→Prop} (hg:g=L.length) (hn:n=L.length) (hb:bget h id=some (.blk (Q00 L) true)) (hl:L.length≤100000) (hk:fB (bset h id (.blk (Q00 L.reverse) true)) fun h'=>K (.tup []) h'):CallP FB1 md 0 (.fn 41 []) [.ms 1 id g 0 n false] h K:=by
 subst hg;subst hn;exact reverse_call hb hl (Q1w.1 hk)
theorem Qlg {m:List Bool} {hl:Nat} {st:St} {tm:List V} {h:List B} (h1:Q0m m st.tm=tm) (h2:st.h.length=hl+2) (h5:st.h.take (hl+1)=h) (h3:blos (hl+1) tm=true) (h4:Q0a (hl+1) h=true) (h6:blos hl tm=false):norm m hl st=⟨tm,h⟩:=by
 unfold norm trunc
 rw [h1,h2,Nat.add_sub_cancel_left]
 unfold Q1k
 simp only [h5,h3,h4,Bool.and_self,if_true]
 unfold Q1k
 simp only [Nat.add_zero,h6,Bool.false_and]
 rfl
def quV (a:Int):List (Int × Int)→V
 | []=>.sl true 1 [.int .i64 a]
 | _::b=>.ms 1 1 (b.length+1+1) 0 (b.length+1+1) false
def quB (a:Int):List (Int × Int)→List B
 | []=>[]
 | x::b=>[.blk (Q00 (qu a (x::b))) true]
def bfB (bf:List (Int × Int)):B:=.mp (Q00 (bf.map (·.1))) (Q00 (bf.map (·.2)))
theorem Q9r (a:Int) (bf:List (Int × Int)):(qu a bf).length=bf.length+1:=by simp [qu]
structure BfOk (a:Int) (bf:List (Int × Int)):Prop where
 nd:(bf.map (·.1)).Nodup
 rg:∀ k∈bf.map (·.1),1≤k∧k≤999
theorem BfOk.len {a:Int} {bf:List (Int × Int)} (h:BfOk a bf):bf.length≤1000:=by
 have h1:((bf.map (·.1)).map Int.toNat).Nodup:=by
  rw [List.nodup_iff_pairwise_ne,List.pairwise_map]
  refine h.nd.imp_of_mem fun {x y} hx hy hne he=>?_
  have:=h.rg x hx
  have:=h.rg y hy
  omega
 have h2:=Q1z (n:=1000) h1 fun x hx=>by
  obtain ⟨k,hk,rfl⟩:=List.mem_map.1 hx
  have:=h.rg k hk
  omega
 simpa using h2
theorem BfOk.step {a ab q k:Int} {bf:List (Int × Int)} (h:BfOk a bf) (hk:1≤k∧k≤999):BfOk a (stQ a ab q bf k):=by
 unfold stQ
 split
 ·rename_i hc
  refine ⟨?_,fun x hx=>?_⟩
  ·rw [List.map_append,List.nodup_append]
   exact ⟨h.nd,by simp,fun x hx y hy=>by simp at hy;subst hy;rintro rfl;exact hc.1 hx⟩
  ·rw [List.map_append,jK] at hx
   rcases hx with hx|hx
   ·exact h.rg x hx
   ·simp at hx;subst hx;exact hk
 ·exact h
theorem BfOk.fold {a ab q:Int}:∀ {L:List Int} {bf:List (Int × Int)},BfOk a bf→(∀ k∈L,1≤k∧k≤999)→BfOk a (L.foldl (stQ a ab q) bf)
 | [],_,h,_=>h
 | k::L,_,h,hL=>BfOk.fold (L:=L) (h.step (hL k (by simp))) fun x hx=>hL x (by simp [hx])
theorem Qe3 {a ab q k:Int} {bf:List (Int × Int)} (h:k∉bf.map (·.1)∧ab<k∧k≠a):stQ a ab q bf k=bf++[(k,q)]:=if_pos h
theorem Qe4 {a ab q k:Int} {bf:List (Int × Int)} (h:¬ (k∉bf.map (·.1)∧ab<k∧k≠a)):stQ a ab q bf k=bf:=if_neg h
theorem Qd0 {a ab q k:Int} {L:List Int} {i:Nat} {bf:List (Int × Int)} (h:L[i]?=some k):(L.take (i+1)).foldl (stQ a ab q) bf=stQ a ab q ((L.take i).foldl (stQ a ab q) bf) k:=by
 have:L.take (i+1)=L.take i++[k]:=by rw [List.take_add_one,h];rfl
 rw [this,List.foldl_append];rfl
theorem Qs2 (n:Nat) (bf:List (Int × Int)):(bfB bf).blo n=true:=by simp only [bfB,B.blo,Q97,Bool.and_self]
theorem hbw {n:Nat} {bf:List (Int × Int)} {c:List V}:Q0a n [bfB bf,.blk c true]=true:=by
 simp only [Q0a];rw [Qs2];simp [B.blo]
theorem hbw3 {n:Nat} {bf:List (Int × Int)} {c c':List V}:Q0a n [bfB bf,.blk c true,.blk c' true]=true:=by
 simp only [Q0a];rw [Qs2];simp [B.blo]
structure QS where
 n:Nat
 p:Nat
 bf:List (Int × Int)
structure QOk (D:List PE) (a t ab:Int) (r:Option (List Int)) (s:QS):Prop where
 go:Q65 D a t ab s.n s.p s.bf=some r
 le:s.p≤s.bf.length+1
 ok:BfOk a s.bf
theorem Qav {a:Int} {bf:List (Int × Int)} {p:Nat} {q:Int} (h:(qu a bf)[p]?=some q):Q0h (Q00 (qu a bf)) (p*1)=some (.int .i64 q):=by
 obtain ⟨y,h1,h2⟩:=Q15 (jB.1 h).1
 rw [h] at h1;cases h1;exact h2
theorem Qau {a:Int} {bf:List (Int × Int)} {p:Nat} {q:Int} (h:(qu a bf)[p]?=some q):Q0h (Q00 (qu a bf)) (0+p*1)=some (.int .i64 q):=by
 rw [Nat.zero_add];exact Qav h
theorem Qaa {a:Int} {bf:List (Int × Int)} {f:Nat} {k:Int} {rest:List Int} (h:chain a bf f k=some rest) (hk:k≠a):∃ g p r,f=g+1∧lkp bf k=some p∧chain a bf g p=some r∧rest=k::r:=by
 cases f with
 | zero=>unfold chain at h;rw [if_neg hk] at h;cases h
 | succ g =>
  unfold chain at h
  rw [if_neg hk] at h
  split at h
  ·cases h
  ·rename_i p hp
   obtain ⟨r,hr,rfl⟩:=map_some h
   exact ⟨g,p,r,rfl,hp,hr,rfl⟩
theorem Qdc {a:Int} {bf:List (Int × Int)} {f:Nat} {rest:List Int} (h:chain a bf f a=some rest):rest=[]:=by
 cases f<;>(unfold chain at h;rw [if_pos rfl] at h;cases h;rfl)
theorem Qly {bf:List (Int × Int)} {k p:Int} (h:lkp bf k=some p):k∈bf.map (·.1):=by
 refine Classical.byContradiction fun hn=>?_
 rw [Qpo hn] at h;cases h
theorem Qfz {h:List B} {id g n:Nat} {L:List Int} (hb:bget h id=some (.blk (Q00 L) true)) (hg:g=L.length) (hn:n=L.length):Vw h depth (.tup [.ms 1 id g 0 n false,.bool true]) (wayV (some L)):=by
 subst hg;subst hn
 exact Vw.tup (d:=63) (VwL.cons (Vw.ms hb (by simp [Q00]) (Q0y (by simp [Q00])) ⟨Q4g _⟩) (VwL.cons (Vw.bool rfl) VwL.nil))
structure CS where
 acc:List Int
 k:Int
 f:Nat
theorem Q5q {a ab q:Int}:∀ (L:List Int) (bf:List (Int × Int)),∃ e,L.foldl (stQ a ab q) bf=bf++e
 | [],bf=>⟨[],by simp⟩
 | k::L,bf=>by
  obtain ⟨e,h⟩:=Q5q (a:=a) (ab:=ab) (q:=q) L (stQ a ab q bf k)
  rw [List.foldl_cons,h]
  unfold stQ
  split
  ·exact ⟨(k,q)::e,by simp⟩
  ·exact ⟨e,rfl⟩
theorem Qrc {a:Int} {bf e:List (Int × Int)} {p:Nat} {q:Int} (h:(qu a bf)[p]?=some q):(qu a (bf++e))[p]?=some q:=by
 have:qu a (bf++e)=qu a bf++e.map (·.1):=by simp [qu]
 rw [this,List.getElem?_append_left (jB.1 h).1];exact h
set_option maxRecDepth 100000 in
set_option maxHeartbeats 20000000 in
theorem Qsd {D:List PE} {a t ab:Int} {n:Nat} {r:Option (List Int)} (hn:D.length≤100000) (hL:∀ e∈D,e.L.length≤100000) (hR:∀ e∈D,∀ k∈e.L,1≤k∧k≤999) (nd:(D.map (·.k)).Nodup)
  (hgo:Q65 D a t ab n 0 []=some r):Fun FB1 md 54 [gatV D,.int .i64 a,.int .i64 t,.int .i64 ab] (wayV r):=by
 have hcon:∀ (e:PE) (k:Int),e∈D→Fun FB1 md 47 [e.v,.int .i64 k] (.bool (hasB k e.L)):=fun e k he=>by
  have h1:=Q8x (c:=e.c) (L:=Q0k e.L) (m:=k) (by rw [Q21];have:=hL e he;omega)
  rw [Qmj (Q11 _)] at h1
  exact h1.tab sub1
 have hcon0:Fun FB1 md 47 [.sl true 0 [],.int .i64 t] (.bool false):=(Q54 (c:=true) (l:=[]) (m:=t) (by simp)).tab sub1
 refine Q04 rfl rfl ?_
 repeat' ((conv=>whnf);first|refine Get.mk _ rfl ?_|(refine Req.mk ?_ ?_;(focus first|rfl|decide|exact ⟨rfl,rfl⟩|exact ⟨rfl,by decide⟩|exact (fun _=>rfl)|exact (fun h=>nomatch h)|(simp;done)|omega|(simp [big];done)|exact le_big (by omega)|exact lt_big (by omega))))
 refine LoopP.by (QOk D a t ab r) (fun s=>[(8,.nilsl),(9,.bool false),(11,quV a s.bf),(12,.int .i64 (s.p:Nat))]) (fun s=>bfB s.bf::quB a s.bf) (fun s=>s.n) ⟨n,0,[]⟩ ⟨hgo,by simp,.nil,by simp⟩ rfl ?_
 rintro ⟨n,p,bf⟩ ⟨o1,o2,o3⟩
 dsimp only at o1 o2 o3 ⊢
 have hbl:=o3.len
 by_cases hp:p<bf.length+1
 rotate_left
 ·have hr:r=none:=by
   cases n with
   | zero=>unfold Q65 at o1;cases o1
   | succ n =>
    unfold Q65 at o1
    rw [List.getElem?_eq_none (by rw [Q9r];omega)] at o1
    simpa using o1.symm
  subst hr
  cases bf
  all_goals
   simp only [List.length_nil,List.length_cons] at *
   repeat' ((conv=>whnf);first|refine zF ?_|refine Get.mk _ rfl ?_|refine Leaves.of ?_|refine Vw.bool ?_|refine Vw.nil|refine Vw.tup ?_|refine VwL.cons ?_ ?_|refine VwL.nil)
  all_goals rfl
 obtain ⟨q,hq⟩:∃ q,(qu a bf)[p]?=some q:=⟨_,jC (by rw [Q9r];omega)⟩
 obtain ⟨m,rfl⟩:∃ m,n=m+1:=by
  cases n with
  | zero=>unfold Q65 at o1;cases o1
  | succ n=>exact ⟨n,rfl⟩
 unfold Q65 at o1
 rw [hq] at o1
 dsimp only at o1
 have hcell:=Qav hq
 have hcell0:=Qau hq
 have hqD:(q∈D.map (·.k))∨(q∉D.map (·.k)∧pM D q=[]):=by
  by_cases h:q∈D.map (·.k)
  ·exact .inl h
  ·refine .inr ⟨h,?_⟩
   unfold pM
   rw [List.find?_eq_none.2 fun e he=>by
    simp only [jG]
    rintro rfl;exact h (List.mem_map.2 ⟨e,he,rfl⟩)]
 rcases hqD with hqD|⟨hqD,hqE⟩
 ·obtain ⟨i2,e,he,hf2,htg2,hpm2⟩:=Ql8 nd hqD
  have hce:=hcon e t he
  obtain ⟨cv,hcv⟩:=pe_sl e
  rw [hcv] at htg2 hce
  rw [← hpm2] at hce htg2
  have hLl:(Q0k (pM D q)).length≤100000:=by rw [Q21,hpm2];exact hL e he
  have hLr:∀ k∈Q0k (pM D q),1≤k∧k≤999:=fun k hk=>hR e he k (hpm2▸(Q11 _).mem_iff.1 hk)
  by_cases ht:t∈pM D q
  ·rw [if_pos ht] at o1
   rw [show hasB t (pM D q)=true by simp [hasB,ht]] at hce
   obtain ⟨cs,hcs,hr⟩:=map_some o1
   cases bf with
   | nil =>
    simp only [List.length_nil,List.length_cons] at *
    repeat' ((conv=>whnf);first|refine Br.t ?_|refine zT ?_|refine Get.mk _ hcell ?_|(refine Get.mk _ hf2 ?_;refine fWe htg2 ?_)|refine zC hce ?_|refine zN ?_|(refine Req.mk ?_ ?_;(focus first|rfl|decide|exact ⟨rfl,rfl⟩|exact ⟨rfl,by decide⟩|exact (fun _=>rfl)|exact (fun h=>nomatch h)|(simp;done)|omega|(simp [big];done)|exact le_big (by omega)|exact lt_big (by omega))))
    try subst hr
    refine LoopP.by (fun s:CS=>∃ rest,chain a ([]:List (Int × Int)) s.f s.k=some rest∧s.acc++rest=cs) (fun s=>[(13,lv 0 false s.acc),(14,.int .i64 s.k)]) (fun s=>[bfB ([]:List (Int × Int))]++acB s.acc) (fun s=>s.f) ⟨[],q,(List.length ([]:List (Int × Int)))+1⟩ ⟨cs,hcs,rfl⟩ rfl ?_
    rintro ⟨acc,k,f⟩ ⟨rest,w1,w2⟩
    dsimp only at w1 w2 ⊢
    by_cases hka:k=a
    ·subst hka
     obtain rfl:=Qdc w1
     rw [List.append_nil] at w2
     subst w2
     cases acc with
     | nil =>
      repeat' ((conv=>whnf);first|refine Qfz rfl rfl rfl|refine zT ?_|refine Br.not ?_|(refine Q4j (L:=[k]) rfl rfl rfl ?_ ?_;(focus simp))|refine zZ ?_|refine Get.mk _ rfl ?_|refine Leaves.of ?_|(refine Req.mk ?_ ?_;(focus first|rfl|decide|exact ⟨rfl,rfl⟩|exact ⟨rfl,by decide⟩|exact (fun _=>rfl)|exact (fun h=>nomatch h)|(simp;done)|omega|(simp [big];done)|exact le_big (by omega)|exact lt_big (by omega))))
     | cons x r =>
      have hol:(Q00 (x::r)).length=r.length+1:=by simp [Q00]
      have hln:=Q4c hcs
      simp only [List.length_cons] at hln
      have e1:Q00 (x::r)++[V.int .i64 k]=Q00 (x::r++[k]):=by simp [Q00]
      have hrv:(x::r++[k]).length=r.length+1+1:=by simp
      have hrl:(x::r++[k]).length≤100000:=by rw [hrv];omega
      have hrr:r.length+1+1=(x::r++[k]).reverse.length:=by simp
      repeat' ((conv=>whnf);first|refine Qfz rfl hrr hrr|refine zT ?_|refine Br.not ?_|refine Req.mk hol ?_|refine Req.mk ⟨by omega,by rw [hol];exact Q46 (by simp;omega)⟩ ?_|refine Q4j (L:=x::r++[k]) hrv.symm hrv.symm (congrArg (fun c=>some (B.blk c true)) e1) hrl ?_|refine zZ ?_|refine Get.mk _ rfl ?_|refine Leaves.of ?_|(refine Req.mk ?_ ?_;(focus first|rfl|decide|exact ⟨rfl,rfl⟩|exact ⟨rfl,by decide⟩|exact (fun _=>rfl)|exact (fun h=>nomatch h)|(simp;done)|omega|(simp [big];done)|exact le_big (by omega)|exact lt_big (by omega))))
    obtain ⟨g,p',rest',rfl,e1,e2,rfl⟩:=Qaa w1 hka
    obtain ⟨j,p2,hmf,htg,hlk⟩:=Q9a (bf:=([]:List (Int × Int))) (i:=0) (Qly e1)
    rw [Nat.zero_add] at hmf
    rw [e1] at hlk
    cases hlk
    have w3:(acc++[k])++rest'=cs:=by rw [← w2];simp
    cases acc with
    | nil =>
     repeat' ((conv=>whnf);first|refine zF ?_|refine Br.not ?_|(refine Get.mk _ hmf ?_;refine fWe htg ?_)|refine zZ ?_|refine Get.mk _ rfl ?_|(refine Req.mk ?_ ?_;(focus first|rfl|decide|exact ⟨rfl,rfl⟩|exact ⟨rfl,by decide⟩|exact (fun _=>rfl)|exact (fun h=>nomatch h)|(simp;done)|omega|(simp [big];done)|exact le_big (by omega)|exact lt_big (by omega))))
     all_goals try (exfalso;omega)
     refine NextP.mk ⟨[k],p',g⟩ ⟨rest',e2,w3⟩ (Nat.lt_succ_self _) rfl
    | cons x r =>
     have hol:(Q00 (x::r)).length=r.length+1:=by simp [Q00]
     have hln:=Q4c hcs
     have hln2:r.length+1≤cs.length:=by rw [← w2];simp
     have e1:Q00 (x::r)++[V.int .i64 k]=Q00 (x::(r++[k])):=by simp [Q00]
     repeat' ((conv=>whnf);first|refine zF ?_|refine Br.not ?_|(refine Get.mk _ hmf ?_;refine fWe htg ?_)|refine Req.mk hol ?_|refine Req.mk ⟨by omega,by rw [hol];exact Q46 (by simp;omega)⟩ ?_|refine zZ ?_|refine Get.mk _ rfl ?_|(refine Req.mk ?_ ?_;(focus first|rfl|decide|exact ⟨rfl,rfl⟩|exact ⟨rfl,by decide⟩|exact (fun _=>rfl)|exact (fun h=>nomatch h)|(simp;done)|omega|(simp [big];done)|exact le_big (by omega)|exact lt_big (by omega))))
     all_goals try (exfalso;omega)
     refine NextP.mk ⟨x::(r++[k]),p',g⟩ ⟨rest',e2,w3⟩ (Nat.lt_succ_self _) ?_
     have e2:(r++[k]).length=r.length+1:=by simp
     refine (Qlg (h:=[bfB ([]:List (Int × Int))]++[.blk (Q00 (x::(r++[k]))) true]) rfl rfl (by rw [← e1];rfl) rfl hbw rfl).trans ?_
     simp only [lv,e2]
     rfl
   | cons y b =>
    simp only [List.length_nil,List.length_cons] at *
    have hqg:(Q00 (qu a (y::b))).length=b.length+1+1:=by simp [Q00,qu]
    repeat' ((conv=>whnf);first|refine Br.t ?_|refine zT ?_|refine Get.mk _ hcell0 ?_|refine Req.mk hqg ?_|(refine Get.mk _ hf2 ?_;refine fWe htg2 ?_)|refine zC hce ?_|refine zN ?_|refine Get.mk _ rfl ?_|(refine Req.mk ?_ ?_;(focus first|rfl|decide|exact ⟨rfl,rfl⟩|exact ⟨rfl,by decide⟩|exact (fun _=>rfl)|exact (fun h=>nomatch h)|(simp;done)|omega|(simp [big];done)|exact le_big (by omega)|exact lt_big (by omega))))
    try subst hr
    refine LoopP.by (fun s:CS=>∃ rest,chain a (y::b) s.f s.k=some rest∧s.acc++rest=cs) (fun s=>[(13,lv 1 false s.acc),(14,.int .i64 s.k)]) (fun s=>[bfB (y::b),.blk (Q00 (qu a (y::b))) true]++acB s.acc) (fun s=>s.f) ⟨[],q,(List.length (y::b))+1⟩ ⟨cs,hcs,rfl⟩ rfl ?_
    rintro ⟨acc,k,f⟩ ⟨rest,w1,w2⟩
    dsimp only at w1 w2 ⊢
    by_cases hka:k=a
    ·subst hka
     obtain rfl:=Qdc w1
     rw [List.append_nil] at w2
     subst w2
     cases acc with
     | nil =>
      repeat' ((conv=>whnf);first|refine Qfz rfl rfl rfl|refine zT ?_|refine Br.not ?_|(refine Q4j (L:=[k]) rfl rfl rfl ?_ ?_;(focus simp))|refine zZ ?_|refine Get.mk _ rfl ?_|refine Leaves.of ?_|(refine Req.mk ?_ ?_;(focus first|rfl|decide|exact ⟨rfl,rfl⟩|exact ⟨rfl,by decide⟩|exact (fun _=>rfl)|exact (fun h=>nomatch h)|(simp;done)|omega|(simp [big];done)|exact le_big (by omega)|exact lt_big (by omega))))
     | cons x r =>
      have hol:(Q00 (x::r)).length=r.length+1:=by simp [Q00]
      have hln:=Q4c hcs
      simp only [List.length_cons] at hln
      have e1:Q00 (x::r)++[V.int .i64 k]=Q00 (x::r++[k]):=by simp [Q00]
      have hrv:(x::r++[k]).length=r.length+1+1:=by simp
      have hrl:(x::r++[k]).length≤100000:=by rw [hrv];omega
      have hrr:r.length+1+1=(x::r++[k]).reverse.length:=by simp
      repeat' ((conv=>whnf);first|refine Qfz rfl hrr hrr|refine zT ?_|refine Br.not ?_|refine Req.mk hol ?_|refine Req.mk ⟨by omega,by rw [hol];exact Q46 (by simp;omega)⟩ ?_|refine Q4j (L:=x::r++[k]) hrv.symm hrv.symm (congrArg (fun c=>some (B.blk c true)) e1) hrl ?_|refine zZ ?_|refine Get.mk _ rfl ?_|refine Leaves.of ?_|(refine Req.mk ?_ ?_;(focus first|rfl|decide|exact ⟨rfl,rfl⟩|exact ⟨rfl,by decide⟩|exact (fun _=>rfl)|exact (fun h=>nomatch h)|(simp;done)|omega|(simp [big];done)|exact le_big (by omega)|exact lt_big (by omega))))
    obtain ⟨g,p',rest',rfl,e1,e2,rfl⟩:=Qaa w1 hka
    obtain ⟨j,p2,hmf,htg,hlk⟩:=Q9a (bf:=(y::b)) (i:=0) (Qly e1)
    rw [Nat.zero_add] at hmf
    rw [e1] at hlk
    cases hlk
    have w3:(acc++[k])++rest'=cs:=by rw [← w2];simp
    cases acc with
    | nil =>
     repeat' ((conv=>whnf);first|refine zF ?_|refine Br.not ?_|(refine Get.mk _ hmf ?_;refine fWe htg ?_)|refine zZ ?_|refine Get.mk _ rfl ?_|(refine Req.mk ?_ ?_;(focus first|rfl|decide|exact ⟨rfl,rfl⟩|exact ⟨rfl,by decide⟩|exact (fun _=>rfl)|exact (fun h=>nomatch h)|(simp;done)|omega|(simp [big];done)|exact le_big (by omega)|exact lt_big (by omega))))
     all_goals try (exfalso;omega)
     refine NextP.mk ⟨[k],p',g⟩ ⟨rest',e2,w3⟩ (Nat.lt_succ_self _) rfl
    | cons x r =>
     have hol:(Q00 (x::r)).length=r.length+1:=by simp [Q00]
     have hln:=Q4c hcs
     have hln2:r.length+1≤cs.length:=by rw [← w2];simp
     have e1:Q00 (x::r)++[V.int .i64 k]=Q00 (x::(r++[k])):=by simp [Q00]
     repeat' ((conv=>whnf);first|refine zF ?_|refine Br.not ?_|(refine Get.mk _ hmf ?_;refine fWe htg ?_)|refine Req.mk hol ?_|refine Req.mk ⟨by omega,by rw [hol];exact Q46 (by simp;omega)⟩ ?_|refine zZ ?_|refine Get.mk _ rfl ?_|(refine Req.mk ?_ ?_;(focus first|rfl|decide|exact ⟨rfl,rfl⟩|exact ⟨rfl,by decide⟩|exact (fun _=>rfl)|exact (fun h=>nomatch h)|(simp;done)|omega|(simp [big];done)|exact le_big (by omega)|exact lt_big (by omega))))
     all_goals try (exfalso;omega)
     refine NextP.mk ⟨x::(r++[k]),p',g⟩ ⟨rest',e2,w3⟩ (Nat.lt_succ_self _) ?_
     have e2:(r++[k]).length=r.length+1:=by simp
     refine (Qlg (h:=[bfB (y::b),.blk (Q00 (qu a (y::b))) true]++[.blk (Q00 (x::(r++[k]))) true]) rfl rfl (by rw [← e1];rfl) rfl hbw3 rfl).trans ?_
     simp only [lv,e2]
     rfl
  ·rw [if_neg ht] at o1
   rw [show hasB t (pM D q)=false by simp [hasB,ht]] at hce
   cases bf with
   | nil =>
    simp only [List.length_nil,List.length_cons] at *
    repeat' ((conv=>whnf);first|refine Br.f ?_|refine zT ?_|refine Get.mk _ hcell ?_|(refine Get.mk _ hf2 ?_;refine fWe htg2 ?_)|refine zC hce ?_|refine zN ?_|(refine Req.mk ?_ ?_;(focus first|rfl|decide|exact ⟨rfl,rfl⟩|exact ⟨rfl,by decide⟩|exact (fun _=>rfl)|exact (fun h=>nomatch h)|(simp;done)|omega|(simp [big];done)|exact le_big (by omega)|exact lt_big (by omega))))
    generalize Q0k (pM D q)=L at *
    refine LoopP.by (fun i:Nat=>i≤L.length) (fun i=>[(11,quV a ((L.take i).foldl (stQ a ab q) ([]:List (Int × Int)))),(64,.int .i64 (i:Nat))]) (fun i=>bfB ((L.take i).foldl (stQ a ab q) ([]:List (Int × Int)))::quB a ((L.take i).foldl (stQ a ab q) ([]:List (Int × Int)))) (fun i=>L.length-i) 0 (Nat.zero_le _) rfl ?_
    rintro i hi
    dsimp only
    by_cases hi':i<L.length
    rotate_left
    ·obtain rfl:i=L.length:=by omega
     rw [List.take_length]
     have hfo:=o3.fold (ab:=ab) (q:=q) hLr
     obtain ⟨ex,hex⟩:=Q5q (a:=a) (ab:=ab) (q:=q) L ([]:List (Int × Int))
     generalize hb:L.foldl (stQ a ab q) ([]:List (Int × Int))=u at *
     have hle:p+1≤u.length+1:=by rw [hex,jD];(try simp only [List.length_cons,List.length_nil]);omega
     have hnx:QOk D a t ab r ⟨m,p+1,u⟩:=⟨o1,hle,hfo⟩
     cases u
     all_goals
      repeat' ((conv=>whnf);first|refine zF ?_|refine zB ?_)
     all_goals first|(exfalso;omega)|exact NextP.mk ⟨m,p+1,_⟩ hnx (Nat.lt_succ_self _) rfl
    obtain ⟨k,hk,hck⟩:=Q15 hi'
    have hkr:=hLr k (jE hk)
    have hfs:=Qd0 (a:=a) (ab:=ab) (q:=q) (bf:=([]:List (Int × Int))) hk
    have hfo:=o3.fold (ab:=ab) (q:=q) (L:=L.take i) (fun x hx=>hLr x (List.mem_of_mem_take hx))
    obtain ⟨ex,hex⟩:=Q5q (a:=a) (ab:=ab) (q:=q) (L.take i) ([]:List (Int × Int))
    have hqb:(qu a ((L.take i).foldl (stQ a ab q) ([]:List (Int × Int))))[p]?=some q:=by rw [hex];exact Qrc hq
    generalize hb:(L.take i).foldl (stQ a ab q) ([]:List (Int × Int))=u at *
    have hbl2:=hfo.len
    by_cases hc:k∉u.map (·.1)∧ab<k∧k≠a
    rotate_left
    ·rw [Qe4 hc] at hfs
     by_cases hkb:k∈u.map (·.1)
     ·obtain ⟨j,p2,hmf,htg,hlk⟩:=Q9a (bf:=u) (i:=0) hkb
      rw [Nat.zero_add] at hmf
      cases u
      all_goals
       repeat' ((conv=>whnf);first|refine Br.f ?_|refine zT ?_|refine zB ?_|refine Get.mk _ hck ?_|(refine Get.mk _ hmf ?_;refine fWe htg ?_)|refine zN ?_|refine Get.mk _ rfl ?_|(refine Req.mk ?_ ?_;(focus first|rfl|decide|exact ⟨rfl,rfl⟩|exact ⟨rfl,by decide⟩|exact (fun _=>rfl)|exact (fun h=>nomatch h)|(simp;done)|omega|(simp [big];done)|exact le_big (by omega)|exact lt_big (by omega))))
      all_goals try (exfalso;omega)
      all_goals refine NextP.mk (i+1) hi' (by omega) ?_
      all_goals rw [hfs]
      all_goals rfl
     ·have hmf:=Q1b (i:=0) hkb
      by_cases hab:ab<k
      ·obtain rfl:k=a:=Classical.byContradiction fun h=>hc ⟨hkb,hab,h⟩
       cases u
       all_goals
        repeat' ((conv=>whnf);first|refine Br.t ?_|refine zT ?_|refine Br.not ?_|refine zB ?_|refine Get.mk _ hck ?_|refine Get.mk _ hmf ?_|refine zN ?_|refine Get.mk _ rfl ?_|(refine Req.mk ?_ ?_;(focus first|rfl|decide|exact ⟨rfl,rfl⟩|exact ⟨rfl,by decide⟩|exact (fun _=>rfl)|exact (fun h=>nomatch h)|(simp;done)|omega|(simp [big];done)|exact le_big (by omega)|exact lt_big (by omega))))
       all_goals first|(exfalso;omega)|(refine NextP.mk (i+1) hi' (by omega) ?_;rw [hfs];rfl)
      ·cases u
       all_goals
        repeat' ((conv=>whnf);first|refine Br.t ?_|refine Br.f ?_|refine zT ?_|refine zF ?_|refine zB ?_|refine Get.mk _ hck ?_|refine Get.mk _ hmf ?_|refine zN ?_|refine Get.mk _ rfl ?_|(refine Req.mk ?_ ?_;(focus first|rfl|decide|exact ⟨rfl,rfl⟩|exact ⟨rfl,by decide⟩|exact (fun _=>rfl)|exact (fun h=>nomatch h)|(simp;done)|omega|(simp [big];done)|exact le_big (by omega)|exact lt_big (by omega))))
       all_goals first|(exfalso;omega)|(refine NextP.mk (i+1) hi' (by omega) ?_;rw [hfs];rfl)
    rw [Qe3 hc] at hfs
    obtain ⟨hkb,hab,hka⟩:=hc
    have hmf:=Q1b (i:=0) hkb
    have hqc:=Qav hqb
    have hqc0:=Qau hqb
    have k1:Q00 (u.map (·.1))++[V.int .i64 k]=Q00 ((u++[(k,q)]).map (·.1)):=by simp [Q00]
    have k2:Q00 (u.map (·.2))++[V.int .i64 q]=Q00 ((u++[(k,q)]).map (·.2)):=by simp [Q00]
    have hpb:p<u.length+1:=by have:=(jB.1 hqb).1;rwa [Q9r] at this
    cases u with
    | nil =>
     repeat' ((conv=>whnf);first|refine Br.t ?_|refine zT ?_|refine zF ?_|refine Br.not ?_|refine zB ?_|refine Get.mk _ hck ?_|refine Get.mk _ hmf ?_|refine Get.mk _ hqc ?_|refine zN ?_|refine zZ ?_|refine Get.mk _ rfl ?_|(refine Req.mk ?_ ?_;(focus first|rfl|decide|exact ⟨rfl,rfl⟩|exact ⟨rfl,by decide⟩|exact (fun _=>rfl)|exact (fun h=>nomatch h)|(simp;done)|omega|(simp [big];done)|exact le_big (by omega)|exact lt_big (by omega))))
     all_goals first|(exfalso;omega)|(exfalso;simp at hex;done)|(refine NextP.mk (i+1) hi' (by omega) ?_;rw [hfs];rfl)
    | cons z u =>
     have hqz:(Q00 (qu a (z::u))).length=u.length+1+1:=by simp [Q00,qu]
     have k3:Q00 (qu a (z::u))++[V.int .i64 k]=Q00 (qu a (z::(u++[(k,q)]))):=by simp [Q00,qu]
     simp only [List.length_cons] at hbl2 hpb
     obtain ⟨KS,hKS⟩:∃ KS,(z::u).map (·.1)=KS:=⟨_,rfl⟩
     obtain ⟨VS,hVS⟩:∃ VS,(z::u).map (·.2)=VS:=⟨_,rfl⟩
     obtain ⟨KT,hKT⟩:∃ KT,(z::u++[(k,q)]).map (·.1)=KT:=⟨_,rfl⟩
     obtain ⟨VT,hVT⟩:∃ VT,(z::u++[(k,q)]).map (·.2)=VT:=⟨_,rfl⟩
     have hB:bfB (z::u)=.mp (Q00 KS) (Q00 VS):=by rw [← hKS,← hVS];rfl
     have hB2:bfB (z::(u++[(k,q)]))=.mp (Q00 KT) (Q00 VT):=by rw [← hKT,← hVT];rfl
     rw [hKS] at hmf k1
     rw [hKT] at k1
     rw [hVS,hVT] at k2
     rw [hB]
     repeat' ((conv=>whnf);first|refine Br.t ?_|refine zT ?_|refine zF ?_|refine Br.not ?_|refine zB ?_|refine Get.mk _ hck ?_|refine Get.mk _ hmf ?_|refine Get.mk _ hqc0 ?_|refine fVg k1 ?_|refine fVg k2 ?_|refine Req.mk hqz ?_|refine Req.mk ⟨by omega,by rw [hqz];exact Q46 (by simp;omega)⟩ ?_|refine zN ?_|refine zZ ?_|refine Get.mk _ rfl ?_|(refine Req.mk ?_ ?_;(focus first|rfl|decide|exact ⟨rfl,rfl⟩|exact ⟨rfl,by decide⟩|exact (fun _=>rfl)|exact (fun h=>nomatch h)|(simp;done)|omega|(simp [big];done)|exact le_big (by omega)|exact lt_big (by omega))))
     all_goals try (exfalso;omega)
     refine NextP.mk (i+1) hi' (by omega) ?_
     have e2:(u++[(k,q)]).length=u.length+1:=by simp
     rw [hfs]
     refine (Qlg (h:=[bfB (z::(u++[(k,q)])),.blk (Q00 (qu a (z::(u++[(k,q)])))) true]) rfl rfl (by rw [← k3,hB2];rfl) rfl hbw rfl).trans ?_
     rw [List.cons_append]
     simp only [quV,e2]
     rfl
   | cons y b =>
    have hqg:(Q00 (qu a (y::b))).length=b.length+1+1:=by simp [Q00,qu]
    simp only [List.length_nil,List.length_cons] at *
    repeat' ((conv=>whnf);first|refine Br.f ?_|refine zT ?_|refine Get.mk _ hcell0 ?_|refine Req.mk hqg ?_|(refine Get.mk _ hf2 ?_;refine fWe htg2 ?_)|refine zC hce ?_|refine zN ?_|refine Get.mk _ rfl ?_|(refine Req.mk ?_ ?_;(focus first|rfl|decide|exact ⟨rfl,rfl⟩|exact ⟨rfl,by decide⟩|exact (fun _=>rfl)|exact (fun h=>nomatch h)|(simp;done)|omega|(simp [big];done)|exact le_big (by omega)|exact lt_big (by omega))))
    generalize Q0k (pM D q)=L at *
    refine LoopP.by (fun i:Nat=>i≤L.length) (fun i=>[(11,quV a ((L.take i).foldl (stQ a ab q) (y::b))),(64,.int .i64 (i:Nat))]) (fun i=>bfB ((L.take i).foldl (stQ a ab q) (y::b))::quB a ((L.take i).foldl (stQ a ab q) (y::b))) (fun i=>L.length-i) 0 (Nat.zero_le _) rfl ?_
    rintro i hi
    dsimp only
    by_cases hi':i<L.length
    rotate_left
    ·obtain rfl:i=L.length:=by omega
     rw [List.take_length]
     have hfo:=o3.fold (ab:=ab) (q:=q) hLr
     obtain ⟨ex,hex⟩:=Q5q (a:=a) (ab:=ab) (q:=q) L (y::b)
     generalize hb:L.foldl (stQ a ab q) (y::b)=u at *
     have hle:p+1≤u.length+1:=by rw [hex,jD];(try simp only [List.length_cons,List.length_nil]);omega
     have hnx:QOk D a t ab r ⟨m,p+1,u⟩:=⟨o1,hle,hfo⟩
     cases u
     all_goals
      repeat' ((conv=>whnf);first|refine zF ?_|refine zB ?_)
     all_goals first|(exfalso;omega)|exact NextP.mk ⟨m,p+1,_⟩ hnx (Nat.lt_succ_self _) rfl
    obtain ⟨k,hk,hck⟩:=Q15 hi'
    have hkr:=hLr k (jE hk)
    have hfs:=Qd0 (a:=a) (ab:=ab) (q:=q) (bf:=(y::b)) hk
    have hfo:=o3.fold (ab:=ab) (q:=q) (L:=L.take i) (fun x hx=>hLr x (List.mem_of_mem_take hx))
    obtain ⟨ex,hex⟩:=Q5q (a:=a) (ab:=ab) (q:=q) (L.take i) (y::b)
    have hqb:(qu a ((L.take i).foldl (stQ a ab q) (y::b)))[p]?=some q:=by rw [hex];exact Qrc hq
    generalize hb:(L.take i).foldl (stQ a ab q) (y::b)=u at *
    have hbl2:=hfo.len
    by_cases hc:k∉u.map (·.1)∧ab<k∧k≠a
    rotate_left
    ·rw [Qe4 hc] at hfs
     by_cases hkb:k∈u.map (·.1)
     ·obtain ⟨j,p2,hmf,htg,hlk⟩:=Q9a (bf:=u) (i:=0) hkb
      rw [Nat.zero_add] at hmf
      cases u
      all_goals
       repeat' ((conv=>whnf);first|refine Br.f ?_|refine zT ?_|refine zB ?_|refine Get.mk _ hck ?_|(refine Get.mk _ hmf ?_;refine fWe htg ?_)|refine zN ?_|refine Get.mk _ rfl ?_|(refine Req.mk ?_ ?_;(focus first|rfl|decide|exact ⟨rfl,rfl⟩|exact ⟨rfl,by decide⟩|exact (fun _=>rfl)|exact (fun h=>nomatch h)|(simp;done)|omega|(simp [big];done)|exact le_big (by omega)|exact lt_big (by omega))))
      all_goals try (exfalso;omega)
      all_goals refine NextP.mk (i+1) hi' (by omega) ?_
      all_goals rw [hfs]
      all_goals rfl
     ·have hmf:=Q1b (i:=0) hkb
      by_cases hab:ab<k
      ·obtain rfl:k=a:=Classical.byContradiction fun h=>hc ⟨hkb,hab,h⟩
       cases u
       all_goals
        repeat' ((conv=>whnf);first|refine Br.t ?_|refine zT ?_|refine Br.not ?_|refine zB ?_|refine Get.mk _ hck ?_|refine Get.mk _ hmf ?_|refine zN ?_|refine Get.mk _ rfl ?_|(refine Req.mk ?_ ?_;(focus first|rfl|decide|exact ⟨rfl,rfl⟩|exact ⟨rfl,by decide⟩|exact (fun _=>rfl)|exact (fun h=>nomatch h)|(simp;done)|omega|(simp [big];done)|exact le_big (by omega)|exact lt_big (by omega))))
       all_goals first|(exfalso;omega)|(refine NextP.mk (i+1) hi' (by omega) ?_;rw [hfs];rfl)
      ·cases u
       all_goals
        repeat' ((conv=>whnf);first|refine Br.t ?_|refine Br.f ?_|refine zT ?_|refine zF ?_|refine zB ?_|refine Get.mk _ hck ?_|refine Get.mk _ hmf ?_|refine zN ?_|refine Get.mk _ rfl ?_|(refine Req.mk ?_ ?_;(focus first|rfl|decide|exact ⟨rfl,rfl⟩|exact ⟨rfl,by decide⟩|exact (fun _=>rfl)|exact (fun h=>nomatch h)|(simp;done)|omega|(simp [big];done)|exact le_big (by omega)|exact lt_big (by omega))))
       all_goals first|(exfalso;omega)|(refine NextP.mk (i+1) hi' (by omega) ?_;rw [hfs];rfl)
    rw [Qe3 hc] at hfs
    obtain ⟨hkb,hab,hka⟩:=hc
    have hmf:=Q1b (i:=0) hkb
    have hqc:=Qav hqb
    have hqc0:=Qau hqb
    have k1:Q00 (u.map (·.1))++[V.int .i64 k]=Q00 ((u++[(k,q)]).map (·.1)):=by simp [Q00]
    have k2:Q00 (u.map (·.2))++[V.int .i64 q]=Q00 ((u++[(k,q)]).map (·.2)):=by simp [Q00]
    have hpb:p<u.length+1:=by have:=(jB.1 hqb).1;rwa [Q9r] at this
    cases u with
    | nil =>
     repeat' ((conv=>whnf);first|refine Br.t ?_|refine zT ?_|refine zF ?_|refine Br.not ?_|refine Get.mk _ hck ?_|refine Get.mk _ hmf ?_|refine zN ?_|refine Get.mk _ rfl ?_|(refine Req.mk ?_ ?_;(focus first|rfl|decide|exact ⟨rfl,rfl⟩|exact ⟨rfl,by decide⟩|exact (fun _=>rfl)|exact (fun h=>nomatch h)|(simp;done)|omega|(simp [big];done)|exact le_big (by omega)|exact lt_big (by omega))))
     all_goals first|(exfalso;omega)|(exfalso;simp at hex;done)|(refine NextP.mk (i+1) hi' (by omega) ?_;rw [hfs];rfl)
    | cons z u =>
     have hqz:(Q00 (qu a (z::u))).length=u.length+1+1:=by simp [Q00,qu]
     have k3:Q00 (qu a (z::u))++[V.int .i64 k]=Q00 (qu a (z::(u++[(k,q)]))):=by simp [Q00,qu]
     simp only [List.length_cons] at hbl2 hpb
     obtain ⟨KS,hKS⟩:∃ KS,(z::u).map (·.1)=KS:=⟨_,rfl⟩
     obtain ⟨VS,hVS⟩:∃ VS,(z::u).map (·.2)=VS:=⟨_,rfl⟩
     obtain ⟨KT,hKT⟩:∃ KT,(z::u++[(k,q)]).map (·.1)=KT:=⟨_,rfl⟩
     obtain ⟨VT,hVT⟩:∃ VT,(z::u++[(k,q)]).map (·.2)=VT:=⟨_,rfl⟩
     have hB:bfB (z::u)=.mp (Q00 KS) (Q00 VS):=by rw [← hKS,← hVS];rfl
     have hB2:bfB (z::(u++[(k,q)]))=.mp (Q00 KT) (Q00 VT):=by rw [← hKT,← hVT];rfl
     rw [hKS] at hmf k1
     rw [hKT] at k1
     rw [hVS,hVT] at k2
     rw [hB]
     repeat' ((conv=>whnf);first|refine Br.t ?_|refine zT ?_|refine zF ?_|refine Br.not ?_|refine zB ?_|refine Get.mk _ hck ?_|refine Get.mk _ hmf ?_|refine Get.mk _ hqc0 ?_|refine fVg k1 ?_|refine fVg k2 ?_|refine Req.mk hqz ?_|refine Req.mk ⟨by omega,by rw [hqz];exact Q46 (by simp;omega)⟩ ?_|refine zN ?_|refine zZ ?_|refine Get.mk _ rfl ?_|(refine Req.mk ?_ ?_;(focus first|rfl|decide|exact ⟨rfl,rfl⟩|exact ⟨rfl,by decide⟩|exact (fun _=>rfl)|exact (fun h=>nomatch h)|(simp;done)|omega|(simp [big];done)|exact le_big (by omega)|exact lt_big (by omega))))
     all_goals try (exfalso;omega)
     refine NextP.mk (i+1) hi' (by omega) ?_
     have e2:(u++[(k,q)]).length=u.length+1:=by simp
     rw [hfs]
     refine (Q87 (h:=[bfB (z::(u++[(k,q)])),.blk (Q00 (qu a (z::(u++[(k,q)])))) true]) rfl rfl (by rw [← k3,hB2];rfl) rfl hbw ).trans ?_
     rw [List.cons_append]
     simp only [quV,e2]
     rfl
 ·rw [hqE,if_neg (by simp)] at o1
  have hmq:=Q1b (i:=0) hqD
  have hnx:QOk D a t ab r ⟨m,p+1,bf⟩:=⟨o1,hp,o3⟩
  cases bf with
  | nil =>
   simp only [List.length_nil,List.length_cons] at *
   repeat' ((conv=>whnf);first|refine Br.f ?_|refine zT ?_|refine Get.mk _ hcell ?_|refine Get.mk _ hmq ?_|refine zC hcon0 ?_|refine zN ?_|(refine Req.mk ?_ ?_;(focus first|rfl|decide|exact ⟨rfl,rfl⟩|exact ⟨rfl,by decide⟩|exact (fun _=>rfl)|exact (fun h=>nomatch h)|(simp;done)|omega|(simp [big];done)|exact le_big (by omega)|exact lt_big (by omega))))
   refine LoopP.by (fun i:Nat=>i≤0) (fun i=>[(11,quV a ([]:List (Int × Int))),(64,.int .i64 (i:Nat))]) (fun i=>bfB ([]:List (Int × Int))::quB a ([]:List (Int × Int))) (fun i=>0) 0 (Nat.zero_le _) rfl ?_
   rintro i hi
   obtain rfl:i=0:=by omega
   repeat' ((conv=>whnf);first|refine Br.f ?_|refine zB ?_)
   all_goals first|(exfalso;omega)|exact NextP.mk ⟨m,p+1,_⟩ hnx (Nat.lt_succ_self _) rfl
  | cons y b =>
   have hqg:(Q00 (qu a (y::b))).length=b.length+1+1:=by simp [Q00,qu]
   simp only [List.length_nil,List.length_cons] at *
   repeat' ((conv=>whnf);first|refine Br.f ?_|refine zT ?_|refine Get.mk _ hcell0 ?_|refine Req.mk hqg ?_|refine Get.mk _ hmq ?_|refine zC hcon0 ?_|refine zN ?_|refine Get.mk _ rfl ?_|(refine Req.mk ?_ ?_;(focus first|rfl|decide|exact ⟨rfl,rfl⟩|exact ⟨rfl,by decide⟩|exact (fun _=>rfl)|exact (fun h=>nomatch h)|(simp;done)|omega|(simp [big];done)|exact le_big (by omega)|exact lt_big (by omega))))
   refine LoopP.by (fun i:Nat=>i≤0) (fun i=>[(11,quV a (y::b)),(64,.int .i64 (i:Nat))]) (fun i=>bfB (y::b)::quB a (y::b)) (fun i=>0) 0 (Nat.zero_le _) rfl ?_
   rintro i hi
   obtain rfl:i=0:=by omega
   repeat' ((conv=>whnf);first|refine Br.f ?_|refine zB ?_)
   all_goals first|(exfalso;omega)|exact NextP.mk ⟨m,p+1,_⟩ hnx (Nat.lt_succ_self _) rfl
end Go.Dr.T6
