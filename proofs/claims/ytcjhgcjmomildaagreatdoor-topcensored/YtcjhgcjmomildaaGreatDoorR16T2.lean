/- Chapter 06: Whole, walked. -/
import Derived.Test.YtcjhgcjmomildaaGreatDoorG18
namespace Go.Dr.T
def pM (D:List PE) (o:Int):List Int:=match D.find? (fun e=>decide (e.k=o)) with
 | some e=>e.L
 | none=>[]
def freeB (D:List PE) (R:List Int) (k:Int):Bool:=hasB k R && R.all fun o => !hasB k (pM D o)
def wgo (D:List PE):Nat→List Int→List Int→Option (List Int)
 | 0,R,all=>if R=[] then some all else none
 | n+1,R,all=>if R=[] then some all else match (isort (D.map (·.k))).find? (freeB D R) with
  | none=>none
  | some k=>wgo D n (R.erase k) (all++[k])
def onlyN (w:Int→Int→Option (List Int)) (A:List Int) (n:Nat):Bool:=(List.range n).all fun i=>decide (i=0) || (w (kAt A (i - 1)) (kAt A i)).isSome
theorem hasB_perm {a b:List Int} (h:a.Perm b) (k:Int):hasB k a=hasB k b:=by
 simp only [hasB];rw [decide_eq_decide];exact h.mem_iff
theorem freeB_perm {D:List PE} {R R' : List Int} (h:R.Perm R'):freeB D R=freeB D R' := by
 funext k
 rw [freeB,freeB,hasB_perm h,h.all_eq]
theorem wgo_perm {D:List PE}:∀ {n:Nat} {R R' all:List Int},R.Perm R' → wgo D n R all=wgo D n R' all
 | 0,R,R', all,h=>by
  unfold wgo
  have:R=[] ↔ R' = []:=by rw [← List.length_eq_zero_iff,h.length_eq,List.length_eq_zero_iff]
  simp only [this]
 | n+1,R,R', all,h=>by
  unfold wgo
  have:R=[] ↔ R' = []:=by rw [← List.length_eq_zero_iff,h.length_eq,List.length_eq_zero_iff]
  simp only [this,freeB_perm h]
  split
  ·rfl
  ·split
   ·rfl
   ·exact wgo_perm (h.erase _)
theorem wgo_step {D:List PE} {n:Nat} {R all A:List Int} (h:wgo D n R all=some A) (hR:R≠[]):∃ m k,n=m+1∧(isort (D.map (·.k))).find? (freeB D R)=some k∧wgo D m (R.erase k) (all++[k])=some A:=by
 cases n with
 | zero=>unfold wgo at h;rw [if_neg hR] at h;cases h
 | succ m =>
  unfold wgo at h
  rw [if_neg hR] at h
  split at h
  ·cases h
  ·rename_i k hk
   exact ⟨m,k,rfl,hk,h⟩
theorem wgo_nil {D:List PE} {n:Nat} {all A:List Int} (h:wgo D n [] all=some A):all=A:=by
 cases n <;> simpa [wgo] using h
theorem pe_find {D:List PE} (nd:(D.map (·.k)).Nodup) {o:Int} (h:o∈D.map (·.k)):∃ i e,e∈D∧mfind 0 (.int .i64 o) (ofInts (D.map (·.k))) 0=some (some i)∧tg (D.map PE.v) i=e.v∧pM D o=e.L:=by
 obtain ⟨j,h1,h2,h3⟩:=mfind_mem (i:=0) h
 rw [Nat.zero_add] at h3
 have h1' : j<D.length:=by simpa using h1
 have hk:D[j].k=o:=by simpa [List.getElem?_eq_getElem h1'] using h2
 refine ⟨j,D[j],List.getElem_mem _,h3,tg_eq (by simp [h1']),?_⟩
 unfold pM
 have:D.find? (fun e=>decide (e.k=o))=some D[j]:=by
  have hs:(D.find? (fun e=>decide (e.k=o))).isSome:=by
   rw [List.find?_isSome];exact ⟨D[j],List.getElem_mem _,by simp [hk]⟩
  obtain ⟨e,he⟩:=Option.isSome_iff_exists.1 hs
  have hp:=List.find?_some he
  simp only [decide_eq_true_eq] at hp
  obtain ⟨i,hi⟩:=List.getElem?_of_mem (List.mem_of_find?_eq_some he)
  have hij:i=j:=by
   refine (List.getElem?_inj (l:=D.map (·.k)) (i:=i) (j:=j) ?_ nd).1 ?_
   ·simpa using (List.getElem?_eq_some_iff.1 hi).1
   ·rw [List.getElem?_map,List.getElem?_map,hi,List.getElem?_eq_getElem h1', Option.map_some,Option.map_some,hp,hk]
  subst hij
  rw [he, ← hi,List.getElem?_eq_getElem h1']
 rw [this]
def trues (n:Nat):List V:=List.replicate n (.bool true)
theorem trues_snoc (n:Nat):trues n++[.bool true]=trues (n+1):=by simp [trues,List.replicate_succ']
theorem trues_erase {n i:Nat} (h:i<n):(trues n).eraseIdx i=trues (n - 1):=by
 simp [trues,List.eraseIdx_replicate,h]
theorem trues_tg {n i:Nat} (h:i<n):tg (trues n) i = .bool true:=tg_eq (by simp [trues,h])
theorem blos_ints (n:Nat):∀ l:List Int,blos n (ofInts l)=true
 | []=>rfl
 | _ :: l=>by have:=blos_ints n l;simp only [ofInts,List.map_cons,blos,V.blo,Bool.true_and] at this ⊢; exact this
theorem blos_trus (n:Nat):∀ k,blos n (trues k)=true
 | 0=>rfl
 | k+1=>by have:=blos_trus n k;simp only [trues,List.replicate_succ,blos,V.blo,Bool.true_and] at this ⊢; exact this
def mqL (st:List Nat) (n:Nat) (L:List Int):B:=.mq st n (ofInts L) (trues L.length)
theorem mqL_blo (n:Nat) (st:List Nat) (m:Nat) (L:List Int):(mqL st m L).blo n=true:=by simp only [mqL,B.blo,blos_ints,blos_trus,Bool.and_self]
def wB (n:Nat) (sn:List Nat):List Int→List B
 | []=>[]
 | x :: l=>[.it 0 n n sn,.blk (ofInts (x :: l)) true]
theorem norm_stop {m:List Bool} {hl:Nat} {st:St} {tm:List V} {h1 h2:List B} (e1:masked m st.tm=tm) (e2:st.h.length=hl+4) (a:st.h.take (hl+3)=h1) (b:h1.take (hl+2)=h2) (c3:blos (hl+3) tm=true) (d3:hbelow (hl+3) h1=true) (c2:blos (hl+2) tm=true) (d2:hbelow (hl+2) h2=true) (c1:blos (hl+1) tm=false):norm m hl st=⟨tm,h2⟩:=by
 unfold norm trunc
 rw [e1,e2,Nat.add_sub_cancel_left]
 unfold strip
 simp only [a,c3,d3,Bool.and_self,if_true]
 unfold strip
 simp only [b,c2,d2,Bool.and_self,if_true]
 unfold strip
 simp only [c1,Bool.false_and]
 rfl
theorem norm_two {m:List Bool} {hl:Nat} {st:St} {tm:List V} {h1 h:List B} (e1:masked m st.tm=tm) (e2:st.h.length=hl+2) (e5:st.h.take (hl+1)=h1) (e6:h1.take hl=h) (e3:blos hl tm=true) (e7:blos (hl+1) tm=true) (e8:hbelow (hl+1) h1=true) (e4:hbelow hl h=true):norm m hl st=⟨tm,h⟩:=by
 unfold norm trunc
 rw [e1,e2,Nat.add_sub_cancel_left]
 unfold strip
 simp only [e5,e7,e8,Bool.and_self,if_true]
 unfold strip
 simp only [Nat.add_zero,e6,e3,e4,Bool.and_self,if_true,strip]
theorem norm_one' {m:List Bool} {hl:Nat} {st:St} {tm:List V} {h:List B} (h1:masked m st.tm=tm) (h2:st.h.length=hl+1) (h5:st.h.take hl=h) (h3:blos hl tm=true) (h4:hbelow hl h=true):norm m hl st=⟨tm,h⟩:=by
 unfold norm trunc
 rw [h1,h2,Nat.add_sub_cancel_left]
 unfold strip
 simp only [Nat.add_zero,h5,h3,h4,Bool.and_self,if_true,strip]
theorem eraseIdx_erase {L:List Int} (nd:L.Nodup) {i:Nat} {k:Int} (h:L[i]?=some k):L.eraseIdx i=L.erase k:=by
 induction L generalizing i with
 | nil=>simp at h
 | cons x l ih =>
  cases i with
  | zero=>simp at h;subst h;simp
  | succ i =>
   obtain ⟨h1,h2⟩:=List.nodup_cons.1 nd
   have hi:l[i]?=some k:=by simpa using h
   have hne:x≠k:=fun e=>h1 (e ▸ List.mem_of_getElem? hi)
   rw [List.eraseIdx_cons_succ,ih h2 hi,List.erase_cons_tail (by simpa using hne)]
theorem fVg {l l' : List V} {K:List V→Prop} (e:l=l') (h:K l'):fV l K:=fV.mk (e ▸ h)
structure WS where
 L:List Int
 st:List Nat
 all:List Int
 it:List Nat
structure WOk (D:List PE) (A:List Int) (n:Nat) (a:WS):Prop where
 nd:a.L.Nodup
 sd:a.st.Nodup
 sl:a.st.length=a.L.length
 sb:∀ s∈a.st,s<n
 km:∀ k∈a.L,k∈D.map (·.k)
 go:∃ f,wgo D f a.L a.all=some A
 bd:a.all.length+a.L.length≤n
theorem WOk.next {D:List PE} {A:List Int} {n f i:Nat} {k:Int} {L all:List Int} {st it it' : List Nat} (o:WOk D A n ⟨L,st,all,it⟩) (hf:wgo D f (L.erase k) (all++[k])=some A) (hi:L[i]?=some k):WOk D A n ⟨L.eraseIdx i,st.eraseIdx i,all++[k],it'⟩:=by
 obtain ⟨o1,o2,o3,o4,o5,_,o7⟩:=o
 dsimp only at o1 o2 o3 o4 o5 o7
 have hil:=(List.getElem?_eq_some_iff.1 hi).1
 refine ⟨o1.sublist (List.eraseIdx_sublist _ _),o2.sublist (List.eraseIdx_sublist _ _),?_,fun s hs=>o4 s ((List.eraseIdx_sublist _ _).mem hs),fun k hk=>o5 k ((List.eraseIdx_sublist _ _).mem hk),⟨f,?_⟩,?_⟩
 ·dsimp only;rw [List.length_eraseIdx,List.length_eraseIdx,o3]
 ·dsimp only;rw [eraseIdx_erase o1 hi];exact hf
 ·dsimp only;rw [List.length_eraseIdx,if_pos hil,List.length_append];simp;omega
theorem cur_mq {L:List Int} {st:List Nat} {n:Nat} {sn:List Nat} {s j:Nat} {o:Int} (sd:st.Nodup) (hs:st[j]?=some s) (ho:L[j]?=some o) (hl:st.length=L.length):mcur 0 [.it 0 n n (sn++[s]),mqL st n L]=some (.tup [.int .i64 o,.bool true],none):=by
 obtain ⟨hj,he⟩:=List.getElem?_eq_some_iff.1 hs
 have hid:st.idxOf s=j:=by rw [← he];exact sd.idxOf_getElem _ _
 simp only [mcur,if_true,lastO_snoc,mqL,B.ents,hid,hj,decide_true,Bool.and_self]
 rw [tg_eq (l:=ofInts L) (v:=.int .i64 o) (by simp [ofInts,ho]),trues_tg (by omega)]
theorem find_at {S:List Int} {p:Int→Bool} {j:Nat} {k:Int} (hk:S[j]?=some k) (hp:p k=true) (hb:∀ x∈S.take j,p x=false):S.find? p=some k:=by
 obtain ⟨hj,he⟩:=List.getElem?_eq_some_iff.1 hk
 rw [List.find?_eq_some_iff_append]
 refine ⟨hp,S.take j,S.drop (j+1),?_,fun a ha=>by rw [hb a ha];rfl⟩
 rw [← he, ← List.drop_eq_getElem_cons hj,List.take_append_drop]
theorem onlyN_succ (w:Int→Int→Option (List Int)) (A:List Int) (i:Nat):onlyN w A (i+1)=(onlyN w A i && (decide (i=0) || (w (kAt A (i - 1)) (kAt A i)).isSome)):=by
 simp [onlyN,List.range_succ,List.all_append]
theorem pe_sl (e:PE):∃ c,e.v = .sl c (isort e.L).length (ofInts (isort e.L)):=by
 unfold PE.v
 cases isort e.L <;> exact ⟨_,rfl⟩
theorem ints_erase (L:List Int) (i:Nat):(ofInts L).eraseIdx i=ofInts (L.eraseIdx i):=by
 simp only [ofInts]
 apply List.ext_getElem?
 intro n
 simp only [List.getElem?_eraseIdx,List.getElem?_map]
 split <;> rfl
theorem hb2 {m n:Nat} {st seen:List Nat} {L:List Int} {ks vs:List V}:hbelow m [mqL st n L,.ir ks vs seen]=true:=by
 simp only [hbelow];rw [mqL_blo];simp [B.blo]
theorem hb4 {m n:Nat} {st seen sn:List Nat} {L:List Int} {ks vs c:List V}:hbelow (m+1) [mqL st n L,.ir ks vs seen,.it 0 n n sn,.blk c true]=true:=by
 simp only [hbelow];rw [mqL_blo];simp [B.blo]
theorem hb5 {m n:Nat} {st seen sn sn2:List Nat} {L:List Int} {ks vs c:List V}:hbelow (m+1) [mqL st n L,.ir ks vs seen,.it 0 n n sn,.blk c true,.it 0 n n sn2]=true:=by
 simp only [hbelow];rw [mqL_blo];simp [B.blo]
set_option maxRecDepth 100000 in
set_option maxHeartbeats 20000000 in
theorem whole_walk {cc:Bool} {l:List El} {D:List PE} {A:List Int} {w:Int→Option (List Int)} {w2:Int→Int→Option (List Int)}
  (hg:Fun FB1 md 32 [elsV cc l] (.tup [gatV D,.int .i64 0])) (hn:D.length≤100000) (hL:∀ e∈D,e.L.length≤100000) (nd:(D.map (·.k)).Nodup)
  (hw:∀ k∈D.map (·.k),Fun FB1 md 36 [gatV D,.int .i64 k,.int .i64 k,.int .i64 k] (wayV (w k))) (hne:∀ k,w k≠some []) (hr:roundP w (isort (D.map (·.k)))=none)
  (hgo:wgo D D.length (D.map (·.k)) []=some A)
  (hw2:∀ i,0<i→i<A.length→Fun FB1 md 36 [gatV D,.int .i64 (kAt A (i - 1)),.int .i64 (kAt A i),.int .i64 0] (wayV (w2 (kAt A (i - 1)) (kAt A i))))
  (fc:Fc) (hfc:F 14=some fc):wpm FB1 md 0 fc.body ⟨[elsV cc l]++deads (fc.ntm - fc.np),[]⟩ (Leaves fc.res (.tup [lw false A,.bool (onlyN w2 A A.length),.int .i64 0])):=by
 cases hfc
 have hkl:(D.map (·.k)).length=D.length:=by simp
 have hol:(ofInts (D.map (·.k))).length=D.length:=by simp [ofInts]
 have hrc:∀ {h:List B} {ro:Nat} {K:V→List B→Prop},K .nilsl h→CallP FB1 md ro (.fn 33 []) [gatV D] h K:=fun hk=>round_call (by omega) hw hne (by rw [hr];exact hk)
 have hso:=sorted_fun (ks:=D.map (·.k)) (vs:=D.map PE.v) (by omega)
 have hcon:∀ (e:PE) (k:Int),e∈D→Fun FB1 md 35 [e.v,.int .i64 k] (.bool (hasB k e.L)):=fun e k he=>by
  have h1:=contains_lw (c:=e.c) (L:=isort e.L) (m:=k) (by rw [isort_len];have:=hL e he;omega)
  rw [hasB_perm (isort_perm _)] at h1
  exact h1.tab sub1
 refine (fV_eq (K:=fun tm=>wpm FB1 md 0 _ ⟨tm,[]⟩ _)).1 ?_
 repeat' (first
 | (conv=>whnf)
   first
   | refine Br.f ?_
   | refine call_fun rfl rfl hg (.inl rfl) ?_
   | refine hrc ?_
   | refine Get.mk _ rfl ?_)
 -- all marks are left
 refine LoopP.by (fun seen:List Nat=>seen.Nodup∧∀ s∈seen,s<(D.map (·.k)).length) (fun _=>[]) (fun seen=>[mqB (sKeys (D.map (·.k)) seen),.ir (ofInts (D.map (·.k))) (D.map PE.v) seen]) (fun seen=>(D.map (·.k)).length - seen.length) [] ⟨.nil,by simp⟩ rfl ?_
 rintro seen ⟨h1,h2⟩
 dsimp only
 have hle:seen.length≤(D.map (·.k)).length:=nodup_le h1 h2
 have hsl:(sKeys (D.map (·.k)) seen).length=seen.length:=by simp [sKeys]
 have hnx:∀ s,s<(D.map (·.k)).length→s ∉ seen→((seen++[s]).Nodup∧∀ t∈seen++[s],t<(D.map (·.k)).length)∧(D.map (·.k)).length - (seen++[s]).length<(D.map (·.k)).length - seen.length:=fun s hs hn=>by
  have hd:(seen++[s]).Nodup:=by
   rw [List.nodup_append]
   exact ⟨h1,by simp,fun x hx y hy=>by rw [List.mem_singleton] at hy;subst hy;rintro rfl;exact hn hx⟩
  have hb:∀ t∈seen++[s],t<(D.map (·.k)).length:=fun t ht=>by
   rcases List.mem_append.1 ht with ht | ht
   ·exact h2 t ht
   ·rw [List.mem_singleton] at ht;subst ht;exact hs
  have:=nodup_le hd hb
  refine ⟨⟨hd,hb⟩,?_⟩
  rw [List.length_append] at this ⊢
  simp at this ⊢; omega
 repeat' (first
 | (conv=>whnf)
   first
   | refine Get.mk _ rfl ?_)
 refine NextR.mk (fun hall => ?_) (fun s hs hn => ?_)
 rotate_left
 ·rw [hol, ← hkl] at hs
  have hc:=cur1_of (vs:=D.map PE.v) (seen:=seen) hs
  have hnk:kAt (D.map (·.k)) s ∉ sKeys (D.map (·.k)) seen:=fun hm=>by
   obtain ⟨t,ht,he⟩:=List.mem_map.1 hm
   have h3:=kAt_get (h2 t ht)
   have h4:=kAt_get hs
   have:=(List.getElem?_inj (i:=t) (j:=s) (h2 t ht) nd).1 (by rw [h3,h4,he])
   subst this;exact hn ht
  have hmf:=mfind_not (i:=0) hnk
  have k1:ofInts (sKeys (D.map (·.k)) seen)++[V.int .i64 (kAt (D.map (·.k)) s)]=ofInts (sKeys (D.map (·.k)) (seen++[s])):=by rw [sKeys_snoc];simp [ofInts]
  have k2:List.replicate (sKeys (D.map (·.k)) seen).length (V.bool true)++[V.bool true]=List.replicate ((sKeys (D.map (·.k)) seen).length+1) (.bool true):=(List.replicate_succ' ..).symm
  repeat' (first
 | (conv=>whnf)
   first
   | refine Br.t ?_
   | refine Get.mk _ hc ?_
   | refine Get.mk _ hmf ?_
   | refine fVg k1 ?_
   | refine fVg k2 ?_
   | refine Get.mk _ rfl ?_)
  refine NextP.mk (seen++[s]) (hnx s hs hn).1 (hnx s hs hn).2 ?_
  rw [sKeys_snoc,mqB_snoc, ← sKeys_snoc]
  rfl
 have hpm:=sKeys_perm h1 h2 (fun s hs=>hall s (by rw [hol, ← hkl];exact hs))
 have hsn:(sKeys (D.map (·.k)) seen).length=D.length:=by rw [hpm.length_eq,hkl]
 have hgo' : wgo D D.length (sKeys (D.map (·.k)) seen) []=some A:=by rw [wgo_perm hpm];exact hgo
 generalize sKeys (D.map (·.k)) seen=K0 at *
 repeat' (first
 | (conv=>whnf)
   first
   | refine Br.f ?_
   | refine Get.mk _ rfl ?_)
 refine LoopP.by (WOk D A K0.length) (fun a=>[(2,lv 2 false a.all)]) (fun a=>[mqL a.st K0.length a.L,.ir (ofInts (D.map (·.k))) (D.map PE.v) seen]++wB K0.length a.it a.all) (fun a=>a.L.length) ⟨K0,List.range K0.length,[],[]⟩ ⟨hpm.nodup_iff.2 nd,List.nodup_range,by simp,fun s hs=>List.mem_range.1 hs,fun k hk=>hpm.mem_iff.1 hk,⟨_,hgo'⟩,by simp⟩ rfl ?_
 rintro ⟨L,st,all,it⟩ o
 have o' := o
 obtain ⟨o1,o2,o3,o4,o5,⟨f,o6⟩,o7⟩:=o
 dsimp only at o1 o2 o3 o4 o5 o6 o7 ⊢
 by_cases hL0:L=[]
 ·subst hL0
  have:=wgo_nil o6
  subst this
  cases all with
  | nil =>
   repeat' (first
 | (conv=>whnf)
   first
   | refine Br.f ?_
   | refine Get.mk _ rfl ?_)
   refine LoopP.by (fun i:Nat=>i≤0) (fun i=>[(3,.bool true),(70,.int .i64 (i:Nat))]) (fun _=>[mqL st K0.length [],.ir (ofInts (D.map (·.k))) (D.map PE.v) seen]) (fun i=>0) 0 (Nat.zero_le _) rfl ?_
   rintro i hi
   obtain rfl:i=0:=by omega
   repeat' (first
 | (conv=>whnf)
   first
   | refine Br.f ?_
   | refine Get.mk _ rfl ?_
   | refine Leaves.of ?_
   | refine Vw.bool ?_
   | refine Vw.int ?_
   | refine Vw.nil
   | refine Vw.tup ?_
   | refine VwL.cons ?_ ?_
   | refine VwL.nil)
   all_goals first | rfl | (exfalso;omega)
  | cons x r =>
   repeat' (first
 | (conv=>whnf)
   first
   | refine Br.f ?_
   | refine Get.mk _ rfl ?_)
   refine LoopP.by (fun i:Nat=>i≤r.length+1) (fun i=>[(3,.bool (onlyN w2 (x :: r) i)),(70,.int .i64 (i:Nat))]) (fun _=>[mqL st K0.length [],.ir (ofInts (D.map (·.k))) (D.map PE.v) seen,.it 0 K0.length K0.length it,.blk (ofInts (x :: r)) true]) (fun i=>r.length+1 - i) 0 (Nat.zero_le _) rfl ?_
   rintro i hi
   dsimp only
   have hox:(ofInts (x :: r)).length=r.length+1:=by simp [ofInts]
   by_cases hi' : i<r.length+1
   rotate_left
   ·obtain rfl:i=r.length+1:=by omega
    have hvw:∀ h,bget h 3=some (.blk (ofInts (x :: r)) true)→Vw h depth (.tup [.ms 1 3 (r.length+1) 0 (r.length+1) false,.bool (onlyN w2 (x :: r) (r.length+1)),.int .i64 0]) (.tup [lw false (x :: r),.bool (onlyN w2 (x :: r) (x :: r).length),.int .i64 0]):=fun h hb =>
     Vw.tup (d:=63) (VwL.cons ⟨view_lv (d:=61) (id:=2) (c:=false) (L:=x :: r) (fun _=>hb)⟩ (VwL.cons (Vw.bool rfl) (VwL.cons (Vw.int rfl) VwL.nil)))
    repeat' (first
 | (conv=>whnf)
   first
   | refine hvw _ rfl
   | (refine Br.decF ?_ ?_;(focus first | assumption | omega))
   | refine Get.mk _ rfl ?_
   | refine Leaves.of ?_)
    all_goals first | rfl | (exfalso;omega)
   have hsu:=onlyN_succ w2 (x :: r) i
   by_cases hi0:i=0
   ·subst hi0
    repeat' (first
 | (conv=>whnf)
   first
   | refine Br.f ?_
   | (refine Br.decT ?_ ?_;(focus first | assumption | omega))
   | (refine Bnd.i64 ?_ ?_ ?_;(focus omega);(focus omega)))
    all_goals try (exfalso;omega)
    exact NextP.mk 1 (by omega) (by omega) (norm_same rfl)
   have hwc:=hw2 i (by omega) (by simpa using hi')
   obtain ⟨p,rfl⟩:∃ p,i=p+1:=⟨i - 1,by omega⟩
   have hrl:r.length+1≤100000:=by simp at o7;omega
   have hcel:∀ q,q<r.length+1→cellAt (ofInts (x :: r)) (0+q * 1)=some (.int .i64 (kAt (x :: r) q)):=fun q hq=>by
    obtain ⟨y,h1,h2⟩:=ofInts_cell (l:=x :: r) (i:=q) (by simpa using hq)
    rw [kAt_get (by simpa using hq)] at h1
    cases h1;rw [Nat.zero_add];exact h2
   have hc1:=hcel p (by omega)
   have hc2:=hcel (p+1) hi'
   have hbp:IntKind.i64.wrap (((p+1:Nat):Int) - 1)=(p:Nat):=by rw [wrap_i64 (by omega) (by omega)];omega
   rw [Nat.add_sub_cancel] at hwc hsu
   have hd0:decide (p+1=0)=false:=rfl
   rw [hd0,Bool.false_or] at hsu
   generalize hww:w2 (kAt (x :: r) p) (kAt (x :: r) (p+1))=ww at *
   generalize hon:onlyN w2 (x :: r) (p+1)=on at *
   cases ww
   all_goals cases on
   all_goals
    repeat' (first
 | (conv=>whnf)
   first
   | refine Bnd.eq hbp ?_
   | refine Br.t ?_
   | refine Br.f ?_
   | (refine Br.decT ?_ ?_;(focus first | assumption | omega))
   | (refine Bnd.i64 ?_ ?_ ?_;(focus omega);(focus omega))
   | refine Get.mk _ hc1 ?_
   | refine Get.mk _ hc2 ?_
   | refine call_fun rfl rfl hwc (.inl rfl) ?_
   | (refine Idx.nat ?_ ?_;(focus omega))
   | refine Get.mk _ rfl ?_
   | (refine Req.mk ?_ ?_;(focus first | rfl | decide | exact ⟨rfl,rfl⟩ | exact ⟨rfl,by decide⟩ | exact (fun _=>rfl) | exact (fun h=>nomatch h) | (simp;done) | omega | (simp [big];done) | exact le_big (by omega) | exact lt_big (by omega))))
   all_goals try (exfalso;omega)
   all_goals refine NextP.mk (p+1+1) (by omega) (by omega) ?_
   all_goals rw [hsu]
   all_goals exact norm_same rfl
 obtain ⟨f', k0,rfl,hfind,hgo2⟩:=wgo_step o6 hL0
 have hofl:(ofInts L).length=L.length:=by simp [ofInts]
 have hLp:0<L.length:=List.length_pos_iff.2 hL0
 have hmemS:∀ k∈isort (D.map (·.k)),k∈D.map (·.k):=fun k hk=>(isort_perm _).mem_iff.1 hk
 have hSl:(isort (D.map (·.k))).length=D.length:=by rw [isort_len,hkl]
 generalize isort (D.map (·.k))=S at *
 obtain ⟨cS,hcS⟩:=lw_sl S
 rw [hcS] at hso
 cases all with
 | nil =>
  repeat' (first
 | (conv=>whnf)
   first
   | (refine Br.decT ?_ ?_;(focus first | assumption | omega))
   | refine call_fun rfl rfl hso (.inl rfl) ?_
   | refine Get.mk _ rfl ?_)
  refine LoopP.by (fun j:Nat=>j≤S.length∧∀ k∈S.take j,freeB D L k=false) (fun j=>[(2,lv 2 false []),(42,.int .i64 (j:Nat))]) (fun _=>[mqL st K0.length L,.ir (ofInts (D.map (·.k))) (D.map PE.v) seen]) (fun j=>S.length - j) 0 ⟨Nat.zero_le _,by simp⟩ rfl ?_
  rintro j ⟨q1,q2⟩
  dsimp only
  by_cases hj:j<S.length
  rotate_left
  ·exfalso
   obtain rfl:j=S.length:=by omega
   rw [List.take_length] at q2
   have:=q2 k0 (List.mem_of_find?_eq_some hfind)
   rw [List.find?_some hfind] at this;cases this
  obtain ⟨k,hk,hck⟩:=ofInts_cell hj
  have hnext:freeB D L k=false→j+1≤S.length∧∀ k∈S.take (j+1),freeB D L k=false:=fun hf=>⟨hj,fun x hx=>by
   rw [List.take_add_one,hk] at hx
   rcases List.mem_append.1 hx with hx | hx
   ·exact q2 x hx
   ·simp at hx;subst hx;exact hf⟩
  by_cases hkL:k∈L
  rotate_left
  ·have hmf:=mfind_not (i:=0) hkL
   have hfr:freeB D L k=false:=by unfold freeB;rw [show hasB k L=false by simp [hasB,hkL],Bool.false_and]
   repeat' (first
 | (conv=>whnf)
   first
   | refine Br.t ?_
   | (refine Br.decT ?_ ?_;(focus first | assumption | omega))
   | (refine Bnd.i64 ?_ ?_ ?_;(focus omega);(focus omega))
   | refine Get.mk _ hck ?_
   | refine Get.mk _ hmf ?_
   | (refine Idx.nat ?_ ?_;(focus omega))
   | refine Get.mk _ rfl ?_
   | (refine Req.mk ?_ ?_;(focus first | rfl | decide | exact ⟨rfl,rfl⟩ | exact ⟨rfl,by decide⟩ | exact (fun _=>rfl) | exact (fun h=>nomatch h) | (simp;done) | omega | (simp [big];done) | exact le_big (by omega) | exact lt_big (by omega))))
   all_goals first | (exfalso;omega;done) | exact NextP.mk (j+1) (hnext hfr) (by omega) (norm_same rfl)
  obtain ⟨i,hil,hi,hmf⟩:=mfind_mem (i:=0) hkL
  rw [Nat.zero_add] at hmf
  have htt:=trues_tg hil
  repeat' (first
 | (conv=>whnf)
   first
   | refine Br.f ?_
   | (refine Br.decT ?_ ?_;(focus first | assumption | omega))
   | refine Get.mk _ hck ?_
   | (refine Get.mk _ hmf ?_;refine fWe htt ?_)
   | (refine Idx.nat ?_ ?_;(focus omega))
   | refine Get.mk _ rfl ?_
   | (refine Req.mk ?_ ?_;(focus first | rfl | decide | exact ⟨rfl,rfl⟩ | exact ⟨rfl,by decide⟩ | exact (fun _=>rfl) | exact (fun h=>nomatch h) | (simp;done) | omega | (simp [big];done) | exact le_big (by omega) | exact lt_big (by omega))))
  all_goals try (exfalso;omega)
  refine LoopP.by (fun sn:List Nat=>sn.Nodup∧(∀ s∈sn,s∈st)∧∀ (a:Nat) (s:Nat) (o:Int),st[a]?=some s→s∈sn→L[a]?=some o→hasB k (pM D o)=false) (fun _=>[]) (fun sn=>[mqL st K0.length L,.ir (ofInts (D.map (·.k))) (D.map PE.v) seen]++[.it 0 K0.length K0.length sn]) (fun sn=>K0.length - sn.length) [] ⟨.nil,by simp,by simp⟩ rfl ?_
  rintro sn ⟨z1,z2,z3⟩
  dsimp only
  have hst:(∀ s∈st,s<K0.length)∧K0.length≤K0.length:=⟨o4,Nat.le_refl _⟩
  repeat' (first
 | (conv=>whnf)
   first
   | refine Req.mk hst ?_
   | refine Get.mk _ rfl ?_
   | (refine Req.mk ?_ ?_;(focus first | rfl | decide | exact ⟨rfl,rfl⟩ | exact ⟨rfl,by decide⟩ | exact (fun _=>rfl) | exact (fun h=>nomatch h) | (simp;done) | omega | (simp [big];done) | exact le_big (by omega) | exact lt_big (by omega))))
  refine NextQ.mk (fun hall => ?_) (fun a s ha hns => ?_)
  all_goals (try dsimp only at hall)
  all_goals (try dsimp only at ha hns)
  rotate_left
  ·obtain ⟨o,ho⟩:∃ o,L[a]?=some o:=⟨_,List.getElem?_eq_getElem (by have:=(List.getElem?_eq_some_iff.1 ha).1;omega)⟩
   have hcur:=cur_mq (n:=K0.length) (sn:=sn) o2 ha ho o3
   obtain ⟨i2,e,he,hf2,htg2,hpm2⟩:=pe_find nd (o5 o (List.mem_of_getElem? ho))
   have hce:=hcon e k he
   rw [← hpm2] at hce
   obtain ⟨cv,hcv⟩:=pe_sl e
   rw [hcv] at htg2 hce
   have hnd:(sn++[s]).Nodup:=by
    rw [List.nodup_append]
    exact ⟨z1,by simp,fun x hx y hy=>by rw [List.mem_singleton] at hy;subst hy;rintro rfl;exact hns hx⟩
   have hsb:∀ t∈sn++[s],t∈st:=fun t ht=>by
    rcases List.mem_append.1 ht with ht | ht
    ·exact z2 t ht
    ·rw [List.mem_singleton] at ht;subst ht;exact List.mem_of_getElem? ha
   have hlen:=nodup_le hnd (fun t ht=>o4 t (hsb t ht))
   rw [List.length_append] at hlen
   simp only [List.length_cons,List.length_nil] at hlen
   cases hb:hasB k (pM D o) <;> rw [hb] at hce
   ·repeat' (first
 | (conv=>whnf)
   first
   | refine Br.t ?_
   | refine Br.f ?_
   | refine Get.mk _ hcur ?_
   | (refine Get.mk _ hf2 ?_;refine fWe htg2 ?_)
   | refine call_fun rfl rfl hce (.inl rfl) ?_
   | refine Get.mk _ rfl ?_)
    all_goals try (exfalso;omega)
    refine NextP.mk (sn++[s]) ⟨hnd,hsb,fun a' s' o' h1 h2 h3 => ?_⟩ (by rw [List.length_append];simp only [List.length_cons,List.length_nil];omega) (norm_same rfl)
    rcases List.mem_append.1 h2 with h2 | h2
    ·exact z3 a' s' o' h1 h2 h3
    ·rw [List.mem_singleton] at h2;subst h2
     have:=(List.getElem?_inj (i:=a') (j:=a) (List.getElem?_eq_some_iff.1 h1).1 o2).1 (by rw [h1,ha])
     subst this
     rw [ho] at h3;cases h3;exact hb
   ·have hfr:freeB D L k=false:=by
     unfold freeB
     rw [Bool.and_eq_false_iff];right
     rw [List.all_eq_false]
     exact ⟨o,List.mem_of_getElem? ho,by simp [hb]⟩
    repeat' (first
 | (conv=>whnf)
   first
   | refine Br.t ?_
   | (refine Bnd.i64 ?_ ?_ ?_;(focus omega);(focus omega))
   | refine Get.mk _ hcur ?_
   | (refine Get.mk _ hf2 ?_;refine fWe htg2 ?_)
   | refine call_fun rfl rfl hce (.inl rfl) ?_
   | refine Get.mk _ rfl ?_)
    all_goals try (exfalso;omega)
    refine NextP.mk (j+1) (hnext hfr) (by omega) (norm_one' rfl rfl rfl rfl hb2)
  have hfr:freeB D L k=true:=by
   unfold freeB
   rw [Bool.and_eq_true,List.all_eq_true]
   refine ⟨by simp [hasB,hkL],fun o ho => ?_⟩
   obtain ⟨a,ha⟩:=List.getElem?_of_mem ho
   obtain ⟨s,hs⟩:∃ s,st[a]?=some s:=⟨_,List.getElem?_eq_getElem (by have:=(List.getElem?_eq_some_iff.1 ha).1;omega)⟩
   rw [z3 a s o hs (hall s (List.mem_of_getElem? hs)) ha];rfl
  have hkk:=find_at hk hfr q2
  rw [hfind] at hkk
  simp only [Option.some.injEq] at hkk
  subst hkk
  have ke1:=ints_erase L i
  have hel:(L.eraseIdx i).length=L.length - 1:=by rw [List.length_eraseIdx,if_pos hil]
  have ke2:(trues L.length).eraseIdx i=trues (L.eraseIdx i).length:=by rw [trues_erase hil,hel]
  have hnx:=o'.next (it' := sn) hgo2 hi
  repeat' (first
 | (conv=>whnf)
   first
   | refine Br.f ?_
   | refine Get.mk _ hmf ?_
   | refine fVg ke1 ?_
   | refine fVg ke2 ?_
   | (refine Ifz.pos ?_ ?_;(focus omega))
   | refine Get.mk _ rfl ?_
   | (refine Req.mk ?_ ?_;(focus first | rfl | decide | exact ⟨rfl,rfl⟩ | exact ⟨rfl,by decide⟩ | exact (fun _=>rfl) | exact (fun h=>nomatch h) | (simp;done) | omega | (simp [big];done) | exact le_big (by omega) | exact lt_big (by omega))))
  all_goals try (exfalso;omega)
  refine NextP.mk ⟨L.eraseIdx i,st.eraseIdx i,[]++[k0],sn⟩ hnx (by dsimp only;omega) ?_
  rfl
 | cons x r =>
  have hox:(ofInts (x :: r)).length=r.length+1:=by simp [ofInts]
  simp only [List.length_cons] at o7
  repeat' (first
 | (conv=>whnf)
   first
   | (refine Br.decT ?_ ?_;(focus first | assumption | omega))
   | refine call_fun rfl rfl hso (.inl rfl) ?_
   | refine Get.mk _ rfl ?_)
  refine LoopP.by (fun j:Nat=>j≤S.length∧∀ k∈S.take j,freeB D L k=false) (fun j=>[(2,lv 2 false (x :: r)),(42,.int .i64 (j:Nat))]) (fun _=>[mqL st K0.length L,.ir (ofInts (D.map (·.k))) (D.map PE.v) seen,.it 0 K0.length K0.length it,.blk (ofInts (x :: r)) true]) (fun j=>S.length - j) 0 ⟨Nat.zero_le _,by simp⟩ rfl ?_
  rintro j ⟨q1,q2⟩
  dsimp only
  by_cases hj:j<S.length
  rotate_left
  ·exfalso
   obtain rfl:j=S.length:=by omega
   rw [List.take_length] at q2
   have:=q2 k0 (List.mem_of_find?_eq_some hfind)
   rw [List.find?_some hfind] at this;cases this
  obtain ⟨k,hk,hck⟩:=ofInts_cell hj
  have hnext:freeB D L k=false→j+1≤S.length∧∀ k∈S.take (j+1),freeB D L k=false:=fun hf=>⟨hj,fun x hx=>by
   rw [List.take_add_one,hk] at hx
   rcases List.mem_append.1 hx with hx | hx
   ·exact q2 x hx
   ·simp at hx;subst hx;exact hf⟩
  by_cases hkL:k∈L
  rotate_left
  ·have hmf:=mfind_not (i:=0) hkL
   have hfr:freeB D L k=false:=by unfold freeB;rw [show hasB k L=false by simp [hasB,hkL],Bool.false_and]
   repeat' (first
 | (conv=>whnf)
   first
   | refine Br.t ?_
   | (refine Br.decT ?_ ?_;(focus first | assumption | omega))
   | (refine Bnd.i64 ?_ ?_ ?_;(focus omega);(focus omega))
   | refine Get.mk _ hck ?_
   | refine Get.mk _ hmf ?_
   | (refine Idx.nat ?_ ?_;(focus omega))
   | refine Get.mk _ rfl ?_
   | (refine Req.mk ?_ ?_;(focus first | rfl | decide | exact ⟨rfl,rfl⟩ | exact ⟨rfl,by decide⟩ | exact (fun _=>rfl) | exact (fun h=>nomatch h) | (simp;done) | omega | (simp [big];done) | exact le_big (by omega) | exact lt_big (by omega))))
   all_goals first | (exfalso;omega;done) | exact NextP.mk (j+1) (hnext hfr) (by omega) (norm_same rfl)
  obtain ⟨i,hil,hi,hmf⟩:=mfind_mem (i:=0) hkL
  rw [Nat.zero_add] at hmf
  have htt:=trues_tg hil
  repeat' (first
 | (conv=>whnf)
   first
   | refine Br.f ?_
   | (refine Br.decT ?_ ?_;(focus first | assumption | omega))
   | refine Get.mk _ hck ?_
   | (refine Get.mk _ hmf ?_;refine fWe htt ?_)
   | (refine Idx.nat ?_ ?_;(focus omega))
   | refine Get.mk _ rfl ?_
   | (refine Req.mk ?_ ?_;(focus first | rfl | decide | exact ⟨rfl,rfl⟩ | exact ⟨rfl,by decide⟩ | exact (fun _=>rfl) | exact (fun h=>nomatch h) | (simp;done) | omega | (simp [big];done) | exact le_big (by omega) | exact lt_big (by omega))))
  all_goals try (exfalso;omega)
  refine LoopP.by (fun sn:List Nat=>sn.Nodup∧(∀ s∈sn,s∈st)∧∀ (a:Nat) (s:Nat) (o:Int),st[a]?=some s→s∈sn→L[a]?=some o→hasB k (pM D o)=false) (fun _=>[]) (fun sn=>[mqL st K0.length L,.ir (ofInts (D.map (·.k))) (D.map PE.v) seen,.it 0 K0.length K0.length it,.blk (ofInts (x :: r)) true]++[.it 0 K0.length K0.length sn]) (fun sn=>K0.length - sn.length) [] ⟨.nil,by simp,by simp⟩ rfl ?_
  rintro sn ⟨z1,z2,z3⟩
  dsimp only
  have hst:(∀ s∈st,s<K0.length)∧K0.length≤K0.length:=⟨o4,Nat.le_refl _⟩
  repeat' (first
 | (conv=>whnf)
   first
   | refine Req.mk hst ?_
   | refine Get.mk _ rfl ?_
   | (refine Req.mk ?_ ?_;(focus first | rfl | decide | exact ⟨rfl,rfl⟩ | exact ⟨rfl,by decide⟩ | exact (fun _=>rfl) | exact (fun h=>nomatch h) | (simp;done) | omega | (simp [big];done) | exact le_big (by omega) | exact lt_big (by omega))))
  refine NextQ.mk (fun hall => ?_) (fun a s ha hns => ?_)
  all_goals (try dsimp only at hall)
  all_goals (try dsimp only at ha hns)
  rotate_left
  ·obtain ⟨o,ho⟩:∃ o,L[a]?=some o:=⟨_,List.getElem?_eq_getElem (by have:=(List.getElem?_eq_some_iff.1 ha).1;omega)⟩
   have hcur:=cur_mq (n:=K0.length) (sn:=sn) o2 ha ho o3
   obtain ⟨i2,e,he,hf2,htg2,hpm2⟩:=pe_find nd (o5 o (List.mem_of_getElem? ho))
   have hce:=hcon e k he
   rw [← hpm2] at hce
   obtain ⟨cv,hcv⟩:=pe_sl e
   rw [hcv] at htg2 hce
   have hnd:(sn++[s]).Nodup:=by
    rw [List.nodup_append]
    exact ⟨z1,by simp,fun x hx y hy=>by rw [List.mem_singleton] at hy;subst hy;rintro rfl;exact hns hx⟩
   have hsb:∀ t∈sn++[s],t∈st:=fun t ht=>by
    rcases List.mem_append.1 ht with ht | ht
    ·exact z2 t ht
    ·rw [List.mem_singleton] at ht;subst ht;exact List.mem_of_getElem? ha
   have hlen:=nodup_le hnd (fun t ht=>o4 t (hsb t ht))
   rw [List.length_append] at hlen
   simp only [List.length_cons,List.length_nil] at hlen
   cases hb:hasB k (pM D o) <;> rw [hb] at hce
   ·repeat' (first
 | (conv=>whnf)
   first
   | refine Br.t ?_
   | refine Br.f ?_
   | refine Get.mk _ hcur ?_
   | (refine Get.mk _ hf2 ?_;refine fWe htg2 ?_)
   | refine call_fun rfl rfl hce (.inl rfl) ?_
   | refine Get.mk _ rfl ?_)
    all_goals try (exfalso;omega)
    refine NextP.mk (sn++[s]) ⟨hnd,hsb,fun a' s' o' h1 h2 h3 => ?_⟩ (by rw [List.length_append];simp only [List.length_cons,List.length_nil];omega) (norm_same rfl)
    rcases List.mem_append.1 h2 with h2 | h2
    ·exact z3 a' s' o' h1 h2 h3
    ·rw [List.mem_singleton] at h2;subst h2
     have:=(List.getElem?_inj (i:=a') (j:=a) (List.getElem?_eq_some_iff.1 h1).1 o2).1 (by rw [h1,ha])
     subst this
     rw [ho] at h3;cases h3;exact hb
   ·have hfr:freeB D L k=false:=by
     unfold freeB
     rw [Bool.and_eq_false_iff];right
     rw [List.all_eq_false]
     exact ⟨o,List.mem_of_getElem? ho,by simp [hb]⟩
    repeat' (first
 | (conv=>whnf)
   first
   | refine Br.t ?_
   | (refine Bnd.i64 ?_ ?_ ?_;(focus omega);(focus omega))
   | refine Get.mk _ hcur ?_
   | (refine Get.mk _ hf2 ?_;refine fWe htg2 ?_)
   | refine call_fun rfl rfl hce (.inl rfl) ?_
   | refine Get.mk _ rfl ?_)
    all_goals try (exfalso;omega)
    refine NextP.mk (j+1) (hnext hfr) (by omega) (norm_one' rfl rfl rfl rfl hb4)
  have hfr:freeB D L k=true:=by
   unfold freeB
   rw [Bool.and_eq_true,List.all_eq_true]
   refine ⟨by simp [hasB,hkL],fun o ho => ?_⟩
   obtain ⟨a,ha⟩:=List.getElem?_of_mem ho
   obtain ⟨s,hs⟩:∃ s,st[a]?=some s:=⟨_,List.getElem?_eq_getElem (by have:=(List.getElem?_eq_some_iff.1 ha).1;omega)⟩
   rw [z3 a s o hs (hall s (List.mem_of_getElem? hs)) ha];rfl
  have hkk:=find_at hk hfr q2
  rw [hfind] at hkk
  simp only [Option.some.injEq] at hkk
  subst hkk
  have ke1:=ints_erase L i
  have hel:(L.eraseIdx i).length=L.length - 1:=by rw [List.length_eraseIdx,if_pos hil]
  have ke2:(trues L.length).eraseIdx i=trues (L.eraseIdx i).length:=by rw [trues_erase hil,hel]
  have hnx:=o'.next (it' := it) hgo2 hi
  repeat' (first
 | (conv=>whnf)
   first
   | refine Br.f ?_
   | refine Get.mk _ hmf ?_
   | refine fVg ke1 ?_
   | refine fVg ke2 ?_
   | refine Req.mk hox ?_
   | refine Req.mk ⟨by omega,by rw [hox];exact lt_big (by simp;omega)⟩ ?_
   | (refine Ifz.pos ?_ ?_;(focus omega))
   | refine Get.mk _ rfl ?_
   | (refine Req.mk ?_ ?_;(focus first | rfl | decide | exact ⟨rfl,rfl⟩ | exact ⟨rfl,by decide⟩ | exact (fun _=>rfl) | exact (fun h=>nomatch h) | (simp;done) | omega | (simp [big];done) | exact le_big (by omega) | exact lt_big (by omega))))
  all_goals try (exfalso;omega)
  refine NextP.mk ⟨L.eraseIdx i,st.eraseIdx i,(x :: r)++[k0],it⟩ hnx (by dsimp only;omega) ?_
  have e1:ofInts (x :: r)++[V.int .i64 k0]=ofInts (x :: (r++[k0])):=by simp [ofInts]
  have e2:(r++[k0]).length=r.length+1:=by simp
  rw [e1,List.cons_append]
  refine (norm_stop (h1:=[mqL (st.eraseIdx i) K0.length (L.eraseIdx i),.ir (ofInts (D.map (·.k))) (D.map PE.v) seen,.it 0 K0.length K0.length it,.blk (ofInts (x :: (r++[k0]))) true,.it 0 K0.length K0.length sn]) rfl rfl rfl rfl rfl hb5 rfl hb4 rfl).trans ?_
  simp only [lv,e2,wB]
  rfl
end Go.Dr.T
