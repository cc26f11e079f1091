/- Chapter 08: films, changes and logs that are the same. -/
import Derived.Test.YthihdpbgmhnloaaGreatDoorR08Gh
namespace Go.Dr.T
structure FSm (A B:List Fm):Prop where
 len:A.length=B.length
 eq:∀ (i:Nat) (f g:Fm),A[i]?=some f→B[i]?=some g→f.w=g.w∧f.h=g.h∧f.p=g.p
theorem FSm.refl {A:List Fm}:FSm A A:=⟨rfl,fun i f g h1 h2=>by rw [h1] at h2;cases h2;exact ⟨rfl,rfl,rfl⟩⟩
set_option maxRecDepth 100000 in
set_option maxHeartbeats 20000000 in
theorem films_same {c d:Bool} {A B:List Fm} (hA:A.length≤1000000) (hs:FSm A B):Fun FB md 18 [.sl c A.length (fmC A),.sl d B.length (fmC B)] (.bool true):=by
 rw [← hs.len]
 refine fun_of rfl rfl ?_
 repeat' (first
 | (conv=>whnf)
   first
   | (refine Br.decT ?_ ?_;(focus first | assumption | omega))
   | refine Br.not ?_)
 all_goals try (exfalso;omega;done)
 refine LoopP.by (fun i:Nat=>i≤A.length) (fun i=>[(5,.int .i64 (i:Nat))]) (fun _=>[]) (fun i=>A.length - i) 0 (Nat.zero_le _) rfl ?_
 rintro i hi'
 dsimp only
 by_cases hi:i<A.length
 rotate_left
 ·repeat' (first
 | (conv=>whnf)
   first
   | (refine Br.decF ?_ ?_;(focus first | assumption | omega))
   | refine Get.mk _ rfl ?_
   | refine Leaves.of ?_
   | refine Vw.bool ?_)
  all_goals first | rfl | (exfalso;omega)
 obtain ⟨f,hf⟩:∃ x,A[i]?=some x:=⟨_,List.getElem?_eq_getElem hi⟩
 obtain ⟨g,hg⟩:∃ x,B[i]?=some x:=⟨_,List.getElem?_eq_getElem (by rw [← hs.len];exact hi)⟩
 obtain ⟨e1,e2,e3⟩:=hs.eq i f g hf hg
 obtain ⟨a0,a1,a2⟩:=fm_c hf
 obtain ⟨b0,b1,b2⟩:=fm_c hg
 rw [← e1] at b0
 rw [← e2] at b1
 rw [← e3] at b2
 have hiw:IntKind.i64.wrap ((i:Int)+1)=((i+1:Nat):Int):=by rw [wrap_i64 (by omega) (by omega)];omega
 have hil:i≤A.length - 1:=by omega
 have h0l:0<A.length:=by omega
 have hl1:(ofBytes f.p).length=f.p.length * 1:=by rw [ofBytes_length,Nat.mul_one]
 have hbo:=bytesOf_ofBytes f.p
 have hso:sop .neq f.p f.p=some (.bool false):=by simp [sop]
 repeat' (first
 | (conv=>whnf)
   first
   | refine Bnd.eq hiw ?_
   | refine Br.f ?_
   | (refine Br.decT ?_ ?_;(focus first | assumption | omega))
   | refine Br.not ?_
   | refine Get.mk _ a0 ?_
   | refine Get.mk _ a1 ?_
   | refine Get.mk _ a2 ?_
   | refine Get.mk _ b0 ?_
   | refine Get.mk _ b1 ?_
   | refine Get.mk _ b2 ?_
   | refine Get.mk _ hbo ?_
   | refine Get.mk _ hso ?_
   | refine Req.mk hl1 ?_
   | refine Idx.nat hil ?_
   | refine Req.mk h0l ?_)
 all_goals first | (exfalso;omega;done) | exact NextP.mk (i+1) hi (by omega) rfl
set_option maxRecDepth 100000 in
set_option maxHeartbeats 20000000 in
theorem changes_same {c d:Bool} {A:List Cg} (hA:A.length≤1000000):Fun FB md 19 [.sl c A.length (cgC A),.sl d A.length (cgC A)] (.bool true):=by
 refine fun_of rfl rfl ?_
 repeat' (first
 | (conv=>whnf)
   first
   | (refine Br.decT ?_ ?_;(focus first | assumption | omega))
   | refine Br.not ?_)
 all_goals try (exfalso;omega;done)
 refine LoopP.by (fun i:Nat=>i≤A.length) (fun i=>[(5,.int .i64 (i:Nat))]) (fun _=>[]) (fun i=>A.length - i) 0 (Nat.zero_le _) rfl ?_
 rintro i hi'
 dsimp only
 by_cases hi:i<A.length
 rotate_left
 ·repeat' (first
 | (conv=>whnf)
   first
   | (refine Br.decF ?_ ?_;(focus first | assumption | omega))
   | refine Get.mk _ rfl ?_
   | refine Leaves.of ?_
   | refine Vw.bool ?_)
  all_goals first | rfl | (exfalso;omega)
 obtain ⟨x,hx⟩:∃ x,A[i]?=some x:=⟨_,List.getElem?_eq_getElem hi⟩
 have hp:=cgC_part hx
 have hiw:IntKind.i64.wrap ((i:Int)+1)=((i+1:Nat):Int):=by rw [wrap_i64 (by omega) (by omega)];omega
 have hil:i≤A.length - 1:=by omega
 have h0l:0<A.length:=by omega
 have heq:eqc [0,0,0,0] [.int .i64 x.f,.int .i64 x.p,.int .u8 x.o.toNat,.int .u8 x.n.toNat] [.int .i64 x.f,.int .i64 x.p,.int .u8 x.o.toNat,.int .u8 x.n.toNat]=some true:=by simp [eqc,eq1]
 repeat' (first
 | (conv=>whnf)
   first
   | refine Bnd.eq hiw ?_
   | refine Br.f ?_
   | (refine Br.decT ?_ ?_;(focus first | assumption | omega))
   | refine Get.mk _ hp ?_
   | refine Get.mk _ heq ?_
   | refine Idx.nat hil ?_
   | refine Req.mk h0l ?_)
 all_goals first | (exfalso;omega;done) | exact NextP.mk (i+1) hi (by omega) rfl
def lgC (A:List (List Cg)):List V:=A.map cgL
theorem lgC_length {A:List (List Cg)}:(lgC A).length=A.length:=by simp [lgC]
theorem lgC_at {A:List (List Cg)} {i:Nat} {x:List Cg} (h:A[i]?=some x):cellAt (lgC A) (i * 1)=some (cgL x):=by
 rw [cellAt_eq,Nat.mul_one,lgC,List.getElem?_map,h];rfl
theorem lgC_snoc {A:List (List Cg)} {x:List Cg}:lgC (A++[x])=lgC A++[cgL x]:=by simp [lgC]
theorem lgC_blos {A:List (List Cg)} {n:Nat}:blos n (lgC A)=true:=by
 refine blos_of fun v hv => ?_
 unfold lgC at hv
 obtain ⟨x,_,rfl⟩:=List.mem_map.1 hv
 rfl
def lgL (A:List (List Cg)):V:=.sl (decide (A=[])) A.length (lgC A)
set_option maxRecDepth 100000 in
set_option maxHeartbeats 20000000 in
theorem logs_same {c d:Bool} {A:List (List Cg)} (hA:A.length≤1000000) (hAA:∀ x∈A,x.length≤1000000):Fun FB md 22 [.sl c A.length (lgC A),.sl d A.length (lgC A)] (.bool true):=by
 refine fun_of rfl rfl ?_
 repeat' (first
 | (conv=>whnf)
   first
   | (refine Br.decT ?_ ?_;(focus first | assumption | omega))
   | refine Br.not ?_)
 all_goals try (exfalso;omega;done)
 refine LoopP.by (fun i:Nat=>i≤A.length) (fun i=>[(5,.int .i64 (i:Nat))]) (fun _=>[]) (fun i=>A.length - i) 0 (Nat.zero_le _) rfl ?_
 rintro i hi'
 dsimp only
 by_cases hi:i<A.length
 rotate_left
 ·repeat' (first
 | (conv=>whnf)
   first
   | (refine Br.decF ?_ ?_;(focus first | assumption | omega))
   | refine Get.mk _ rfl ?_
   | refine Leaves.of ?_
   | refine Vw.bool ?_)
  all_goals first | rfl | (exfalso;omega)
 obtain ⟨x,hx⟩:∃ x,A[i]?=some x:=⟨_,List.getElem?_eq_getElem hi⟩
 have hp:=lgC_at hx
 have k1:=changes_same (c:=decide (x=[])) (d:=decide (x=[])) (A:=x) (hAA x (List.mem_of_getElem? hx))
 have hiw:IntKind.i64.wrap ((i:Int)+1)=((i+1:Nat):Int):=by rw [wrap_i64 (by omega) (by omega)];omega
 have hil:i≤A.length - 1:=by omega
 have h0l:0<A.length:=by omega
 unfold cgL at hp
 repeat' (first
 | (conv=>whnf)
   first
   | refine Bnd.eq hiw ?_
   | refine Br.f ?_
   | (refine Br.decT ?_ ?_;(focus first | assumption | omega))
   | refine Get.mk _ hp ?_
   | refine call_fun rfl rfl k1 (.inl rfl) ?_
   | refine Idx.nat hil ?_
   | refine Req.mk h0l ?_)
 all_goals first | (exfalso;omega;done) | exact NextP.mk (i+1) hi (by omega) rfl
def czF (l:List Fm):List Fm:=l.map fun f=>⟨false,f.w,f.h,f.p⟩
theorem czF_len {l:List Fm}:(czF l).length=l.length:=by simp [czF]
theorem czF_get {l:List Fm} {i:Nat} {f:Fm} (h:l[i]?=some f):(czF l)[i]?=some ⟨false,f.w,f.h,f.p⟩:=by simp [czF,h]
theorem czF_ok {l:List Fm} {W H:Nat} (o:FOk l W H):FOk (czF l) W H:=by
 refine ⟨by rw [czF_len];exact o.n0,by rw [czF_len];exact o.n12,o.w,o.h,fun f hf => ?_⟩
 unfold czF at hf
 obtain ⟨g,hg,rfl⟩:=List.mem_map.1 hf
 exact o.all g hg
theorem czF_pix {l:List Fm} {i n:Nat}:pixI (czF l) i n=pixI l i n:=by
 unfold pixI czF
 rw [List.getElem?_map]
 cases l[i]? <;> rfl
theorem newU_cz {l:List Fm} {W H:Nat} {s:Sp}:newU (czF l) W H s=newU l W H s:=by
 funext i n
 have ho:∀ i x y,oldN (czF l) W H i x y=oldN l W H i x y:=fun i x y=>by
  unfold oldN
  rw [czF_len,czF_pix]
 unfold newU newP newK
 simp only [czF_pix,ho,czF_len]
theorem doF_cz {l:List Fm} {W H:Nat} {s:Sp}:doF (czF l) W H s=doF l W H s:=by
 unfold doF
 rw [newU_cz]
 apply List.ext_getElem?
 intro i
 rw [List.getElem?_mapIdx,List.getElem?_mapIdx]
 unfold czF
 rw [List.getElem?_map]
 cases l[i]? <;> rfl
theorem cgA_cz {l:List Fm} {NU:Nat→Nat→UInt8}:∀ {n:Nat},cgA NU (czF l) n=cgA NU l n
 | 0=>rfl
 | n+1=>by
  rw [cgA,cgA,cgA_cz (n:=n)]
  unfold czF
  rw [List.getElem?_map]
  cases l[n]? <;> rfl
theorem doC_cz {l:List Fm} {W H:Nat} {s:Sp}:doC (czF l) W H s=doC l W H s:=by
 unfold doC
 rw [newU_cz,cgA_cz,czF_len]
def rnF (W H:Nat):List Fm→List Sp→List Fm
 | l,[]=>l
 | l,s :: ss=>rnF W H (doF l W H s) ss
def rnC (W H:Nat):List Fm→List Sp→List (List Cg)
 | _,[]=>[]
 | l,s :: ss=>doC l W H s :: rnC W H (doF l W H s) ss
theorem rnF_snoc {W H:Nat} {s:Sp}:∀ {ss:List Sp} {l:List Fm},rnF W H l (ss++[s])=doF (rnF W H l ss) W H s
 | [],_=>rfl
 | t :: ss,l=>by simp only [List.cons_append,rnF,rnF_snoc (ss:=ss)]
theorem rnC_snoc {W H:Nat} {s:Sp}:∀ {ss:List Sp} {l:List Fm},rnC W H l (ss++[s])=rnC W H l ss++[doC (rnF W H l ss) W H s]
 | [],_=>rfl
 | t :: ss,l=>by simp only [List.cons_append,rnC,rnF,rnC_snoc (ss:=ss)]
theorem rnC_len {W H:Nat}:∀ {ss:List Sp} {l:List Fm},(rnC W H l ss).length=ss.length
 | [],_=>rfl
 | t :: ss,l=>by simp only [rnC,List.length_cons,rnC_len (ss:=ss)]
theorem rnF_len {W H:Nat}:∀ {ss:List Sp} {l:List Fm},(rnF W H l ss).length=l.length
 | [],_=>rfl
 | t :: ss,l=>by simp only [rnF,rnF_len (ss:=ss),doF_len]
theorem rnF_ok {W H:Nat}:∀ {ss:List Sp} {l:List Fm},FOk l W H→FOk (rnF W H l ss) W H
 | [],_,o=>o
 | t :: ss,l,o=>by rw [rnF];exact rnF_ok (ss:=ss) (doF_ok o)
theorem rnF_app {W H:Nat} {tt:List Sp}:∀ {ss:List Sp} {l:List Fm},rnF W H l (ss++tt)=rnF W H (rnF W H l ss) tt
 | [],_=>rfl
 | t :: ss,l=>by simp only [List.cons_append,rnF,rnF_app (ss:=ss)]
theorem rnC_app {W H:Nat} {tt:List Sp}:∀ {ss:List Sp} {l:List Fm},rnC W H l (ss++tt)=rnC W H l ss++rnC W H (rnF W H l ss) tt
 | [],_=>rfl
 | t :: ss,l=>by simp only [List.cons_append,rnC,rnF,rnC_app (ss:=ss)]
theorem doC_len {W H:Nat} {l:List Fm} {s:Sp} (o:FOk l W H):(doC l W H s).length≤30000:=by
 have h1:=o.nn
 have h2:=o.n12
 have h3:=cgA_len (NU:=newU l W H s) (l:=l) (fun f hf=>by rw [(o.all f hf).2.2];exact h1.2) (i:=l.length)
 have h4:l.length * 2304≤12 * 2304:=Nat.mul_le_mul_right _ h2
 unfold doC
 exact Nat.le_trans h3 (Nat.le_trans h4 (by decide))
theorem rnC_all {W H:Nat}:∀ {ss:List Sp} {l:List Fm},FOk l W H→∀ x∈rnC W H l ss,x.length≤30000
 | [],_,_,x,hx=>by cases hx
 | t :: ss,l,o,x,hx=>by
  rw [rnC] at hx
  rcases List.mem_cons.1 hx with rfl | hx
  ·exact doC_len o
  ·exact rnC_all (ss:=ss) (doF_ok o) x hx
end Go.Dr.T
