/- Chapter 06: Round; the document's marks that are there. -/
import Derived.Test.YtfhphjloaelgoaaGreatDoorG12
import Derived.Test.YtfhphjloaelgoaaGreatDoorDrJ
namespace Go.Dr.T
def rdV:Option (List Int)→V
 | none=>.sl true 0 []
 | some l=>.sl false l.length (ofInts l)
def rndP (l:List El):Option (List Int):=roundP (fun k=>wayP (pAll l) k k k) mks
def rndV (l:List El):V:=if vldE l≠0 then .tup [.sl true 0 [],.int .i64 (vldE l)] else .tup [rdV (rndP l),.int .i64 0]
set_option maxRecDepth 100000 in
set_option maxHeartbeats 20000000 in
theorem alnRound_ok {c:Bool} {l:List El}:Fun FB1 md 36 [elsV c l] (rndV l):=by
 have hg:=gather_fun (c:=c) (l:=l) gatherV_view
 unfold gatherV at hg
 unfold rndV
 by_cases hv:vldE l=0
 ·rw [if_neg (fun h=>h hv)] at hg ⊢
  have w:=wg_all hv
  have hl:=w.len
  have hrn:=w.round
  have hne:rndP l≠some []:=round_ne (fun k=>w.ne) _ _ (by simp)
  unfold rndP at hne ⊢
  rw [← hrn] at hne ⊢
  have hrc:∀ {h:List B} {ro:Nat} {K:V→List B→Prop},K (bestV (roundP (fun k=>wayP (pAll l) k k k) (isort (keysOf (pAll l))))) h→CallP FB1 md ro (.fn 66 []) [gatV (pAll l)] h K:=fun hk=>round_call (w:=fun k=>wayP (pAll l) k k k) (by omega) (fun k _=>w.funs) (fun k=>w.ne) hk
  generalize roundP (fun k=>wayP (pAll l) k k k) (isort (keysOf (pAll l)))=r at *
  generalize pAll l=D at *
  cases r with
  | none =>
   refine fun_of rfl rfl ?_
   repeat' (first
 | (conv=>whnf)
   first
   | refine Br.f ?_
   | refine call_fun rfl rfl hg (.inl rfl) ?_
   | refine hrc ?_
   | refine Get.mk _ rfl ?_
   | refine Leaves.of ?_
   | refine Vw.int ?_
   | refine Vw.nil
   | refine Vw.tup ?_
   | refine VwL.cons ?_ ?_
   | refine VwL.nil)
   all_goals first | rfl | (exfalso;omega;done)
  | some x =>
   obtain ⟨y,r,rfl⟩:∃ y r,x=y :: r:=by
    cases x with
    | nil=>exact absurd rfl hne
    | cons y r=>exact ⟨y,r,rfl⟩
   refine fun_of rfl rfl ?_
   repeat' (first
 | (conv=>whnf)
   first
   | refine Br.f ?_
   | refine call_fun rfl rfl hg (.inl rfl) ?_
   | refine hrc ?_
   | refine Get.mk _ rfl ?_
   | refine Leaves.of ?_
   | refine Vw.int ?_
   | refine Vw.sl
   | refine Vw.tup ?_
   | refine VwL.cons ?_ ?_
   | refine VwL.nil)
   all_goals first | rfl | (exfalso;omega;done)
 ·rw [if_pos hv] at hg ⊢
  generalize vldE l=e at *
  refine fun_of rfl rfl ?_
  repeat' (first
 | (conv=>whnf)
   first
   | (refine Br.decF ?_ ?_;(focus first | assumption | omega))
   | refine Br.not ?_
   | refine call_fun rfl rfl hg (.inl rfl) ?_
   | refine Get.mk _ rfl ?_
   | refine Leaves.of ?_
   | refine Vw.int ?_
   | refine Vw.nil
   | refine Vw.tup ?_
   | refine VwL.cons ?_ ?_
   | refine VwL.nil)
  all_goals first | rfl | (exfalso;omega;done)
def boC (n:Nat) (f:Nat→Bool):List V:=(List.range n).map fun i=>.bool (f i)
theorem boC_len {n:Nat} {f:Nat→Bool}:(boC n f).length=n:=by simp [boC]
theorem boC_get {n j:Nat} {f:Nat→Bool} (h:j<n):cellAt (boC n f) (0+j * 1)=some (.bool (f j)):=by
 rw [Nat.zero_add,Nat.mul_one,cellAt_eq]
 simp [boC,h]
theorem boC_get' {n j:Nat} {f:Nat→Bool} (h:j<n):cellAt (boC n f) (j * 1)=some (.bool (f j)):=by
 have:=boC_get (f:=f) h
 rwa [Nat.zero_add] at this
def upB (f:Nat→Bool) (j:Nat) (v:Bool):Nat→Bool:=fun k=>if k=j then v else f k
theorem boC_set {n j:Nat} {f:Nat→Bool} {v:Bool} (h:j<n):over (boC n f) (0+j * 1) [.bool v]=boC n (upB f j v):=by
 unfold boC
 rw [Nat.zero_add,Nat.mul_one j,over_one]
 apply List.ext_getElem?
 intro k
 rw [List.getElem?_set]
 by_cases hk:j=k
 ·subst hk
  simp [upB,h]
 ·rw [if_neg hk]
  by_cases hk2:k<n
  ·simp [hk2,upB,show ¬ k=j from fun e=>hk e.symm]
  ·rw [List.getElem?_eq_none (by simp;omega),List.getElem?_eq_none (by simp;omega)]
theorem boC_zero {n:Nat}:reps n [.bool false]=boC n (fun _=>false):=by
 have key:∀ k,reps k [V.bool false]=List.replicate k (.bool false):=by
  intro k
  induction k with
  | zero=>rfl
  | succ k ih=>rw [reps,ih];rfl
 unfold boC
 rw [key,List.map_const']
 simp
theorem boC_blo {m n:Nat} {f:Nat→Bool}:(B.blk (boC m f) true).blo n=true:=rfl
theorem boC_ext {n:Nat} {f g:Nat→Bool} (h:∀ j,j<n→f j=g j):boC n f=boC n g:=by
 unfold boC
 apply List.map_congr_left
 intro k hk
 rw [h k (by simpa using hk)]
theorem VwLF.bools {h:List B} {d:Nat} {n:Nat} {f:Nat→Bool}:VwLF h (d+1) (boC n f) (boC n f):=by
 unfold boC
 generalize List.range n=l
 induction l with
 | nil=>exact VwLF.nil
 | cons x l ih=>exact VwLF.cons (VwF.bool rfl) ih
def rowB (n:Nat) (f:Nat→Bool):V:=.sl true n (boC n f)
end Go.Dr.T
namespace Go.Dr.T
def thF (l:List El) (k:Nat):Bool:=decide ((k:Int)∈marksOf l)
def thJ (l:List El) (K:List Int) (k:Nat):Bool:=decide ((k:Int)∈marksOf l∨(k:Int)∈K)
theorem el_known {l:List El} (hv:vldE l=0) {x:El} (hx:x∈l):knP x.l=known x.l∧x.l.length≤40∧(knP x.l).length≤40∧∀ m∈knP x.l,1≤m∧m≤999:=by
 have h:=vld_el hv hx
 have e:=knP_known (l:=x.l) (fun p hp=>(h.2 p hp).1)
 refine ⟨e,h.1,?_,fun m hm => ?_⟩
 ·have:=knP_len (l:=x.l);omega
 ·rw [e] at hm
  exact marks_rng hv (List.mem_flatMap.2 ⟨x,hx,hm⟩)
set_option maxRecDepth 100000 in
set_option maxHeartbeats 20000000 in
theorem there_call {c:Bool} {l:List El} (hv:vldE l=0) {ro:Nat} {K:V→List B→Prop} (hk:K (.ms 1 0 1000 0 1000 true) [.blk (boC 1000 (thF l)) true]) (hr:ro=0):CallP FB md ro (.fn 73 []) [elsV c l] [] K:=by
 have hl8:=(vld_good hv).1
 subst hr
 refine call_one rfl rfl rfl ?_
 repeat' (first
 | (conv=>whnf)
   first
   | (refine Idx.int ?_ ?_ ?_;(focus omega);(focus omega))
   | (refine Idx.int ?_ ?_ ?_;(focus decide);(focus decide))
   | refine Get.mk _ rfl ?_
   | (refine Req.mk ?_ ?_;(focus first | rfl | decide | exact ⟨rfl,rfl⟩ | exact ⟨rfl,by decide⟩ | exact (fun _=>rfl) | exact (fun h=>nomatch h) | (simp;done) | omega | (simp [big];done) | exact le_big (by omega) | exact lt_big (by omega))))
 all_goals try (exfalso;omega;done)
 refine LoopP.by (fun i:Nat=>i≤l.length) (fun i=>[(4,.int .i64 (i:Nat))]) (fun i=>[.blk (boC 1000 (thF (l.take i))) true]) (fun i=>l.length - i) 0 (Nat.zero_le _) (by
  rw [show boC 1000 (thF (l.take 0))=reps 1000 [.bool false] by rw [boC_zero];exact boC_ext fun j _=>by simp [thF,marksOf]]
  rfl) ?_
 rintro i q1
 dsimp only
 by_cases hi:i<l.length
 rotate_left
 ·have e:i=l.length:=by omega
  subst e
  rw [List.take_length]
  repeat' (first
 | (conv=>whnf)
   first
   | (refine Br.decF ?_ ?_;(focus first | assumption | omega))
   | refine Get.mk _ rfl ?_
   | refine Ends.of ?_)
  all_goals first | (exfalso;omega;done) | exact hk
 obtain ⟨x,hx⟩:∃ p,l[i]?=some p:=⟨_,List.getElem?_eq_getElem hi⟩
 have hpart:=elC_part hx
 obtain ⟨k1,k2,k3,k4⟩:=el_known hv (List.mem_of_getElem? hx)
 have hk:Fun FB md 102 [elA x] (lw false (knP x.l)):=known_ok (by omega)
 have hms:∀ k:Nat,thF (l.take (i+1)) k=thJ (l.take i) (knP x.l) k:=fun k=>by
  unfold thF thJ
  rw [marks_snoc hx,k1,decide_eq_decide,List.mem_append]
 generalize knP x.l=K at *
 obtain ⟨d,hd⟩:=lw_sl K
 rw [hd] at hk
 repeat' (first
 | (conv=>whnf)
   first
   | (refine Br.decT ?_ ?_;(focus first | assumption | omega))
   | refine Get.mk _ hpart ?_
   | refine call_fun rfl rfl hk (.inl rfl) ?_
   | (refine Idx.nat ?_ ?_;(focus omega))
   | (refine Req.mk ?_ ?_;(focus first | rfl | decide | exact ⟨rfl,rfl⟩ | exact ⟨rfl,by decide⟩ | exact (fun _=>rfl) | exact (fun h=>nomatch h) | (simp;done) | omega | (simp [big];done) | exact le_big (by omega) | exact lt_big (by omega))))
 all_goals try (exfalso;omega;done)
 refine LoopP.by (fun j:Nat=>j≤K.length) (fun j=>[(6,.int .i64 (j:Nat))]) (fun j=>[.blk (boC 1000 (thJ (l.take i) (K.take j))) true]) (fun j=>K.length - j) 0 (Nat.zero_le _) (by
  rw [show boC 1000 (thJ (l.take i) (K.take 0))=boC 1000 (thF (l.take i)) from boC_ext fun j _=>by simp [thF,thJ]]
  rfl) ?_
 rintro j z1
 dsimp only
 by_cases hj:j<K.length
 rotate_left
 ·have e:j=K.length:=by omega
  subst e
  rw [List.take_length, ← boC_ext (n:=1000) (fun j _=>hms j)]
  repeat' (first
 | (conv=>whnf)
   first
   | (refine Br.decF ?_ ?_;(focus first | assumption | omega))
   | (refine Bnd.i64 ?_ ?_ ?_;(focus omega);(focus omega)))
  all_goals first | (exfalso;omega;done) | exact NextP.mk (i+1) hi (by omega) rfl
 obtain ⟨m,hm,hc⟩:=ofInts_cell hj
 have hmr:=k4 m (List.mem_of_getElem? hm)
 obtain ⟨m', rfl⟩:∃ m' : Nat,m=(m' : Int):=⟨m.toNat,by omega⟩
 have hml:m' < 1000:=by omega
 have hov:over (boC 1000 (thJ (l.take i) (K.take j))) (0+m' * 1) [.bool true]=boC 1000 (thJ (l.take i) (K.take (j+1))):=by
  rw [boC_set hml]
  refine boC_ext fun k _ => ?_
  unfold upB thJ
  rw [List.take_add_one,hm]
  by_cases e:k=m'
  ·subst e;simp
  ·rw [if_neg e,decide_eq_decide]
   have:¬ (k:Int)=(m' : Int):=by omega
   simp [this]
 have hlen:(boC 1000 (thJ (l.take i) (K.take j))).length=1000 * 1∧0+m' * 1+1≤(boC 1000 (thJ (l.take i) (K.take j))).length:=by rw [boC_len];omega
 repeat' (first
 | (conv=>whnf)
   first
   | (refine Br.decT ?_ ?_;(focus first | assumption | omega))
   | (refine Bnd.i64 ?_ ?_ ?_;(focus omega);(focus omega))
   | refine Get.mk _ hc ?_
   | refine Req.mk hlen ?_
   | refine fVg' hov ?_
   | (refine Idx.nat ?_ ?_;(focus omega))
   | refine Get.mk _ rfl ?_
   | (refine Req.mk ?_ ?_;(focus first | rfl | decide | exact ⟨rfl,rfl⟩ | exact ⟨rfl,by decide⟩ | exact (fun _=>rfl) | exact (fun h=>nomatch h) | (simp;done) | omega | (simp [big];done) | exact le_big (by omega) | exact lt_big (by omega))))
 all_goals first | (exfalso;omega;done) | exact NextP.mk (j+1) hj (by omega) rfl
end Go.Dr.T
namespace Go.Dr.T
def dirT (l:List El) (i j:Nat):Bool:=decide (((i:Int),(j:Int))∈dirsOf l)
def tabB (n:Nat) (T:Nat→Nat→Bool):V:=.sl true n ((List.range n).map fun i=>rowB n (T i))
def hvL (k:Nat) (i:Nat):Bool:=decide (i<k)
abbrev ouB (k:Nat):B:=.blk (outC 999 999 (fun i=>1+i) (hvL k)) false
structure DH (k:Nat) (h:List B):Prop where
 le:k≤1000
 ln:h.length=1+k
 cl:Cl h
 b0:bget h 0=some (ouB k)
 br:∀ i,i<k→bget h (1+i)=some (.blk (boC 1000 fun _=>false) true)
structure DT (T:Nat→Nat→Bool) (h:List B):Prop where
 ln:h.length=1001
 cl:Cl h
 b0:bget h 0=some (ouB 1000)
 br:∀ i,i<1000→bget h (1+i)=some (.blk (boC 1000 (T i)) true)
structure DA where
 k:Nat
 h:List B
structure DB where
 k:Nat
 T:Nat→Nat→Bool
 h:List B
def upTB (T:Nat→Nat→Bool) (i j:Nat):Nat→Nat→Bool:=fun a=>if a=i then upB (T i) j true else T a
theorem DT.set {T:Nat→Nat→Bool} {h:List B} (d:DT T h) {i j:Nat} (hi:i<1000) (hj:j<1000):DT (upTB T i j) (bset h (1+i) (.blk (boC 1000 (upB (T i) j true)) true)):=by
 refine ⟨by rw [bset_len];exact d.ln,d.cl.set boC_blo,by rw [bset_other (by omega)];exact d.b0,fun a ha => ?_⟩
 unfold upTB
 by_cases e:a=i
 ·subst e
  rw [if_pos rfl]
  exact bget_same (by have:=d.ln;omega)
 ·rw [if_neg e,bset_other (by omega)]
  exact d.br a ha
theorem DT.ext {T T' : Nat→Nat→Bool} {h:List B} (d:DT T h) (e:∀ i j,i<1000→j<1000→T i j=T' i j):DT T' h :=
 ⟨d.ln,d.cl,d.b0,fun i hi=>by rw [← boC_ext (fun j hj=>e i j hi hj)];exact d.br i hi⟩
theorem DT.view {T:Nat→Nat→Bool} {h:List B} (d:DT T h) {m:Nat}:VwF h (m+3) (.ms 1 0 1000 0 1000 true) (tabB 1000 T):=by
 have hl:(outC 999 999 (fun i=>1+i) (hvL 1000)).length=1000:=by rw [outC_len]
 refine VwF.ms (d:=m+2) d.b0 hl (part_all hl) ?_
 unfold outC
 refine VwLF.map fun i hi => ?_
 have hi' : i<1000:=by simpa using hi
 have hv:hvL 1000 i=true:=decide_eq_true hi'
 rw [if_pos hv]
 exact VwF.ms (d:=m+1) (d.br i hi') boC_len (part_all boC_len) VwLF.bools
set_option maxRecDepth 100000 in
set_option maxHeartbeats 20000000 in
theorem direct_ok {c:Bool} {l:List El} (hv:vldE l=0):FunF FB md 72 [elsV c l] (tabB 1000 (dirT l)):=by
 have hl8:=(vld_good hv).1
 refine funF_rn rfl rfl ?_
 repeat' (first
 | (conv=>whnf)
   first
   | refine Rn.seq ?_
   | refine Rn.block ?_
   | refine Rn.reg ?_
   | (refine Idx.int ?_ ?_ ?_;(focus omega);(focus omega))
   | (refine Idx.int ?_ ?_ ?_;(focus decide);(focus decide))
   | refine Get.mk _ rfl ?_
   | (refine Req.mk ?_ ?_;(focus first | rfl | decide | exact ⟨rfl,rfl⟩ | exact ⟨rfl,by decide⟩ | exact (fun _=>rfl) | exact (fun h=>nomatch h) | (simp;done) | omega | (simp [big];done) | exact le_big (by omega) | exact lt_big (by omega))))
 all_goals try (exfalso;omega;done)
 have hcl:Cl [ouB 0]:=(show Cl [] from rfl).app (outC_ok fun i hi hh=>by unfold hvL at hh;simp at hh)
 refine Rn.loop (fun a:DA=>DH a.k a.h) (fun a=>[(4,.int .i64 (a.k:Nat))]) (fun a=>a.h) (fun a=>1000 - a.k) ⟨0,[ouB 0]⟩ ⟨Nat.zero_le _,rfl,hcl,rfl,fun i hi=>absurd hi (Nat.not_lt_zero i)⟩ (by
  rw [show ouB 0 = .blk (reps 1000 [.nilsl]) false by
   rw [show (1000:Nat)=999+1 from rfl,outC_none (n:=999) (m:=999) (rid:=fun i=>1+i)]
   exact congrArg (fun c=>B.blk c false) (outC_ext fun k _=>by unfold hvL;simp)]
  rfl) ?_
 rintro ⟨k,h⟩ ⟨w1,ln,cl,b0,br⟩
 dsimp only at w1 ln cl b0 br ⊢
 by_cases hk:k<1000
 ·have hq3:(outC 999 999 (fun i=>1+i) (hvL k)).length=1000 * 1∧0+k * 1+1≤(outC 999 999 (fun i=>1+i) (hvL k)).length:=by rw [outC_len];omega
  have hov:over (outC 999 999 (fun i=>1+i) (hvL k)) (0+k * 1) [.ms 1 (h.length+0) (1000 * 1) 0 1000 (decide (1000=1000))]=outC 999 999 (fun i=>1+i) (hvL (k+1)):=by
   rw [decide_eq_true rfl,show h.length+0=1+k by omega]
   have:=outC_set (n:=999) (m:=999) (rid:=fun i=>1+i) (hv:=hvL k) (i:=k) (by omega)
   refine this.trans (outC_ext fun j hj => ?_)
   unfold hvL
   by_cases h1:j=k <;> by_cases h2:j<k <;> simp [h1,h2] <;> omega
  repeat' (first
 | (conv=>whnf)
   first
   | (refine Br.decT ?_ ?_;(focus first | assumption | omega))
   | (refine Bnd.i64 ?_ ?_ ?_;(focus omega);(focus omega))
   | refine Rn.seq ?_
   | refine Rn.block ?_
   | refine Rn.cond ?_
   | refine Rn.reg ?_
   | refine Rn.skip ?_
   | refine fLen.mk ?_
   | refine fB.i0 ?_
   | refine fB.i1 ?_
   | refine Get.newj 0 rfl rfl ?_
   | refine fB.newj 0 rfl ?_
   | refine fB.mk ?_
   | refine Get.mk _ (bget_app b0) ?_
   | refine Req.mk hq3 ?_
   | refine fVg' hov ?_
   | (refine Idx.nat ?_ ?_;(focus omega))
   | (refine Idx.int ?_ ?_ ?_;(focus omega);(focus omega))
   | (refine Idx.int ?_ ?_ ?_;(focus decide);(focus decide))
   | (refine Req.mk ?_ ?_;(focus first | rfl | decide | exact ⟨rfl,rfl⟩ | exact ⟨rfl,by decide⟩ | exact (fun _=>rfl) | exact (fun h=>nomatch h) | (simp;done) | omega | (simp [big];done) | exact le_big (by omega) | exact lt_big (by omega))))
  all_goals try (exfalso;omega;done)
  have e1000:Int.toNat 1000=1000:=rfl
  have hD:DH (k+1) (bset (h++[.blk (reps (Int.toNat 1000) [.bool false]) true]) (0+0) (ouB (k+1))):=by
   rw [e1000,boC_zero]
   refine ⟨hk,by rw [bset_len,List.length_append,ln];simp;omega,(cl.app boC_blo).set (outC_ok fun i' hi' hh => ?_),bget_same (by rw [List.length_append];omega),fun i hi => ?_⟩
   ·rw [List.length_append,ln]
    unfold hvL at hh
    simp at hh ⊢
    omega
   ·rw [bset_other (by omega)]
    by_cases e:i=k
    ·subst e
     rw [← ln]
     exact bget_new (i:=0)
    ·exact bget_app (br i (by omega))
  refine NextP.mk ⟨k+1,_⟩ hD (by (try dsimp only);omega) (norm_all (r:=1+k) (o:=0) (by rw [hD.ln];omega) (by simp) (by decide) hD.b0 fun n hn => ?_)
  exact outC_blo hn (i:=k) (by omega) (by unfold hvL;simp)
 have hk' : k=1000:=by omega
 subst hk'
 repeat' (first
 | (conv=>whnf)
   first
   | refine Br.f ?_
   | refine Rn.seq ?_
   | refine Rn.block ?_
   | refine Rn.cond ?_
   | refine Rn.reg ?_
   | refine Rn.exit ?_
   | refine fLen.mk ?_
   | refine fB.i0 ?_
   | refine fB.mk ?_)
 all_goals try (exfalso;omega;done)
 refine Rn.loop (fun a:DB=>a.k≤l.length∧DT a.T a.h∧∀ i j,i<1000→j<1000→a.T i j=dirT (l.take a.k) i j) (fun a=>[(5,.int .i64 (a.k:Nat))]) (fun a=>a.h) (fun a=>l.length - a.k) ⟨0,fun _ _=>false,h⟩ ⟨Nat.zero_le _,⟨ln,cl,b0,br⟩,fun i j _ _=>by simp [dirT,dirsOf]⟩ rfl ?_
 rintro ⟨k,T,h2⟩ ⟨v1,d,v3⟩
 dsimp only at v1 d v3 ⊢
 by_cases hk2:k<l.length
 rotate_left
 ·have e:k=l.length:=by omega
  subst e
  rw [List.take_length] at v3
  have d' := d.ext v3
  have hvw:VwF h2 depth (.ms 1 0 1000 0 1000 true) (tabB 1000 (dirT l)):=d'.view (m:=61)
  repeat' (first
 | (conv=>whnf)
   first
   | refine hvw
   | (refine Br.decF ?_ ?_;(focus first | assumption | omega))
   | refine Rn.seq ?_
   | refine Rn.cond ?_
   | refine Rn.reg ?_
   | refine Rn.exit ?_
   | refine Rn.ret ?_
   | refine fLen.mk ?_
   | refine fB.i0 ?_
   | refine fB.mk ?_
   | refine Get.mk _ rfl ?_
   | refine LeavesF.of ?_)
  all_goals first | (exfalso;omega;done)
 obtain ⟨x,hx⟩:∃ p,l[k]?=some p:=⟨_,List.getElem?_eq_getElem hk2⟩
 have hpart:=elC_part hx
 obtain ⟨k1,k2,k3,k4⟩:=el_known hv (List.mem_of_getElem? hx)
 have hkn:Fun FB md 102 [elA x] (lw false (knP x.l)):=known_ok (by omega)
 have hds:∀ i j:Nat,dirT (l.take (k+1)) i j=(dirT (l.take k) i j || decide (((i:Int),(j:Int))∈nexts (knP x.l))):=fun i j=>by
  unfold dirT
  rw [dirs_snoc hx,k1, ← Bool.decide_or,decide_eq_decide,List.mem_append]
 generalize knP x.l=K at *
 obtain ⟨dd,hdd⟩:=lw_sl K
 rw [hdd] at hkn
 repeat' (first
 | (conv=>whnf)
   first
   | (refine Br.decT ?_ ?_;(focus first | assumption | omega))
   | refine Rn.seq ?_
   | refine Rn.block ?_
   | refine Rn.cond ?_
   | refine Rn.reg ?_
   | refine Rn.skip ?_
   | refine fLen.mk ?_
   | refine fB.i0 ?_
   | refine fB.mk ?_
   | refine Get.mk _ hpart ?_
   | refine call_fun rfl rfl hkn (.inl rfl) ?_
   | (refine Idx.nat ?_ ?_;(focus omega))
   | (refine Req.mk ?_ ?_;(focus first | rfl | decide | exact ⟨rfl,rfl⟩ | exact ⟨rfl,by decide⟩ | exact (fun _=>rfl) | exact (fun h=>nomatch h) | (simp;done) | omega | (simp [big];done) | exact le_big (by omega) | exact lt_big (by omega))))
 all_goals try (exfalso;omega;done)
 refine Rn.loop (fun a:DB=>1≤a.k∧(a.k≤K.length∨a.k=1)∧DT a.T a.h∧∀ i j,i<1000→j<1000→a.T i j=(dirT (l.take k) i j || decide (((i:Int),(j:Int))∈nexts (K.take a.k)))) (fun a=>[(7,.int .i64 (a.k:Nat))]) (fun a=>a.h) (fun a=>K.length - a.k) ⟨1,T,h2⟩ ⟨Nat.le_refl _,.inr rfl,d,fun i j h1 h2=>by
  show T i j=(dirT (l.take k) i j || decide (((i:Int),(j:Int))∈nexts (K.take 1)))
  have:nexts (K.take 1)=[]:=by cases K <;> rfl
  rw [v3 i j h1 h2,this]
  simp⟩ rfl ?_
 rintro ⟨j,T2,h3⟩ ⟨z1,z2,d2,z3⟩
 dsimp only at z1 z2 d2 z3 ⊢
 by_cases hj:j<K.length
 rotate_left
 ·have hT:∀ a b,a<1000→b<1000→T2 a b=dirT (l.take (k+1)) a b:=fun a b h1 h2=>by
   rw [z3 a b h1 h2,hds,show K.take j=K from List.take_of_length_le (by omega)]
  repeat' (first
 | (conv=>whnf)
   first
   | (refine Br.decF ?_ ?_;(focus first | assumption | omega))
   | (refine Bnd.i64 ?_ ?_ ?_;(focus omega);(focus omega))
   | refine Rn.seq ?_
   | refine Rn.cond ?_
   | refine Rn.reg ?_
   | refine Rn.exit ?_
   | refine fLen.mk ?_
   | refine fB.i0 ?_
   | refine fB.mk ?_)
  all_goals first | (exfalso;omega;done) | exact NextP.mk ⟨k+1,T2,h3⟩ ⟨hk2,d2,hT⟩ (by (try dsimp only);omega) (norm_same (d2.ln.trans (by rw [ln])))
 obtain ⟨jj,rfl⟩:∃ jj,j=jj+1:=⟨j - 1,by omega⟩
 obtain ⟨a,ha,hc1⟩:=ofInts_cell (l:=K) (i:=jj) (by omega)
 obtain ⟨b,hb,hc2⟩:=ofInts_cell hj
 have har:=k4 a (List.mem_of_getElem? ha)
 have hbr:=k4 b (List.mem_of_getElem? hb)
 obtain ⟨a', rfl⟩:∃ m' : Nat,a=(m' : Int):=⟨a.toNat,by omega⟩
 obtain ⟨b', rfl⟩:∃ m' : Nat,b=(m' : Int):=⟨b.toNat,by omega⟩
 have ha1:a' < 1000:=by omega
 have hb1:b' < 1000:=by omega
 have hnx:nexts (K.take (jj+1+1))=nexts (K.take (jj+1))++[((a' : Int),(b' : Int))]:=by
  have e1:K.take (jj+1+1)=K.take (jj+1)++[(b' : Int)]:=by rw [List.take_add_one,hb];rfl
  have e2:K.take (jj+1)=K.take jj++[(a' : Int)]:=by rw [List.take_add_one,ha];rfl
  rw [e1,nexts_snoc,if_neg (by rw [e2];simp),e2,lastM_snoc]
 have d3:=d2.set ha1 hb1
 have hT3:∀ i j,i<1000→j<1000→upTB T2 a' b' i j=(dirT (l.take k) i j || decide (((i:Int),(j:Int))∈nexts (K.take (jj+1+1)))):=fun i j h1 h2=>by
  have:=z3 i j h1 h2
  rw [hnx]
  unfold upTB
  by_cases e:i=a'
  ·subst e
   rw [if_pos rfl]
   unfold upB
   by_cases e2:j=b'
   ·subst e2;simp
   ·rw [if_neg e2,this]
    congr 1
    rw [decide_eq_decide,List.mem_append,List.mem_singleton,Prod.mk.injEq]
    constructor
    ·exact .inl
    ·rintro (h | ⟨_,h⟩)
     ·exact h
     ·omega
  ·rw [if_neg e,this]
   congr 1
   rw [decide_eq_decide,List.mem_append,List.mem_singleton,Prod.mk.injEq]
   constructor
   ·exact .inl
   ·rintro (h | ⟨h,_⟩)
    ·exact h
    ·omega
 have hw:IntKind.i64.wrap (((jj+1:Nat):Int) - 1)=(jj:Nat):=by rw [wrap_i64 (by omega) (by omega)];omega
 have g0:=outC_get (n:=999) (m:=999) (rid:=fun i=>1+i) (hv:=hvL 1000) (i:=a') (by omega) (by unfold hvL;simp;omega)
 have gr:=d2.br a' ha1
 have g1:=d2.b0
 have hov:over (boC 1000 (T2 a')) (0+b' * 1) [.bool true]=boC 1000 (upB (T2 a') b' true):=boC_set hb1
 have hlr:(boC 1000 (T2 a')).length=(999+1) * 1∧0+b' * 1+1≤(boC 1000 (T2 a')).length:=by rw [boC_len];omega
 have hlr0:(boC 1000 (T2 a')).length=(999+1) * 1:=by rw [boC_len]
 have hlo:(outC 999 999 (fun i=>1+i) (hvL 1000)).length=1000 * 1:=by rw [outC_len]
 repeat' (first
 | (conv=>whnf)
   first
   | refine Bnd.eq hw ?_
   | (refine Br.decT ?_ ?_;(focus first | assumption | omega))
   | (refine Bnd.i64 ?_ ?_ ?_;(focus omega);(focus omega))
   | refine Rn.seq ?_
   | refine Rn.block ?_
   | refine Rn.cond ?_
   | refine Rn.reg ?_
   | refine Rn.skip ?_
   | refine fLen.mk ?_
   | refine fB.i0 ?_
   | refine fB.mk ?_
   | refine Get.mk _ hc1 ?_
   | refine Get.mk _ hc2 ?_
   | refine Get.mk _ g1 ?_
   | refine Get.mk _ g0 ?_
   | refine Get.mk _ gr ?_
   | refine Req.mk hlr ?_
   | refine Req.mk hlr0 ?_
   | refine fVg' hov ?_
   | (refine Idx.nat ?_ ?_;(focus omega))
   | (refine Req.mk ?_ ?_;(focus first | rfl | decide | exact ⟨rfl,rfl⟩ | exact ⟨rfl,by decide⟩ | exact (fun _=>rfl) | exact (fun h=>nomatch h) | (simp;done) | omega | (simp [big];done) | exact le_big (by omega) | exact lt_big (by omega))))
 all_goals first | (exfalso;omega;done) | exact NextP.mk ⟨jj+1+1,upTB T2 a' b', _⟩ ⟨by (try dsimp only);omega,.inl hj,d3,hT3⟩ (by (try dsimp only);omega) (norm_same (d3.ln.trans d.ln.symm))
end Go.Dr.T
