/- Chapter 06: the document's table of what stands directly behind what. -/
import Derived.Test.YtfhphjloaelgoaaGreatDoorG17
import Derived.Test.YtfhphjloaelgoaaGreatDoorG14
import Derived.Test.YtfhphjloaelgoaaGreatDoorDrJ
namespace Go.Dr.T
def dirT (l:List El) (i j:Nat):Bool:=decide (((i:Int),(j:Int))∈dirsOf l)
def tabB (n:Nat) (T:Nat→Nat→Bool):V:=.sl true n ((List.range n).map fun i=>rowB n (T i))
def hvL (k:Nat) (i:Nat):Bool:=decide (i<k)
abbrev ouB (k:Nat):B:=.blk (outC 999 999 (fun i=>1+i) (hvL k)) false
structure DH (k:Nat) (h:List B):Prop where
 le:k≤1000
 ln:h.length=1+k
 cl:Cl h
 b0:bget h 0=some (ouB k)
 br:∀ i,i<k→bget h (1+i)=some (.blk (boC 1000 fun _=>false) true)
structure DT (T:Nat→Nat→Bool) (h:List B):Prop where
 ln:h.length=1001
 cl:Cl h
 b0:bget h 0=some (ouB 1000)
 br:∀ i,i<1000→bget h (1+i)=some (.blk (boC 1000 (T i)) true)
structure DA where
 k:Nat
 h:List B
structure DB where
 k:Nat
 T:Nat→Nat→Bool
 h:List B
def upTB (T:Nat→Nat→Bool) (i j:Nat):Nat→Nat→Bool:=fun a=>if a=i then upB (T i) j true else T a
theorem DT.set {T:Nat→Nat→Bool} {h:List B} (d:DT T h) {i j:Nat} (hi:i<1000) (hj:j<1000):DT (upTB T i j) (bset h (1+i) (.blk (boC 1000 (upB (T i) j true)) true)):=by
 refine ⟨by rw [bset_len];exact d.ln,d.cl.set boC_blo,by rw [bset_other (by omega)];exact d.b0,fun a ha => ?_⟩
 unfold upTB
 by_cases e:a=i
 ·subst e
  rw [if_pos rfl]
  exact bget_same (by have:=d.ln;omega)
 ·rw [if_neg e,bset_other (by omega)]
  exact d.br a ha
theorem DT.ext {T T' : Nat→Nat→Bool} {h:List B} (d:DT T h) (e:∀ i j,i<1000→j<1000→T i j=T' i j):DT T' h :=
 ⟨d.ln,d.cl,d.b0,fun i hi=>by rw [← boC_ext (fun j hj=>e i j hi hj)];exact d.br i hi⟩
theorem DT.view {T:Nat→Nat→Bool} {h:List B} (d:DT T h) {m:Nat}:VwF h (m+3) (.ms 1 0 1000 0 1000 true) (tabB 1000 T):=by
 have hl:(outC 999 999 (fun i=>1+i) (hvL 1000)).length=1000:=by rw [outC_len]
 refine VwF.ms (d:=m+2) d.b0 hl (part_all hl) ?_
 unfold outC
 refine VwLF.map fun i hi => ?_
 have hi' : i<1000:=by simpa using hi
 have hv:hvL 1000 i=true:=decide_eq_true hi'
 rw [if_pos hv]
 exact VwF.ms (d:=m+1) (d.br i hi') boC_len (part_all boC_len) VwLF.bools
set_option maxRecDepth 100000 in
set_option maxHeartbeats 20000000 in
theorem direct_ok {c:Bool} {l:List El} (hv:vldE l=0):FunF FB md 72 [elsV c l] (tabB 1000 (dirT l)):=by
 have hl8:=(vld_good hv).1
 refine funF_rn rfl rfl ?_
 repeat' (first
 | (conv=>whnf)
   first
   | refine Rn.seq ?_
   | refine Rn.block ?_
   | refine Rn.reg ?_
   | (refine Idx.int ?_ ?_ ?_;(focus omega);(focus omega))
   | (refine Idx.int ?_ ?_ ?_;(focus decide);(focus decide))
   | refine Get.mk _ rfl ?_
   | (refine Req.mk ?_ ?_;(focus first | rfl | decide | exact ⟨rfl,rfl⟩ | exact ⟨rfl,by decide⟩ | exact (fun _=>rfl) | exact (fun h=>nomatch h) | (simp;done) | omega | (simp [big];done) | exact le_big (by omega) | exact lt_big (by omega))))
 all_goals try (exfalso;omega;done)
 have hcl:Cl [ouB 0]:=(show Cl [] from rfl).app (outC_ok fun i hi hh=>by unfold hvL at hh;simp at hh)
 refine Rn.loop (fun a:DA=>DH a.k a.h) (fun a=>[(4,.int .i64 (a.k:Nat))]) (fun a=>a.h) (fun a=>1000 - a.k) ⟨0,[ouB 0]⟩ ⟨Nat.zero_le _,rfl,hcl,rfl,fun i hi=>absurd hi (Nat.not_lt_zero i)⟩ (by
  rw [show ouB 0 = .blk (reps 1000 [.nilsl]) false by
   rw [show (1000:Nat)=999+1 from rfl,outC_none (n:=999) (m:=999) (rid:=fun i=>1+i)]
   exact congrArg (fun c=>B.blk c false) (outC_ext fun k _=>by unfold hvL;simp)]
  rfl) ?_
 rintro ⟨k,h⟩ ⟨w1,ln,cl,b0,br⟩
 dsimp only at w1 ln cl b0 br ⊢
 by_cases hk:k<1000
 ·have hq3:(outC 999 999 (fun i=>1+i) (hvL k)).length=1000 * 1∧0+k * 1+1≤(outC 999 999 (fun i=>1+i) (hvL k)).length:=by rw [outC_len];omega
  have hov:over (outC 999 999 (fun i=>1+i) (hvL k)) (0+k * 1) [.ms 1 (h.length+0) (1000 * 1) 0 1000 (decide (1000=1000))]=outC 999 999 (fun i=>1+i) (hvL (k+1)):=by
   rw [decide_eq_true rfl,show h.length+0=1+k by omega]
   have:=outC_set (n:=999) (m:=999) (rid:=fun i=>1+i) (hv:=hvL k) (i:=k) (by omega)
   refine this.trans (outC_ext fun j hj => ?_)
   unfold hvL
   by_cases h1:j=k <;> by_cases h2:j<k <;> simp [h1,h2] <;> omega
  repeat' (first
 | (conv=>whnf)
   first
   | (refine Br.decT ?_ ?_;(focus first | assumption | omega))
   | (refine Bnd.i64 ?_ ?_ ?_;(focus omega);(focus omega))
   | refine Rn.seq ?_
   | refine Rn.block ?_
   | refine Rn.cond ?_
   | refine Rn.reg ?_
   | refine Rn.skip ?_
   | refine fLen.mk ?_
   | refine fB.i0 ?_
   | refine fB.i1 ?_
   | refine Get.newj 0 rfl rfl ?_
   | refine fB.newj 0 rfl ?_
   | refine fB.mk ?_
   | refine Get.mk _ (bget_app b0) ?_
   | refine Req.mk hq3 ?_
   | refine fVg' hov ?_
   | (refine Idx.nat ?_ ?_;(focus omega))
   | (refine Idx.int ?_ ?_ ?_;(focus omega);(focus omega))
   | (refine Idx.int ?_ ?_ ?_;(focus decide);(focus decide))
   | (refine Req.mk ?_ ?_;(focus first | rfl | decide | exact ⟨rfl,rfl⟩ | exact ⟨rfl,by decide⟩ | exact (fun _=>rfl) | exact (fun h=>nomatch h) | (simp;done) | omega | (simp [big];done) | exact le_big (by omega) | exact lt_big (by omega))))
  all_goals try (exfalso;omega;done)
  have e1000:Int.toNat 1000=1000:=rfl
  have hD:DH (k+1) (bset (h++[.blk (reps (Int.toNat 1000) [.bool false]) true]) (0+0) (ouB (k+1))):=by
   rw [e1000,boC_zero]
   refine ⟨hk,by rw [bset_len,List.length_append,ln];simp;omega,(cl.app boC_blo).set (outC_ok fun i' hi' hh => ?_),bget_same (by rw [List.length_append];omega),fun i hi => ?_⟩
   ·rw [List.length_append,ln]
    unfold hvL at hh
    simp at hh ⊢
    omega
   ·rw [bset_other (by omega)]
    by_cases e:i=k
    ·subst e
     rw [← ln]
     exact bget_new (i:=0)
    ·exact bget_app (br i (by omega))
  refine NextP.mk ⟨k+1,_⟩ hD (by (try dsimp only);omega) (norm_all (r:=1+k) (o:=0) (by rw [hD.ln];omega) (by simp) (by decide) hD.b0 fun n hn => ?_)
  exact outC_blo hn (i:=k) (by omega) (by unfold hvL;simp)
 have hk' : k=1000:=by omega
 subst hk'
 repeat' (first
 | (conv=>whnf)
   first
   | refine Br.f ?_
   | refine Rn.seq ?_
   | refine Rn.block ?_
   | refine Rn.cond ?_
   | refine Rn.reg ?_
   | refine Rn.exit ?_
   | refine fLen.mk ?_
   | refine fB.i0 ?_
   | refine fB.mk ?_)
 all_goals try (exfalso;omega;done)
 refine Rn.loop (fun a:DB=>a.k≤l.length∧DT a.T a.h∧∀ i j,i<1000→j<1000→a.T i j=dirT (l.take a.k) i j) (fun a=>[(5,.int .i64 (a.k:Nat))]) (fun a=>a.h) (fun a=>l.length - a.k) ⟨0,fun _ _=>false,h⟩ ⟨Nat.zero_le _,⟨ln,cl,b0,br⟩,fun i j _ _=>by simp [dirT,dirsOf]⟩ rfl ?_
 rintro ⟨k,T,h2⟩ ⟨v1,d,v3⟩
 dsimp only at v1 d v3 ⊢
 by_cases hk2:k<l.length
 rotate_left
 ·have e:k=l.length:=by omega
  subst e
  rw [List.take_length] at v3
  have d' := d.ext v3
  have hvw:VwF h2 depth (.ms 1 0 1000 0 1000 true) (tabB 1000 (dirT l)):=d'.view (m:=61)
  repeat' (first
 | (conv=>whnf)
   first
   | refine hvw
   | (refine Br.decF ?_ ?_;(focus first | assumption | omega))
   | refine Rn.seq ?_
   | refine Rn.cond ?_
   | refine Rn.reg ?_
   | refine Rn.exit ?_
   | refine Rn.ret ?_
   | refine fLen.mk ?_
   | refine fB.i0 ?_
   | refine fB.mk ?_
   | refine Get.mk _ rfl ?_
   | refine LeavesF.of ?_)
  all_goals first | (exfalso;omega;done)
 obtain ⟨x,hx⟩:∃ p,l[k]?=some p:=⟨_,List.getElem?_eq_getElem hk2⟩
 have hpart:=elC_part hx
 obtain ⟨k1,k2,k3,k4⟩:=el_known hv (List.mem_of_getElem? hx)
 have hkn:Fun FB md 102 [elA x] (lw false (knP x.l)):=known_ok (by omega)
 have hds:∀ i j:Nat,dirT (l.take (k+1)) i j=(dirT (l.take k) i j || decide (((i:Int),(j:Int))∈nexts (knP x.l))):=fun i j=>by
  unfold dirT
  rw [dirs_snoc hx,k1, ← Bool.decide_or,decide_eq_decide,List.mem_append]
 generalize knP x.l=K at *
 obtain ⟨dd,hdd⟩:=lw_sl K
 rw [hdd] at hkn
 repeat' (first
 | (conv=>whnf)
   first
   | (refine Br.decT ?_ ?_;(focus first | assumption | omega))
   | refine Rn.seq ?_
   | refine Rn.block ?_
   | refine Rn.cond ?_
   | refine Rn.reg ?_
   | refine Rn.skip ?_
   | refine fLen.mk ?_
   | refine fB.i0 ?_
   | refine fB.mk ?_
   | refine Get.mk _ hpart ?_
   | refine call_fun rfl rfl hkn (.inl rfl) ?_
   | (refine Idx.nat ?_ ?_;(focus omega))
   | (refine Req.mk ?_ ?_;(focus first | rfl | decide | exact ⟨rfl,rfl⟩ | exact ⟨rfl,by decide⟩ | exact (fun _=>rfl) | exact (fun h=>nomatch h) | (simp;done) | omega | (simp [big];done) | exact le_big (by omega) | exact lt_big (by omega))))
 all_goals try (exfalso;omega;done)
 refine Rn.loop (fun a:DB=>1≤a.k∧(a.k≤K.length∨a.k=1)∧DT a.T a.h∧∀ i j,i<1000→j<1000→a.T i j=(dirT (l.take k) i j || decide (((i:Int),(j:Int))∈nexts (K.take a.k)))) (fun a=>[(7,.int .i64 (a.k:Nat))]) (fun a=>a.h) (fun a=>K.length - a.k) ⟨1,T,h2⟩ ⟨Nat.le_refl _,.inr rfl,d,fun i j h1 h2=>by
  show T i j=(dirT (l.take k) i j || decide (((i:Int),(j:Int))∈nexts (K.take 1)))
  have:nexts (K.take 1)=[]:=by cases K <;> rfl
  rw [v3 i j h1 h2,this]
  simp⟩ rfl ?_
 rintro ⟨j,T2,h3⟩ ⟨z1,z2,d2,z3⟩
 dsimp only at z1 z2 d2 z3 ⊢
 by_cases hj:j<K.length
 rotate_left
 ·have hT:∀ a b,a<1000→b<1000→T2 a b=dirT (l.take (k+1)) a b:=fun a b h1 h2=>by
   rw [z3 a b h1 h2,hds,show K.take j=K from List.take_of_length_le (by omega)]
  repeat' (first
 | (conv=>whnf)
   first
   | (refine Br.decF ?_ ?_;(focus first | assumption | omega))
   | (refine Bnd.i64 ?_ ?_ ?_;(focus omega);(focus omega))
   | refine Rn.seq ?_
   | refine Rn.cond ?_
   | refine Rn.reg ?_
   | refine Rn.exit ?_
   | refine fLen.mk ?_
   | refine fB.i0 ?_
   | refine fB.mk ?_)
  all_goals first | (exfalso;omega;done) | exact NextP.mk ⟨k+1,T2,h3⟩ ⟨hk2,d2,hT⟩ (by (try dsimp only);omega) (norm_same (d2.ln.trans (by rw [ln])))
 obtain ⟨jj,rfl⟩:∃ jj,j=jj+1:=⟨j - 1,by omega⟩
 obtain ⟨a,ha,hc1⟩:=ofInts_cell (l:=K) (i:=jj) (by omega)
 obtain ⟨b,hb,hc2⟩:=ofInts_cell hj
 have har:=k4 a (List.mem_of_getElem? ha)
 have hbr:=k4 b (List.mem_of_getElem? hb)
 obtain ⟨a', rfl⟩:∃ m' : Nat,a=(m' : Int):=⟨a.toNat,by omega⟩
 obtain ⟨b', rfl⟩:∃ m' : Nat,b=(m' : Int):=⟨b.toNat,by omega⟩
 have ha1:a' < 1000:=by omega
 have hb1:b' < 1000:=by omega
 have hnx:nexts (K.take (jj+1+1))=nexts (K.take (jj+1))++[((a' : Int),(b' : Int))]:=by
  have e1:K.take (jj+1+1)=K.take (jj+1)++[(b' : Int)]:=by rw [List.take_add_one,hb];rfl
  have e2:K.take (jj+1)=K.take jj++[(a' : Int)]:=by rw [List.take_add_one,ha];rfl
  rw [e1,nexts_snoc,if_neg (by rw [e2];simp),e2,lastM_snoc]
 have d3:=d2.set ha1 hb1
 have hT3:∀ i j,i<1000→j<1000→upTB T2 a' b' i j=(dirT (l.take k) i j || decide (((i:Int),(j:Int))∈nexts (K.take (jj+1+1)))):=fun i j h1 h2=>by
  have:=z3 i j h1 h2
  rw [hnx]
  unfold upTB
  by_cases e:i=a'
  ·subst e
   rw [if_pos rfl]
   unfold upB
   by_cases e2:j=b'
   ·subst e2;simp
   ·rw [if_neg e2,this]
    congr 1
    rw [decide_eq_decide,List.mem_append,List.mem_singleton,Prod.mk.injEq]
    constructor
    ·exact .inl
    ·rintro (h | ⟨_,h⟩)
     ·exact h
     ·omega
  ·rw [if_neg e,this]
   congr 1
   rw [decide_eq_decide,List.mem_append,List.mem_singleton,Prod.mk.injEq]
   constructor
   ·exact .inl
   ·rintro (h | ⟨h,_⟩)
    ·exact h
    ·omega
 have hw:IntKind.i64.wrap (((jj+1:Nat):Int) - 1)=(jj:Nat):=by rw [wrap_i64 (by omega) (by omega)];omega
 have g0:=outC_get (n:=999) (m:=999) (rid:=fun i=>1+i) (hv:=hvL 1000) (i:=a') (by omega) (by unfold hvL;simp;omega)
 have gr:=d2.br a' ha1
 have g1:=d2.b0
 have hov:over (boC 1000 (T2 a')) (0+b' * 1) [.bool true]=boC 1000 (upB (T2 a') b' true):=boC_set hb1
 have hlr:(boC 1000 (T2 a')).length=(999+1) * 1∧0+b' * 1+1≤(boC 1000 (T2 a')).length:=by rw [boC_len];omega
 have hlr0:(boC 1000 (T2 a')).length=(999+1) * 1:=by rw [boC_len]
 have hlo:(outC 999 999 (fun i=>1+i) (hvL 1000)).length=1000 * 1:=by rw [outC_len]
 repeat' (first
 | (conv=>whnf)
   first
   | refine Bnd.eq hw ?_
   | (refine Br.decT ?_ ?_;(focus first | assumption | omega))
   | (refine Bnd.i64 ?_ ?_ ?_;(focus omega);(focus omega))
   | refine Rn.seq ?_
   | refine Rn.block ?_
   | refine Rn.cond ?_
   | refine Rn.reg ?_
   | refine Rn.skip ?_
   | refine fLen.mk ?_
   | refine fB.i0 ?_
   | refine fB.mk ?_
   | refine Get.mk _ hc1 ?_
   | refine Get.mk _ hc2 ?_
   | refine Get.mk _ g1 ?_
   | refine Get.mk _ g0 ?_
   | refine Get.mk _ gr ?_
   | refine Req.mk hlr ?_
   | refine Req.mk hlr0 ?_
   | refine fVg' hov ?_
   | (refine Idx.nat ?_ ?_;(focus omega))
   | (refine Req.mk ?_ ?_;(focus first | rfl | decide | exact ⟨rfl,rfl⟩ | exact ⟨rfl,by decide⟩ | exact (fun _=>rfl) | exact (fun h=>nomatch h) | (simp;done) | omega | (simp [big];done) | exact le_big (by omega) | exact lt_big (by omega))))
 all_goals first | (exfalso;omega;done) | exact NextP.mk ⟨jj+1+1,upTB T2 a' b', _⟩ ⟨by (try dsimp only);omega,.inl hj,d3,hT3⟩ (by (try dsimp only);omega) (norm_same (d3.ln.trans d.ln.symm))
end Go.Dr.T
namespace Go.Dr.T
inductive RT (T:Nat→Nat→Bool) (a:Nat):Nat→Prop
 | base:RT T a a
 | step {q k:Nat}:RT T a q→T q k=true→1≤k→k<1000→RT T a k
def CM (T:Nat→Nat→Bool) (a b:Nat):Prop:=∃ q,RT T a q∧T q b=true
theorem RT.lt {T:Nat→Nat→Bool} {a k:Nat} (ha:a<1000) (h:RT T a k):k<1000:=by
 cases h with
 | base=>exact ha
 | step _ _ _ h=>exact h
def unsn (sn:Nat→Bool):Nat:=((List.range 1000).filter fun k => !sn k).length
theorem unsn_up {sn:Nat→Bool} {k:Nat} (hk:k<1000) (hs:sn k=false):unsn (upB sn k true)+1=unsn sn:=by
 unfold unsn
 have e:(List.range 1000).filter (fun j => !upB sn k true j)=((List.range 1000).filter fun j => !sn j).erase k:=by
  rw [List.Nodup.erase_eq_filter (List.nodup_range.filter _),List.filter_filter]
  apply List.filter_congr
  intro j _
  unfold upB
  by_cases h:j=k
  ·subst h;simp
  ·rw [if_neg h];simp [h]
 have hm:k∈(List.range 1000).filter fun j => !sn j:=List.mem_filter.2 ⟨List.mem_range.2 hk,by simp [hs]⟩
 rw [e,List.length_erase_of_mem hm]
 have:=List.length_pos_of_mem hm
 omega
def Cd (T:Nat→Nat→Bool) (b:Nat) (sn:Nat→Bool) (k:Nat):Prop:=T k b=false∧∀ m,1≤m→m<1000→T k m=true→sn m=true
theorem Cd.up {T:Nat→Nat→Bool} {b k j:Nat} {sn:Nat→Bool} (h:Cd T b sn k):Cd T b (upB sn j true) k:=⟨h.1,fun m h1 h2 h3=>by
 unfold upB
 split
 ·rfl
 ·exact h.2 m h1 h2 h3⟩
structure CQ (T:Nat→Nat→Bool) (a b:Nat) (Q:List Nat) (sn:Nat→Bool):Prop where
 rc:∀ q∈Q,RT T a q
 sr:∀ k,sn k=true→RT T a k
 sb:sn b=false
 cl:∀ k,k=a∨sn k=true→k∈Q∨Cd T b sn k
theorem CQ.start {T:Nat→Nat→Bool} {a b:Nat}:CQ T a b [a] (fun _=>false) :=
 ⟨fun q hq=>by rw [List.mem_singleton] at hq;subst hq;exact .base,fun k hk=>absurd hk (by decide),rfl,fun k hk=>.inl (by
  rcases hk with h | h
  ·subst h;simp
  ·cases h)⟩
theorem CQ.fin {T:Nat→Nat→Bool} {a b:Nat} {sn:Nat→Bool} (c:CQ T a b [] sn):¬ CM T a b:=by
 rintro ⟨q,hr,hb⟩
 have key:∀ q,RT T a q→Cd T b sn q∧(q=a∨sn q=true):=fun q h=>by
  have hq:q=a∨sn q=true:=by
   induction h with
   | base=>exact .inl rfl
   | step _ h1 h2 h3 ih =>
    rcases c.cl _ ih with h | h
    ·cases h
    ·exact .inr (h.2 _ h2 h3 h1)
  rcases c.cl _ hq with h | h
  ·cases h
  ·exact ⟨h,hq⟩
 rw [(key q hr).1.1] at hb
 cases hb
structure CI (T:Nat→Nat→Bool) (a b m N k:Nat) (Q:List Nat) (sn:Nat→Bool):Prop where
 k1:1≤k
 k2:k≤1000
 rc:∀ q∈Q,RT T a q
 sr:∀ k,sn k=true→RT T a k
 sb:sn b=false
 rm:RT T a m
 nb:∀ j,1≤j→j<k→T m j=true→sn j=true
 nt:b<k→T m b=false
 cl:∀ k,k=a∨sn k=true→k∈Q∨k=m∨Cd T b sn k
 ms:2 * unsn sn+Q.length≤N
theorem CQ.pop {T:Nat→Nat→Bool} {a b m:Nat} {Q:List Nat} {sn:Nat→Bool} (c:CQ T a b (m :: Q) sn) (hb:1≤b):CI T a b m (2 * unsn sn+Q.length) 1 Q sn :=
 ⟨Nat.le_refl _,by decide,fun q hq=>c.rc q (by simp [hq]),c.sr,c.sb,c.rc m (by simp),fun j h1 h2=>by omega,fun h=>by omega,fun k hk=>by
  rcases c.cl k hk with h | h
  ·rcases List.mem_cons.1 h with h | h
   ·exact .inr (.inl h)
   ·exact .inl h
  ·exact .inr (.inr h),Nat.le_refl _⟩
theorem CI.skip {T:Nat→Nat→Bool} {a b m N k:Nat} {Q:List Nat} {sn:Nat→Bool} (c:CI T a b m N k Q sn) (hk:k<1000) (h:T m k=false∨sn k=true):CI T a b m N (k+1) Q sn :=
 ⟨by omega,hk,c.rc,c.sr,c.sb,c.rm,fun j h1 h2 h3=>by
  by_cases e:j=k
  ·subst e
   rcases h with h | h
   ·rw [h] at h3;cases h3
   ·exact h
  ·exact c.nb j h1 (by omega) h3,fun h2=>by
  by_cases e:b=k
  ·subst e
   rcases h with h | h
   ·exact h
   ·rw [c.sb] at h;cases h
  ·exact c.nt (by omega),c.cl,c.ms⟩
theorem CI.push {T:Nat→Nat→Bool} {a b m N k:Nat} {Q:List Nat} {sn:Nat→Bool} (c:CI T a b m N k Q sn) (hk:k<1000) (h1:T m k=true) (h2:sn k=false) (h3:k≠b):CI T a b m N (k+1) (Q++[k]) (upB sn k true):=by
 have hr:RT T a k:=.step c.rm h1 c.k1 hk
 have hu:∀ j,sn j=true→upB sn k true j=true:=fun j hj=>by
  unfold upB;split
  ·rfl
  ·exact hj
 have hi:∀ j,upB sn k true j=true→j=k∨sn j=true:=fun j hj=>by
  unfold upB at hj
  by_cases e:j=k
  ·exact .inl e
  ·rw [if_neg e] at hj;exact .inr hj
 refine ⟨by omega,hk,fun q hq => ?_,fun j hj => ?_,by unfold upB;rw [if_neg (fun e=>h3 e.symm)];exact c.sb,c.rm,fun j g1 g2 g3 => ?_,fun g=>c.nt (by omega),fun j hj => ?_,?_⟩
 ·rcases List.mem_append.1 hq with hq | hq
  ·exact c.rc q hq
  ·rw [List.mem_singleton] at hq;subst hq;exact hr
 ·rcases hi j hj with e | e
  ·subst e;exact hr
  ·exact c.sr j e
 ·by_cases e:j=k
  ·subst e;unfold upB;rw [if_pos rfl]
  ·exact hu j (c.nb j g1 (by omega) g3)
 ·have old:j=a∨sn j=true→j∈Q++[k]∨j=m∨Cd T b (upB sn k true) j:=fun h=>by
   rcases c.cl j h with h | h | h
   ·exact .inl (List.mem_append_left _ h)
   ·exact .inr (.inl h)
   ·exact .inr (.inr h.up)
  rcases hj with hj | hj
  ·exact old (.inl hj)
  ·rcases hi j hj with e | e
   ·subst e;exact .inl (by simp)
   ·exact old (.inr e)
 ·have:=unsn_up hk h2
  have:=c.ms
  rw [List.length_append]
  simp
  omega
theorem CI.fin {T:Nat→Nat→Bool} {a b m N:Nat} {Q:List Nat} {sn:Nat→Bool} (c:CI T a b m N 1000 Q sn) (hb:b<1000):CQ T a b Q sn :=
 ⟨c.rc,c.sr,c.sb,fun k hk=>by
  rcases c.cl k hk with h | h | h
  ·exact .inl h
  ·subst h;exact .inr ⟨c.nt hb,fun j h1 h2 h3=>c.nb j h1 h2 h3⟩
  ·exact .inr h⟩
theorem CI.yes {T:Nat→Nat→Bool} {a b m N k:Nat} {Q:List Nat} {sn:Nat→Bool} (c:CI T a b m N k Q sn) (h:T m b=true):CM T a b:=⟨m,c.rm,h⟩
end Go.Dr.T
