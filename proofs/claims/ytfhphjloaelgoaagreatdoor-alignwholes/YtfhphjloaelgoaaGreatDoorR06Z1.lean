/- Chapter 06: the document's round that is named, and Round. -/
import Derived.Test.YtfhphjloaelgoaaGreatDoorR06Y9
namespace Go.Dr.T
def wyN (l:List El) (m:Nat):Option (List Nat):=(pgoN (dirT l) m 1002 [[m]] (fun _=>false)).getD none
def rStN (b y:Option (List Nat)):Option (List Nat):=match y with
 | none=>b
 | some p=>match b with
  | none=>some p
  | some x=>if p.length<x.length then some p else some x
def rnN (w:Nat→Option (List Nat)):Nat→Option (List Nat)
 | 0=>none
 | m+1=>rStN (rnN w m) (w (m+1))
def rndN (l:List El):Option (List Nat):=rnN (wyN l) 999
theorem dirT_pM {l:List El} (hv:vldE l=0) (i j:Nat):dirT l i j=true ↔ (j:Int)∈pM (pAll l) (i:Int):=by
 have g:=pi_all (l:=l) (fun x hx p hp=>((vld_el hv hx).2 p hp).1)
 unfold dirT
 rw [decide_eq_true_eq,g.ls]
theorem wyN_way {l:List El} (hv:vldE l=0) {m:Nat} (hm:m<1000):pgoN (dirT l) m 1002 [[m]] (fun _=>false)=some (wyN l m)∧wayP (pAll l) m m m=(wyN l m).map nI:=by
 obtain ⟨r,h1,h2⟩:=way_N (wg_all hv) (fun i j _ _=>dirT_pM hv i j) hm
 have e:wyN l m=r:=by unfold wyN;rw [h1];rfl
 rw [e]
 exact ⟨h1,h2⟩
theorem wyN_ne {l:List El} (hv:vldE l=0) {m:Nat} (hm:m<1000):wyN l m≠some []:=fun h=>by
 have h1:=(wyN_way hv hm).2
 rw [h] at h1
 exact (wg_all hv).ne h1
theorem wyN_fun {l:List El} (hv:vldE l=0) {m:Nat} (hm:m<1000):Fun FB md 101 [tabB 1000 (dirT l),.int .i64 (m:Nat)] (wayNV (wyN l m)):=round_ok hm (wyN_way hv hm).1
theorem rnN_P {l:List El} (hv:vldE l=0):∀ {n:Nat},n<1000→(mks.ofR n).foldl (rStep fun k=>wayP (pAll l) k k k) none=(rnN (wyN l) n).map nI
 | 0,_=>rfl
 | n+1,h=>by
  rw [mks.ofR,List.foldl_append,rnN_P hv (by omega)]
  show rStep _ _ _=_
  rw [show rnN (wyN l) (n+1)=rStN (rnN (wyN l) n) (wyN l (n+1)) from rfl]
  unfold rStep
  rw [(wyN_way hv h).2]
  generalize wyN l (n+1)=y
  generalize rnN (wyN l) n=b
  cases y with
  | none=>rfl
  | some p =>
   cases b with
   | none=>rfl
   | some x =>
    unfold rStN
    simp only [Option.map_some,nI_len]
    split <;> rfl
theorem rndP_N {l:List El} (hv:vldE l=0):rndP l=(rndN l).map nI:=rnN_P hv (by decide)
theorem rnN_ne {l:List El} (hv:vldE l=0):∀ {n:Nat},n<1000→rnN (wyN l) n≠some []
 | 0,_=>by simp [rnN]
 | n+1,h=>by
  have h1:=rnN_ne hv (n:=n) (by omega)
  have h2:=wyN_ne hv h
  unfold rnN rStN
  split
  ·exact h1
  ·rename_i p hp
   split
   ·rw [← hp];exact h2
   ·rename_i x hx
    split
    ·rw [← hp];exact h2
    ·rw [← hx];exact h1
def bstN:Option (List Nat)→V
 | none=>.nilsl
 | some p=>.sl (decide (p.length=1)) p.length (ofInts (nI p))
set_option maxRecDepth 100000 in
set_option maxHeartbeats 20000000 in
theorem named_ok {c:Bool} {l:List El} (hv:vldE l=0):Fun FB md 71 [elsV c l] (wayNV (rndN l)):=by
 have hd:=direct_ok (c:=c) hv
 have hwN:=fun m (hm:m<1000)=>wyN_fun hv hm
 have hne:=fun m (hm:m<1000)=>wyN_ne hv hm
 have hbn:=fun m (hm:m<1000)=>rnN_ne hv hm
 unfold rndN
 generalize wyN l=w at *
 generalize dirT l=T at *
 refine fun_of rfl rfl ?_
 repeat' (first
 | (conv=>whnf)
   first
   | refine call_fresh rfl rfl hd ?_)
 all_goals try (exfalso;omega;done)
 refine LoopP.by (fun m:Nat=>1≤m∧m≤1000) (fun m=>[(4,bstN (rnN w (m - 1))),(5,.int .i64 (m:Nat))]) (fun _=>[]) (fun m=>1000 - m) 1 (by decide) rfl ?_
 rintro m ⟨z1,z2⟩
 dsimp only
 by_cases hm:m<1000
 rotate_left
 ·have e:m=1000:=by omega
  subst e
  rw [show rnN w (1000 - 1)=rnN w 999 from rfl]
  have:=hbn 999 (by decide)
  generalize rnN w 999=b at *
  cases b with
  | none =>
   repeat' (first
 | (conv=>whnf)
   first
   | refine Br.f ?_
   | refine Get.mk _ rfl ?_
   | refine Leaves.of ?_
   | refine Vw.nil)
   all_goals first | rfl | (exfalso;omega;done)
  | some p =>
   repeat' (first
 | (conv=>whnf)
   first
   | refine Br.f ?_
   | refine Get.mk _ rfl ?_
   | refine Leaves.of ?_
   | refine Vw.sl)
   all_goals first | rfl | (exfalso;omega;done)
 obtain ⟨k,rfl⟩:∃ k,m=k+1:=⟨m - 1,by omega⟩
 have hw:=hwN (k+1) hm
 have hx:=hne (k+1) hm
 have hb:=hbn k (by omega)
 have hup:rnN w (k+1)=rStN (rnN w k) (w (k+1)):=rfl
 rw [Nat.add_sub_cancel]
 generalize w (k+1)=y at *
 generalize hB:rnN w k=b at *
 unfold rStN at hup
 have hnx:∀ {z:Option (List Nat)} {v:V},rnN w (k+1)=z→v=bstN z→v=bstN (rnN w (k+1+1 - 1)):=fun h1 h2=>by rw [h2, ← h1];rfl
 cases y with
 | none =>
  dsimp only at hup
  cases b with
  | none =>
   repeat' (first
 | (conv=>whnf)
   first
   | refine Br.f ?_
   | (refine Br.decT ?_ ?_;(focus first | assumption | omega))
   | (refine Bnd.i64 ?_ ?_ ?_;(focus omega);(focus omega))
   | refine call_fun rfl rfl hw (.inl rfl) ?_)
   all_goals first | (exfalso;omega;done) | exact NextP.mk (k+1+1) (by omega) (by omega) (by rw [Nat.add_sub_cancel,hup];rfl)
  | some x =>
   repeat' (first
 | (conv=>whnf)
   first
   | refine Br.f ?_
   | (refine Br.decT ?_ ?_;(focus first | assumption | omega))
   | (refine Bnd.i64 ?_ ?_ ?_;(focus omega);(focus omega))
   | refine call_fun rfl rfl hw (.inl rfl) ?_)
   all_goals first | (exfalso;omega;done) | exact NextP.mk (k+1+1) (by omega) (by omega) (by rw [Nat.add_sub_cancel,hup];rfl)
 | some p =>
  have hpl:0<p.length:=List.length_pos_iff.2 fun e=>hx (by rw [e])
  cases b with
  | none =>
   dsimp only at hup
   repeat' (first
 | (conv=>whnf)
   first
   | refine Br.t ?_
   | (refine Br.decT ?_ ?_;(focus first | assumption | omega))
   | (refine Bnd.i64 ?_ ?_ ?_;(focus omega);(focus omega))
   | refine call_fun rfl rfl hw (.inl rfl) ?_)
   all_goals first | (exfalso;omega;done) | exact NextP.mk (k+1+1) (by omega) (by omega) (by rw [Nat.add_sub_cancel,hup];rfl)
  | some x =>
   have hxl:0<x.length:=List.length_pos_iff.2 fun e=>hb (by rw [e])
   dsimp only at hup
   by_cases hlt:p.length<x.length
   ·rw [if_pos hlt] at hup
    repeat' (first
 | (conv=>whnf)
   first
   | (refine Br.decT ?_ ?_;(focus first | assumption | omega))
   | (refine Br.decF ?_ ?_;(focus first | assumption | omega))
   | (refine Bnd.i64 ?_ ?_ ?_;(focus omega);(focus omega))
   | refine call_fun rfl rfl hw (.inl rfl) ?_)
    all_goals first | (exfalso;omega;done) | exact NextP.mk (k+1+1) (by omega) (by omega) (by rw [Nat.add_sub_cancel,hup];rfl)
   ·rw [if_neg hlt] at hup
    repeat' (first
 | (conv=>whnf)
   first
   | (refine Br.decT ?_ ?_;(focus first | assumption | omega))
   | (refine Br.decF ?_ ?_;(focus first | assumption | omega))
   | (refine Bnd.i64 ?_ ?_ ?_;(focus omega);(focus omega))
   | refine call_fun rfl rfl hw (.inl rfl) ?_)
    all_goals first | (exfalso;omega;done) | exact NextP.mk (k+1+1) (by omega) (by omega) (by rw [Nat.add_sub_cancel,hup];rfl)
def rndR (l:List El):V:=if vldE l≠0 then .tup [.sl true 0 [],.int .i64 (vldE l)] else .tup [wayNV (rndN l),.int .i64 0]
set_option maxRecDepth 100000 in
set_option maxHeartbeats 20000000 in
theorem refRound_ok {c:Bool} {l:List El}:Fun FB md 37 [elsV c l] (rndR l):=by
 have hd:=valid_ok (c:=c) (l:=l)
 unfold rndR
 by_cases hv:vldE l=0
 ·rw [if_neg (fun h=>h hv)]
  have hw:=named_ok (c:=c) hv
  rw [hv] at hd
  generalize rndN l=r at *
  cases r
  all_goals
   refine fun_of rfl rfl ?_
   repeat' (first
 | (conv=>whnf)
   first
   | refine Br.f ?_
   | refine call_fun rfl rfl hd (.inl rfl) ?_
   | refine call_fun rfl rfl hw (.inl rfl) ?_
   | refine Get.mk _ rfl ?_
   | refine Leaves.of ?_
   | refine Vw.int ?_
   | refine Vw.sl
   | refine Vw.tup ?_
   | refine VwL.cons ?_ ?_
   | refine VwL.nil)
  all_goals first | rfl | (exfalso;omega;done)
 ·rw [if_pos hv]
  generalize vldE l=e at *
  refine fun_of rfl rfl ?_
  repeat' (first
 | (conv=>whnf)
   first
   | (refine Br.decF ?_ ?_;(focus first | assumption | omega))
   | refine Br.not ?_
   | refine call_fun rfl rfl hd (.inl rfl) ?_
   | refine Get.mk _ rfl ?_
   | refine Leaves.of ?_
   | refine Vw.int ?_
   | refine Vw.nil
   | refine Vw.tup ?_
   | refine VwL.cons ?_ ?_
   | refine VwL.nil)
  all_goals first | rfl | (exfalso;omega;done)
end Go.Dr.T
