/- Chapter 06: the document's round that is named, and Round. -/
import Derived.Test.YtfhphjloaelgoaaGreatDoorR06Y9
import Derived.Test.YtfhphjloaelgoaaGreatDoorG15
import Derived.Test.YtfhphjloaelgoaaGreatDoorG17
import Derived.Test.YtfhphjloaelgoaaGreatDoorG10
import Derived.Test.YtfhphjloaelgoaaGreatDoorG13
namespace Go.Dr.T
def wyN (l:List El) (m:Nat):Option (List Nat):=(pgoN (dirT l) m 1002 [[m]] (fun _=>false)).getD none
def rStN (b y:Option (List Nat)):Option (List Nat):=match y with
 | none=>b
 | some p=>match b with
  | none=>some p
  | some x=>if p.length<x.length then some p else some x
def rnN (w:Nat→Option (List Nat)):Nat→Option (List Nat)
 | 0=>none
 | m+1=>rStN (rnN w m) (w (m+1))
def rndN (l:List El):Option (List Nat):=rnN (wyN l) 999
theorem dirT_pM {l:List El} (hv:vldE l=0) (i j:Nat):dirT l i j=true ↔ (j:Int)∈pM (pAll l) (i:Int):=by
 have g:=pi_all (l:=l) (fun x hx p hp=>((vld_el hv hx).2 p hp).1)
 unfold dirT
 rw [decide_eq_true_eq,g.ls]
theorem wyN_way {l:List El} (hv:vldE l=0) {m:Nat} (hm:m<1000):pgoN (dirT l) m 1002 [[m]] (fun _=>false)=some (wyN l m)∧wayP (pAll l) m m m=(wyN l m).map nI:=by
 obtain ⟨r,h1,h2⟩:=way_N (wg_all hv) (fun i j _ _=>dirT_pM hv i j) hm
 have e:wyN l m=r:=by unfold wyN;rw [h1];rfl
 rw [e]
 exact ⟨h1,h2⟩
theorem wyN_ne {l:List El} (hv:vldE l=0) {m:Nat} (hm:m<1000):wyN l m≠some []:=fun h=>by
 have h1:=(wyN_way hv hm).2
 rw [h] at h1
 exact (wg_all hv).ne h1
theorem wyN_fun {l:List El} (hv:vldE l=0) {m:Nat} (hm:m<1000):Fun FB md 101 [tabB 1000 (dirT l),.int .i64 (m:Nat)] (wayNV (wyN l m)):=round_ok hm (wyN_way hv hm).1
theorem rnN_P {l:List El} (hv:vldE l=0):∀ {n:Nat},n<1000→(mks.ofR n).foldl (rStep fun k=>wayP (pAll l) k k k) none=(rnN (wyN l) n).map nI
 | 0,_=>rfl
 | n+1,h=>by
  rw [mks.ofR,List.foldl_append,rnN_P hv (by omega)]
  show rStep _ _ _=_
  rw [show rnN (wyN l) (n+1)=rStN (rnN (wyN l) n) (wyN l (n+1)) from rfl]
  unfold rStep
  rw [(wyN_way hv h).2]
  generalize wyN l (n+1)=y
  generalize rnN (wyN l) n=b
  cases y with
  | none=>rfl
  | some p =>
   cases b with
   | none=>rfl
   | some x =>
    unfold rStN
    simp only [Option.map_some,nI_len]
    split <;> rfl
theorem rndP_N {l:List El} (hv:vldE l=0):rndP l=(rndN l).map nI:=rnN_P hv (by decide)
theorem rnN_ne {l:List El} (hv:vldE l=0):∀ {n:Nat},n<1000→rnN (wyN l) n≠some []
 | 0,_=>by simp [rnN]
 | n+1,h=>by
  have h1:=rnN_ne hv (n:=n) (by omega)
  have h2:=wyN_ne hv h
  unfold rnN rStN
  split
  ·exact h1
  ·rename_i p hp
   split
   ·rw [← hp];exact h2
   ·rename_i x hx
    split
    ·rw [← hp];exact h2
    ·rw [← hx];exact h1
def bstN:Option (List Nat)→V
 | none=>.nilsl
 | some p=>.sl (decide (p.length=1)) p.length (ofInts (nI p))
set_option maxRecDepth 100000 in
set_option maxHeartbeats 20000000 in
theorem named_ok {c:Bool} {l:List El} (hv:vldE l=0):Fun FB md 71 [elsV c l] (wayNV (rndN l)):=by
 have hd:=direct_ok (c:=c) hv
 have hwN:=fun m (hm:m<1000)=>wyN_fun hv hm
 have hne:=fun m (hm:m<1000)=>wyN_ne hv hm
 have hbn:=fun m (hm:m<1000)=>rnN_ne hv hm
 unfold rndN
 generalize wyN l=w at *
 generalize dirT l=T at *
 refine fun_of rfl rfl ?_
 repeat' (first
 | (conv=>whnf)
   first
   | refine call_fresh rfl rfl hd ?_)
 all_goals try (exfalso;omega;done)
 refine LoopP.by (fun m:Nat=>1≤m∧m≤1000) (fun m=>[(4,bstN (rnN w (m - 1))),(5,.int .i64 (m:Nat))]) (fun _=>[]) (fun m=>1000 - m) 1 (by decide) rfl ?_
 rintro m ⟨z1,z2⟩
 dsimp only
 by_cases hm:m<1000
 rotate_left
 ·have e:m=1000:=by omega
  subst e
  rw [show rnN w (1000 - 1)=rnN w 999 from rfl]
  have:=hbn 999 (by decide)
  generalize rnN w 999=b at *
  cases b with
  | none =>
   repeat' (first
 | (conv=>whnf)
   first
   | refine Br.f ?_
   | refine Get.mk _ rfl ?_
   | refine Leaves.of ?_
   | refine Vw.nil)
   all_goals first | rfl | (exfalso;omega;done)
  | some p =>
   repeat' (first
 | (conv=>whnf)
   first
   | refine Br.f ?_
   | refine Get.mk _ rfl ?_
   | refine Leaves.of ?_
   | refine Vw.sl)
   all_goals first | rfl | (exfalso;omega;done)
 obtain ⟨k,rfl⟩:∃ k,m=k+1:=⟨m - 1,by omega⟩
 have hw:=hwN (k+1) hm
 have hx:=hne (k+1) hm
 have hb:=hbn k (by omega)
 have hup:rnN w (k+1)=rStN (rnN w k) (w (k+1)):=rfl
 rw [Nat.add_sub_cancel]
 generalize w (k+1)=y at *
 generalize hB:rnN w k=b at *
 unfold rStN at hup
 have hnx:∀ {z:Option (List Nat)} {v:V},rnN w (k+1)=z→v=bstN z→v=bstN (rnN w (k+1+1 - 1)):=fun h1 h2=>by rw [h2, ← h1];rfl
 cases y with
 | none =>
  dsimp only at hup
  cases b with
  | none =>
   repeat' (first
 | (conv=>whnf)
   first
   | refine Br.f ?_
   | (refine Br.decT ?_ ?_;(focus first | assumption | omega))
   | (refine Bnd.i64 ?_ ?_ ?_;(focus omega);(focus omega))
   | refine call_fun rfl rfl hw (.inl rfl) ?_)
   all_goals first | (exfalso;omega;done) | exact NextP.mk (k+1+1) (by omega) (by omega) (by rw [Nat.add_sub_cancel,hup];rfl)
  | some x =>
   repeat' (first
 | (conv=>whnf)
   first
   | refine Br.f ?_
   | (refine Br.decT ?_ ?_;(focus first | assumption | omega))
   | (refine Bnd.i64 ?_ ?_ ?_;(focus omega);(focus omega))
   | refine call_fun rfl rfl hw (.inl rfl) ?_)
   all_goals first | (exfalso;omega;done) | exact NextP.mk (k+1+1) (by omega) (by omega) (by rw [Nat.add_sub_cancel,hup];rfl)
 | some p =>
  have hpl:0<p.length:=List.length_pos_iff.2 fun e=>hx (by rw [e])
  cases b with
  | none =>
   dsimp only at hup
   repeat' (first
 | (conv=>whnf)
   first
   | refine Br.t ?_
   | (refine Br.decT ?_ ?_;(focus first | assumption | omega))
   | (refine Bnd.i64 ?_ ?_ ?_;(focus omega);(focus omega))
   | refine call_fun rfl rfl hw (.inl rfl) ?_)
   all_goals first | (exfalso;omega;done) | exact NextP.mk (k+1+1) (by omega) (by omega) (by rw [Nat.add_sub_cancel,hup];rfl)
  | some x =>
   have hxl:0<x.length:=List.length_pos_iff.2 fun e=>hb (by rw [e])
   dsimp only at hup
   by_cases hlt:p.length<x.length
   ·rw [if_pos hlt] at hup
    repeat' (first
 | (conv=>whnf)
   first
   | (refine Br.decT ?_ ?_;(focus first | assumption | omega))
   | (refine Br.decF ?_ ?_;(focus first | assumption | omega))
   | (refine Bnd.i64 ?_ ?_ ?_;(focus omega);(focus omega))
   | refine call_fun rfl rfl hw (.inl rfl) ?_)
    all_goals first | (exfalso;omega;done) | exact NextP.mk (k+1+1) (by omega) (by omega) (by rw [Nat.add_sub_cancel,hup];rfl)
   ·rw [if_neg hlt] at hup
    repeat' (first
 | (conv=>whnf)
   first
   | (refine Br.decT ?_ ?_;(focus first | assumption | omega))
   | (refine Br.decF ?_ ?_;(focus first | assumption | omega))
   | (refine Bnd.i64 ?_ ?_ ?_;(focus omega);(focus omega))
   | refine call_fun rfl rfl hw (.inl rfl) ?_)
    all_goals first | (exfalso;omega;done) | exact NextP.mk (k+1+1) (by omega) (by omega) (by rw [Nat.add_sub_cancel,hup];rfl)
def rndR (l:List El):V:=if vldE l≠0 then .tup [.sl true 0 [],.int .i64 (vldE l)] else .tup [wayNV (rndN l),.int .i64 0]
set_option maxRecDepth 100000 in
set_option maxHeartbeats 20000000 in
theorem refRound_ok {c:Bool} {l:List El}:Fun FB md 37 [elsV c l] (rndR l):=by
 have hd:=valid_ok (c:=c) (l:=l)
 unfold rndR
 by_cases hv:vldE l=0
 ·rw [if_neg (fun h=>h hv)]
  have hw:=named_ok (c:=c) hv
  rw [hv] at hd
  generalize rndN l=r at *
  cases r
  all_goals
   refine fun_of rfl rfl ?_
   repeat' (first
 | (conv=>whnf)
   first
   | refine Br.f ?_
   | refine call_fun rfl rfl hd (.inl rfl) ?_
   | refine call_fun rfl rfl hw (.inl rfl) ?_
   | refine Get.mk _ rfl ?_
   | refine Leaves.of ?_
   | refine Vw.int ?_
   | refine Vw.sl
   | refine Vw.tup ?_
   | refine VwL.cons ?_ ?_
   | refine VwL.nil)
  all_goals first | rfl | (exfalso;omega;done)
 ·rw [if_pos hv]
  generalize vldE l=e at *
  refine fun_of rfl rfl ?_
  repeat' (first
 | (conv=>whnf)
   first
   | (refine Br.decF ?_ ?_;(focus first | assumption | omega))
   | refine Br.not ?_
   | refine call_fun rfl rfl hd (.inl rfl) ?_
   | refine Get.mk _ rfl ?_
   | refine Leaves.of ?_
   | refine Vw.int ?_
   | refine Vw.nil
   | refine Vw.tup ?_
   | refine VwL.cons ?_ ?_
   | refine VwL.nil)
  all_goals first | rfl | (exfalso;omega;done)
end Go.Dr.T
namespace Go.Dr.T
def vgV (G:List T3):V:=match G with
 | []=>.nilsl
 | _ :: _=>.ms 3 1 (G.length * 3) 0 G.length false
def vgH (G:List T3):List B:=match G with
 | []=>[]
 | t :: _=>[t3B t.1 t.2.1 t.2.2,.blk (trC G) true]
theorem vg_ne {G:List T3} (h:G≠[]):vgV G = .ms 3 1 (G.length * 3) 0 G.length false∧∃ X:T3,vgH G=[t3B X.1 X.2.1 X.2.2,.blk (trC G) true]∧∀ t,vgH (G++[t])=[t3B X.1 X.2.1 X.2.2,.blk (trC (G++[t])) true]:=by
 cases G with
 | nil=>exact absurd rfl h
 | cons x l=>exact ⟨rfl,x,rfl,fun t=>rfl⟩
theorem vgV_snoc {G:List T3} {t:T3}:vgV (G++[t]) = .ms 3 1 (G.length * 3+3) 0 (G.length+1) false:=by
 have:=(vg_ne (G:=G++[t]) (by simp)).1
 rw [this,List.length_append,List.length_singleton,show (G.length+1) * 3=G.length * 3+3 by omega]
set_option maxRecDepth 100000 in
set_option maxHeartbeats 20000000 in
theorem refVersion_ok {c d:Bool} {l:List El} {s:List Int}:Fun FB md 43 [elsV c l,.sl d s.length (ofInts s)] (verV l s):=by
 have hg:=valid_ok (c:=c) (l:=l)
 unfold verV
 by_cases hv:vldE l=0
 rotate_left
 ·rw [if_pos hv]
  generalize vldE l=e at *
  refine fun_of rfl rfl ?_
  repeat' (first
 | (conv=>whnf)
   first
   | refine Br.f ?_
   | (refine Br.decF ?_ ?_;(focus first | assumption | omega))
   | refine Br.not ?_
   | refine call_fun rfl rfl hg (.inl rfl) ?_
   | refine Get.mk _ rfl ?_
   | refine Leaves.of ?_
   | refine Vw.int ?_
   | refine Vw.nil
   | refine Vw.tup ?_
   | refine VwL.cons ?_ ?_
   | refine VwL.nil)
  all_goals first | rfl | (exfalso;omega;done)
 rw [if_neg (fun h=>h hv)]
 rw [hv] at hg
 have hc:=refScripted_ok (c:=d) (s:=s)
 by_cases hs:scrE s=0
 rotate_left
 ·rw [if_pos hs]
  generalize scrE s=e at *
  refine fun_of rfl rfl ?_
  repeat' (first
 | (conv=>whnf)
   first
   | refine Br.t ?_
   | refine Br.f ?_
   | (refine Br.decF ?_ ?_;(focus first | assumption | omega))
   | refine Br.not ?_
   | refine call_fun rfl rfl hg (.inl rfl) ?_
   | refine call_fun rfl rfl hc (.inl rfl) ?_
   | refine Get.mk _ rfl ?_
   | refine Leaves.of ?_
   | refine Vw.int ?_
   | refine Vw.nil
   | refine Vw.tup ?_
   | refine VwL.cons ?_ ?_
   | refine VwL.nil)
  all_goals first | rfl | (exfalso;omega;done)
 rw [if_neg (fun h=>h hs),rndP_N hv]
 rw [hs] at hc
 obtain ⟨hl60,hrg,hnd⟩:=scr_ok hs
 have hnm:=named_ok (c:=c) hv
 have hnn:=rnN_ne hv (n:=999) (by decide)
 rw [show rnN (wyN l) 999=rndN l from rfl] at hnn
 cases hN:rndN l with
 | some p =>
  rw [hN] at hnm hnn
  have hpl:0<p.length:=List.length_pos_iff.2 fun e=>hnn (by rw [e])
  dsimp only [Option.map_some]
  refine fun_of rfl rfl ?_
  repeat' (first
 | (conv=>whnf)
   first
   | refine Br.t ?_
   | (refine Br.decT ?_ ?_;(focus first | assumption | omega))
   | refine call_fun rfl rfl hg (.inl rfl) ?_
   | refine call_fun rfl rfl hc (.inl rfl) ?_
   | refine call_fun rfl rfl hnm (.inl rfl) ?_
   | refine Get.mk _ rfl ?_
   | refine Leaves.of ?_
   | refine Vw.int ?_
   | refine Vw.nil
   | refine Vw.tup ?_
   | refine VwL.cons ?_ ?_
   | refine VwL.nil)
  all_goals first | rfl | (exfalso;omega;done)
 | none =>
 rw [hN] at hnm
 dsimp only [Option.map_none]
 have hsr:∀ m,SrOk (srcAll m l l.length):=fun m=>srcAll_ok hv _ (Nat.le_refl _)
 have hsF:∀ m,Fun FB md 79 [elsV c l,.int .i64 m] (srcV m (srcAll m l l.length)):=fun m=>source_ok hv
 generalize hsre:(fun m=>srcAll m l l.length)=sr
 have hsr:∀ m,SrOk (sr m):=fun m=>by rw [← hsre];exact hsr m
 have hsF:∀ m,Fun FB md 79 [elsV c l,.int .i64 m] (srcV m (sr m)):=fun m=>by rw [← hsre];exact hsF m
 refine fun_of rfl rfl ?_
 repeat' (first
 | (conv=>whnf)
   first
   | refine Br.t ?_
   | refine Br.f ?_
   | refine call_fun rfl rfl hg (.inl rfl) ?_
   | refine call_fun rfl rfl hc (.inl rfl) ?_
   | refine call_fun rfl rfl hnm (.inl rfl) ?_)
 all_goals try (exfalso;omega;done)
 refine LoopP.by (fun i:Nat=>i≤s.length) (fun i=>[(8,vgV (verF sr (s.take i)).1),(9,.int .i64 (verF sr (s.take i)).2),(10,.int .i64 (i:Nat))]) (fun i=>vgH (verF sr (s.take i)).1) (fun i=>s.length - i) 0 (Nat.zero_le _) rfl ?_
 rintro i w1
 try dsimp only
 obtain ⟨b1,b2,b3⟩:=verF_bd hsr (s:=s) i w1
 by_cases hi:i<s.length
 rotate_left
 ·rw [List.take_of_length_le (by omega)] at b1 b2 b3 ⊢
  generalize verF sr s=st at *
  obtain ⟨G,sum⟩:=st
  dsimp only at *
  by_cases hG:G=[]
  ·subst hG
   dsimp only [vgV,vgH]
   repeat' (first
 | (conv=>whnf)
   first
   | (refine Br.decF ?_ ?_;(focus first | assumption | omega))
   | refine Get.mk _ rfl ?_
   | refine Leaves.of ?_
   | refine Vw.int ?_
   | refine Vw.nil
   | refine Vw.tup ?_
   | refine VwL.cons ?_ ?_
   | refine VwL.nil)
   all_goals first | rfl | (exfalso;omega;done)
  ·obtain ⟨e1,X,e2,_⟩:=vg_ne hG
   rw [e1,e2,gapV_ne hG]
   have hvw:Vw [t3B X.1 X.2.1 X.2.2,B.blk (trC G) true] 63 (.ms 3 1 (G.length * 3) 0 G.length false) (.sl false G.length (trC G)):=⟨(VwF.ms (d:=62) rfl (trC_len G) (part_all (trC_len G)) (VwLF.trC G)).1⟩
   repeat' (first
 | (conv=>whnf)
   first
   | refine hvw
   | (refine Br.decF ?_ ?_;(focus first | assumption | omega))
   | refine Get.mk _ rfl ?_
   | refine Leaves.of ?_
   | refine Vw.int ?_
   | refine Vw.tup ?_
   | refine VwL.cons ?_ ?_
   | refine VwL.nil)
   all_goals first | rfl | (exfalso;omega;done)
 obtain ⟨m,hm,gi⟩:=ofInts_cell hi
 have hsn:=verF_snoc (sr:=sr) hm
 have hso:=hsF m
 have hok:=hsr m
 generalize verF sr (s.take i)=st at *
 obtain ⟨G,sum⟩:=st
 unfold verS at hsn
 dsimp only at hsn b1 b2 b3 ⊢
 cases ho:sr m with
 | none =>
  rw [ho] at hsn hso
  dsimp only at hsn
  by_cases hG:G=[]
  ·subst hG
   dsimp only [vgV,vgH]
   repeat' (first
 | (conv=>whnf)
   first
   | refine Br.f ?_
   | (refine Br.decT ?_ ?_;(focus first | assumption | omega))
   | (refine Bnd.i64 ?_ ?_ ?_;(focus omega);(focus omega))
   | refine Get.mk _ gi ?_
   | refine call_fun rfl rfl hso (.inl rfl) ?_
   | (refine Idx.nat ?_ ?_;(focus omega))
   | refine Get.mk _ rfl ?_
   | (refine Req.mk ?_ ?_;(focus first | rfl | decide | exact ⟨rfl,rfl⟩ | exact ⟨rfl,by decide⟩ | exact (fun _=>rfl) | exact (fun h=>nomatch h) | (simp;done) | omega | (simp [big];done) | exact le_big (by omega) | exact lt_big (by omega))))
   all_goals first | (exfalso;omega;done) | exact NextP.mk (i+1) hi (by omega) (by rw [hsn];rfl)
  ·obtain ⟨e1,X,e2,_⟩:=vg_ne hG
   rw [e1,e2]
   repeat' (first
 | (conv=>whnf)
   first
   | refine Br.f ?_
   | (refine Br.decT ?_ ?_;(focus first | assumption | omega))
   | (refine Bnd.i64 ?_ ?_ ?_;(focus omega);(focus omega))
   | refine Get.mk _ gi ?_
   | refine call_fun rfl rfl hso (.inl rfl) ?_
   | (refine Idx.nat ?_ ?_;(focus omega))
   | refine Get.mk _ rfl ?_
   | (refine Req.mk ?_ ?_;(focus first | rfl | decide | exact ⟨rfl,rfl⟩ | exact ⟨rfl,by decide⟩ | exact (fun _=>rfl) | exact (fun h=>nomatch h) | (simp;done) | omega | (simp [big];done) | exact le_big (by omega) | exact lt_big (by omega))))
   all_goals first | (exfalso;omega;done) | exact NextP.mk (i+1) hi (by omega) (by rw [hsn];dsimp only;rw [e1,e2];rfl)
 | some o =>
  rw [ho] at hsn hso hok
  dsimp only at hsn
  have hof:=hok o rfl
  have hwr:IntKind.i64.wrap (sum+oF (some o))=sum+o.f:=by show IntKind.i64.wrap (sum+o.f)=_;exact wrap_i64 (by omega) (by omega)
  by_cases hG:G=[]
  ·subst hG
   dsimp only [vgV,vgH]
   repeat' (first
 | (conv=>whnf)
   first
   | refine Bnd.eq hwr ?_
   | refine Br.t ?_
   | (refine Br.decT ?_ ?_;(focus first | assumption | omega))
   | (refine Bnd.i64 ?_ ?_ ?_;(focus omega);(focus omega))
   | refine Get.mk _ gi ?_
   | refine call_fun rfl rfl hso (.inl rfl) ?_
   | (refine Idx.nat ?_ ?_;(focus omega))
   | (refine Ifz.pos ?_ ?_;(focus omega))
   | refine Get.mk _ rfl ?_
   | (refine Req.mk ?_ ?_;(focus first | rfl | decide | exact ⟨rfl,rfl⟩ | exact ⟨rfl,by decide⟩ | exact (fun _=>rfl) | exact (fun h=>nomatch h) | (simp;done) | omega | (simp [big];done) | exact le_big (by omega) | exact lt_big (by omega))))
   all_goals first | (exfalso;omega;done) | exact NextP.mk (i+1) hi (by omega) (by rw [hsn];rfl)
  ·obtain ⟨e1,X,e2,e3⟩:=vg_ne hG
   rw [e1,e2]
   have hlc:=trC_len G
   have hap:0+G.length * 3=G.length * 3∧((trC G).length+[V.int .i64 m,.int .i64 (oE (some o):Nat),.int .i64 (oK (some o):Nat)].length) * (24+1)<big:=⟨by omega,by rw [hlc];exact lt_big (by simp;omega)⟩
   repeat' (first
 | (conv=>whnf)
   first
   | refine Bnd.eq hwr ?_
   | refine Br.t ?_
   | (refine Br.decT ?_ ?_;(focus first | assumption | omega))
   | (refine Bnd.i64 ?_ ?_ ?_;(focus omega);(focus omega))
   | refine Get.mk _ gi ?_
   | refine call_fun rfl rfl hso (.inl rfl) ?_
   | refine Req.mk hlc ?_
   | refine Req.mk hap ?_
   | (refine Idx.nat ?_ ?_;(focus omega))
   | (refine Ifz.pos ?_ ?_;(focus omega))
   | refine Get.mk _ rfl ?_
   | (refine Req.mk ?_ ?_;(focus first | rfl | decide | exact ⟨rfl,rfl⟩ | exact ⟨rfl,by decide⟩ | exact (fun _=>rfl) | exact (fun h=>nomatch h) | (simp;done) | omega | (simp [big];done) | exact le_big (by omega) | exact lt_big (by omega))))
   all_goals first | (exfalso;omega;done) | exact NextP.mk (i+1) hi (by omega) (by rw [hsn];dsimp only;rw [vgV_snoc,e3, ← trC_snoc];rfl)
end Go.Dr.T
namespace Go.Dr.T
def elN:El:=⟨[110,101,103],true,[(1,100),(2,50),(3,80),(4,60)],0⟩
def elP:El:=⟨[112,114,105,110,116,45,98],true,[(1,96),(3,80),(0,58),(5,40)],2⟩
def elQ:El:=⟨[99,117,116],true,[(2,48),(5,44),(4,60)],1⟩
def elU:El:=⟨[117],true,[(0,60)],0⟩
def el3:List El:=[elN,elP,elQ]
def D3:List PE:=pAll el3
theorem vld3:vldE el3=0:=by decide +kernel
theorem keys3:keysOf (pAll el3)=[1,2,3,4,5]:=by decide +kernel
theorem len3:(pAll el3).length=5:=by decide +kernel
theorem way3 {a t ab:Int} {r:Option (List Int)} (h:wayGo (pAll el3) a t ab 1002 0 []=some r):Fun FB1 md 69 [gatV (pAll el3),.int .i64 a,.int .i64 t,.int .i64 ab] (wayV (wayP (pAll el3) a t ab)):=by
 have e:wayP (pAll el3) a t ab=r:=by unfold wayP;rw [h];rfl
 rw [e]
 exact way_fun (by rw [len3];decide) (by decide +kernel) (by decide +kernel) (by rw [show (pAll el3).map (·.k)=[1,2,3,4,5] from keys3];decide) h
theorem wayGo_ne {D:List PE} {a t ab:Int}:∀ {n p:Nat} {bf:List (Int × Int)},wayGo D a t ab n p bf≠some (some [])
 | 0,_,_=>by unfold wayGo;simp
 | n+1,p,bf=>by
  unfold wayGo
  split
  ·simp
  ·split
   ·intro h
    obtain ⟨cs,_,h2⟩:=map_some h
    simp at h2
   ·exact wayGo_ne
theorem wayP_ne {D:List PE} {a t ab:Int}:wayP D a t ab≠some []:=by
 unfold wayP
 intro h
 cases hg:wayGo D a t ab 1002 0 [] with
 | none=>rw [hg] at h;cases h
 | some r=>rw [hg] at h;exact wayGo_ne (hg.trans (congrArg some h))
theorem whole3 {c:Bool}:WholeOk c el3:=by
 refine whole_all (A:=[1,2,3,5,4]) vld3 (by rw [len3];decide) (by decide +kernel) (by rw [keys3];decide) (fun k hk => ?_) (fun k=>wayP_ne) (by decide +kernel) (by decide +kernel) (fun i h0 hi => ?_)
 ·rw [keys3] at hk
  simp only [List.mem_cons,List.not_mem_nil,or_false] at hk
  rcases hk with rfl | rfl | rfl | rfl | rfl <;> exact way3 (r:=none) (by decide +kernel)
 ·simp only [List.length_cons,List.length_nil] at hi
  obtain rfl | rfl | rfl | rfl:i=1∨i=2∨i=3∨i=4:=by omega
  ·exact way3 (r:=some [1]) (by decide +kernel)
  ·exact way3 (r:=some [2]) (by decide +kernel)
  ·exact way3 (r:=some [3]) (by decide +kernel)
  ·exact way3 (r:=some [5]) (by decide +kernel)
theorem whole3_v:wholeV el3 = .tup [.sl false 5 (ofInts [1,2,3,5,4]),.bool true,.int .i64 0]:=veq_eq (by decide +kernel)
theorem whole3_doc:Fun FB2 md 33 [elsV false el3] (wholeV el3):=whole_fun whole3 (by rw [whole3_v];intro h;cases h)
theorem gather3_doc:Fun FB2 md 65 [elsV false el3] (gatherV el3):=(gather_fun gatherV_view).tab sub2
end Go.Dr.T
namespace Go.Dr.T
def kwn (l:List V) (v:V) (as:List V):Option V:=match veqs as l with
 | true=>some v
 | false=>none
theorem kwn_eq {l:List V} {v w:V} {as:List V} (h:kwn l v as=some w):as=l∧w=v:=by
 unfold kwn at h
 split at h <;> cases h
 rename_i e
 exact ⟨veqs_eq e,rfl⟩
noncomputable def S1 (n:Nat):Option (List V→Option V) :=
 match n with
 | 33=>some (kwn [elsV false el3] (wholeV el3))
 | 65=>some (kwn [elsV false el3] (gatherV el3))
 | _=>none
theorem known1:Known FB2 md S1:=by
 intro fn g hg as v h
 unfold S1 at hg
 split at hg
 ·cases hg
  obtain ⟨rfl,rfl⟩:=kwn_eq h
  exact whole3_doc
 ·cases hg
  obtain ⟨rfl,rfl⟩:=kwn_eq h
  exact gather3_doc
 ·cases hg
theorem best_doc:Fun FB2 md 21 [elA elN,elA elP,.int .i64 10] (.tup [.int .i64 205,.int .i64 1,.int .i64 0]):=fun_is known1 (n:=300) (by decide +kernel)
theorem judge_doc:Fun FB2 md 26 [elA elN,elA elP,.int .i64 10,.sl true 1 (ofInts [1,1])] (.tup [.int .i64 0,.int .i64 160]):=fun_is known1 (n:=300) (by decide +kernel)
def allR:V:=.tup [.sl false 1 [.sl false 1 (ofInts [2,0])],.int .i64 0]
theorem all_doc:Fun FB2 md 23 [elA elN,elA elU,.int .i64 20,.int .i64 1] allR:=fun_is known1 (n:=400) (by decide +kernel)
def verR:V:=.tup [.sl false 5 (ofInts [1,0,0,2,0,1,3,0,2,5,2,1,4,0,3]),.int .i64 334,.int .i64 0]
theorem ver_doc:Fun FB2 md 42 [elsV false el3,.sl true 5 (ofInts [1,2,3,5,4])] verR:=fun_is known1 (n:=300) (by decide +kernel)
noncomputable def S2 (n:Nat):Option (List V→Option V) :=
 match n with
 | 21=>some (kwn [elA elN,elA elP,.int .i64 10] (.tup [.int .i64 205,.int .i64 1,.int .i64 0]))
 | 26=>some (kwn [elA elN,elA elP,.int .i64 10,.sl true 1 (ofInts [1,1])] (.tup [.int .i64 0,.int .i64 160]))
 | 23=>some (kwn [elA elN,elA elU,.int .i64 20,.int .i64 1] allR)
 | 42=>some (kwn [elsV false el3,.sl true 5 (ofInts [1,2,3,5,4])] verR)
 | n=>S1 n
theorem known2:Known FB2 md S2:=by
 intro fn g hg as v h
 unfold S2 at hg
 split at hg
 ·cases hg
  obtain ⟨rfl,rfl⟩:=kwn_eq h
  exact best_doc
 ·cases hg
  obtain ⟨rfl,rfl⟩:=kwn_eq h
  exact judge_doc
 ·cases hg
  obtain ⟨rfl,rfl⟩:=kwn_eq h
  exact all_doc
 ·cases hg
  obtain ⟨rfl,rfl⟩:=kwn_eq h
  exact ver_doc
 ·exact known1 _ _ hg as v h
theorem awake:Fun FB2 md 20 [] (.bool true):=fun_is known2 (n:=300) (by decide +kernel)
end Go.Dr.T
