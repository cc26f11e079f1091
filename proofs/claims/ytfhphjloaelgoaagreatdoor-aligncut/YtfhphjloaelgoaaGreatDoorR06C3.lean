/- Chapter 06: law AlignCut. -/
import Derived.Test.YtfhphjloaelgoaaGreatDoorG8
import Derived.Test.YtfhphjloaelgoaaGreatDoorR06B5
import Derived.Test.YtfhphjloaelgoaaGreatDoorR06A8
import Derived.Test.YtfhphjloaelgoaaGreatDoorG14
import Derived.Test.YtfhphjloaelgoaaGreatDoorG19
import Derived.Test.YtfhphjloaelgoaaGreatDoorG19
import Derived.Test.YtfhphjloaelgoaaGreatDoorR06N1
namespace Go.Dr.T
def ptE (x:El) (b:Int):El:=⟨x.nm,decide (ptL b x.l 0=[]),ptL b x.l 0,x.g⟩
theorem lsP_dec {l:List (Int × Int)}:lsP l = .sl (decide (l=[])) l.length (shC l):=by
 unfold lsP
 by_cases h:l=[]
 ·subst h;rfl
 ·rw [if_neg h,decide_eq_false h]
theorem part_ok' {x:El} {b:Int} (hx:x.l.length≤1000000):Fun FB md 31 [elA' x,.int .u64 b] (elA' (ptE x b)):=by
 have:=part_ok (x:=x) (b:=b) hx
 rw [lsP_dec] at this
 exact this
theorem cutPair_ok {a b:Int}:Fun FB md 32 [.int .i64 a,.int .i64 b] (.agg [.int .i64 a,.int .i64 b]):=by
 refine fun_of rfl rfl ?_
 repeat' (first
 | (conv=>whnf)
   first
   | refine Get.mk _ rfl ?_
   | refine Leaves.of ?_
   | refine Vw.int ?_
   | refine Vw.agg ?_
   | refine VwL.cons ?_ ?_
   | refine VwL.nil
   | (refine Req.mk ?_ ?_;(focus first | rfl | decide | exact ⟨rfl,rfl⟩ | exact ⟨rfl,by decide⟩ | exact (fun _=>rfl) | exact (fun h=>nomatch h) | (simp;done) | omega | (simp [big];done) | exact le_big (by omega) | exact lt_big (by omega))))
 all_goals rfl
theorem pt_is {x:El} {b:Int} (he:x.e=0) (hp:∀ p∈x.l,0<p.1):Pt x.l (ptE x b).l (ptF b x.l 0):=by
 obtain ⟨_,_,_,_,h2⟩:=ck_good he
 have hd:∀ i j,i<j→j<x.l.length→(x.l.getD i (0,0)).1≠(x.l.getD j (0,0)).1:=fun i j hij hj e=>by
  have h3:=(h2 j _ (List.getElem?_eq_getElem hj)).2.2.2.2
  have h4:=hp _ (List.getElem_mem hj)
  refine h3 (by omega) ?_
  rw [List.mem_map]
  refine ⟨x.l[i],?_,?_⟩
  ·rw [List.mem_iff_getElem?]
   exact ⟨i,by rw [List.getElem?_take,if_pos hij,List.getElem?_eq_getElem (by omega)]⟩
  ·rw [List.getD_eq_getElem?_getD,List.getElem?_eq_getElem (by omega),List.getD_eq_getElem?_getD,List.getElem?_eq_getElem hj] at e
   exact e
 refine ⟨?_,?_,rfl,hp,fun i j hi hj e => ?_⟩
 ·unfold ptF
  exact (List.pairwise_lt_range' (s:=0) (n:=x.l.length - 0)).filter _
 ·intro k hk
  unfold ptF at hk
  have:=List.mem_range'_1.1 (List.mem_filter.1 hk).1
  omega
 ·rcases Nat.lt_trichotomy i j with h | h | h
  ·exact absurd e (hd i j h hj)
  ·exact h
  ·exact absurd e.symm (hd j i h hi)
theorem sh_c:∀ {l:List (Int × Int)} {k:Nat} {p:Int × Int},l[k]?=some p→cellAt (shC l) (k * 2+0)=some (.int .i64 p.1)∧cellAt (shC l) (k * 2+1)=some (.int .i64 p.2)
 | [],_,_,h=>by simp at h
 | q :: l,0,p,h=>by
  simp only [List.getElem?_cons_zero,Option.some.injEq] at h
  subst h
  exact ⟨rfl,rfl⟩
 | q :: l,k+1,p,h=>by
  have:=sh_c (l:=l) (k:=k) (p:=p) (by simpa using h)
  rw [show (k+1) * 2+0=(k * 2+0)+1+1 by omega,show (k+1) * 2+1=(k * 2+1)+1+1 by omega]
  exact this
structure WA where
 k:Nat
 L:List (Nat × Nat)
def wantG:List Nat→Nat→List (Nat × Nat)
 | [],_=>[]
 | k :: ks,t=>(k,t) :: wantG ks (t+1)
theorem wantL_G {ks:List Nat}:∀ (d t:Nat),ks.length - t=d→wantL ks t=wantG (ks.drop t) t:=by
 intro d
 induction d with
 | zero=>intro t h;rw [wantL_end (by omega),List.drop_of_length_le (by omega)];rfl
 | succ d ih =>
  intro t h
  have ht:t<ks.length:=by omega
  rw [wantL_step ht,ih (t+1) (by omega),List.drop_eq_getElem_cons ht];rfl
def wV:List (Nat × Nat)→V
 | []=>.nilsl
 | p :: l=>.ms 2 2 (((p :: l).map pI).length * 2) 0 ((p :: l).map pI).length false
def wH (x y:El):List (Nat × Nat)→List B
 | []=>[elB x,elB y]
 | p :: l=>[elB x,elB y,.blk (shC ((p :: l).map pI)) true]
set_option maxRecDepth 100000 in
set_option maxHeartbeats 20000000 in
theorem law_cut {x:El} {s b:Int} (hxl:x.l.length≤1000000):Fun FB2 md 8 [elA x,.int .i64 s,.int .u64 b] (.bool true):=by
 have hAw:=awake
 refine fun_of rfl rfl ?_
 repeat' (first
 | (conv=>whnf)
   first
   | refine Get.mk _ rfl ?_
   | (refine Req.mk ?_ ?_;(focus first | rfl | decide | exact ⟨rfl,rfl⟩ | exact ⟨rfl,by decide⟩ | exact (fun _=>rfl) | exact (fun h=>nomatch h) | (simp;done) | omega | (simp [big];done) | exact le_big (by omega) | exact lt_big (by omega))))
 all_goals try (exfalso;omega;done)
 refine LoopP.by (fun k:Nat=>k≤x.l.length∧∀ i,i<k→0<(x.l.getD i (0,0)).1) (fun k=>[(7,.int .i64 (k:Nat))]) (fun _=>[elB x]) (fun k=>x.l.length - k) 0 ⟨Nat.zero_le _,fun i h=>absurd h (by omega)⟩ rfl ?_
 rintro k ⟨w1,w2⟩
 dsimp only
 by_cases hk:k<x.l.length
 ·obtain ⟨u,hu⟩:∃ u,x.l[k]?=some u:=⟨_,List.getElem?_eq_getElem hk⟩
  obtain ⟨hc0,hc1⟩:=sh_c hu
  have hud:x.l.getD k (0,0)=u:=by rw [List.getD_eq_getElem?_getD,hu];rfl
  have hkl:k≤x.l.length - 1:=by omega
  have h0l:0<x.l.length:=by omega
  have hkw:IntKind.i64.wrap ((k:Int)+1)=((k+1:Nat):Int):=by rw [wrap_i64 (by omega) (by omega)];omega
  have hw3:¬ u.1<1→∀ i,i<k+1→0<(x.l.getD i (0,0)).1:=fun hm i hi=>by
   by_cases e:i=k
   ·subst e;rw [hud];omega
   ·exact w2 i (by omega)
  by_cases hm:u.1<1
  ·repeat' (first
 | (conv=>whnf)
   first
   | (refine Br.decT ?_ ?_;(focus first | assumption | omega))
   | refine Idx.nat hkl ?_
   | refine Req.mk h0l ?_
   | refine Get.mk _ hc0 ?_
   | refine call_fun rfl rfl hAw (.inl rfl) ?_
   | refine Get.mk _ rfl ?_
   | refine Leaves.of ?_
   | refine Vw.bool ?_
   | (refine Req.mk ?_ ?_;(focus first | rfl | decide | exact ⟨rfl,rfl⟩ | exact ⟨rfl,by decide⟩ | exact (fun _=>rfl) | exact (fun h=>nomatch h) | (simp;done) | omega | (simp [big];done) | exact le_big (by omega) | exact lt_big (by omega))))
   all_goals first | rfl | (exfalso;omega;done)
  ·replace hw3:=hw3 hm
   repeat' (first
 | (conv=>whnf)
   first
   | refine Bnd.eq hkw ?_
   | (refine Br.decT ?_ ?_;(focus first | assumption | omega))
   | (refine Br.decF ?_ ?_;(focus first | assumption | omega))
   | refine Idx.nat hkl ?_
   | refine Req.mk h0l ?_
   | refine Get.mk _ hc0 ?_
   | refine Get.mk _ rfl ?_
   | (refine Req.mk ?_ ?_;(focus first | rfl | decide | exact ⟨rfl,rfl⟩ | exact ⟨rfl,by decide⟩ | exact (fun _=>rfl) | exact (fun h=>nomatch h) | (simp;done) | omega | (simp [big];done) | exact le_big (by omega) | exact lt_big (by omega))))
   all_goals first | (exfalso;omega;done) | exact NextP.mk (k+1) ⟨hk,hw3⟩ (by omega) rfl
 have hpos:∀ p∈x.l,0<p.1:=fun p hp=>by
  obtain ⟨i,hi⟩:=List.getElem?_of_mem hp
  have:=(List.getElem?_eq_some_iff.1 hi).1
  have:=w2 i (by omega)
  rwa [List.getD_eq_getElem?_getD,hi] at this
 have hpt:=(((part_ok' (x:=x) (b:=b) hxl)).tab sub1).tab sub2
 have h1:=((best_ok (x:=x) (y:=ptE x b) (s:=s)).tab sub1).tab sub2
 have h3:=((all_ok (x:=x) (y:=ptE x b) (s:=s) (most:=2)).tab sub1).tab sub2
 unfold bestV2 at h1
 unfold allV at h3
 have hm2:outB 2 1 200=false:=rfl
 rw [hm2,if_neg (c:=false=true) (by decide)] at h3
 by_cases he:openE x (ptE x b) s=0
 rotate_left
 ·rw [if_pos he] at h1 h3
  generalize openE x (ptE x b) s=e at *
  generalize ptE x b=y at *
  repeat' (first
 | (conv=>whnf)
   first
   | refine Br.t ?_
   | (refine Br.decT ?_ ?_;(focus first | assumption | omega))
   | (refine Br.decF ?_ ?_;(focus first | assumption | omega))
   | refine Br.not ?_
   | refine call_fun rfl rfl hpt (.inl rfl) ?_
   | refine call_fun rfl rfl h1 (.inl rfl) ?_
   | refine call_fun rfl rfl h3 (.inl rfl) ?_
   | refine call_fun rfl rfl hAw (.inl rfl) ?_
   | refine Get.mk _ rfl ?_
   | refine Leaves.of ?_
   | refine Vw.bool ?_
   | (refine Req.mk ?_ ?_;(focus first | rfl | decide | exact ⟨rfl,rfl⟩ | exact ⟨rfl,by decide⟩ | exact (fun _=>rfl) | exact (fun h=>nomatch h) | (simp;done) | omega | (simp [big];done) | exact le_big (by omega) | exact lt_big (by omega))))
  all_goals first | rfl | (exfalso;omega;done)
 rw [if_neg (fun h=>h he)] at h1 h3
 obtain ⟨ha,hb,hs⟩:=open_good he
 obtain ⟨ex0,_,_⟩:=openE_0 he
 have hPt:=pt_is (b:=b) ex0 hpos
 obtain ⟨a1,a2,a3⟩:=cut_als hPt ha hb hs.1 _ 0 0 rfl ⟨Nat.zero_le _,fun _=>Nat.zero_le _⟩ (Nat.zero_le _)
 rw [List.drop_zero] at a3
 have a4:cAll (shA x.l (ptE x b).l s) (openT x (ptE x b) s) x.l.length (ptE x b).l.length (x.l.length+1) zT 0 0=1:=a2
 rw [a3,a4] at h1
 have hall:allL x (ptE x b) s 2=[wantL (ptF b x.l 0) 0]:=by unfold allL;rw [a1];rfl
 rw [hall,wantL_G _ _ rfl,List.drop_zero] at h3
 have hwl:∀ (ks:List Nat) (t:Nat),(wantG ks t).length=ks.length:=by
  intro ks
  induction ks with
  | nil=>intro t;rfl
  | cons k ks ih=>intro t;simp only [wantG,List.length_cons,ih]
 have hkl:=ptF_len (b:=b) (a:=x.l) (i:=0)
 have hal:=ha.1
 have hfr:=((frames_ok (x:=ptE x b) hb).tab sub1).tab sub2
 have hvl:vLL [wantG (ptF b x.l 0) 0] = .sl false 1 [vL (wantG (ptF b x.l 0) 0)]:=by unfold vLL;rw [decide_eq_false (by simp)];rfl
 rw [hvl] at h3
 have hW40:(wantG (ptF b x.l 0) 0).length≤40:=by rw [hwl];omega
 have hpr:∀ c,Fun FB2 md 29 [vL (wantG (ptF b x.l 0) 0),.sl c (wantG (ptF b x.l 0) 0).length (shC ((wantG (ptF b x.l 0) 0).map pI))] (.bool true):=fun c=>by
  have:=((pairs_ok (c:=decide (wantG (ptF b x.l 0) 0=[])) (d:=c) (l:=(wantG (ptF b x.l 0) 0).map pI) (by rw [List.length_map];omega)).tab sub1).tab sub2
  rw [List.length_map] at this
  exact this
 have hpa:=fun a b=>((cutPair_ok (a:=a) (b:=b)).tab sub1).tab sub2
 generalize frS (ptE x b).l=fr at *
 generalize hW:wantG (ptF b x.l 0) 0=W at *
 generalize ptE x b=y at *
 repeat' (first
 | (conv=>whnf)
   first
   | refine Br.f ?_
   | (refine Br.decF ?_ ?_;(focus first | assumption | omega))
   | refine call_fun rfl rfl hpt (.inl rfl) ?_
   | refine call_fun rfl rfl h1 (.inl rfl) ?_
   | refine call_fun rfl rfl h3 (.inl rfl) ?_
   | refine Get.mk _ rfl ?_
   | (refine Req.mk ?_ ?_;(focus first | rfl | decide | exact ⟨rfl,rfl⟩ | exact ⟨rfl,by decide⟩ | exact (fun _=>rfl) | exact (fun h=>nomatch h) | (simp;done) | omega | (simp [big];done) | exact le_big (by omega) | exact lt_big (by omega))))
 all_goals try (exfalso;omega;done)
 refine LoopP.by (fun a:WA=>a.k≤x.l.length∧a.L.length≤a.k∧a.L++wantG (ptF b x.l a.k) a.L.length=W) (fun a=>[(14,wV a.L),(15,.int .i64 (a.k:Nat))]) (fun a=>wH x y a.L) (fun a=>x.l.length - a.k) ⟨0,[]⟩ ⟨Nat.zero_le _,Nat.le_refl _,hW⟩ rfl ?_
 clear hW
 rintro ⟨k,L⟩ ⟨v1,v2,v3⟩
 dsimp only at v1 v2 v3 ⊢
 by_cases hk:k<x.l.length
 rotate_left
 ·rw [ptF_end (by omega)] at v3
  have e:L=W:=by rw [← v3];simp [wantG]
  subst e
  cases L with
  | nil =>
   unfold wV wH
   repeat' (first
 | (conv=>whnf)
   first
   | refine Br.t ?_
   | (refine Br.decT ?_ ?_;(focus first | assumption | omega))
   | (refine Br.decF ?_ ?_;(focus first | assumption | omega))
   | refine call_fun rfl rfl hfr (.inl rfl) ?_
   | refine call_fun rfl rfl (hpr true) (.inl rfl) ?_
   | refine call_fun rfl rfl hAw (.inl rfl) ?_
   | (refine Idx.int ?_ ?_ ?_;(focus omega);(focus omega))
   | refine Get.mk _ rfl ?_
   | refine Leaves.of ?_
   | refine Vw.bool ?_
   | (refine Req.mk ?_ ?_;(focus first | rfl | decide | exact ⟨rfl,rfl⟩ | exact ⟨rfl,by decide⟩ | exact (fun _=>rfl) | exact (fun h=>nomatch h) | (simp;done) | omega | (simp [big];done) | exact le_big (by omega) | exact lt_big (by omega))))
   all_goals first | rfl | (exfalso;omega;done)
  | cons p l =>
   have hvs:∀ c,views [elB x,elB y,.blk (shC ((p :: l).map pI)) true] depth [vL (p :: l),.ms 2 2 (((p :: l).map pI).length * 2) 0 ((p :: l).map pI).length c]=some [vL (p :: l),.sl c (p :: l).length (shC ((p :: l).map pI))]:=fun c=>by
    have hl:((p :: l).map pI).length=(p :: l).length:=List.length_map ..
    rw [hl]
    refine (VwL.cons (h:=[elB x,elB y,.blk (shC ((p :: l).map pI)) true]) (d:=64) (v:=vL (p :: l)) Vw.sl (VwL.cons (Vw.ms (d:=63) (id:=2) (dat:=true) rfl (by rw [shC_length,hl]) (part_all (by rw [shC_length,hl])) (views_shC (d:=62) _)) VwL.nil)).1
   unfold wV wH
   repeat' (first
 | (conv=>whnf)
   first
   | refine Br.t ?_
   | (refine Br.decT ?_ ?_;(focus first | assumption | omega))
   | (refine Br.decF ?_ ?_;(focus first | assumption | omega))
   | refine call_fun rfl rfl hfr (.inl rfl) ?_
   | refine call_fun rfl (hvs _) (hpr _) (.inr rfl) ?_
   | refine call_fun rfl rfl hAw (.inl rfl) ?_
   | (refine Idx.int ?_ ?_ ?_;(focus omega);(focus omega))
   | refine Get.mk _ rfl ?_
   | refine Leaves.of ?_
   | refine Vw.bool ?_
   | (refine Req.mk ?_ ?_;(focus first | rfl | decide | exact ⟨rfl,rfl⟩ | exact ⟨rfl,by decide⟩ | exact (fun _=>rfl) | exact (fun h=>nomatch h) | (simp;done) | omega | (simp [big];done) | exact le_big (by omega) | exact lt_big (by omega))))
   all_goals first | rfl | (exfalso;omega;done)
 have hkw:IntKind.i64.wrap ((k:Int)+1)=((k+1:Nat):Int):=by rw [wrap_i64 (by omega) (by omega)];omega
 have h64:(64:Int)≠0:=by decide
 have hsh:0≤IntKind.u64.wrap ((k:Int).tmod 64):=by
  have:0≤(k:Int).tmod 64:=Int.tmod_nonneg _ (by omega)
  have h2:(k:Int).tmod 64<64:=Int.tmod_lt_of_pos _ (by decide)
  have e:IntKind.u64.wrap ((k:Int).tmod 64)=(k:Int).tmod 64:=by
   unfold IntKind.wrap
   simp only [IntKind.bits,IntKind.signed]
   first | omega | (split <;> omega) | (simp;omega)
  omega
 by_cases hbt:bitE b k=1
 ·have z:(L++[(k,L.length)])++wantG (ptF b x.l (k+1)) (L++[(k,L.length)]).length=W:=by
   rw [← v3,ptF_t hk hbt,wantG,List.length_append]
   simp
  unfold bitE at hbt
  cases L with
  | nil =>
   have hpk:=hpa (k:Nat) (0:Nat)
   unfold wV wH
   repeat' (first
 | (conv=>whnf)
   first
   | refine Bnd.eq hkw ?_
   | (refine Br.decT ?_ ?_;(focus first | assumption | omega))
   | refine Req.mk h64 ?_
   | refine Req.mk hsh ?_
   | refine call_fun rfl rfl hpk (.inl rfl) ?_
   | refine Bnd.any ?_
   | (refine Ifz.pos ?_ ?_;(focus omega))
   | refine Get.mk _ rfl ?_
   | (refine Req.mk ?_ ?_;(focus first | rfl | decide | exact ⟨rfl,rfl⟩ | exact ⟨rfl,by decide⟩ | exact (fun _=>rfl) | exact (fun h=>nomatch h) | (simp;done) | omega | (simp [big];done) | exact le_big (by omega) | exact lt_big (by omega))))
   all_goals first | (exfalso;omega;done) | exact NextP.mk (⟨k+1,[]++[(k,0)]⟩:WA) ⟨hk,by (try dsimp only);simp,z⟩ (by (try dsimp only);omega) rfl
  | cons p l =>
   have hlm:((p :: l).map pI).length=(p :: l).length:=List.length_map ..
   have hpk:=hpa (k:Nat) (((p :: l).map pI).length:Nat)
   have e1:(shC ((p :: l).map pI)).length=((p :: l).map pI).length * 2:=shC_length _
   have e2:0+((p :: l).map pI).length * 2=((p :: l).map pI).length * 2∧((shC ((p :: l).map pI)).length+[V.int .i64 (k:Nat),.int .i64 (((p :: l).map pI).length:Nat)].length) * (16+1)<big:=⟨Nat.zero_add _,by rw [e1,hlm];show ((p :: l).length * 2+2) * 17<68719476736;omega⟩
   have hA:((p :: (l++[(k,((p :: l).map pI).length)])).map pI).length=((p :: l).map pI).length+1:=by rw [List.length_map,List.length_map,List.length_cons,List.length_append];rfl
   have hB:shC ((p :: (l++[(k,((p :: l).map pI).length)])).map pI)=shC ((p :: l).map pI)++[.int .i64 (k:Nat),.int .i64 (((p :: l).map pI).length:Nat)]:=by
    rw [show p :: (l++[(k,((p :: l).map pI).length)])=(p :: l)++[(k,((p :: l).map pI).length)] from rfl,List.map_append,shC_appS];rfl
   unfold wV wH
   repeat' (first
 | (conv=>whnf)
   first
   | refine Bnd.eq hkw ?_
   | (refine Br.decT ?_ ?_;(focus first | assumption | omega))
   | refine Req.mk h64 ?_
   | refine Req.mk hsh ?_
   | refine call_fun rfl rfl hpk (.inl rfl) ?_
   | refine Req.mk e1 ?_
   | refine Req.mk e2 ?_
   | refine Bnd.any ?_
   | (refine Ifz.pos ?_ ?_;(focus omega))
   | refine Get.mk _ rfl ?_
   | (refine Req.mk ?_ ?_;(focus first | rfl | decide | exact ⟨rfl,rfl⟩ | exact ⟨rfl,by decide⟩ | exact (fun _=>rfl) | exact (fun h=>nomatch h) | (simp;done) | omega | (simp [big];done) | exact le_big (by omega) | exact lt_big (by omega))))
   have z2:(p :: l)++[(k,((p :: l).map pI).length)]++wantG (ptF b x.l (k+1)) ((p :: l)++[(k,((p :: l).map pI).length)]).length=W:=by rw [hlm];exact z
   all_goals first | (exfalso;omega;done) | exact NextP.mk (⟨k+1,(p :: l)++[(k,((p :: l).map pI).length)]⟩:WA) ⟨hk,by (try dsimp only);rw [List.length_append];exact Nat.succ_le_succ v2,z2⟩ (by (try dsimp only);omega) (by dsimp only [List.cons_append];rw [hB,hA,Nat.add_mul];rfl)
 ·have z:L++wantG (ptF b x.l (k+1)) L.length=W:=by rw [← v3,ptF_f hk hbt]
  unfold bitE at hbt
  cases L with
  | nil =>
   unfold wV wH
   repeat' (first
 | (conv=>whnf)
   first
   | refine Bnd.eq hkw ?_
   | (refine Br.decT ?_ ?_;(focus first | assumption | omega))
   | (refine Br.decF ?_ ?_;(focus first | assumption | omega))
   | refine Req.mk h64 ?_
   | refine Req.mk hsh ?_
   | refine Bnd.any ?_
   | refine Get.mk _ rfl ?_
   | (refine Req.mk ?_ ?_;(focus first | rfl | decide | exact ⟨rfl,rfl⟩ | exact ⟨rfl,by decide⟩ | exact (fun _=>rfl) | exact (fun h=>nomatch h) | (simp;done) | omega | (simp [big];done) | exact le_big (by omega) | exact lt_big (by omega))))
   all_goals first | (exfalso;omega;done) | exact NextP.mk (⟨k+1,[]⟩:WA) ⟨hk,by (try dsimp only);omega,z⟩ (by (try dsimp only);omega) rfl
  | cons p l =>
   unfold wV wH
   repeat' (first
 | (conv=>whnf)
   first
   | refine Bnd.eq hkw ?_
   | (refine Br.decT ?_ ?_;(focus first | assumption | omega))
   | (refine Br.decF ?_ ?_;(focus first | assumption | omega))
   | refine Req.mk h64 ?_
   | refine Req.mk hsh ?_
   | refine Bnd.any ?_
   | refine Get.mk _ rfl ?_
   | (refine Req.mk ?_ ?_;(focus first | rfl | decide | exact ⟨rfl,rfl⟩ | exact ⟨rfl,by decide⟩ | exact (fun _=>rfl) | exact (fun h=>nomatch h) | (simp;done) | omega | (simp [big];done) | exact le_big (by omega) | exact lt_big (by omega))))
   all_goals first | (exfalso;omega;done) | exact NextP.mk (⟨k+1,p :: l⟩:WA) ⟨hk,by (try dsimp only);omega,z⟩ (by (try dsimp only);omega) rfl
theorem u64_val {v:V} (h:(Ty.int .u64).val v):∃ n,v = .int .u64 n:=by
 simp only [Ty.val,Ty.has] at h
 obtain ⟨n,e,_⟩:=h
 simp only [List.cons.injEq,and_true] at e
 exact ⟨n,e⟩
theorem bulks_sh:∀ l:List (Int × Int),2 * l.length≤bulks (shC l)
 | []=>Nat.zero_le _
 | p :: l=>by
  have:=bulks_sh l
  simp only [shC,bulks,V.bulk,List.length_cons]
  omega
theorem cut_bulk {x:El} {s b:Int} (hb:bulks [elA x,.int .i64 s,.int .u64 b]≤1048576):x.l.length≤1000000:=by
 have:=bulks_sh x.l
 unfold elA at hb
 rw [show x.v=[.str x.nm,.sl x.c x.l.length (shC x.l),.int .i64 x.g] from rfl] at hb
 simp only [bulks,V.bulk] at hb
 omega
end Go.Dr.T
