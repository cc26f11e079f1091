/- Chapter 06: Lost, walked. -/
import Derived.Test.YtfhphjloaelgoaaGreatDoorG4
import Derived.Test.YtfhphjloaelgoaaGreatDoorG11
import Derived.Test.YtfhphjloaelgoaaGreatDoorDrJ
namespace Go.Dr.T
def isM (l:List El) (k:Int):Bool:=decide (k∈marksOf l)
def lostV (l:List El) (s:List Int):V :=
 if vldE l≠0 then .tup [.sl true 0 [],.int .i64 (vldE l)] else
 if scrE s≠0 then .tup [.sl true 0 [],.int .i64 (scrE s)] else .tup [gapV (lostG (isM l) s),.int .i64 0]
def lsV (t:LS):V:=if t.a++t.b=[] then .nilsl else .ms 3 0 ((t.a++t.b).length * 3) 0 (t.a++t.b).length false
def lsH (t:LS):List B:=if t.a++t.b=[] then [] else [.blk (T.trC (t.a++t.b)) true]
theorem ls_nil {t:LS} (h:t.a++t.b=[]):lsV t = .nilsl∧lsH t=[]:=by unfold lsV lsH;rw [if_pos h,if_pos h];exact ⟨rfl,rfl⟩
theorem ls_ne {t:LS} (h:t.a++t.b≠[]):lsV t = .ms 3 0 ((t.a++t.b).length * 3) 0 (t.a++t.b).length false∧lsH t=[.blk (T.trC (t.a++t.b)) true]:=by unfold lsV lsH;rw [if_neg h,if_neg h];exact ⟨rfl,rfl⟩
structure LQ where
 j:Nat
 g:List T3
theorem scr_ok {s:List Int} (h:scrE s=0):s.length≤60∧(∀ m∈s,1≤m∧m≤999)∧s.Nodup:=by
 unfold scrE at h
 split at h
 ·cases h
 ·split at h
  ·cases h
  ·rename_i h1 h2
   split at h
   ·rename_i nd
    refine ⟨by omega,fun m hm => ?_,nd⟩
    unfold anyO at h2
    simp only [List.any_eq_true,not_exists,not_and,Bool.not_eq_true] at h2
    have:=h2 m hm
    simp only [outB,Bool.or_eq_false_iff,decide_eq_false_iff_not] at this
    omega
   ·cases h
set_option maxRecDepth 100000 in
set_option maxHeartbeats 20000000 in
theorem lost_ok {c d:Bool} {l:List El} {s:List Int} (hsh:s.length≤9223372036854775807):FunF FB1 md 39 [elsV c l,.sl d s.length (ofInts s)] (lostV l s):=by
 have hg:=gather_fun (c:=c) (l:=l) gatherV_view
 unfold gatherV at hg
 unfold lostV
 by_cases hv:vldE l=0
 rotate_left
 ·rw [if_pos hv] at hg ⊢
  generalize vldE l=e at *
  refine funF_rn rfl rfl ?_
  repeat' (first
 | (conv=>whnf)
   first
   | (refine Br.decF ?_ ?_;(focus first | assumption | omega))
   | refine Br.not ?_
   | refine Rn.seq ?_
   | refine Rn.cond ?_
   | refine Rn.reg ?_
   | refine Rn.skip ?_
   | refine Rn.ret ?_
   | refine call_fun rfl rfl hg (.inl rfl) ?_
   | refine Get.mk _ rfl ?_
   | refine LeavesF.of ?_
   | refine VwF.int ?_
   | refine VwF.nil
   | refine VwF.tup ?_
   | refine VwLF.cons ?_ ?_
   | refine VwLF.nil)
  all_goals first | rfl | (exfalso;omega;done)
 rw [if_neg (fun h=>h hv)] at hg ⊢
 have hc:=(scripted_ok (c:=d) hsh).tab sub1
 by_cases hs:scrE s=0
 rotate_left
 ·rw [if_pos hs]
  generalize scrE s=e at *
  refine funF_rn rfl rfl ?_
  repeat' (first
 | (conv=>whnf)
   first
   | refine Br.t ?_
   | (refine Br.decF ?_ ?_;(focus first | assumption | omega))
   | refine Br.not ?_
   | refine Rn.seq ?_
   | refine Rn.cond ?_
   | refine Rn.reg ?_
   | refine Rn.ret ?_
   | refine call_fun rfl rfl hg (.inl rfl) ?_
   | refine call_fun rfl rfl hc (.inl rfl) ?_
   | refine Get.mk _ rfl ?_
   | refine LeavesF.of ?_
   | refine VwF.int ?_
   | refine VwF.nil
   | refine VwF.tup ?_
   | refine VwLF.cons ?_ ?_
   | refine VwLF.nil)
  all_goals first | rfl | (exfalso;omega;done)
 rw [if_neg (fun h=>h hs)]
 rw [hs] at hc
 obtain ⟨hl60,hrg,hnd⟩:=scr_ok hs
 have w:=wg_all hv
 have g:=pi_all (l:=l) (fun x hx p hp=>((vld_el hv hx).2 p hp).1)
 have nd:=w.nd
 have hks:∀ k,isM l k=true ↔ k∈keysOf (pAll l):=fun k=>by unfold isM;rw [decide_eq_true_eq,g.ks]
 generalize pAll l=D at *
 generalize isM l=is at *
 refine funF_rn rfl rfl ?_
 repeat' (first
 | (conv=>whnf)
   first
   | refine Br.t ?_
   | refine Br.f ?_
   | refine Rn.seq ?_
   | refine Rn.block ?_
   | refine Rn.cond ?_
   | refine Rn.reg ?_
   | refine Rn.skip ?_
   | refine call_fun rfl rfl hg (.inl rfl) ?_
   | refine call_fun rfl rfl hc (.inl rfl) ?_
   | refine Get.mk _ rfl ?_)
 all_goals try (exfalso;omega;done)
 refine Rn.loop (fun i:Nat=>i≤s.length) (fun i=>[(4,lsV (lsF is (s.take i))),(7,.int .i64 (lsF is (s.take i)).k),(8,.int .i64 ((lsF is (s.take i)).a.length:Nat)),(27,.int .i64 (i:Nat))]) (fun i=>lsH (lsF is (s.take i))) (fun i=>s.length - i) 0 (Nat.zero_le _) rfl ?_
 rintro i w1
 try dsimp only
 have hlen:=lsF_len (is:=is) (s.take i) ⟨[],[],0⟩
 rw [List.length_take,show (s.take i).foldl (lsS is) ⟨[],[],0⟩=lsF is (s.take i) from rfl] at hlen
 simp only [List.length_nil,Nat.zero_add] at hlen
 by_cases hi:i<s.length
 rotate_left
 ·rw [List.take_of_length_le (by omega)] at hlen ⊢
  unfold lostG
  generalize lsF is s=t at *
  by_cases hG:t.a++t.b=[]
  ·rw [(ls_nil hG).1,(ls_nil hG).2,hG]
   repeat' (first
 | (conv=>whnf)
   first
   | (refine Br.decF ?_ ?_;(focus first | assumption | omega))
   | refine Rn.seq ?_
   | refine Rn.cond ?_
   | refine Rn.reg ?_
   | refine Rn.exit ?_
   | refine Rn.ret ?_
   | refine Get.mk _ rfl ?_
   | refine LeavesF.of ?_
   | refine VwF.int ?_
   | refine VwF.nil
   | refine VwF.tup ?_
   | refine VwLF.cons ?_ ?_
   | refine VwLF.nil)
   all_goals first | (exfalso;omega;done) | rfl
  ·rw [(ls_ne hG).1,(ls_ne hG).2,gapV_ne hG]
   generalize t.a++t.b=G at *
   have hvw:VwF [B.blk (T.trC G) true] 63 (.ms 3 0 (G.length * 3) 0 G.length false) (.sl false G.length (T.trC G)):=VwF.ms (d:=62) rfl (trC_len G) (part_all (trC_len G)) (VwLF.trC G)
   repeat' (first
 | (conv=>whnf)
   first
   | refine hvw
   | (refine Br.decF ?_ ?_;(focus first | assumption | omega))
   | refine Rn.seq ?_
   | refine Rn.cond ?_
   | refine Rn.reg ?_
   | refine Rn.exit ?_
   | refine Rn.ret ?_
   | refine Get.mk _ rfl ?_
   | refine LeavesF.of ?_
   | refine VwF.int ?_
   | refine VwF.tup ?_
   | refine VwLF.cons ?_ ?_
   | refine VwLF.nil)
   all_goals first | (exfalso;omega;done) | rfl
 obtain ⟨m,hm,hcm⟩:=ofInts_cell hi
 have hsn:=lsF_snoc (is:=is) hm
 generalize lsF is (s.take i)=t at *
 obtain ⟨a,b,k⟩:=t
 unfold lsS at hsn
 dsimp only at hsn hlen ⊢
 cases hb:is m with
 | false =>
  rw [hb,if_neg (by simp)] at hsn
  have hmf:mfind 0 (.int .i64 m) (ofInts (D.map (·.k))) 0=some none:=mfind_not (fun h=>by rw [(hks m).2 h] at hb;cases hb)
  by_cases hG:a++b=[]
  ·obtain ⟨h1,h2⟩:=List.append_eq_nil_iff.1 hG
   subst h1 h2
   rw [(ls_nil (t:=⟨[],[],k⟩) rfl).1,(ls_nil (t:=⟨[],[],k⟩) rfl).2]
   repeat' (first
 | (conv=>whnf)
   first
   | refine Br.t ?_
   | (refine Br.decT ?_ ?_;(focus first | assumption | omega))
   | (refine Bnd.i64 ?_ ?_ ?_;(focus omega);(focus omega))
   | refine Rn.seq ?_
   | refine Rn.block ?_
   | refine Rn.cond ?_
   | refine Rn.reg ?_
   | refine Rn.skip ?_
   | refine Rn.exit ?_
   | refine Get.mk _ hcm ?_
   | refine Get.mk _ hmf ?_
   | (refine Idx.nat ?_ ?_;(focus omega))
   | (refine Ifz.pos ?_ ?_;(focus omega))
   | refine Get.mk _ rfl ?_
   | (refine Req.mk ?_ ?_;(focus first | rfl | decide | exact ⟨rfl,rfl⟩ | exact ⟨rfl,by decide⟩ | exact (fun _=>rfl) | exact (fun h=>nomatch h) | (simp;done) | omega | (simp [big];done) | exact le_big (by omega) | exact lt_big (by omega))))
   all_goals first | (exfalso;omega;done) | exact NextP.mk (i+1) hi (by omega) (by rw [hsn];rfl)
  ·obtain ⟨e1,e2⟩:=ls_ne (t:=⟨a,b,k⟩) hG
   rw [e1,e2]
   have hG2:a++(b++[(m,k,0)])≠[]:=by simp
   obtain ⟨e3,e4⟩:=ls_ne (t:=⟨a,b++[(m,k,0)],k⟩) hG2
   have e5:a++(b++[(m,k,0)])=(a++b)++[(m,k,0)]:=by simp
   have hgl:(a++b).length≤60:=by rw [List.length_append];omega
   dsimp only at e3 e4 ⊢
   rw [e5, ← trC_snoc] at e4
   rw [e5,List.length_append,List.length_singleton] at e3
   generalize a++b=G at *
   have hlc:=trC_len G
   have hap:0+G.length * 3=G.length * 3∧((T.trC G).length+[V.int .i64 m,.int .i64 k,.int .i64 0].length) * (24+1)<big:=⟨by omega,by rw [hlc];exact lt_big (by simp;omega)⟩
   repeat' (first
 | (conv=>whnf)
   first
   | refine Br.t ?_
   | (refine Br.decT ?_ ?_;(focus first | assumption | omega))
   | (refine Bnd.i64 ?_ ?_ ?_;(focus omega);(focus omega))
   | refine Rn.seq ?_
   | refine Rn.block ?_
   | refine Rn.cond ?_
   | refine Rn.reg ?_
   | refine Rn.skip ?_
   | refine Rn.exit ?_
   | refine Get.mk _ hcm ?_
   | refine Get.mk _ hmf ?_
   | refine Req.mk hlc ?_
   | refine Req.mk hap ?_
   | (refine Idx.nat ?_ ?_;(focus omega))
   | (refine Ifz.pos ?_ ?_;(focus omega))
   | refine Get.mk _ rfl ?_
   | (refine Req.mk ?_ ?_;(focus first | rfl | decide | exact ⟨rfl,rfl⟩ | exact ⟨rfl,by decide⟩ | exact (fun _=>rfl) | exact (fun h=>nomatch h) | (simp;done) | omega | (simp [big];done) | exact le_big (by omega) | exact lt_big (by omega))))
   all_goals try (exfalso;omega;done)
   rw [show (G.length+1) * 3=G.length * 3+3 by omega] at e3
   all_goals exact NextP.mk (i+1) hi (by omega) (by rw [hsn,e3,e4];rfl)
 | true =>
  rw [hb,if_pos rfl] at hsn
  obtain ⟨i2,e,he,hf2,htg2,_⟩:=pe_find nd ((hks m).1 hb)
  obtain ⟨cv,hcv⟩:=pe_sl e
  rw [hcv] at htg2
  by_cases hG:a++b=[]
  ·obtain ⟨h1,h2⟩:=List.append_eq_nil_iff.1 hG
   subst h1 h2
   rw [(ls_nil (t:=⟨[],[],k⟩) rfl).1,(ls_nil (t:=⟨[],[],k⟩) rfl).2]
   repeat' (first
 | (conv=>whnf)
   first
   | refine Br.f ?_
   | (refine Br.decT ?_ ?_;(focus first | assumption | omega))
   | refine Rn.seq ?_
   | refine Rn.block ?_
   | refine Rn.cond ?_
   | refine Rn.reg ?_
   | refine Rn.skip ?_
   | refine Get.mk _ hcm ?_
   | (refine Get.mk _ hf2 ?_;refine fWe htg2 ?_)
   | (refine Idx.nat ?_ ?_;(focus omega))
   | refine Get.mk _ rfl ?_
   | (refine Req.mk ?_ ?_;(focus first | rfl | decide | exact ⟨rfl,rfl⟩ | exact ⟨rfl,by decide⟩ | exact (fun _=>rfl) | exact (fun h=>nomatch h) | (simp;done) | omega | (simp [big];done) | exact le_big (by omega) | exact lt_big (by omega))))
   all_goals try (exfalso;omega;done)
   refine Rn.loop (fun j:Nat=>j=0) (fun j=>[(8,.int .i64 (j:Nat))]) (fun _=>[]) (fun j=>j) 0 rfl rfl ?_
   rintro j rfl
   try dsimp only
   repeat' (first
 | (conv=>whnf)
   first
   | refine Br.f ?_
   | (refine Bnd.i64 ?_ ?_ ?_;(focus omega);(focus omega))
   | refine Rn.seq ?_
   | refine Rn.cond ?_
   | refine Rn.reg ?_
   | refine Rn.exit ?_)
   all_goals first | (exfalso;omega;done) | exact NextP.mk (i+1) hi (by omega) (by rw [hsn];rfl)
  ·obtain ⟨e1,e2⟩:=ls_ne (t:=⟨a,b,k⟩) hG
   rw [e1,e2]
   dsimp only
   have hgl:(a++b).length≤60:=by rw [List.length_append];omega
   have hgl2:(a++b).length=a.length+b.length:=List.length_append
   repeat' (first
 | (conv=>whnf)
   first
   | refine Br.f ?_
   | (refine Br.decT ?_ ?_;(focus first | assumption | omega))
   | refine Rn.seq ?_
   | refine Rn.block ?_
   | refine Rn.cond ?_
   | refine Rn.reg ?_
   | refine Rn.skip ?_
   | refine Get.mk _ hcm ?_
   | (refine Get.mk _ hf2 ?_;refine fWe htg2 ?_)
   | (refine Idx.nat ?_ ?_;(focus omega))
   | refine Get.mk _ rfl ?_
   | (refine Req.mk ?_ ?_;(focus first | rfl | decide | exact ⟨rfl,rfl⟩ | exact ⟨rfl,by decide⟩ | exact (fun _=>rfl) | exact (fun h=>nomatch h) | (simp;done) | omega | (simp [big];done) | exact le_big (by omega) | exact lt_big (by omega))))
   all_goals try (exfalso;omega;done)
   refine Rn.loop (fun q:LQ=>(a.length≤q.j∧q.j≤(a++b).length)∧q.g.length=(a++b).length∧(∀ i,i<a.length→q.g[i]?=a[i]?)∧∀ i,i<b.length→q.g[a.length+i]?=if a.length+i<q.j then (b[i]?).map (sB m) else b[i]?) (fun q=>[(8,.int .i64 (q.j:Nat))]) (fun q=>[.blk (T.trC q.g) true]) (fun q=>(a++b).length - q.j) ⟨a.length,a++b⟩ ⟨⟨Nat.le_refl _,by (try dsimp only);omega⟩,rfl,fun i h=>List.getElem?_append_left h,fun i h=>by rw [if_neg (by simp),List.getElem?_append_right (by omega),Nat.add_sub_cancel_left]⟩ rfl ?_
   rintro ⟨j,g⟩ ⟨⟨z1,z2⟩,z3,z4,z5⟩
   dsimp only at z1 z2 z3 z4 z5 ⊢
   have hlg:=trC_len g
   by_cases hj:j<(a++b).length
   ·obtain ⟨q,rfl⟩:∃ q,j=a.length+q:=⟨j - a.length,by omega⟩
    obtain ⟨t,ht⟩:∃ t,b[q]?=some t:=⟨_,List.getElem?_eq_getElem (by omega)⟩
    have hg1:=z5 q (by omega)
    rw [if_neg (by simp),ht] at hg1
    have hov:over (T.trC g) (0+(a.length+q) * 3+2) [.int .i64 m]=T.trC (g.set (a.length+q) (sB m t)):=by rw [Nat.zero_add];exact trC_set hg1
    have hln:(T.trC g).length=(a++b).length * 3∧0+(a.length+q) * 3+2+1≤(T.trC g).length:=by omega
    repeat' (first
 | (conv=>whnf)
   first
   | (refine Br.decT ?_ ?_;(focus first | assumption | omega))
   | (refine Bnd.i64 ?_ ?_ ?_;(focus omega);(focus omega))
   | refine Rn.seq ?_
   | refine Rn.block ?_
   | refine Rn.cond ?_
   | refine Rn.reg ?_
   | refine Rn.skip ?_
   | refine Req.mk hln ?_
   | refine fVg' hov ?_
   | (refine Idx.nat ?_ ?_;(focus omega))
   | refine Get.mk _ rfl ?_
   | (refine Req.mk ?_ ?_;(focus first | rfl | decide | exact ⟨rfl,rfl⟩ | exact ⟨rfl,by decide⟩ | exact (fun _=>rfl) | exact (fun h=>nomatch h) | (simp;done) | omega | (simp [big];done) | exact le_big (by omega) | exact lt_big (by omega))))
    all_goals try (exfalso;omega;done)
    all_goals refine NextP.mk ⟨a.length+q+1,g.set (a.length+q) (sB m t)⟩ ⟨⟨by (try dsimp only);omega,hj⟩,by simp [z3],fun i h => ?_,fun i h => ?_⟩ (by (try dsimp only);omega) rfl
    ·dsimp only
     rw [List.getElem?_set_ne (by omega)]
     exact z4 i h
    ·dsimp only
     by_cases e:i=q
     ·subst e
      rw [List.getElem?_set_self (by omega),if_pos (by omega),ht]
      rfl
     ·rw [List.getElem?_set_ne (by omega),z5 i h]
      by_cases hiq:i<q
      ·rw [if_pos (by omega),if_pos (by omega)]
      ·rw [if_neg (by omega),if_neg (by omega)]
   ·have hj' : j=(a++b).length:=by omega
    subst hj'
    have hgc:=close_is (k:=m) (a:=a) (b:=b) (g:=g) (by omega) z4 (fun i h=>by rw [z5 i h,if_pos (by omega)])
    have hG2:(a++b.map (sB m))++[]≠[]:=by
     rw [List.append_nil]
     intro h0
     obtain ⟨h1,h2⟩:=List.append_eq_nil_iff.1 h0
     exact hG (by rw [h1,List.map_eq_nil_iff.1 h2];rfl)
    obtain ⟨e3,e4⟩:=ls_ne (t:=⟨a++b.map (sB m),[],m⟩) hG2
    dsimp only at e3 e4
    rw [List.append_nil, ← hgc] at e3 e4
    rw [← hgc] at hsn
    repeat' (first
 | (conv=>whnf)
   first
   | (refine Br.decF ?_ ?_;(focus first | assumption | omega))
   | (refine Bnd.i64 ?_ ?_ ?_;(focus omega);(focus omega))
   | refine Rn.seq ?_
   | refine Rn.cond ?_
   | refine Rn.reg ?_
   | refine Rn.exit ?_)
    all_goals first | (exfalso;omega;done) | exact NextP.mk (i+1) hi (by omega) (by rw [hsn,e3,e4];dsimp only;rw [z3];rfl)
end Go.Dr.T
