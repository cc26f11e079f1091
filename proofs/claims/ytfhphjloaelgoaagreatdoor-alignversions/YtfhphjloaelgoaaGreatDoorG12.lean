/- Chapter 06: Lost, walked. -/
import Derived.Test.YtfhphjloaelgoaaGreatDoorG4
import Derived.Test.YtfhphjloaelgoaaGreatDoorG11
import Derived.Test.YtfhphjloaelgoaaGreatDoorDrJ
import Derived.Test.YtfhphjloaelgoaaGreatDoorG3
namespace Go.Dr.T
def isM (l:List El) (k:Int):Bool:=decide (k∈marksOf l)
def lostV (l:List El) (s:List Int):V :=
 if vldE l≠0 then .tup [.sl true 0 [],.int .i64 (vldE l)] else
 if scrE s≠0 then .tup [.sl true 0 [],.int .i64 (scrE s)] else .tup [gapV (lostG (isM l) s),.int .i64 0]
def lsV (t:LS):V:=if t.a++t.b=[] then .nilsl else .ms 3 0 ((t.a++t.b).length * 3) 0 (t.a++t.b).length false
def lsH (t:LS):List B:=if t.a++t.b=[] then [] else [.blk (T.trC (t.a++t.b)) true]
theorem ls_nil {t:LS} (h:t.a++t.b=[]):lsV t = .nilsl∧lsH t=[]:=by unfold lsV lsH;rw [if_pos h,if_pos h];exact ⟨rfl,rfl⟩
theorem ls_ne {t:LS} (h:t.a++t.b≠[]):lsV t = .ms 3 0 ((t.a++t.b).length * 3) 0 (t.a++t.b).length false∧lsH t=[.blk (T.trC (t.a++t.b)) true]:=by unfold lsV lsH;rw [if_neg h,if_neg h];exact ⟨rfl,rfl⟩
structure LQ where
 j:Nat
 g:List T3
theorem scr_ok {s:List Int} (h:scrE s=0):s.length≤60∧(∀ m∈s,1≤m∧m≤999)∧s.Nodup:=by
 unfold scrE at h
 split at h
 ·cases h
 ·split at h
  ·cases h
  ·rename_i h1 h2
   split at h
   ·rename_i nd
    refine ⟨by omega,fun m hm => ?_,nd⟩
    unfold anyO at h2
    simp only [List.any_eq_true,not_exists,not_and,Bool.not_eq_true] at h2
    have:=h2 m hm
    simp only [outB,Bool.or_eq_false_iff,decide_eq_false_iff_not] at this
    omega
   ·cases h
set_option maxRecDepth 100000 in
set_option maxHeartbeats 20000000 in
theorem lost_ok {c d:Bool} {l:List El} {s:List Int} (hsh:s.length≤9223372036854775807):FunF FB1 md 39 [elsV c l,.sl d s.length (ofInts s)] (lostV l s):=by
 have hg:=gather_fun (c:=c) (l:=l) gatherV_view
 unfold gatherV at hg
 unfold lostV
 by_cases hv:vldE l=0
 rotate_left
 ·rw [if_pos hv] at hg ⊢
  generalize vldE l=e at *
  refine funF_rn rfl rfl ?_
  repeat' (first
 | (conv=>whnf)
   first
   | (refine Br.decF ?_ ?_;(focus first | assumption | omega))
   | refine Br.not ?_
   | refine Rn.seq ?_
   | refine Rn.cond ?_
   | refine Rn.reg ?_
   | refine Rn.skip ?_
   | refine Rn.ret ?_
   | refine call_fun rfl rfl hg (.inl rfl) ?_
   | refine Get.mk _ rfl ?_
   | refine LeavesF.of ?_
   | refine VwF.int ?_
   | refine VwF.nil
   | refine VwF.tup ?_
   | refine VwLF.cons ?_ ?_
   | refine VwLF.nil)
  all_goals first | rfl | (exfalso;omega;done)
 rw [if_neg (fun h=>h hv)] at hg ⊢
 have hc:=(scripted_ok (c:=d) hsh).tab sub1
 by_cases hs:scrE s=0
 rotate_left
 ·rw [if_pos hs]
  generalize scrE s=e at *
  refine funF_rn rfl rfl ?_
  repeat' (first
 | (conv=>whnf)
   first
   | refine Br.t ?_
   | (refine Br.decF ?_ ?_;(focus first | assumption | omega))
   | refine Br.not ?_
   | refine Rn.seq ?_
   | refine Rn.cond ?_
   | refine Rn.reg ?_
   | refine Rn.ret ?_
   | refine call_fun rfl rfl hg (.inl rfl) ?_
   | refine call_fun rfl rfl hc (.inl rfl) ?_
   | refine Get.mk _ rfl ?_
   | refine LeavesF.of ?_
   | refine VwF.int ?_
   | refine VwF.nil
   | refine VwF.tup ?_
   | refine VwLF.cons ?_ ?_
   | refine VwLF.nil)
  all_goals first | rfl | (exfalso;omega;done)
 rw [if_neg (fun h=>h hs)]
 rw [hs] at hc
 obtain ⟨hl60,hrg,hnd⟩:=scr_ok hs
 have w:=wg_all hv
 have g:=pi_all (l:=l) (fun x hx p hp=>((vld_el hv hx).2 p hp).1)
 have nd:=w.nd
 have hks:∀ k,isM l k=true ↔ k∈keysOf (pAll l):=fun k=>by unfold isM;rw [decide_eq_true_eq,g.ks]
 generalize pAll l=D at *
 generalize isM l=is at *
 refine funF_rn rfl rfl ?_
 repeat' (first
 | (conv=>whnf)
   first
   | refine Br.t ?_
   | refine Br.f ?_
   | refine Rn.seq ?_
   | refine Rn.block ?_
   | refine Rn.cond ?_
   | refine Rn.reg ?_
   | refine Rn.skip ?_
   | refine call_fun rfl rfl hg (.inl rfl) ?_
   | refine call_fun rfl rfl hc (.inl rfl) ?_
   | refine Get.mk _ rfl ?_)
 all_goals try (exfalso;omega;done)
 refine Rn.loop (fun i:Nat=>i≤s.length) (fun i=>[(4,lsV (lsF is (s.take i))),(7,.int .i64 (lsF is (s.take i)).k),(8,.int .i64 ((lsF is (s.take i)).a.length:Nat)),(27,.int .i64 (i:Nat))]) (fun i=>lsH (lsF is (s.take i))) (fun i=>s.length - i) 0 (Nat.zero_le _) rfl ?_
 rintro i w1
 try dsimp only
 have hlen:=lsF_len (is:=is) (s.take i) ⟨[],[],0⟩
 rw [List.length_take,show (s.take i).foldl (lsS is) ⟨[],[],0⟩=lsF is (s.take i) from rfl] at hlen
 simp only [List.length_nil,Nat.zero_add] at hlen
 by_cases hi:i<s.length
 rotate_left
 ·rw [List.take_of_length_le (by omega)] at hlen ⊢
  unfold lostG
  generalize lsF is s=t at *
  by_cases hG:t.a++t.b=[]
  ·rw [(ls_nil hG).1,(ls_nil hG).2,hG]
   repeat' (first
 | (conv=>whnf)
   first
   | (refine Br.decF ?_ ?_;(focus first | assumption | omega))
   | refine Rn.seq ?_
   | refine Rn.cond ?_
   | refine Rn.reg ?_
   | refine Rn.exit ?_
   | refine Rn.ret ?_
   | refine Get.mk _ rfl ?_
   | refine LeavesF.of ?_
   | refine VwF.int ?_
   | refine VwF.nil
   | refine VwF.tup ?_
   | refine VwLF.cons ?_ ?_
   | refine VwLF.nil)
   all_goals first | (exfalso;omega;done) | rfl
  ·rw [(ls_ne hG).1,(ls_ne hG).2,gapV_ne hG]
   generalize t.a++t.b=G at *
   have hvw:VwF [B.blk (T.trC G) true] 63 (.ms 3 0 (G.length * 3) 0 G.length false) (.sl false G.length (T.trC G)):=VwF.ms (d:=62) rfl (trC_len G) (part_all (trC_len G)) (VwLF.trC G)
   repeat' (first
 | (conv=>whnf)
   first
   | refine hvw
   | (refine Br.decF ?_ ?_;(focus first | assumption | omega))
   | refine Rn.seq ?_
   | refine Rn.cond ?_
   | refine Rn.reg ?_
   | refine Rn.exit ?_
   | refine Rn.ret ?_
   | refine Get.mk _ rfl ?_
   | refine LeavesF.of ?_
   | refine VwF.int ?_
   | refine VwF.tup ?_
   | refine VwLF.cons ?_ ?_
   | refine VwLF.nil)
   all_goals first | (exfalso;omega;done) | rfl
 obtain ⟨m,hm,hcm⟩:=ofInts_cell hi
 have hsn:=lsF_snoc (is:=is) hm
 generalize lsF is (s.take i)=t at *
 obtain ⟨a,b,k⟩:=t
 unfold lsS at hsn
 dsimp only at hsn hlen ⊢
 cases hb:is m with
 | false =>
  rw [hb,if_neg (by simp)] at hsn
  have hmf:mfind 0 (.int .i64 m) (ofInts (D.map (·.k))) 0=some none:=mfind_not (fun h=>by rw [(hks m).2 h] at hb;cases hb)
  by_cases hG:a++b=[]
  ·obtain ⟨h1,h2⟩:=List.append_eq_nil_iff.1 hG
   subst h1 h2
   rw [(ls_nil (t:=⟨[],[],k⟩) rfl).1,(ls_nil (t:=⟨[],[],k⟩) rfl).2]
   repeat' (first
 | (conv=>whnf)
   first
   | refine Br.t ?_
   | (refine Br.decT ?_ ?_;(focus first | assumption | omega))
   | (refine Bnd.i64 ?_ ?_ ?_;(focus omega);(focus omega))
   | refine Rn.seq ?_
   | refine Rn.block ?_
   | refine Rn.cond ?_
   | refine Rn.reg ?_
   | refine Rn.skip ?_
   | refine Rn.exit ?_
   | refine Get.mk _ hcm ?_
   | refine Get.mk _ hmf ?_
   | (refine Idx.nat ?_ ?_;(focus omega))
   | (refine Ifz.pos ?_ ?_;(focus omega))
   | refine Get.mk _ rfl ?_
   | (refine Req.mk ?_ ?_;(focus first | rfl | decide | exact ⟨rfl,rfl⟩ | exact ⟨rfl,by decide⟩ | exact (fun _=>rfl) | exact (fun h=>nomatch h) | (simp;done) | omega | (simp [big];done) | exact le_big (by omega) | exact lt_big (by omega))))
   all_goals first | (exfalso;omega;done) | exact NextP.mk (i+1) hi (by omega) (by rw [hsn];rfl)
  ·obtain ⟨e1,e2⟩:=ls_ne (t:=⟨a,b,k⟩) hG
   rw [e1,e2]
   have hG2:a++(b++[(m,k,0)])≠[]:=by simp
   obtain ⟨e3,e4⟩:=ls_ne (t:=⟨a,b++[(m,k,0)],k⟩) hG2
   have e5:a++(b++[(m,k,0)])=(a++b)++[(m,k,0)]:=by simp
   have hgl:(a++b).length≤60:=by rw [List.length_append];omega
   dsimp only at e3 e4 ⊢
   rw [e5, ← trC_snoc] at e4
   rw [e5,List.length_append,List.length_singleton] at e3
   generalize a++b=G at *
   have hlc:=trC_len G
   have hap:0+G.length * 3=G.length * 3∧((T.trC G).length+[V.int .i64 m,.int .i64 k,.int .i64 0].length) * (24+1)<big:=⟨by omega,by rw [hlc];exact lt_big (by simp;omega)⟩
   repeat' (first
 | (conv=>whnf)
   first
   | refine Br.t ?_
   | (refine Br.decT ?_ ?_;(focus first | assumption | omega))
   | (refine Bnd.i64 ?_ ?_ ?_;(focus omega);(focus omega))
   | refine Rn.seq ?_
   | refine Rn.block ?_
   | refine Rn.cond ?_
   | refine Rn.reg ?_
   | refine Rn.skip ?_
   | refine Rn.exit ?_
   | refine Get.mk _ hcm ?_
   | refine Get.mk _ hmf ?_
   | refine Req.mk hlc ?_
   | refine Req.mk hap ?_
   | (refine Idx.nat ?_ ?_;(focus omega))
   | (refine Ifz.pos ?_ ?_;(focus omega))
   | refine Get.mk _ rfl ?_
   | (refine Req.mk ?_ ?_;(focus first | rfl | decide | exact ⟨rfl,rfl⟩ | exact ⟨rfl,by decide⟩ | exact (fun _=>rfl) | exact (fun h=>nomatch h) | (simp;done) | omega | (simp [big];done) | exact le_big (by omega) | exact lt_big (by omega))))
   all_goals try (exfalso;omega;done)
   rw [show (G.length+1) * 3=G.length * 3+3 by omega] at e3
   all_goals exact NextP.mk (i+1) hi (by omega) (by rw [hsn,e3,e4];rfl)
 | true =>
  rw [hb,if_pos rfl] at hsn
  obtain ⟨i2,e,he,hf2,htg2,_⟩:=pe_find nd ((hks m).1 hb)
  obtain ⟨cv,hcv⟩:=pe_sl e
  rw [hcv] at htg2
  by_cases hG:a++b=[]
  ·obtain ⟨h1,h2⟩:=List.append_eq_nil_iff.1 hG
   subst h1 h2
   rw [(ls_nil (t:=⟨[],[],k⟩) rfl).1,(ls_nil (t:=⟨[],[],k⟩) rfl).2]
   repeat' (first
 | (conv=>whnf)
   first
   | refine Br.f ?_
   | (refine Br.decT ?_ ?_;(focus first | assumption | omega))
   | refine Rn.seq ?_
   | refine Rn.block ?_
   | refine Rn.cond ?_
   | refine Rn.reg ?_
   | refine Rn.skip ?_
   | refine Get.mk _ hcm ?_
   | (refine Get.mk _ hf2 ?_;refine fWe htg2 ?_)
   | (refine Idx.nat ?_ ?_;(focus omega))
   | refine Get.mk _ rfl ?_
   | (refine Req.mk ?_ ?_;(focus first | rfl | decide | exact ⟨rfl,rfl⟩ | exact ⟨rfl,by decide⟩ | exact (fun _=>rfl) | exact (fun h=>nomatch h) | (simp;done) | omega | (simp [big];done) | exact le_big (by omega) | exact lt_big (by omega))))
   all_goals try (exfalso;omega;done)
   refine Rn.loop (fun j:Nat=>j=0) (fun j=>[(8,.int .i64 (j:Nat))]) (fun _=>[]) (fun j=>j) 0 rfl rfl ?_
   rintro j rfl
   try dsimp only
   repeat' (first
 | (conv=>whnf)
   first
   | refine Br.f ?_
   | (refine Bnd.i64 ?_ ?_ ?_;(focus omega);(focus omega))
   | refine Rn.seq ?_
   | refine Rn.cond ?_
   | refine Rn.reg ?_
   | refine Rn.exit ?_)
   all_goals first | (exfalso;omega;done) | exact NextP.mk (i+1) hi (by omega) (by rw [hsn];rfl)
  ·obtain ⟨e1,e2⟩:=ls_ne (t:=⟨a,b,k⟩) hG
   rw [e1,e2]
   dsimp only
   have hgl:(a++b).length≤60:=by rw [List.length_append];omega
   have hgl2:(a++b).length=a.length+b.length:=List.length_append
   repeat' (first
 | (conv=>whnf)
   first
   | refine Br.f ?_
   | (refine Br.decT ?_ ?_;(focus first | assumption | omega))
   | refine Rn.seq ?_
   | refine Rn.block ?_
   | refine Rn.cond ?_
   | refine Rn.reg ?_
   | refine Rn.skip ?_
   | refine Get.mk _ hcm ?_
   | (refine Get.mk _ hf2 ?_;refine fWe htg2 ?_)
   | (refine Idx.nat ?_ ?_;(focus omega))
   | refine Get.mk _ rfl ?_
   | (refine Req.mk ?_ ?_;(focus first | rfl | decide | exact ⟨rfl,rfl⟩ | exact ⟨rfl,by decide⟩ | exact (fun _=>rfl) | exact (fun h=>nomatch h) | (simp;done) | omega | (simp [big];done) | exact le_big (by omega) | exact lt_big (by omega))))
   all_goals try (exfalso;omega;done)
   refine Rn.loop (fun q:LQ=>(a.length≤q.j∧q.j≤(a++b).length)∧q.g.length=(a++b).length∧(∀ i,i<a.length→q.g[i]?=a[i]?)∧∀ i,i<b.length→q.g[a.length+i]?=if a.length+i<q.j then (b[i]?).map (sB m) else b[i]?) (fun q=>[(8,.int .i64 (q.j:Nat))]) (fun q=>[.blk (T.trC q.g) true]) (fun q=>(a++b).length - q.j) ⟨a.length,a++b⟩ ⟨⟨Nat.le_refl _,by (try dsimp only);omega⟩,rfl,fun i h=>List.getElem?_append_left h,fun i h=>by rw [if_neg (by simp),List.getElem?_append_right (by omega),Nat.add_sub_cancel_left]⟩ rfl ?_
   rintro ⟨j,g⟩ ⟨⟨z1,z2⟩,z3,z4,z5⟩
   dsimp only at z1 z2 z3 z4 z5 ⊢
   have hlg:=trC_len g
   by_cases hj:j<(a++b).length
   ·obtain ⟨q,rfl⟩:∃ q,j=a.length+q:=⟨j - a.length,by omega⟩
    obtain ⟨t,ht⟩:∃ t,b[q]?=some t:=⟨_,List.getElem?_eq_getElem (by omega)⟩
    have hg1:=z5 q (by omega)
    rw [if_neg (by simp),ht] at hg1
    have hov:over (T.trC g) (0+(a.length+q) * 3+2) [.int .i64 m]=T.trC (g.set (a.length+q) (sB m t)):=by rw [Nat.zero_add];exact trC_set hg1
    have hln:(T.trC g).length=(a++b).length * 3∧0+(a.length+q) * 3+2+1≤(T.trC g).length:=by omega
    repeat' (first
 | (conv=>whnf)
   first
   | (refine Br.decT ?_ ?_;(focus first | assumption | omega))
   | (refine Bnd.i64 ?_ ?_ ?_;(focus omega);(focus omega))
   | refine Rn.seq ?_
   | refine Rn.block ?_
   | refine Rn.cond ?_
   | refine Rn.reg ?_
   | refine Rn.skip ?_
   | refine Req.mk hln ?_
   | refine fVg' hov ?_
   | (refine Idx.nat ?_ ?_;(focus omega))
   | refine Get.mk _ rfl ?_
   | (refine Req.mk ?_ ?_;(focus first | rfl | decide | exact ⟨rfl,rfl⟩ | exact ⟨rfl,by decide⟩ | exact (fun _=>rfl) | exact (fun h=>nomatch h) | (simp;done) | omega | (simp [big];done) | exact le_big (by omega) | exact lt_big (by omega))))
    all_goals try (exfalso;omega;done)
    all_goals refine NextP.mk ⟨a.length+q+1,g.set (a.length+q) (sB m t)⟩ ⟨⟨by (try dsimp only);omega,hj⟩,by simp [z3],fun i h => ?_,fun i h => ?_⟩ (by (try dsimp only);omega) rfl
    ·dsimp only
     rw [List.getElem?_set_ne (by omega)]
     exact z4 i h
    ·dsimp only
     by_cases e:i=q
     ·subst e
      rw [List.getElem?_set_self (by omega),if_pos (by omega),ht]
      rfl
     ·rw [List.getElem?_set_ne (by omega),z5 i h]
      by_cases hiq:i<q
      ·rw [if_pos (by omega),if_pos (by omega)]
      ·rw [if_neg (by omega),if_neg (by omega)]
   ·have hj' : j=(a++b).length:=by omega
    subst hj'
    have hgc:=close_is (k:=m) (a:=a) (b:=b) (g:=g) (by omega) z4 (fun i h=>by rw [z5 i h,if_pos (by omega)])
    have hG2:(a++b.map (sB m))++[]≠[]:=by
     rw [List.append_nil]
     intro h0
     obtain ⟨h1,h2⟩:=List.append_eq_nil_iff.1 h0
     exact hG (by rw [h1,List.map_eq_nil_iff.1 h2];rfl)
    obtain ⟨e3,e4⟩:=ls_ne (t:=⟨a++b.map (sB m),[],m⟩) hG2
    dsimp only at e3 e4
    rw [List.append_nil, ← hgc] at e3 e4
    rw [← hgc] at hsn
    repeat' (first
 | (conv=>whnf)
   first
   | (refine Br.decF ?_ ?_;(focus first | assumption | omega))
   | (refine Bnd.i64 ?_ ?_ ?_;(focus omega);(focus omega))
   | refine Rn.seq ?_
   | refine Rn.cond ?_
   | refine Rn.reg ?_
   | refine Rn.exit ?_)
    all_goals first | (exfalso;omega;done) | exact NextP.mk (i+1) hi (by omega) (by rw [hsn,e3,e4];dsimp only;rw [z3];rfl)
end Go.Dr.T
namespace Go.Dr.T
def tb (f:Nat→Nat→Int):List Int:=(List.range 1681).map fun k=>f (k / 41) (k % 41)
def upT (f:Nat→Nat→Int) (i j:Nat) (v:Int):Nat→Nat→Int:=fun i' j' => if i' = i∧j' = j then v else f i' j'
theorem tb_len (f:Nat→Nat→Int):(tb f).length=1681:=by simp [tb]
theorem tb_get {f:Nat→Nat→Int} {i j:Nat} (hi:i<41) (hj:j<41):(tb f)[i * 41+j]?=some (f i j):=by
 have h1:(i * 41+j) / 41=i:=by omega
 have h2:(i * 41+j) % 41=j:=by omega
 have h3:i * 41+j<1681:=by omega
 simp [tb,h1,h2,h3]
theorem tb_set {f:Nat→Nat→Int} {i j:Nat} {v:Int} (hi:i<41) (hj:j<41):(tb f).set (i * 41+j) v=tb (upT f i j v):=by
 apply List.ext_getElem?
 intro k
 by_cases hk:k<1681
 ·rw [List.getElem?_set,tb_len]
  have e:∀ g:Nat→Nat→Int,(tb g)[k]?=some (g (k / 41) (k % 41)):=fun g=>by simp [tb,hk]
  rw [e,e]
  by_cases h:i * 41+j=k
  ·rw [if_pos h,if_pos (by omega)]
   have h1:k / 41=i:=by omega
   have h2:k % 41=j:=by omega
   simp [upT,h1,h2]
  ·rw [if_neg h]
   have:¬ (k / 41=i∧k % 41=j):=by omega
   simp [upT,this]
 ·rw [List.getElem?_eq_none (by simp [tb_len];omega),List.getElem?_eq_none (by simp [tb_len];omega)]
structure Sh where
 c:Bool
 l:List (Int × Int)
def Sh.v (a:Sh):V:=.sl a.c a.l.length (shC a.l)
@[irreducible] def pC (a b:Sh) (s:Int) (f:Nat→Nat→Int):List V:=a.v :: b.v :: .int .i64 s :: ofInts (tb f)
theorem pC_eq (a b:Sh) (s:Int) (f:Nat→Nat→Int):pC a b s f=a.v :: b.v :: .int .i64 s :: ofInts (tb f):=by unfold pC;rfl
section
variable {a b:Sh} {s:Int} {f:Nat→Nat→Int}
theorem pC_len:(pC a b s f).length=1684:=by rw [pC_eq];simp [ofInts,tb_len]
theorem pC_0:cellAt (pC a b s f) 0=some a.v:=by rw [pC_eq];rfl
theorem pC_1:cellAt (pC a b s f) 1=some b.v:=by rw [pC_eq];rfl
theorem pC_2:cellAt (pC a b s f) 2=some (.int .i64 s):=by rw [pC_eq];rfl
theorem pC_t {i j:Nat} (hi:i<41) (hj:j<41):cellAt (pC a b s f) (3+i * 41+j)=some (.int .i64 (f i j)):=by
 rw [pC_eq,show 3+i * 41+j=(i * 41+j)+1+1+1 by omega]
 simp only [cellAt]
 obtain ⟨y,h1,h2⟩:∃ y,(tb f)[i * 41+j]?=some y∧cellAt (ofInts (tb f)) (i * 41+j)=some (.int .i64 y):=by
  refine ⟨_,tb_get hi hj,?_⟩
  have key:∀ (l:List Int) (n:Nat) (y:Int),l[n]?=some y→cellAt (ofInts l) n=some (.int .i64 y):=by
   intro l
   induction l with
   | nil=>intro n y h;simp at h
   | cons x l ih =>
    intro n y h
    cases n with
    | zero=>simp at h;subst h;rfl
    | succ n=>exact ih n y (by simpa using h)
  exact key _ _ _ (tb_get hi hj)
 rw [tb_get hi hj] at h1
 cases h1;exact h2
theorem pC_st {i j:Nat} {v:Int} (hi:i<41) (hj:j<41):over (pC a b s f) (3+i * 41+j) [.int .i64 v]=pC a b s (upT f i j v):=by
 rw [pC_eq,pC_eq,show 3+i * 41+j=(i * 41+j)+1+1+1 by omega]
 have key:∀ (M:List Int) (n:Nat) (y:Int),over (ofInts M) n [.int .i64 y]=ofInts (M.set n y):=by
  intro M
  induction M with
  | nil=>intro n y;cases n <;> rfl
  | cons m M ih =>
   intro n y
   cases n with
   | zero=>cases M <;> rfl
   | succ n =>
    have:=ih n y
    simp only [ofInts,List.map_cons,List.set_cons_succ,over] at this ⊢
    rw [this]
 simp only [over]
 rw [key,tb_set hi hj]
end
abbrev pB (a b:Sh) (s:Int) (f:Nat→Nat→Int):B:=.blk (pC a b s f) false
def shr (s:Int) (x y:Int × Int):Int :=
 let n:=min x.2 y.2
 if s<max x.2 y.2 - n then 0 else if x.1=0∨y.1=0 then max (n / 2) 1 else if x.1≠y.1 then 0 else n
def shOk (l:List (Int × Int)):Prop:=l.length≤40∧∀ p∈l,0≤p.1∧p.1≤999∧1≤p.2∧p.2≤200000
theorem shr_case {s:Int} {m n m' n' : Int}:shr s (m,n) (m', n')=if s<max n n' - min n n' then 0 else if m=0∨m' = 0 then max (min n n' / 2) 1 else if m≠m' then 0 else min n n' := rfl
theorem mul_zero {m m' : Int}:m * m' = 0 ↔ m=0∨m' = 0:=Int.mul_eq_zero
set_option maxRecDepth 100000 in
set_option maxHeartbeats 20000000 in
theorem share_fun {a b:Sh} {s:Int} {f:Nat→Nat→Int} {i j:Nat} {x y:Int × Int} (ha:shOk a.l) (hb:shOk b.l) (hs:0≤s∧s≤200000) (hx:a.l[i]?=some x) (hy:b.l[j]?=some y) :
  Fun FB md 63 [.rp (pC a b s f) 0,.int .i64 (i:Nat),.int .i64 (j:Nat)] (.int .i64 (shr s x y)):=by
 have hil:=(List.getElem?_eq_some_iff.1 hx).1
 have hjl:=(List.getElem?_eq_some_iff.1 hy).1
 obtain ⟨a1,a2⟩:=ha
 obtain ⟨b1,b2⟩:=hb
 obtain ⟨x1,x2,x3,x4⟩:=a2 x (List.mem_of_getElem? hx)
 obtain ⟨y1,y2,y3,y4⟩:=b2 y (List.mem_of_getElem? hy)
 have hpx:=shC_part hx
 have hpy:=shC_part hy
 obtain ⟨m,n⟩:=x
 obtain ⟨m', n'⟩:=y
 dsimp only at *
 have hmm:0≤m * m' := Int.mul_nonneg x1 y1
 have hmM:m * m' ≤ 999 * 999:=Int.mul_le_mul x2 y2 y1 (by omega)
 have hz:=mul_zero (m:=m) (m' := m')
 have hw:IntKind.i64.wrap ((min n n').tdiv 2)=min n n' / 2:=by rw [Int.tdiv_eq_ediv_of_nonneg (by omega)];exact wrap_i64 (by omega) (by omega)
 refine fun_of rfl rfl ?_
 repeat' (first
 | (conv=>whnf)
   first
   | refine Br.dec (fun _ => ?_) (fun _ => ?_)
   | refine Br.not ?_
   | (refine Bnd.i64 ?_ ?_ ?_;(focus omega);(focus omega))
   | refine Get.mk _ pC_0 ?_
   | refine Get.mk _ pC_1 ?_
   | refine Get.mk _ pC_2 ?_
   | refine Get.mk _ hpx ?_
   | refine Get.mk _ hpy ?_
   | refine Bnd.any ?_
   | (refine Idx.nat ?_ ?_;(focus omega))
   | refine Get.mk _ rfl ?_
   | refine Leaves.of ?_
   | refine Vw.int ?_
   | (refine Req.mk ?_ ?_;(focus first | rfl | decide | exact ⟨rfl,rfl⟩ | exact ⟨rfl,by decide⟩ | exact (fun _=>rfl) | exact (fun h=>nomatch h) | (simp;done) | omega | (simp [big];done) | exact le_big (by omega) | exact lt_big (by omega))))
 all_goals rw [shr_case]
 all_goals first
  | (rw [if_pos (by omega)];done)
  | (rw [if_neg (by omega),if_pos (hz.1 (by assumption)),hw];done)
  | (rw [if_neg (by omega),if_neg (fun h=>absurd (hz.2 h) (by assumption)),if_pos (by assumption)];done)
  | (rw [if_neg (by omega),if_neg (fun h=>absurd (hz.2 h) (by assumption)),if_neg (by assumption)];done)
  | (rw [if_neg (by omega),if_neg (fun h=>absurd (hz.2 h) (by assumption)),if_neg (fun h=>by omega)];done)
theorem blos_int1 (n:Nat):∀ l:List Int,blos n (ofInts l)=true
 | []=>rfl
 | _ :: l=>by have:=blos_int1 n l;simp only [ofInts,List.map_cons,blos,V.blo,Bool.true_and] at this ⊢; exact this
theorem pB_blo {a b:Sh} {s:Int} {f:Nat→Nat→Int} (n:Nat):(pB a b s f).blo n=true:=by
 simp only [pB,B.blo,Bool.false_or]
 rw [pC_eq]
 simp only [blos,V.blo,Sh.v,blos_int1,Bool.and_self]
end Go.Dr.T
