/- Chapter 08: iterators over changes, for any yield. -/
import Derived.Test.YthihdpbgmhnloaaGreatDoorR08Ua
namespace Go.Dr.T
structure IterH (xs:List Cg) (id L:Nat) (Q:Nat→List B→Prop) (S:List B→Prop) (ok:Nat→Prop):Prop where
 qcl:∀ k G,Q k G→Cl G∧L≤G.length
 qtk:∀ k G j,Q k G→L≤j→Cl (G.take j)→Q k (G.take j)
 qap:∀ k G b,Q k G→b.blo G.length=true→Q k (G++[b])
 scl:∀ G,S G→Cl G∧L≤G.length
 stk:∀ G j,S G→L≤j→Cl (G.take j)→S (G.take j)
 go:∀ k x G (K:V→List B→Prop),xs[k]?=some x→ok k→Q k G→(∀ G', G.length≤G'.length→Q (k+1) G' → K (.bool true) G')→CallP FB md 0 (.yld id) [.agg [.int .i64 x.f,.int .i64 x.p,.int .u8 x.o.toNat,.int .u8 x.n.toNat]] G K
 no:∀ k x G (K:V→List B→Prop),xs[k]?=some x→¬ ok k→Q k G→(∀ G', G.length≤G'.length→S G' → K (.bool false) G')→CallP FB md 0 (.yld id) [.agg [.int .i64 x.f,.int .i64 x.p,.int .u8 x.o.toNat,.int .u8 x.n.toNat]] G K
section
variable {xs:List Cg} {id L:Nat} {Q:Nat→List B→Prop} {S:List B→Prop} {ok:Nat→Prop}
theorem IterH.norm {mk:List Bool} {tm:List V} {n k:Nat} {G:List B} (h:IterH xs id L Q S ok) (q:Q k G) (hn:L≤n) (hn2:n≤G.length):Q k (norm mk n ⟨tm,G⟩).h:=by
 obtain ⟨j,h1,h2,h3,_⟩:=norm_cut (mk:=mk) (tm:=tm) hn2 (h.qcl k G q).1
 rw [h2]
 exact h.qtk k G j q (by omega) h3
theorem IterH.trq {tm:List V} {n k:Nat} {G:List B} (h:IterH xs id L Q S ok) (q:Q k G) (hn:L≤n) (hn2:n≤G.length):Q k (trunc n tm G):=by
 obtain ⟨j,h1,h2,h3,_⟩:=trunc_cut (tm:=tm) hn2 (h.qcl k G q).1
 rw [h2]
 exact h.qtk k G j q (by omega) h3
theorem IterH.trs {tm:List V} {n:Nat} {G:List B} (h:IterH xs id L Q S ok) (q:S G) (hn:L≤n) (hn2:n≤G.length):S (trunc n tm G):=by
 obtain ⟨j,h1,h2,h3,_⟩:=trunc_cut (tm:=tm) hn2 (h.scl G q).1
 rw [h2]
 exact h.stk G j q (by omega) h3
end
def Itr (it:Nat) (cv:V) (xs:List Cg):Prop:=∀ {id L:Nat} {Q:Nat→List B→Prop} {S:List B→Prop} {ok:Nat→Prop} {G0:List B} {K:V→List B→Prop},IterH xs id L Q S ok→G0.length=L→Q 0 G0→(∀ G,Q xs.length G→K (.tup []) G)→(∀ G,S G→K (.tup []) G)→CallP FB md 0 (.fn it [.rp [cv] 0]) [.yld id] G0 K
set_option maxRecDepth 100000 in
set_option maxHeartbeats 20000000 in
theorem it107 {c:Bool} {cs:List Cg} (hl:cs.length≤1000000):Itr 107 (.sl c cs.length (cgC cs)) cs:=by
 intro id L Q S ok G0 K h hL h0 hk1 hk2
 refine call_one rfl rfl rfl ?_
 repeat' (first
 | (conv=>whnf)
   first
   | refine fLen.mk ?_
   | refine fB.i0 ?_
   | refine Get.mk _ rfl ?_)
 all_goals try (exfalso;omega;done)
 refine LoopP.by (fun a:GA=>a.i≤cs.length∧Q a.i a.G) (fun a=>[(7,.int .i64 (a.i:Nat))]) (fun a=>a.G) (fun a=>cs.length - a.i) ⟨0,G0⟩ ⟨Nat.zero_le _,h0⟩ rfl ?_
 rintro ⟨i,G⟩ ⟨w1,w2⟩
 dsimp only at w1 w2 ⊢
 have hGl:=(h.qcl i G w2).2
 by_cases hi:i<cs.length
 rotate_left
 ·obtain rfl:i=cs.length:=by omega
  repeat' (first
 | (conv=>whnf)
   first
   | (refine Br.decF ?_ ?_;(focus first | assumption | omega))
   | refine fLen.mk ?_
   | refine fB.i0 ?_
   | refine fB.mk ?_
   | refine Get.mk _ rfl ?_
   | refine Ends.of ?_)
  all_goals try (exfalso;omega;done)
  have q:=h.trq (tm:=[.tup []]) (n:=G0.length) w2 (by omega) (by omega)
  exact hk1 _ ((fun t=>t) q)
 obtain ⟨x,hx⟩:∃ x,cs[i]?=some x:=⟨_,List.getElem?_eq_getElem hi⟩
 have hp:=cgC_part hx
 have hiw:IntKind.i64.wrap ((i:Int)+1)=((i+1:Nat):Int):=by rw [wrap_i64 (by omega) (by omega)];omega
 have hil:i≤cs.length - 1:=by omega
 have h0l:0<cs.length:=by omega
 have hxs:cs[i]?=some x:=hx
 have hq2:=h.qap i G (.blk [.int .i64 x.f,.int .i64 x.p,.int .u8 x.o.toNat,.int .u8 x.n.toNat] false) w2 rfl
 have hlen:∀ b:B,G.length≤(G++[b]).length:=fun b=>by rw [List.length_append];omega
 by_cases hok:ok i
 ·have hgo:=fun (K' : V→List B→Prop) (hK)=>h.go i x _ K' hxs hok hq2 hK
  repeat' (first
 | (conv=>whnf)
   first
   | refine Bnd.eq hiw ?_
   | refine Br.f ?_
   | (refine Br.decT ?_ ?_;(focus first | assumption | omega))
   | refine fLen.mk ?_
   | refine fB.i0 ?_
   | refine fB.i1 ?_
   | refine Get.mk _ hp ?_
   | refine Idx.nat hil ?_
   | refine Req.mk h0l ?_
   | refine Get.newj 0 rfl rfl ?_
   | refine fB.newj 0 rfl ?_
   | (refine hgo _ ?_;intro G' g1 g2)
   | refine fB.mk ?_
   | refine Get.mk _ rfl ?_
   | (refine Req.mk ?_ ?_;(focus first | rfl | decide | exact ⟨rfl,rfl⟩ | exact ⟨rfl,by decide⟩ | exact (fun _=>rfl) | exact (fun h=>nomatch h) | (simp;done) | omega | (simp [big];done) | exact le_big (by omega) | exact lt_big (by omega))))
  all_goals try (exfalso;omega;done)
  rw [List.length_append] at g1
  exact NextP.of (fun g=>⟨i+1,g⟩) ⟨hi,h.norm (n:=G0.length) g2 (by omega) (by omega)⟩ (by dsimp only;omega) rfl
 ·have hno:=fun (K' : V→List B→Prop) (hK)=>h.no i x _ K' hxs hok hq2 hK
  repeat' (first
 | (conv=>whnf)
   first
   | refine Br.t ?_
   | (refine Br.decT ?_ ?_;(focus first | assumption | omega))
   | refine fLen.mk ?_
   | refine fB.i0 ?_
   | refine fB.i1 ?_
   | refine Get.mk _ hp ?_
   | refine Idx.nat hil ?_
   | refine Req.mk h0l ?_
   | refine Get.newj 0 rfl rfl ?_
   | refine fB.newj 0 rfl ?_
   | (refine hno _ ?_;intro G' g1 g2)
   | refine fB.mk ?_
   | refine Get.mk _ rfl ?_
   | refine Ends.of ?_
   | (refine Req.mk ?_ ?_;(focus first | rfl | decide | exact ⟨rfl,rfl⟩ | exact ⟨rfl,by decide⟩ | exact (fun _=>rfl) | exact (fun h=>nomatch h) | (simp;done) | omega | (simp [big];done) | exact le_big (by omega) | exact lt_big (by omega))))
  all_goals try (exfalso;omega;done)
  rw [List.length_append] at g1
  exact hk2 _ (h.trs (n:=G0.length) (G:=G') g2 (by omega) (by omega))
set_option maxRecDepth 100000 in
set_option maxHeartbeats 20000000 in
theorem it106 {c:Bool} {cs:List Cg} (hl:cs.length≤1000000):Itr 106 (.sl c cs.length (cgC cs)) (cs.map swC):=by
 intro id L Q S ok G0 K h hL h0 hk1 hk2
 refine call_one rfl rfl rfl ?_
 repeat' (first
 | (conv=>whnf)
   first
   | refine fLen.mk ?_
   | refine fB.i0 ?_
   | refine Get.mk _ rfl ?_)
 all_goals try (exfalso;omega;done)
 refine LoopP.by (fun a:GA=>a.i≤cs.length∧Q a.i a.G) (fun a=>[(7,.int .i64 (a.i:Nat))]) (fun a=>a.G) (fun a=>cs.length - a.i) ⟨0,G0⟩ ⟨Nat.zero_le _,h0⟩ rfl ?_
 rintro ⟨i,G⟩ ⟨w1,w2⟩
 dsimp only at w1 w2 ⊢
 have hGl:=(h.qcl i G w2).2
 by_cases hi:i<cs.length
 rotate_left
 ·obtain rfl:i=cs.length:=by omega
  repeat' (first
 | (conv=>whnf)
   first
   | (refine Br.decF ?_ ?_;(focus first | assumption | omega))
   | refine fLen.mk ?_
   | refine fB.i0 ?_
   | refine fB.mk ?_
   | refine Get.mk _ rfl ?_
   | refine Ends.of ?_)
  all_goals try (exfalso;omega;done)
  have q:=h.trq (tm:=[.tup []]) (n:=G0.length) w2 (by omega) (by omega)
  exact hk1 _ (by rw [List.length_map];exact q)
 obtain ⟨x,hx⟩:∃ x,cs[i]?=some x:=⟨_,List.getElem?_eq_getElem hi⟩
 have hp:=cgC_part hx
 have hiw:IntKind.i64.wrap ((i:Int)+1)=((i+1:Nat):Int):=by rw [wrap_i64 (by omega) (by omega)];omega
 have hil:i≤cs.length - 1:=by omega
 have h0l:0<cs.length:=by omega
 have hxs:(cs.map swC)[i]?=some (swC x):=by rw [List.getElem?_map,hx];rfl
 have hq2:=h.qap i G (.blk [.int .i64 (swC x).f,.int .i64 (swC x).p,.int .u8 (swC x).o.toNat,.int .u8 (swC x).n.toNat] false) w2 rfl
 have hlen:∀ b:B,G.length≤(G++[b]).length:=fun b=>by rw [List.length_append];omega
 by_cases hok:ok i
 ·have hgo:=fun (K' : V→List B→Prop) (hK)=>h.go i (swC x) _ K' hxs hok hq2 hK
  repeat' (first
 | (conv=>whnf)
   first
   | refine Bnd.eq hiw ?_
   | refine Br.f ?_
   | (refine Br.decT ?_ ?_;(focus first | assumption | omega))
   | refine fLen.mk ?_
   | refine fB.i0 ?_
   | refine fB.i1 ?_
   | refine Get.mk _ hp ?_
   | refine Idx.nat hil ?_
   | refine Req.mk h0l ?_
   | refine Get.newj 0 rfl rfl ?_
   | refine fB.newj 0 rfl ?_
   | (refine hgo _ ?_;intro G' g1 g2)
   | refine fB.mk ?_
   | refine Get.mk _ rfl ?_
   | (refine Req.mk ?_ ?_;(focus first | rfl | decide | exact ⟨rfl,rfl⟩ | exact ⟨rfl,by decide⟩ | exact (fun _=>rfl) | exact (fun h=>nomatch h) | (simp;done) | omega | (simp [big];done) | exact le_big (by omega) | exact lt_big (by omega))))
  all_goals try (exfalso;omega;done)
  rw [List.length_append] at g1
  exact NextP.of (fun g=>⟨i+1,g⟩) ⟨hi,h.norm (n:=G0.length) g2 (by omega) (by omega)⟩ (by dsimp only;omega) rfl
 ·have hno:=fun (K' : V→List B→Prop) (hK)=>h.no i (swC x) _ K' hxs hok hq2 hK
  repeat' (first
 | (conv=>whnf)
   first
   | refine Br.t ?_
   | (refine Br.decT ?_ ?_;(focus first | assumption | omega))
   | refine fLen.mk ?_
   | refine fB.i0 ?_
   | refine fB.i1 ?_
   | refine Get.mk _ hp ?_
   | refine Idx.nat hil ?_
   | refine Req.mk h0l ?_
   | refine Get.newj 0 rfl rfl ?_
   | refine fB.newj 0 rfl ?_
   | (refine hno _ ?_;intro G' g1 g2)
   | refine fB.mk ?_
   | refine Get.mk _ rfl ?_
   | refine Ends.of ?_
   | (refine Req.mk ?_ ?_;(focus first | rfl | decide | exact ⟨rfl,rfl⟩ | exact ⟨rfl,by decide⟩ | exact (fun _=>rfl) | exact (fun h=>nomatch h) | (simp;done) | omega | (simp [big];done) | exact le_big (by omega) | exact lt_big (by omega))))
  all_goals try (exfalso;omega;done)
  rw [List.length_append] at g1
  exact hk2 _ (h.trs (n:=G0.length) (G:=G') g2 (by omega) (by omega))
theorem back_ok {cv:V} (h:cv.scalar=true∨cv.blo 0=true) (hs:∃ c n k,cv = .sl c n k):Fun FB md 66 [cv] (.fn 106 [.rp [cv] 0]):=by
 obtain ⟨c,n,k,rfl⟩:=hs
 refine fun_of rfl rfl ?_
 repeat' (first
 | (conv=>whnf)
   first
   | exact Vw.fn (VwL.cons (Vw.ref rfl rfl rfl (VwL.cons Vw.sl VwL.nil)) VwL.nil)
   | refine Get.mk _ rfl ?_
   | refine Leaves.of ?_
   | (refine Req.mk ?_ ?_;(focus first | rfl | decide | exact ⟨rfl,rfl⟩ | exact ⟨rfl,by decide⟩ | exact (fun _=>rfl) | exact (fun h=>nomatch h) | (simp;done) | omega | (simp [big];done) | exact le_big (by omega) | exact lt_big (by omega))))
 all_goals first | rfl | (exfalso;omega;done)
theorem values_ok {cv:V} (hs:∃ c n k,cv = .sl c n k):Fun FB md 67 [cv] (.fn 107 [.rp [cv] 0]):=by
 obtain ⟨c,n,k,rfl⟩:=hs
 refine fun_of rfl rfl ?_
 repeat' (first
 | (conv=>whnf)
   first
   | exact Vw.fn (VwL.cons (Vw.ref rfl rfl rfl (VwL.cons Vw.sl VwL.nil)) VwL.nil)
   | refine Get.mk _ rfl ?_
   | refine Leaves.of ?_
   | (refine Req.mk ?_ ?_;(focus first | rfl | decide | exact ⟨rfl,rfl⟩ | exact ⟨rfl,by decide⟩ | exact (fun _=>rfl) | exact (fun h=>nomatch h) | (simp;done) | omega | (simp [big];done) | exact le_big (by omega) | exact lt_big (by omega))))
 all_goals first | rfl | (exfalso;omega;done)
end Go.Dr.T
