/- Chapter 06: the document's pairs with which an alignment begins, walked. -/
import Derived.Test.YtfhphjloaelgoaaGreatDoorG21
namespace Go.Dr.T
def bgB (S W:Nat→Nat→Int) (n m:Nat) (v:Int) (j k:Nat):List (Nat × Nat):=(List.range' k (n - k)).flatMap (bgR S W m v j)
theorem bgB_end {S W:Nat→Nat→Int} {n m:Nat} {v:Int} {j k:Nat} (h:n≤k):bgB S W n m v j k=[]:=by
 unfold bgB;rw [show n - k=0 by omega];rfl
theorem bgB_step {S W:Nat→Nat→Int} {n m:Nat} {v:Int} {j k:Nat} (h:k<n):bgB S W n m v j k=bgR S W m v j k++bgB S W n m v j (k+1):=by
 unfold bgB
 rw [show n - k=(n - (k+1))+1 by omega,List.range'_succ,List.flatMap_cons]
theorem bgR_len {S W:Nat→Nat→Int} {m:Nat} {v:Int} {l k:Nat}:(bgR S W m v l k).length≤m:=by
 unfold bgR
 rw [List.length_map]
 have:=List.length_filter_le (fun l=>decide (0<S k l∧S k l+W (k+1) (l+1)=v)) (List.range' l (m - l))
 rw [List.length_range'] at this
 omega
theorem bgB_len {S W:Nat→Nat→Int} {n m:Nat} {v:Int} {j:Nat} (hm:m≤40):∀ d k,n - k=d→(bgB S W n m v j k).length≤40 * d:=by
 intro d
 induction d with
 | zero=>intro k h;rw [bgB_end (by omega)];simp
 | succ d ih =>
  intro k h
  rw [bgB_step (by omega),List.length_append]
  have:=ih (k+1) (by omega)
  have:=bgR_len (S:=S) (W:=W) (m:=m) (v:=v) (l:=j) (k:=k)
  omega
theorem shC_app1 {l:List (Int × Int)} {p:Int × Int}:shC (l++[p])=shC l++[.int .i64 p.1,.int .i64 p.2]:=by rw [shC_appS];rfl
def ms13:List (Option Nat):=[none,none,none,none,none,none,none,none,none,none,none,none,none,some 13]
theorem Lw.new {h:List B} {k l:Nat} (hq:2≤h.length):Lw (h++[.blk ([]++[.int .i64 (k:Nat),.int .i64 (l:Nat)]) true]) (([]++[(k,l)]).map pI) (.ms 2 (h.length+0+0) (([]:List V).length+[V.int .i64 (k:Nat),.int .i64 (l:Nat)].length) 0 (0+1) false):=by
 refine .inr ⟨h.length - 2,by simp,?_,?_⟩
 ·rw [Nat.sub_add_cancel hq];rfl
 ·rw [Nat.sub_add_cancel hq];exact bget_new (i:=0)
theorem Lw.grow {h:List B} {L:List (Nat × Nat)} {k l q:Nat} (hq:q+2<h.length):Lw (bset (h++[.unborn]) (q+2) (.blk (shC (L.map pI)++[.int .i64 (k:Nat),.int .i64 (l:Nat)]) true)) ((L++[(k,l)]).map pI) (.ms 2 (q+2) ((L.map pI).length * 2+[V.int .i64 (k:Nat),.int .i64 (l:Nat)].length) 0 ((L.map pI).length+1) false):=by
 refine .inr ⟨q,by simp,?_,?_⟩
 ·simp only [List.map_append,List.map_cons,List.map_nil,List.length_append,List.length_cons,List.length_nil,List.length_map]
  congr 1
  omega
 ·rw [List.map_append]
  show _=some (B.blk (shC (L.map pI++[pI (k,l)])) true)
  rw [shC_app1]
  exact bget_same (by rw [List.length_append];omega)
structure NA where
 k:Nat
 L:List (Nat × Nat)
 v:V
 h:List B
structure NH (x y:El) (L:List (Nat × Nat)) (v:V) (h:List B):Prop where
 b0:bget h 0=some (elB x)
 b1:bget h 1=some (elB y)
 lw:Lw h (L.map pI) v
theorem NH.norm {x y:El} {L:List (Nat × Nat)} {v:V} {h:List B} {m:List Bool} {n:Nat} {tm:List V} {a b a' b' : Nat} (hn:n≤h.length) (e:NH x y L v h) (h3:tg (masked m tm) 6 = .ref 0 a a') (h4:tg (masked m tm) 7 = .ref 1 b b') (h6:tg (masked m tm) 13=v):NH x y L v (norm m n ⟨tm,h⟩).h :=
 ⟨norm_keep (i:=6) hn (fun k hk=>by rw [h3] at hk;exact of_decide_eq_true hk) e.b0,norm_keep (i:=7) hn (fun k hk=>by rw [h4] at hk;exact of_decide_eq_true hk) e.b1,e.lw.norm hn h6⟩
set_option maxRecDepth 100000 in
set_option maxHeartbeats 20000000 in
theorem next_ok {x y:El} {s:Int} {W:Nat→Nat→Int} {i j:Nat} (ha:shOk x.l) (hb:shOk y.l) (hs:0≤s∧s≤200000) (hW:∀ k l,0≤W k l∧W k l≤8000000) (hi:i≤x.l.length) (hj:j≤y.l.length) :
  Fun FB md 58 [elA' x,elA' y,.int .i64 s,tabV x.l.length y.l.length W,.int .i64 (i:Nat),.int .i64 (j:Nat)] (lsP ((bgA (shA x.l y.l s) W x.l.length y.l.length i j).map pI)):=by
 have hal:=ha.1
 have hbl:=hb.1
 have htot:=bgB_len (S:=shA x.l y.l s) (W:=W) (n:=x.l.length) (m:=y.l.length) (v:=W i j) (j:=j) hbl _ i rfl
 have hI0:i≤x.l.length+1 - 1:=by omega
 have hJ0:j≤y.l.length+1 - 1:=by omega
 have tij:=tab_get (n:=x.l.length) (m:=y.l.length) (i:=i) (T:=W) hi
 have cij:=row_get (m:=y.l.length) (j:=j) (f:=W i) hj
 have rij:=hW i j
 show Fun FB md 58 _ (lsP ((bgB (shA x.l y.l s) W x.l.length y.l.length (W i j) j i).map pI))
 generalize hT:bgB (shA x.l y.l s) W x.l.length y.l.length (W i j) j i=T at *
 refine fun_rn rfl rfl ?_
 repeat' (first
 | (conv=>whnf)
   first
   | refine Rn.seq ?_
   | refine Rn.block ?_
   | refine Rn.reg ?_
   | refine Get.mk _ rfl ?_
   | (refine Req.mk ?_ ?_;(focus first | rfl | decide | exact ⟨rfl,rfl⟩ | exact ⟨rfl,by decide⟩ | exact (fun _=>rfl) | exact (fun h=>nomatch h) | (simp;done) | omega | (simp [big];done) | exact le_big (by omega) | exact lt_big (by omega))))
 all_goals try (exfalso;omega;done)
 refine Rn.loop (fun a:NA=>i≤a.k∧2≤a.h.length∧NH x y a.L a.v a.h∧a.L++bgB (shA x.l y.l s) W x.l.length y.l.length (W i j) j a.k=T) (fun a=>[(13,a.v),(14,.int .i64 (a.k:Nat))]) (fun a=>a.h) (fun a=>x.l.length - a.k) ⟨i,[],.nilsl,[elB x,elB y]⟩ ⟨Nat.le_refl _,Nat.le_refl _,⟨rfl,rfl,.inl ⟨rfl,rfl⟩⟩,hT⟩ rfl ?_
 rintro ⟨k,L,v,h⟩ ⟨w1,w2,⟨b0,b1,lw⟩,w4⟩
 dsimp only at w1 w2 b0 b1 lw w4 ⊢
 by_cases hk:k<x.l.length
 rotate_left
 ·rw [bgB_end (by omega),List.append_nil] at w4
  subst w4
  have hvw:=lw.view (d:=62)
  rcases lw with ⟨e1,rfl⟩ | ⟨q,e1,rfl,e3⟩
  all_goals
   repeat' (first
 | (conv=>whnf)
   first
   | refine hvw
   | (refine Br.decF ?_ ?_;(focus first | assumption | omega))
   | refine Rn.seq ?_
   | refine Rn.cond ?_
   | refine Rn.reg ?_
   | refine Rn.exit ?_
   | refine Rn.ret ?_
   | refine fLen.mk ?_
   | refine fB.i0 ?_
   | refine fB.mk ?_
   | refine Get.mk _ b0 ?_
   | refine Get.mk _ rfl ?_
   | refine Leaves.of ?_
   | (refine Req.mk ?_ ?_;(focus first | rfl | decide | exact ⟨rfl,rfl⟩ | exact ⟨rfl,by decide⟩ | exact (fun _=>rfl) | exact (fun h=>nomatch h) | (simp;done) | omega | (simp [big];done) | exact le_big (by omega) | exact lt_big (by omega))))
  all_goals first | (exfalso;omega;done)
 rw [bgB_step hk] at w4
 have tk1:=tab_get (n:=x.l.length) (m:=y.l.length) (i:=k+1) (T:=W) (by omega)
 obtain ⟨u,hu⟩:∃ u,x.l[k]?=some u:=⟨_,List.getElem?_eq_getElem hk⟩
 have hum:=ha.2 u (List.mem_of_getElem? hu)
 have hpu:=shC_part hu
 have hkw:IntKind.i64.wrap ((k:Int)+1)=((k+1:Nat):Int):=by rw [wrap_i64 (by omega) (by omega)];omega
 have hK1:k+1≤x.l.length+1 - 1:=by omega
 repeat' (first
 | (conv=>whnf)
   first
   | (refine Br.decT ?_ ?_;(focus first | assumption | omega))
   | refine Rn.seq ?_
   | refine Rn.block ?_
   | refine Rn.cond ?_
   | refine Rn.reg ?_
   | refine Rn.skip ?_
   | refine fLen.mk ?_
   | refine fB.i0 ?_
   | refine fB.mk ?_
   | refine Get.mk _ b0 ?_
   | refine Get.mk _ rfl ?_
   | (refine Req.mk ?_ ?_;(focus first | rfl | decide | exact ⟨rfl,rfl⟩ | exact ⟨rfl,by decide⟩ | exact (fun _=>rfl) | exact (fun h=>nomatch h) | (simp;done) | omega | (simp [big];done) | exact le_big (by omega) | exact lt_big (by omega))))
 all_goals try (exfalso;omega;done)
 refine Rn.loopM ms13 ⟨lw.alive,trivial⟩ (fun a:NA=>j≤a.k∧h.length≤a.h.length∧NH x y a.L a.v a.h∧a.L++(bgR (shA x.l y.l s) W y.l.length (W i j) a.k k++bgB (shA x.l y.l s) W x.l.length y.l.length (W i j) j (k+1))=T) (fun a=>[(13,a.v),(15,.int .i64 (a.k:Nat))]) (fun a=>a.h) (fun a=>y.l.length - a.k) ⟨j,L,v,h⟩ ⟨Nat.le_refl _,Nat.le_refl _,⟨b0,b1,lw⟩,w4⟩ rfl ?_
 clear w4 b0 b1 lw
 rintro ⟨l,L', v', h'⟩ ⟨z1,z2,⟨b0,b1,lw⟩,z4⟩
 dsimp only at z1 z2 b0 b1 lw z4 ⊢
 have nh:NH x y L' v' h' := ⟨b0,b1,lw⟩
 by_cases hl:l<y.l.length
 rotate_left
 ·rw [bgR_end (by omega),List.nil_append] at z4
  repeat' (first
 | (conv=>whnf)
   first
   | refine Bnd.eq hkw ?_
   | (refine Br.decF ?_ ?_;(focus first | assumption | omega))
   | refine Rn.seq ?_
   | refine Rn.cond ?_
   | refine Rn.reg ?_
   | refine Rn.exit ?_
   | refine fLen.mk ?_
   | refine fB.i0 ?_
   | refine fB.mk ?_
   | refine Get.mk _ b1 ?_
   | refine Get.mk _ rfl ?_
   | (refine Req.mk ?_ ?_;(focus first | rfl | decide | exact ⟨rfl,rfl⟩ | exact ⟨rfl,by decide⟩ | exact (fun _=>rfl) | exact (fun h=>nomatch h) | (simp;done) | omega | (simp [big];done) | exact le_big (by omega) | exact lt_big (by omega))))
  all_goals first | (exfalso;omega;done) | exact NextP.of (fun N=>(⟨k+1,L', v', N⟩:NA)) ⟨by (try dsimp only);omega,norm_len (Nat.le_trans w2 z2),nh.norm (Nat.le_trans w2 z2) rfl rfl rfl,z4⟩ (by (try dsimp only);omega) rfl
 rw [bgR_step hl] at z4
 obtain ⟨w,hw⟩:∃ w,y.l[l]?=some w:=⟨_,List.getElem?_eq_getElem hl⟩
 have hwm:=hb.2 w (List.mem_of_getElem? hw)
 have hpw:=shC_part hw
 have hS:shA x.l y.l s k l=shr s u w:=by unfold shA;rw [List.getD_eq_getElem?_getD,hu,List.getD_eq_getElem?_getD,hw];rfl
 have rs:=shr_rng (s:=s) (x:=u) (y:=w) ⟨hum.2.2.1,hum.2.2.2⟩ ⟨hwm.2.2.1,hwm.2.2.2⟩
 have hsh:=refShare_ok (s:=s) (x:=u) (y:=w) hs hum hwm
 rw [hS] at z4
 have hlw:IntKind.i64.wrap ((l:Int)+1)=((l+1:Nat):Int):=by rw [wrap_i64 (by omega) (by omega)];omega
 have hL1:l+1≤y.l.length+1 - 1:=by omega
 have cl1:=row_get (m:=y.l.length) (j:=l+1) (f:=W (k+1)) (by omega)
 have r1:=hW (k+1) (l+1)
 generalize shr s u w=S at *
 by_cases hS0:0<S
 rotate_left
 ·rw [if_neg (fun h=>hS0 h.1)] at z4
  repeat' (first
 | (conv=>whnf)
   first
   | refine Bnd.eq hlw ?_
   | refine Br.f ?_
   | (refine Br.decT ?_ ?_;(focus first | assumption | omega))
   | (refine Br.decF ?_ ?_;(focus first | assumption | omega))
   | refine Rn.seq ?_
   | refine Rn.block ?_
   | refine Rn.cond ?_
   | refine Rn.reg ?_
   | refine Rn.skip ?_
   | refine fLen.mk ?_
   | refine fB.i0 ?_
   | refine fB.mk ?_
   | refine Get.mk _ b0 ?_
   | refine Get.mk _ b1 ?_
   | refine Get.mk _ hpu ?_
   | refine Get.mk _ hpw ?_
   | refine call_fun rfl rfl hsh (.inl rfl) ?_
   | (refine Idx.nat ?_ ?_;(focus omega))
   | refine Get.mk _ rfl ?_
   | (refine Req.mk ?_ ?_;(focus first | rfl | decide | exact ⟨rfl,rfl⟩ | exact ⟨rfl,by decide⟩ | exact (fun _=>rfl) | exact (fun h=>nomatch h) | (simp;done) | omega | (simp [big];done) | exact le_big (by omega) | exact lt_big (by omega))))
  all_goals first | (exfalso;omega;done) | exact NextP.of (fun N=>(⟨l+1,L', v', N⟩:NA)) ⟨by (try dsimp only);omega,norm_len z2,nh.norm z2 rfl rfl rfl,z4⟩ (by (try dsimp only);omega) rfl
 by_cases hE:S+W (k+1) (l+1)=W i j
 rotate_left
 ·rw [if_neg (fun h=>hE h.2)] at z4
  repeat' (first
 | (conv=>whnf)
   first
   | refine Bnd.eq hkw ?_
   | refine Bnd.eq hlw ?_
   | refine Idx.nat hI0 ?_
   | refine Idx.nat hK1 ?_
   | refine Idx.nat hJ0 ?_
   | refine Idx.nat hL1 ?_
   | (refine Br.decT ?_ ?_;(focus first | assumption | omega))
   | (refine Br.decF ?_ ?_;(focus first | assumption | omega))
   | (refine Bnd.i64 ?_ ?_ ?_;(focus omega);(focus omega))
   | refine Rn.seq ?_
   | refine Rn.block ?_
   | refine Rn.cond ?_
   | refine Rn.reg ?_
   | refine Rn.skip ?_
   | refine fLen.mk ?_
   | refine fB.i0 ?_
   | refine fB.mk ?_
   | refine Get.mk _ b0 ?_
   | refine Get.mk _ b1 ?_
   | refine Get.mk _ hpu ?_
   | refine Get.mk _ hpw ?_
   | refine Get.mk _ tk1 ?_
   | refine Get.mk _ tij ?_
   | refine Get.mk _ cl1 ?_
   | refine Get.mk _ cij ?_
   | refine call_fun rfl rfl hsh (.inl rfl) ?_
   | (refine Idx.nat ?_ ?_;(focus omega))
   | refine Get.mk _ rfl ?_
   | (refine Req.mk ?_ ?_;(focus first | rfl | decide | exact ⟨rfl,rfl⟩ | exact ⟨rfl,by decide⟩ | exact (fun _=>rfl) | exact (fun h=>nomatch h) | (simp;done) | omega | (simp [big];done) | exact le_big (by omega) | exact lt_big (by omega))))
  all_goals first | (exfalso;omega;done) | exact NextP.of (fun N=>(⟨l+1,L', v', N⟩:NA)) ⟨by (try dsimp only);omega,norm_len z2,nh.norm z2 rfl rfl rfl,z4⟩ (by (try dsimp only);omega) rfl
 rw [if_pos ⟨hS0,hE⟩] at z4
 have hlen:L'.length<1601:=by
  have:=congrArg List.length z4
  rw [List.length_append] at this
  omega
 have z5:(L' ++ [(k,l)])++(bgR (shA x.l y.l s) W y.l.length (W i j) (l+1) k++bgB (shA x.l y.l s) W x.l.length y.l.length (W i j) j (k+1))=T:=by rw [← z4];simp
 rcases lw with ⟨e1,rfl⟩ | ⟨q,e1,rfl,e3⟩
 ·have hU:∀ B0:B,bget (h' ++ [B0]) (h'.length+0+0)=some B0:=fun B0=>bget_new (h:=h') (g:=[B0]) (i:=0)
  repeat' (first
 | (conv=>whnf)
   first
   | refine Bnd.eq hkw ?_
   | refine Bnd.eq hlw ?_
   | refine Idx.nat hI0 ?_
   | refine Idx.nat hK1 ?_
   | refine Idx.nat hJ0 ?_
   | refine Idx.nat hL1 ?_
   | (refine Br.decT ?_ ?_;(focus first | assumption | omega))
   | (refine Bnd.i64 ?_ ?_ ?_;(focus omega);(focus omega))
   | refine Rn.seq ?_
   | refine Rn.block ?_
   | refine Rn.cond ?_
   | refine Rn.reg ?_
   | refine Rn.skip ?_
   | refine fLen.mk ?_
   | refine fB.i0 ?_
   | refine fB.i1 ?_
   | refine Get.newj 0 rfl rfl ?_
   | refine fB.newj 0 rfl ?_
   | refine fB.mk ?_
   | refine Get.mk _ b0 ?_
   | refine Get.mk _ b1 ?_
   | refine Get.mk _ hpu ?_
   | refine Get.mk _ hpw ?_
   | refine Get.mk _ tk1 ?_
   | refine Get.mk _ tij ?_
   | refine Get.mk _ cl1 ?_
   | refine Get.mk _ cij ?_
   | refine call_fun rfl rfl hsh (.inl rfl) ?_
   | refine Req.mk (hU _) ?_
   | (refine Idx.nat ?_ ?_;(focus omega))
   | (refine Ifz.pos ?_ ?_;(focus omega))
   | refine Get.mk _ rfl ?_
   | (refine Req.mk ?_ ?_;(focus first | rfl | decide | exact ⟨rfl,rfl⟩ | exact ⟨rfl,by decide⟩ | exact (fun _=>rfl) | exact (fun h=>nomatch h) | (simp;done) | omega | (simp [big];done) | exact le_big (by omega) | exact lt_big (by omega))))
  all_goals first | (exfalso;omega;done) | skip
  have e2:L' = []:=List.map_eq_nil_iff.1 e1
  subst e2
  exact NextP.of (fun N=>(⟨l+1,[]++[(k,l)],.ms 2 (h'.length+0+0) (([]:List V).length+[V.int .i64 (k:Nat),.int .i64 (l:Nat)].length) 0 (0+1) false,N⟩:NA)) ⟨by (try dsimp only);omega,norm_len (by rw [List.length_append];omega),NH.norm (by rw [List.length_append];omega) ⟨bget_app b0,bget_app b1,Lw.new (Nat.le_trans w2 z2)⟩ rfl rfl rfl,z5⟩ (by (try dsimp only);omega) rfl
 ·have hge:(L'.map pI).length=L'.length:=List.length_map ..
  have hXX:0+(L'.map pI).length * 2=(L'.map pI).length * 2∧((shC (L'.map pI)).length+[V.int .i64 (k:Nat),.int .i64 (l:Nat)].length) * (16+1)<big:=⟨Nat.zero_add _,by rw [shC_length,hge];simp [big];omega⟩
  have e4:∀ r,bget (h' ++ r) (q+2)=some (.blk (shC (L'.map pI)) true):=fun r=>bget_app e3
  have e5:(shC (L'.map pI)).length=(L'.map pI).length * 2:=shC_length _
  repeat' (first
 | (conv=>whnf)
   first
   | refine Bnd.eq hkw ?_
   | refine Bnd.eq hlw ?_
   | refine Idx.nat hI0 ?_
   | refine Idx.nat hK1 ?_
   | refine Idx.nat hJ0 ?_
   | refine Idx.nat hL1 ?_
   | (refine Br.decT ?_ ?_;(focus first | assumption | omega))
   | (refine Bnd.i64 ?_ ?_ ?_;(focus omega);(focus omega))
   | refine Rn.seq ?_
   | refine Rn.block ?_
   | refine Rn.cond ?_
   | refine Rn.reg ?_
   | refine Rn.skip ?_
   | refine fLen.mk ?_
   | refine fB.i0 ?_
   | refine fB.i1 ?_
   | refine fB.mk ?_
   | refine Get.mk _ b0 ?_
   | refine Get.mk _ b1 ?_
   | refine Get.mk _ hpu ?_
   | refine Get.mk _ hpw ?_
   | refine Get.mk _ tk1 ?_
   | refine Get.mk _ tij ?_
   | refine Get.mk _ cl1 ?_
   | refine Get.mk _ cij ?_
   | refine call_fun rfl rfl hsh (.inl rfl) ?_
   | refine Get.mk _ (e4 _) ?_
   | refine Req.mk e5 ?_
   | refine Req.mk hXX ?_
   | (refine Idx.nat ?_ ?_;(focus omega))
   | (refine Ifz.pos ?_ ?_;(focus omega))
   | refine Get.mk _ rfl ?_
   | (refine Req.mk ?_ ?_;(focus first | rfl | decide | exact ⟨rfl,rfl⟩ | exact ⟨rfl,by decide⟩ | exact (fun _=>rfl) | exact (fun h=>nomatch h) | (simp;done) | omega | (simp [big];done) | exact le_big (by omega) | exact lt_big (by omega))))
  all_goals first | (exfalso;omega;done) | skip
  have:=bget_lt e3
  exact NextP.of (fun N=>(⟨l+1,L' ++ [(k,l)],.ms 2 (q+2) ((L'.map pI).length * 2+[V.int .i64 (k:Nat),.int .i64 (l:Nat)].length) 0 ((L'.map pI).length+1) false,N⟩:NA)) ⟨by (try dsimp only);omega,norm_len (by rw [bset_len,List.length_append];omega),NH.norm (by rw [bset_len,List.length_append];omega) ⟨by rw [bset_other (by omega)];exact bget_app b0,by rw [bset_other (by omega)];exact bget_app b1,Lw.grow this⟩ rfl rfl rfl,z5⟩ (by (try dsimp only);omega) rfl
end Go.Dr.T
