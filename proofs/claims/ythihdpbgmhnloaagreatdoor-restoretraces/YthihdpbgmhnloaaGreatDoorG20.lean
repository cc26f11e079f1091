/- Chapter 08: the reference's step, done. -/
import Derived.Test.YthihdpbgmhnloaaGreatDoorG9
import Derived.Test.YthihdpbgmhnloaaGreatDoorR08Gr
import Derived.Test.YthihdpbgmhnloaaGreatDoorR08Gc
import Derived.Test.YthihdpbgmhnloaaGreatDoorR08Fb
namespace Go.Dr.T
set_option maxRecDepth 100000 in
set_option maxHeartbeats 20000000 in
theorem done_ok {c:Bool} {l:List Fm} {s:Sp} {W H:Nat} (o:FOk l W H) (p:SOk s l.length W H):FunF FB md 46 [.sl c l.length (fmC l),.agg (spV s)] (.tup [.sl false (doF l W H s).length (fmC (doF l W H s)),cgL (doC l W H s)]):=by
 have hn0:=o.n0
 have hn12:=o.n12
 have hnn:=o.nn
 have o3:=o.w
 have o4:=o.h
 have hW0:(W:Int)≠0:=by omega
 have hcp:∀ {K:V→List B→Prop},(∀ G P,Cl G→(∀ m b,bget [B.blk (spV s) false] m=some b→bget G m=some b)→[B.blk (spV s) false].length≤G.length→FH [B.blk (spV s) false].length G.length l (pxL l) ([B.blk (spV s) false].length+2) P G→K (.ms 3 ([B.blk (spV s) false].length+2) (l.length * 3) 0 l.length false) G)→CallP FB md 0 (.fn 49 []) [.sl c l.length (fmC l)] [.blk (spV s) false] K:=fun h=>copy_call o rfl h
 refine funF_of rfl rfl ?_
 repeat' (first
 | (conv=>whnf)
   first
   | refine fLen.mk ?_
   | refine fB.i0 ?_
   | (refine hcp ?_;intro G0 P c1 c2 c3 c4)
   | refine Get.mk _ rfl ?_
   | (refine Req.mk ?_ ?_;(focus first | rfl | decide | exact ⟨rfl,rfl⟩ | exact ⟨rfl,by decide⟩ | exact (fun _=>rfl) | exact (fun h=>nomatch h) | (simp;done) | omega | (simp [big];done) | exact le_big (by omega) | exact lt_big (by omega))))
 all_goals try (exfalso;omega;done)
 have c5:bget G0 0=some (.blk (spV s) false):=c2 0 _ rfl
 have hM0:=bget_lt c5
 have e0:EH 1 G0.length l (newU l W H s) 3 P 0 0 .nilsl G0:=⟨c1,Nat.le_refl _,by rw [← pxL_mA];exact c4,.inl ⟨rfl,rfl⟩⟩
 clear c1 c2 c3 c4 hcp
 refine LoopP.by (fun a:GE=>a.i≤l.length∧bget a.G 0=some (.blk (spV s) false)∧EH 1 G0.length l (newU l W H s) 3 P a.i 0 a.v a.G) (fun a=>[(7,a.v),(8,.int .i64 (a.i:Nat))]) (fun a=>a.G) (fun a=>l.length - a.i) ⟨0,.nilsl,G0⟩ ⟨Nat.zero_le _,c5,e0⟩ rfl ?_
 rintro ⟨i,v,G⟩ ⟨w1,w2,w3⟩
 dsimp only at w1 w2 w3 ⊢
 by_cases hi:i<l.length
 rotate_left
 ·obtain rfl:i=l.length:=by omega
  have hF:VwF G (0+1+1+1+60) (.ms 3 3 (l.length * 3) 0 l.length false) (.sl false (doF l W H s).length (fmC (doF l W H s))):=by
   refine w3.fh.vw (d:=60) doF_len fun j f hf => ?_
   rw [doF_get hf]
   congr 2
   unfold mA
   rw [hf]
   dsimp only
   rw [if_pos (List.getElem?_eq_some_iff.1 hf).1]
  have hC:VwF G (0+1+1+61) v (cgL (doC l W H s)):=by
   have:=w3.ch
   rw [csT_0] at this
   exact this.vw
  rcases w3.ch.frm with rfl | ⟨q,rfl⟩
  all_goals
   repeat' (first
 | (conv=>whnf)
   first
   | (refine Br.decF ?_ ?_;(focus first | assumption | omega))
   | refine fLen.mk ?_
   | refine fB.i0 ?_
   | refine fB.mk ?_
   | exact hF
   | exact hC
   | refine Get.mk _ rfl ?_
   | refine LeavesF.of ?_
   | refine VwF.tup ?_
   | refine VwLF.cons ?_ ?_
   | refine VwLF.nil)
   all_goals try (exfalso;omega;done)
 obtain ⟨f,hf,hfw,_,hfp⟩:=o.at hi
 obtain ⟨a0,a1,a2⟩:=fm_c hf
 rw [hfw] at a0
 have hiw:IntKind.i64.wrap ((i:Int)+1)=((i+1:Nat):Int):=by rw [wrap_i64 (by omega) (by omega)];omega
 have hil:i≤l.length - 1:=by omega
 have hle:=w3.le
 rcases w3.ch.frm with rfl | ⟨q0,rfl⟩
 all_goals
  repeat' (first
 | (conv=>whnf)
   first
   | (refine Br.decT ?_ ?_;(focus first | assumption | omega))
   | refine fLen.mk ?_
   | refine fB.i0 ?_
   | refine fB.mk ?_)
  all_goals try (exfalso;omega;done)
  refine LoopP.by (fun a:GE=>a.i≤f.p.length∧G.length≤a.G.length∧bget a.G 0=some (.blk (spV s) false)∧EH 1 G0.length l (newU l W H s) 3 P i a.i a.v a.G) (fun a=>[(7,a.v),(9,.int .i64 (a.i:Nat))]) (fun a=>a.G) (fun a=>f.p.length - a.i) ⟨0,_,G⟩ ⟨Nat.zero_le _,Nat.le_refl _,w2,w3⟩ rfl ?_
  rintro ⟨m,u,g⟩ ⟨v1,v2,v3,v4⟩
  dsimp only at v1 v2 v3 v4 ⊢
  have hnk:∀ {n:Nat} {h:List B} {mk:List Bool} {tm:List V},0<n→n≤h.length→bget h 0=some (.blk (spV s) false)→bget (norm mk n ⟨tm,h⟩).h 0=some (.blk (spV s) false):=fun {n h mk tm} h0 h1 h2=>by
   obtain ⟨j,k1,k2,k3⟩:=strip_spec (n:=n) (tm:=masked mk tm) (k:=h.length - n) (h:=h) (by omega)
   show bget (strip n (masked mk tm) (h.length - n) h) 0=_
   rw [k2,bget_take (by omega)]
   exact h2
  by_cases hm:m<f.p.length
  rotate_left
  ·obtain rfl:m=f.p.length:=by omega
   have v5:=v4.nextF hf
   rcases v4.ch.frm with rfl | ⟨q,rfl⟩
   all_goals
    repeat' (first
 | (conv=>whnf)
   first
   | refine Bnd.eq hiw ?_
   | (refine Br.decF ?_ ?_;(focus first | assumption | omega))
   | refine fLen.mk ?_
   | refine fB.i0 ?_
   | refine fB.mk ?_
   | refine Idx.nat hil ?_
   | refine Req.mk hn0 ?_
   | refine Get.mk _ a2 ?_)
    all_goals try (exfalso;omega;done)
    exact NextP.of (fun h=>⟨i+1,_,h⟩) ⟨hi,hnk hM0 (by show _≤g.length;omega) v3,v5.norm (j:=7) (Nat.le_refl _) (by show _≤g.length;omega) rfl⟩ (by dsimp only;omega) rfl
  have hmw:IntKind.i64.wrap ((m:Int)+1)=((m+1:Nat):Int):=by rw [wrap_i64 (by omega) (by omega)];omega
  have hmod:(m:Int).tmod (W:Int)=((m % W:Nat):Int):=by rw [Int.ofNat_tmod]
  have hdiv:IntKind.i64.wrap ((m:Int).tdiv (W:Int))=((m / W:Nat):Int):=by
   have e:(m:Int).tdiv (W:Int)=((m / W:Nat):Int):=by rw [Int.ofNat_tdiv]
   have h1:m / W≤m:=Nat.div_le_self _ _
   rw [e]
   generalize m / W=d at *
   exact wrap_i64 (by omega) (by omega)
  have hx:m % W<W:=Nat.mod_lt _ (by omega)
  have hy:m / W<H:=by
   rw [Nat.div_lt_iff_lt_mul (by omega),Nat.mul_comm]
   omega
  have kv:=value_ok (c:=c) o p hi hx hy
  have hu8:IntKind.u8.wrap (newP l W H s i (m % W) (m / W))=(((newU l W H s i m).toNat:Nat):Int):=(u8_cell _).symm
  have hpx:=pix_cell hm
  have hml:m≤f.p.length - 1:=by omega
  have hp0:0<f.p.length:=by omega
  have hcl:=csT_len (NU:=newU l W H s) (i:=i) (m:=m) o hi (by omega)
  generalize newP l W H s i (m % W) (m / W)=z at *
  by_cases hE:newU l W H s i m=f.p.getD m 0
  ·have v5:=v4.same hf hm hE
   have hEi:(((newU l W H s i m).toNat:Nat):Int)=(((f.p.getD m 0).toNat:Nat):Int):=by rw [hE]
   rcases v4.ch.frm with rfl | ⟨q,rfl⟩
   all_goals
    repeat' (first
 | (conv=>whnf)
   first
   | refine Br.decT hEi ?_
   | refine Bnd.eq hmw ?_
   | refine Bnd.eq hmod ?_
   | refine Bnd.eq hdiv ?_
   | refine Bnd.eq hu8 ?_
   | (refine Br.decT ?_ ?_;(focus first | assumption | omega))
   | refine Br.not ?_
   | refine fLen.mk ?_
   | refine fB.i0 ?_
   | refine fB.mk ?_
   | refine Get.mk _ v3 ?_
   | refine Get.mk _ a0 ?_
   | refine Get.mk _ a2 ?_
   | refine Get.mk _ hpx ?_
   | refine Idx.nat hil ?_
   | refine Idx.nat hml ?_
   | refine Req.mk hn0 ?_
   | refine Req.mk hp0 ?_
   | refine Req.mk hW0 ?_
   | refine call_fun rfl rfl kv (.inl rfl) ?_
   | refine Get.mk _ rfl ?_
   | (refine Req.mk ?_ ?_;(focus first | rfl | decide | exact ⟨rfl,rfl⟩ | exact ⟨rfl,by decide⟩ | exact (fun _=>rfl) | exact (fun h=>nomatch h) | (simp;done) | omega | (simp [big];done) | exact le_big (by omega) | exact lt_big (by omega))))
    all_goals try (exfalso;omega;done)
    exact NextP.of (fun h=>⟨m+1,_,h⟩) ⟨hm,norm_len (s:=⟨_,g⟩) v2,hnk (by omega) v2 v3,v5.norm (j:=7) hle v2 rfl⟩ (by dsimp only;omega) rfl
  have hEi:¬ (((newU l W H s i m).toNat:Nat):Int)=(((f.p.getD m 0).toNat:Nat):Int):=fun h=>hE (UInt8.toNat_inj.1 (Int.ofNat.inj h))
  have hP:=v4.fh.PN i hi
  have hAl:(ofBytes (mA (newU l W H s) l i m i)).length=f.p.length:=by rw [ofBytes_length];exact v4.fh.len i f hf
  have hAs:(ofBytes (mA (newU l W H s) l i m i)).length=f.p.length∧0+m * 1+1≤(ofBytes (mA (newU l W H s) l i m i)).length:=⟨hAl,by omega⟩
  have hov:=over_bytes (u:=newU l W H s i m) (p:=mA (newU l W H s) l i m i) (m:=m)
  have hpc:cellAt (fmG (piV P) 0 l) (0+i * 3+2)=some (.ms 1 (P i) f.p.length 0 f.p.length false):=by
   have:=(fmG_c (g:=piV P) (k:=0) hf).2.2
   rw [Nat.zero_add] at this
   rw [Nat.zero_add]
   exact this
  have hol:(fmG (piV P) 0 l).length=l.length * 3:=fmG_length
  rcases v4.ch with ⟨hcs,rfl⟩ | ⟨q,hq1,hq2,rfl,hq4⟩
  ·have v5:=v4.put0 (c:=[]++cgV ⟨i,m,f.p.getD m 0,newU l W H s i m⟩) hf hm hE hcs rfl rfl
   repeat' (first
 | (conv=>whnf)
   first
   | refine Br.decF hEi ?_
   | refine Bnd.eq hmw ?_
   | refine Bnd.eq hmod ?_
   | refine Bnd.eq hdiv ?_
   | refine Bnd.eq hu8 ?_
   | (refine Br.decT ?_ ?_;(focus first | assumption | omega))
   | refine Br.not ?_
   | refine fLen.mk ?_
   | refine fB.i0 ?_
   | refine fB.i1 ?_
   | refine Req.mk (bget_new (i:=0)) ?_
   | refine Get.newj 0 rfl rfl ?_
   | refine fB.newj 0 rfl ?_
   | refine fB.mk ?_
   | refine fV.as hov ?_
   | refine Get.mk _ v3 ?_
   | refine Get.mk _ a0 ?_
   | refine Get.mk _ a2 ?_
   | refine Get.mk _ hpx ?_
   | refine Get.mk _ (bget_app v4.fh.out) ?_
   | refine Get.mk _ (bget_app (v4.fh.pic i hi)) ?_
   | refine Get.mk _ hpc ?_
   | refine Idx.nat hil ?_
   | refine Idx.nat hml ?_
   | refine Req.mk hol ?_
   | refine Req.mk hAs ?_
   | refine Req.mk hn0 ?_
   | refine Req.mk hp0 ?_
   | refine Req.mk hW0 ?_
   | refine call_fun rfl rfl kv (.inl rfl) ?_
   | (refine Ifz.pos ?_ ?_;(focus omega))
   | refine Get.mk _ rfl ?_
   | (refine Req.mk ?_ ?_;(focus first | rfl | decide | exact ⟨rfl,rfl⟩ | exact ⟨rfl,by decide⟩ | exact (fun _=>rfl) | exact (fun h=>nomatch h) | (simp;done) | omega | (simp [big];done) | exact le_big (by omega) | exact lt_big (by omega))))
   all_goals try (exfalso;omega;done)
   have hX:∀ (Z:List B) (b:B),G.length≤(bset (g++Z) (P i) b).length:=fun Z b=>by rw [bset_len,List.length_append];omega
   have h00:∀ (Z:List B) (b:B),bget (bset (g++Z) (P i) b) 0=some (.blk (spV s) false):=fun Z b=>(bset_other (by omega)).trans (bget_app v3)
   exact NextP.of (fun h=>⟨m+1,.ms 4 g.length (1 * 4) 0 1 false,h⟩) ⟨hm,norm_len (s:=⟨_,_⟩) (hX _ _),hnk (by omega) (hX _ _) (h00 _ _),v5.norm (j:=7) hle (hX _ _) rfl⟩ (by dsimp only;omega) rfl
  ·have v5:=v4.putS (c:=cgC (csT (newU l W H s) l i m)++cgV ⟨i,m,f.p.getD m 0,newU l W H s i m⟩) hf hm hE hq1 rfl rfl
   have hqs:0+(csT (newU l W H s) l i m).length * 4=(csT (newU l W H s) l i m).length * 4∧((cgC (csT (newU l W H s) l i m)).length+[V.int .i64 i,.int .i64 m,.int .u8 ((f.p.getD m 0).toNat:Nat),.int .u8 ((newU l W H s i m).toNat:Nat)].length) * (24+1)<big:=⟨Nat.zero_add _,by rw [cgC_length];unfold big;simp;omega⟩
   have hqo:q≠3:=by have:=v4.fh.oN;omega
   have hqP:q≠P i:=by omega
   repeat' (first
 | (conv=>whnf)
   first
   | refine Br.decF hEi ?_
   | refine Bnd.eq hmw ?_
   | refine Bnd.eq hmod ?_
   | refine Bnd.eq hdiv ?_
   | refine Bnd.eq hu8 ?_
   | (refine Br.decT ?_ ?_;(focus first | assumption | omega))
   | refine Br.not ?_
   | refine fLen.mk ?_
   | refine fB.i0 ?_
   | refine fB.i1 ?_
   | refine fB.mk ?_
   | refine fV.as hov ?_
   | refine Get.mk _ v3 ?_
   | refine Get.mk _ a0 ?_
   | refine Get.mk _ a2 ?_
   | refine Get.mk _ hpx ?_
   | refine Get.mk _ (bget_app hq4) ?_
   | refine Get.mk _ ((bset_other hqo).trans (bget_app v4.fh.out)) ?_
   | refine Get.mk _ ((bset_other hqP).trans (bget_app (v4.fh.pic i hi))) ?_
   | refine Get.mk _ hpc ?_
   | refine Idx.nat hil ?_
   | refine Idx.nat hml ?_
   | refine Req.mk hol ?_
   | refine Req.mk hAs ?_
   | refine Req.mk (cgC_length _) ?_
   | refine Req.mk hqs ?_
   | refine Req.mk hn0 ?_
   | refine Req.mk hp0 ?_
   | refine Req.mk hW0 ?_
   | refine call_fun rfl rfl kv (.inl rfl) ?_
   | (refine Ifz.pos ?_ ?_;(focus omega))
   | refine Get.mk _ rfl ?_
   | (refine Req.mk ?_ ?_;(focus first | rfl | decide | exact ⟨rfl,rfl⟩ | exact ⟨rfl,by decide⟩ | exact (fun _=>rfl) | exact (fun h=>nomatch h) | (simp;done) | omega | (simp [big];done) | exact le_big (by omega) | exact lt_big (by omega))))
   all_goals try (exfalso;omega;done)
   have hX:∀ (Z:List B) (b b' : B),G.length≤(bset (bset (g++Z) q b') (P i) b).length:=fun Z b b' => by rw [bset_len,bset_len,List.length_append];omega
   have h00:∀ (Z:List B) (b b' : B),bget (bset (bset (g++Z) q b') (P i) b) 0=some (.blk (spV s) false):=fun Z b b' => (bset_other (by omega)).trans ((bset_other (by omega)).trans (bget_app v3))
   have e5:∀ a b c d:V,(csT (newU l W H s) l i m).length * 4+[a,b,c,d].length=((csT (newU l W H s) l i m).length+1) * 4:=fun _ _ _ _=>by simp;omega
   rw [e5]
   exact NextP.of (fun h=>⟨m+1,.ms 4 q (((csT (newU l W H s) l i m).length+1) * 4) 0 ((csT (newU l W H s) l i m).length+1) false,h⟩) ⟨hm,norm_len (s:=⟨_,_⟩) (hX _ _ _),hnk (by omega) (hX _ _ _) (h00 _ _ _),v5.norm (j:=7) hle (hX _ _ _) rfl⟩ (by dsimp only;omega) rfl
end Go.Dr.T
namespace Go.Dr.T
theorem bxBad_ref {w h:Int} {x:Bx}:bxBad w h x=(outB x.l 0 (w - 1) || outB x.r x.l (w - 1) || outB x.t 0 (h - 1) || outB x.b x.t (h - 1)):=by
 unfold bxBad
 rw [Bool.eq_iff_iff]
 simp only [outB,Bool.or_eq_true,decide_eq_true_eq]
 omega
set_option maxRecDepth 100000 in
set_option maxHeartbeats 20000000 in
theorem box_ok {w h:Int} {x:Bx} (hw:1≤w∧w≤48) (hh:1≤h∧h≤48) {c:Bool} {n:Nat} {px:List V}:Fun FB md 88 [.agg [.int .i64 w,.int .i64 h,.sl c n px],.agg (bxV x)] (.bool (!bxBad w h x)):=by
 have k1:=in_ok (n:=x.l) (lo:=0) (hi:=w - 1)
 have k2:=in_ok (n:=x.r) (lo:=x.l) (hi:=w - 1)
 have k3:=in_ok (n:=x.t) (lo:=0) (hi:=h - 1)
 have k4:=in_ok (n:=x.b) (lo:=x.t) (hi:=h - 1)
 rw [bxBad_ref]
 unfold bxV
 generalize outB x.l 0 (w - 1)=y1 at *
 generalize outB x.r x.l (w - 1)=y2 at *
 generalize outB x.t 0 (h - 1)=y3 at *
 generalize outB x.b x.t (h - 1)=y4 at *
 have a1:IntKind.i64.wrap (w - 1)=w - 1:=wrap_i64 (by omega) (by omega)
 have a2:IntKind.i64.wrap (h - 1)=h - 1:=wrap_i64 (by omega) (by omega)
 refine fun_of rfl rfl ?_
 cases y1 <;> cases y2 <;> cases y3 <;> cases y4
 all_goals
  repeat' (first
 | (conv=>whnf)
   first
   | refine Bnd.eq a1 ?_
   | refine Bnd.eq a2 ?_
   | refine Br.t ?_
   | refine Br.f ?_
   | refine call_fun rfl rfl k1 (.inl rfl) ?_
   | refine call_fun rfl rfl k2 (.inl rfl) ?_
   | refine call_fun rfl rfl k3 (.inl rfl) ?_
   | refine call_fun rfl rfl k4 (.inl rfl) ?_
   | refine Get.mk _ rfl ?_
   | refine Leaves.of ?_
   | refine Vw.bool ?_
   | (refine Req.mk ?_ ?_;(focus first | rfl | decide | exact ⟨rfl,rfl⟩ | exact ⟨rfl,by decide⟩ | exact (fun _=>rfl) | exact (fun h=>nomatch h) | (simp;done) | omega | (simp [big];done) | exact le_big (by omega) | exact lt_big (by omega))))
  all_goals first | rfl | (exfalso;omega;done)
theorem odd_c {w:Int} {s:Sp} (hk:s.k=2∨s.k=3∨s.k=4∨s.k=5∨s.k=6) (hc:s.c≠0):oddS w s=true:=by
 obtain ⟨k,fr,un,kc,kp,a,b,cc,tc,tb⟩:=s
 dsimp only at *
 have e:outB cc 0 0=true:=by simp only [outB,Bool.or_eq_true,decide_eq_true_eq];omega
 rcases hk with rfl | rfl | rfl | rfl | rfl
 all_goals simp [oddS,loK,hiK,e]
set_option maxRecDepth 100000 in
set_option maxHeartbeats 20000000 in
theorem numbers_ok {w h:Int} {c:Bool} {n:Nat} {px:List V} {s:Sp} (hw:1≤w∧w≤48) (hk:1≤s.k∧s.k≤6):Fun FB md 89 [.agg [.int .i64 w,.int .i64 h,.sl c n px],.agg (spV s)] (.bool (!oddS w s)):=by
 by_cases hc:s.c=0
 rotate_left
 ·by_cases h1:s.k=1
  rotate_left
  ·rw [odd_c (by omega) hc]
   refine fun_of rfl rfl ?_
   repeat' (first
 | (conv=>whnf)
   first
   | (refine Br.decF ?_ ?_;(focus first | assumption | omega))
   | refine Br.not ?_
   | refine Get.mk _ rfl ?_
   | refine Leaves.of ?_
   | refine Vw.bool ?_
   | (refine Req.mk ?_ ?_;(focus first | rfl | decide | exact ⟨rfl,rfl⟩ | exact ⟨rfl,by decide⟩ | exact (fun _=>rfl) | exact (fun h=>nomatch h) | (simp;done) | omega | (simp [big];done) | exact le_big (by omega) | exact lt_big (by omega))))
   all_goals first | rfl | (exfalso;omega;done)
  obtain ⟨k,fr,un,kc,kp,a,b,cc,tc,tb⟩:=s
  dsimp only at *
  subst h1
  have ho:oddS w ⟨(1:Int),fr,un,kc,kp,a,b,cc,tc,tb⟩=(outB a (-47) 47 || outB b (-47) 47 || outB cc 0 255):=by
   rw [Bool.eq_iff_iff]
   simp [oddS,loK,hiK,outB]
  have k1:=in_ok (n:=a) (lo := -47) (hi:=47)
  have k2:=in_ok (n:=b) (lo := -47) (hi:=47)
  have k3:=in_ok (n:=cc) (lo:=0) (hi:=255)
  rw [ho]
  generalize outB a (-47) 47=y1 at *
  generalize outB b (-47) 47=y2 at *
  generalize outB cc 0 255=y3 at *
  refine fun_of rfl rfl ?_
  cases y1 <;> cases y2 <;> cases y3
  all_goals
   repeat' (first
 | (conv=>whnf)
   first
   | refine Br.t ?_
   | refine Br.f ?_
   | refine call_fun rfl rfl k1 (.inl rfl) ?_
   | refine call_fun rfl rfl k2 (.inl rfl) ?_
   | refine call_fun rfl rfl k3 (.inl rfl) ?_
   | refine Get.mk _ rfl ?_
   | refine Leaves.of ?_
   | refine Vw.bool ?_
   | (refine Req.mk ?_ ?_;(focus first | rfl | decide | exact ⟨rfl,rfl⟩ | exact ⟨rfl,by decide⟩ | exact (fun _=>rfl) | exact (fun h=>nomatch h) | (simp;done) | omega | (simp [big];done) | exact le_big (by omega) | exact lt_big (by omega))))
   all_goals first | rfl | (exfalso;omega;done)
 obtain ⟨k,fr,un,kc,kp,a,b,cc,tc,tb⟩:=s
 dsimp only at *
 subst hc
 have hks:k=1∨k=2∨k=3∨k=4∨k=5∨k=6:=by omega
 clear hk
 rcases hks with rfl | rfl | rfl | rfl | rfl | rfl
 ·have ho:oddS w ⟨(1:Int),fr,un,kc,kp,a,b,0,tc,tb⟩=(outB a (-47) 47 || outB b (-47) 47 || outB 0 0 255):=by
   rw [Bool.eq_iff_iff]
   simp [oddS,loK,hiK,outB]
  have k1:=in_ok (n:=a) (lo := -47) (hi:=47)
  have k2:=in_ok (n:=b) (lo := -47) (hi:=47)
  have k3:=in_ok (n:=0) (lo:=0) (hi:=255)
  rw [ho]
  generalize outB a (-47) 47=y1 at *
  generalize outB b (-47) 47=y2 at *
  generalize outB 0 0 255=y3 at *
  refine fun_of rfl rfl ?_
  cases y1 <;> cases y2 <;> cases y3
  all_goals
   repeat' (first
 | (conv=>whnf)
   first
   | refine Br.t ?_
   | refine Br.f ?_
   | refine call_fun rfl rfl k1 (.inl rfl) ?_
   | refine call_fun rfl rfl k2 (.inl rfl) ?_
   | refine call_fun rfl rfl k3 (.inl rfl) ?_
   | refine Get.mk _ rfl ?_
   | refine Leaves.of ?_
   | refine Vw.bool ?_
   | (refine Req.mk ?_ ?_;(focus first | rfl | decide | exact ⟨rfl,rfl⟩ | exact ⟨rfl,by decide⟩ | exact (fun _=>rfl) | exact (fun h=>nomatch h) | (simp;done) | omega | (simp [big];done) | exact le_big (by omega) | exact lt_big (by omega))))
   all_goals first | rfl | (exfalso;omega;done)
 ·by_cases ha:a=0
  ·subst ha
   have ho:oddS w ⟨(2:Int),fr,un,kc,kp,0,b,0,tc,tb⟩ = !decide (b=0):=by
    rw [Bool.eq_iff_iff]
    simp [oddS,loK,hiK,outB]
    omega
   rw [ho,Bool.not_not]
   refine fun_of rfl rfl ?_
   repeat' (first
 | (conv=>whnf)
   first
   | refine Br.t ?_
   | refine Br.f ?_
   | refine Get.mk _ rfl ?_
   | refine Leaves.of ?_
   | refine Vw.bool ?_
   | (refine Req.mk ?_ ?_;(focus first | rfl | decide | exact ⟨rfl,rfl⟩ | exact ⟨rfl,by decide⟩ | exact (fun _=>rfl) | exact (fun h=>nomatch h) | (simp;done) | omega | (simp [big];done) | exact le_big (by omega) | exact lt_big (by omega))))
   all_goals first | rfl | (exfalso;omega;done)
  ·have ho:oddS w ⟨(2:Int),fr,un,kc,kp,a,b,0,tc,tb⟩=true:=by
    simp [oddS,loK,hiK,outB]
    omega
   rw [ho]
   refine fun_of rfl rfl ?_
   repeat' (first
 | (conv=>whnf)
   first
   | refine Br.t ?_
   | refine Br.f ?_
   | (refine Br.decF ?_ ?_;(focus first | assumption | omega))
   | refine Get.mk _ rfl ?_
   | refine Leaves.of ?_
   | refine Vw.bool ?_
   | (refine Req.mk ?_ ?_;(focus first | rfl | decide | exact ⟨rfl,rfl⟩ | exact ⟨rfl,by decide⟩ | exact (fun _=>rfl) | exact (fun h=>nomatch h) | (simp;done) | omega | (simp [big];done) | exact le_big (by omega) | exact lt_big (by omega))))
   all_goals first | rfl | (exfalso;omega;done)
 ·have ho:oddS w ⟨(3:Int),fr,un,kc,kp,a,b,0,tc,tb⟩=(outB a 0 (w - 1) || outB b a (w - 1) || !decide (b - a+1<w)):=by
   rw [Bool.eq_iff_iff]
   simp [oddS,loK,hiK,outB]
   omega
  have k1:=in_ok (n:=a) (lo:=0) (hi:=w - 1)
  have k2:=in_ok (n:=b) (lo:=a) (hi:=w - 1)
  have k3:=k2
  have hww:IntKind.i64.wrap (w - 1)=w - 1:=wrap_i64 (by omega) (by omega)
  rw [ho]
  cases e1:outB a 0 (w - 1) <;> rw [e1] at k1
  rotate_left
  ·refine fun_of rfl rfl ?_
   repeat' (first
 | (conv=>whnf)
   first
   | refine Bnd.eq hww ?_
   | refine Br.t ?_
   | refine Br.f ?_
   | refine call_fun rfl rfl k1 (.inl rfl) ?_
   | refine Get.mk _ rfl ?_
   | refine Leaves.of ?_
   | refine Vw.bool ?_
   | (refine Req.mk ?_ ?_;(focus first | rfl | decide | exact ⟨rfl,rfl⟩ | exact ⟨rfl,by decide⟩ | exact (fun _=>rfl) | exact (fun h=>nomatch h) | (simp;done) | omega | (simp [big];done) | exact le_big (by omega) | exact lt_big (by omega))))
   all_goals first | rfl | (exfalso;omega;done)
  cases e2:outB b a (w - 1) <;> rw [e2] at k2 k3
  rotate_left
  ·refine fun_of rfl rfl ?_
   repeat' (first
 | (conv=>whnf)
   first
   | refine Bnd.eq hww ?_
   | refine Br.t ?_
   | refine Br.f ?_
   | refine call_fun rfl rfl k1 (.inl rfl) ?_
   | refine call_fun rfl rfl k2 (.inl rfl) ?_
   | refine Get.mk _ rfl ?_
   | refine Leaves.of ?_
   | refine Vw.bool ?_
   | (refine Req.mk ?_ ?_;(focus first | rfl | decide | exact ⟨rfl,rfl⟩ | exact ⟨rfl,by decide⟩ | exact (fun _=>rfl) | exact (fun h=>nomatch h) | (simp;done) | omega | (simp [big];done) | exact le_big (by omega) | exact lt_big (by omega))))
   all_goals first | rfl | (exfalso;omega;done)
  simp only [outB,Bool.or_eq_false_iff,decide_eq_false_iff_not] at e1 e2
  have ha1:IntKind.i64.wrap (b - a)=b - a:=wrap_i64 (by omega) (by omega)
  have ha2:IntKind.i64.wrap (b - a+1)=b - a+1:=wrap_i64 (by omega) (by omega)
  rw [Bool.false_or,Bool.false_or,Bool.not_not]
  refine fun_of rfl rfl ?_
  repeat' (first
 | (conv=>whnf)
   first
   | refine Bnd.eq hww ?_
   | refine Bnd.eq ha1 ?_
   | refine Bnd.eq ha2 ?_
   | refine Br.t ?_
   | refine Br.f ?_
   | refine call_fun rfl rfl k1 (.inl rfl) ?_
   | refine call_fun rfl rfl k2 (.inl rfl) ?_
   | refine Get.mk _ rfl ?_
   | refine Leaves.of ?_
   | refine Vw.bool ?_
   | (refine Req.mk ?_ ?_;(focus first | rfl | decide | exact ⟨rfl,rfl⟩ | exact ⟨rfl,by decide⟩ | exact (fun _=>rfl) | exact (fun h=>nomatch h) | (simp;done) | omega | (simp [big];done) | exact le_big (by omega) | exact lt_big (by omega))))
  all_goals first | rfl | (exfalso;omega;done)
 ·have ho:oddS w ⟨(4:Int),fr,un,kc,kp,a,b,0,tc,tb⟩=(outB a 1 255 || outB b 0 255):=by
   rw [Bool.eq_iff_iff]
   simp [oddS,loK,hiK,outB]
  have k1:=in_ok (n:=a) (lo:=1) (hi:=255)
  have k2:=in_ok (n:=b) (lo:=0) (hi:=255)
  have k3:=k2
  rw [ho]
  generalize outB a 1 255=y1 at *
  generalize outB b 0 255=y2 at *
  refine fun_of rfl rfl ?_
  cases y1 <;> cases y2
  all_goals
   repeat' (first
 | (conv=>whnf)
   first
   | refine Br.t ?_
   | refine Br.f ?_
   | refine call_fun rfl rfl k1 (.inl rfl) ?_
   | refine call_fun rfl rfl k2 (.inl rfl) ?_
   | refine Get.mk _ rfl ?_
   | refine Leaves.of ?_
   | refine Vw.bool ?_
   | (refine Req.mk ?_ ?_;(focus first | rfl | decide | exact ⟨rfl,rfl⟩ | exact ⟨rfl,by decide⟩ | exact (fun _=>rfl) | exact (fun h=>nomatch h) | (simp;done) | omega | (simp [big];done) | exact le_big (by omega) | exact lt_big (by omega))))
   all_goals first | rfl | (exfalso;omega;done)
 ·have ho:oddS w ⟨(5:Int),fr,un,kc,kp,a,b,0,tc,tb⟩=(outB a 0 1000 || outB b 0 40):=by
   rw [Bool.eq_iff_iff]
   simp [oddS,loK,hiK,outB]
  have k1:=in_ok (n:=a) (lo:=0) (hi:=1000)
  have k2:=in_ok (n:=b) (lo:=0) (hi:=40)
  have k3:=k2
  rw [ho]
  generalize outB a 0 1000=y1 at *
  generalize outB b 0 40=y2 at *
  refine fun_of rfl rfl ?_
  cases y1 <;> cases y2
  all_goals
   repeat' (first
 | (conv=>whnf)
   first
   | refine Br.t ?_
   | refine Br.f ?_
   | refine call_fun rfl rfl k1 (.inl rfl) ?_
   | refine call_fun rfl rfl k2 (.inl rfl) ?_
   | refine Get.mk _ rfl ?_
   | refine Leaves.of ?_
   | refine Vw.bool ?_
   | (refine Req.mk ?_ ?_;(focus first | rfl | decide | exact ⟨rfl,rfl⟩ | exact ⟨rfl,by decide⟩ | exact (fun _=>rfl) | exact (fun h=>nomatch h) | (simp;done) | omega | (simp [big];done) | exact le_big (by omega) | exact lt_big (by omega))))
   all_goals first | rfl | (exfalso;omega;done)
 ·have ho:oddS w ⟨(6:Int),fr,un,kc,kp,a,b,0,tc,tb⟩=(outB a (-255) 255 || !decide (b=0)):=by
   rw [Bool.eq_iff_iff]
   simp [oddS,loK,hiK,outB]
   omega
  have k1:=in_ok (n:=a) (lo := -255) (hi:=255)
  have k2:=k1
  have k3:=k1
  rw [ho]
  generalize outB a (-255) 255=y1 at *
  refine fun_of rfl rfl ?_
  cases y1
  ·rw [Bool.false_or,Bool.not_not]
   repeat' (first
 | (conv=>whnf)
   first
   | refine Br.t ?_
   | refine Br.f ?_
   | refine call_fun rfl rfl k1 (.inl rfl) ?_
   | refine Get.mk _ rfl ?_
   | refine Leaves.of ?_
   | refine Vw.bool ?_
   | (refine Req.mk ?_ ?_;(focus first | rfl | decide | exact ⟨rfl,rfl⟩ | exact ⟨rfl,by decide⟩ | exact (fun _=>rfl) | exact (fun h=>nomatch h) | (simp;done) | omega | (simp [big];done) | exact le_big (by omega) | exact lt_big (by omega))))
   all_goals first | rfl | (exfalso;omega;done)
  ·repeat' (first
 | (conv=>whnf)
   first
   | refine Br.t ?_
   | refine Br.f ?_
   | refine call_fun rfl rfl k1 (.inl rfl) ?_
   | refine Get.mk _ rfl ?_
   | refine Leaves.of ?_
   | refine Vw.bool ?_
   | (refine Req.mk ?_ ?_;(focus first | rfl | decide | exact ⟨rfl,rfl⟩ | exact ⟨rfl,by decide⟩ | exact (fun _=>rfl) | exact (fun h=>nomatch h) | (simp;done) | omega | (simp [big];done) | exact le_big (by omega) | exact lt_big (by omega))))
   all_goals first | rfl | (exfalso;omega;done)
end Go.Dr.T
