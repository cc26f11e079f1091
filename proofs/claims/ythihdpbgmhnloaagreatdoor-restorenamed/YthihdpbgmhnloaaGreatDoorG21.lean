/- Chapter 08: law RestoreNamed, walked. -/
import Derived.Test.YthihdpbgmhnloaaGreatDoorG20
import Derived.Test.YthihdpbgmhnloaaGreatDoorG2
import Derived.Test.YthihdpbgmhnloaaGreatDoorDrE
import Derived.Test.YthihdpbgmhnloaaGreatDoorR08Fb
import Derived.Test.YthihdpbgmhnloaaGreatDoorG6
namespace Go.Dr.T
theorem ne_nil_len {α:Type} {l:List α} (h:0<l.length):decide (l=[])=false:=by
 cases l with
 | nil=>exact absurd h (Nat.lt_irrefl 0)
 | cons x l=>simp
theorem forg_vw {h:List B} {d F C G1 N1 G2 N2 s:Nat} {L:List (List Cg)} {cs' : List Cg} (h1:bget h F=some (.blk ((lgC L).set s (.ms 4 C G2 0 N2 false)) false)) (hG1:L.length=G1) (hN1:N1=L.length) (h2:bget h C=some (.blk (cgC cs') true)) (hG2:(cgC cs').length=G2) (hN2:N2=cs'.length) (hne:0<cs'.length):Vw h (d+1+1+1) (.ms 1 F G1 0 N1 false) (.sl false L.length (lgC (L.set s cs'))):=by
 subst hN1 hG2 hN2 hG1
 refine Vw.ms h1 (by rw [List.length_set,lgC_length]) (part_all (by rw [List.length_set,lgC_length,Nat.mul_one])) ?_
 refine lg_view (d:=d+1) (VwL.cons ?_ VwL.nil)
 unfold cgL
 rw [ne_nil_len hne]
 exact Vw.ms h2 rfl (part_all (cgC_length _)) (cgC_vw _)
set_option maxRecDepth 100000 in
set_option maxHeartbeats 20000000 in
theorem law_named {c d:Bool} {l:List Fm} {ss:List Sp} {a b:Nat} {y:UInt8} {old:Bool} (ha:a≤65535) (hb:b≤65535):Fun FB1 md 12 [.sl c l.length (fmC l),.sl d ss.length (spC ss),.agg [.int .u16 (a:Nat),.int .u16 (b:Nat),.int .u8 (y.toNat:Nat),.bool old]] (.bool true):=by
 have k9:=awake
 by_cases he:(csE l ss).2=0
 rotate_left
 ·have k1:=tabF (run_bad (c:=c) (d:=d) he)
  generalize (csE l ss).2=e at *
  refine fun_of rfl rfl ?_
  repeat' (first
 | (conv=>whnf)
   first
   | refine Br.t ?_
   | (refine Br.decF ?_ ?_;(focus first | assumption | omega))
   | refine Br.not ?_
   | refine call_fun rfl rfl k1 (.inl rfl) ?_
   | refine call_fun rfl rfl k9 (.inl rfl) ?_
   | refine Get.mk _ rfl ?_
   | refine Leaves.of ?_
   | refine Vw.bool ?_
   | (refine Req.mk ?_ ?_;(focus first | rfl | decide | exact ⟨rfl,rfl⟩ | exact ⟨rfl,by decide⟩ | exact (fun _=>rfl) | exact (fun h=>nomatch h) | (simp;done) | omega | (simp [big];done) | exact le_big (by omega) | exact lt_big (by omega))))
  all_goals first | rfl | (exfalso;omega;done)
 obtain ⟨W,H,o,h20,p⟩:=csE_zero he
 have hn12:=o.n12
 have k1:=tabF (run_ok (c:=c) (d:=d) o h20 p he)
 have oz:=czF_ok o
 have hL:(rnC W H (czF l) ss).length=ss.length:=rnC_len
 unfold lgL at k1
 rw [hL] at k1
 by_cases h0:ss.length=0
 ·have k1' := k1
  rw [h0] at k1
  rw [show ss=[] from List.eq_nil_of_length_eq_zero h0] at k1 ⊢
  refine fun_of rfl rfl ?_
  repeat' (first
 | (conv=>whnf)
   first
   | refine Br.t ?_
   | refine Br.f ?_
   | refine call_fun rfl rfl k1 (.inl rfl) ?_
   | refine call_fun rfl rfl k9 (.inl rfl) ?_
   | refine Get.mk _ rfl ?_
   | refine Leaves.of ?_
   | refine Vw.bool ?_
   | (refine Req.mk ?_ ?_;(focus first | rfl | decide | exact ⟨rfl,rfl⟩ | exact ⟨rfl,by decide⟩ | exact (fun _=>rfl) | exact (fun h=>nomatch h) | (simp;done) | omega | (simp [big];done) | exact le_big (by omega) | exact lt_big (by omega))))
  all_goals first | rfl | (exfalso;omega;done)
 have hm1:(a:Int).tmod (ss.length:Int)=((a % ss.length:Nat):Int):=by rw [Int.ofNat_tmod]
 have hs:a % ss.length<ss.length:=Nat.mod_lt a (by omega)
 generalize a % ss.length=s at *
 obtain ⟨cs,hcs⟩:∃ x,(rnC W H (czF l) ss)[s]?=some x:=⟨_,List.getElem?_eq_getElem (by omega)⟩
 have hcl:cs.length≤30000:=rnC_all oz cs (List.mem_of_getElem? hcs)
 have hcg:=lgC_at hcs
 have hn1:(ss.length:Int)≠0:=by omega
 have hsl:s≤ss.length - 1:=by omega
 have h0l:0<ss.length:=by omega
 unfold cgL at hcg
 by_cases hc0:cs.length=0
 ·rw [hc0] at hcg
  refine fun_of rfl rfl ?_
  repeat' (first
 | (conv=>whnf)
   first
   | refine Bnd.eq hm1 ?_
   | refine Br.t ?_
   | refine Br.f ?_
   | (refine Br.decF ?_ ?_;(focus first | assumption | omega))
   | (refine Bnd.i64 ?_ ?_ ?_;(focus omega);(focus omega))
   | refine Req.mk hn1 ?_
   | refine Idx.nat hsl ?_
   | refine Req.mk h0l ?_
   | refine Get.mk _ hcg ?_
   | refine call_fun rfl rfl k1 (.inl rfl) ?_
   | refine call_fun rfl rfl k9 (.inl rfl) ?_
   | refine Get.mk _ rfl ?_
   | refine Leaves.of ?_
   | refine Vw.bool ?_
   | (refine Req.mk ?_ ?_;(focus first | rfl | decide | exact ⟨rfl,rfl⟩ | exact ⟨rfl,by decide⟩ | exact (fun _=>rfl) | exact (fun h=>nomatch h) | (simp;done) | omega | (simp [big];done) | exact le_big (by omega) | exact lt_big (by omega))))
  all_goals first | rfl | (exfalso;omega;done)
 have hm2:(b:Int).tmod (cs.length:Int)=((b % cs.length:Nat):Int):=by rw [Int.ofNat_tmod]
 have hk:b % cs.length<cs.length:=Nat.mod_lt b (by omega)
 generalize b % cs.length=k at *
 obtain ⟨x,hx⟩:∃ x,cs[k]?=some x:=⟨_,List.getElem?_eq_getElem hk⟩
 have hxp:=cgC_part hx
 have hn2:(cs.length:Int)≠0:=by omega
 have hkl:k≤cs.length - 1:=by omega
 have hc0l:0<cs.length:=by omega
 rw [ne_nil_len hc0l] at hcg
 rw [ne_nil_len (by omega)] at k1
 have g1:(lgC (rnC W H (czF l) ss)).length=ss.length * 1:=by rw [lgC_length,hL];omega
 have g2:(([]:List V).length+(lgC (rnC W H (czF l) ss)).length) * (24+1)<big:=by rw [g1];unfold big;simp;omega
 have g3:s≤0+ss.length - 1:=by omega
 have g4:0<0+ss.length:=by omega
 have g5:([]++lgC (rnC W H (czF l) ss)).length=([]:List V).length+(lgC (rnC W H (czF l) ss)).length:=by simp
 have g6:([]++lgC (rnC W H (czF l) ss)).length=([]:List V).length+(lgC (rnC W H (czF l) ss)).length∧0+s * 1+1≤([]++lgC (rnC W H (czF l) ss)).length:=⟨by simp,by rw [List.nil_append,g1];omega⟩
 have g7:∀ v:V,over ([]++lgC (rnC W H (czF l) ss)) (0+s * 1) [v]=(lgC (rnC W H (czF l) ss)).set s v:=fun v=>by rw [List.nil_append,Nat.zero_add,Nat.mul_one,over_one]
 have g8:∀ v:V,cellAt ((lgC (rnC W H (czF l) ss)).set s v) (0+s * 1)=some v:=fun v=>by rw [cellAt_eq,Nat.zero_add,Nat.mul_one,List.getElem?_set_self (by rw [g1];omega)]
 have g9:∀ v:V,((lgC (rnC W H (czF l) ss)).set s v).length=([]:List V).length+(lgC (rnC W H (czF l) ss)).length:=fun v=>by simp
 have q1:(cgC cs).length=cs.length * 4:=cgC_length cs
 have q2:(([]:List V).length+(cgC cs).length) * (24+1)<big:=by rw [q1];unfold big;simp;omega
 have q3:k≤0+cs.length - 1:=by omega
 have q4:0<0+cs.length:=by omega
 have q5:([]++cgC cs).length=([]:List V).length+(cgC cs).length:=by simp
 have q6:([]++cgC cs).length=([]:List V).length+(cgC cs).length∧0+k * 4+4≤([]++cgC cs).length:=⟨by simp,by rw [List.nil_append,q1];omega⟩
 have q7:part ([]++cgC cs) (0+k * 4) 4=some (cgV x):=by rw [Nat.zero_add];exact hxp
 have q8:∀ z:Cg,over ([]++cgC cs) (0+k * 4) [.int .i64 z.f,.int .i64 z.p,.int .u8 z.o.toNat,.int .u8 z.n.toNat]=cgC (cs.set k z):=fun z=>by rw [List.nil_append,Nat.zero_add];exact over_cg hk
 have q9:scalars ([]++cgC cs)=true:=cgC_scalars cs
 have hnv:∀ {z:Cg} {G2 N2:Nat} {h:List B},bget h 2=some (.blk ((lgC (rnC W H (czF l) ss)).set s (.ms 4 3 G2 0 N2 false)) false)→bget h 3=some (.blk (cgC (cs.set k z)) true)→(cgC (cs.set k z)).length=G2→N2=cs.length→views h depth [.ms 1 2 (([]:List V).length+(lgC (rnC W H (czF l) ss)).length) 0 (0+ss.length) false]=some [.sl false ss.length (lgC ((rnC W H (czF l) ss).set s (cs.set k z)))]:=fun {z G2 N2 h} e1 e2 e3 e4=>by
  have:=forg_vw (d:=61) (G1:=([]:List V).length+(lgC (rnC W H (czF l) ss)).length) (N1:=0+ss.length) e1 (by rw [g1,hL];simp) (by rw [hL];omega) e2 e3 (by rw [List.length_set];exact e4) (by rw [List.length_set];exact hc0l)
  rw [hL] at this
  exact (VwL.cons this VwL.nil).1
 have q10:∀ z:Cg,(cgC (cs.set k z)).length=([]:List V).length+(cgC cs).length:=fun z=>by rw [cgC_length,List.length_set,q1];simp
 have q11:0+cs.length=cs.length:=Nat.zero_add _
 have hview:∀ {z:Cg} {h:List B} {c' : Bool} {A:List V},bget h 2=some (.blk ((lgC (rnC W H (czF l) ss)).set s (.ms 4 3 (([]:List V).length+(cgC cs).length) 0 (0+cs.length) false)) false)→bget h 3=some (.blk (cgC (cs.set k z)) true)→views h depth [.sl c' l.length A,.ms 1 2 (([]:List V).length+(lgC (rnC W H (czF l) ss)).length) 0 (0+ss.length) false]=some [.sl c' l.length A,.sl false ss.length (lgC ((rnC W H (czF l) ss).set s (cs.set k z)))]:=fun {z h c' A} e1 e2=>by
  have e3:=hnv e1 e2 (q10 z) q11
  exact (VwL.cons Vw.sl ⟨e3⟩).1
 clear hnv
 cases old
 ·by_cases hy:y=0
  ·have hy0:((y.toNat:Nat):Int)=0:=by rw [hy];rfl
   refine fun_of rfl rfl ?_
   repeat' (first
 | (conv=>whnf)
   first
   | refine Br.decT hy0 ?_
   | refine Bnd.eq u8_add ?_
   | refine Bnd.eq hm1 ?_
   | refine Bnd.eq hm2 ?_
   | refine Br.t ?_
   | refine Br.f ?_
   | (refine Br.decF ?_ ?_;(focus first | assumption | omega))
   | (refine Bnd.i64 ?_ ?_ ?_;(focus omega);(focus omega))
   | refine Req.mk hn1 ?_
   | refine Req.mk hn2 ?_
   | refine Idx.nat hsl ?_
   | refine Req.mk h0l ?_
   | refine Req.mk g1 ?_
   | refine Req.mk g2 ?_
   | refine Idx.nat g3 ?_
   | refine Req.mk g4 ?_
   | refine Req.mk g6 ?_
   | refine fV.as (g7 _) ?_
   | refine Get.mk _ (g8 _) ?_
   | refine Req.mk (g9 _) ?_
   | refine Req.mk q1 ?_
   | refine Req.mk q2 ?_
   | refine Idx.nat q3 ?_
   | refine Req.mk q4 ?_
   | refine Req.mk q5 ?_
   | refine Get.mk _ q7 ?_
   | refine Req.mk (fun _=>q9) ?_
   | refine Ifz.pos h0 ?_
   | refine Ifz.pos hc0 ?_
   | refine Get.mk _ hcg ?_
   | refine call_fun rfl rfl k1 (.inl rfl) ?_
   | refine call_fun rfl rfl k9 (.inl rfl) ?_
   | refine Get.mk _ rfl ?_
   | refine Leaves.of ?_
   | refine Vw.bool ?_
   | (refine Req.mk ?_ ?_;(focus first | rfl | decide | exact ⟨rfl,rfl⟩ | exact ⟨rfl,by decide⟩ | exact (fun _=>rfl) | exact (fun h=>nomatch h) | (simp;done) | omega | (simp [big];done) | exact le_big (by omega) | exact lt_big (by omega))))
   all_goals first | rfl | (exfalso;omega;done)
  have hy0:¬ ((y.toNat:Nat):Int)=0:=fun h=>hy (UInt8.toNat_inj.1 (by rw [Int.ofNat.inj h];rfl))
  by_cases hne:(fgC x false y).o=(fgC x false y).n
  ·have hei:((x.o.toNat:Nat):Int)=(((x.n+y).toNat:Nat):Int):=congrArg (fun u:UInt8=>((u.toNat:Nat):Int)) hne
   refine fun_of rfl rfl ?_
   repeat' (first
 | (conv=>whnf)
   first
   | refine Br.decF hy0 ?_
   | refine Br.decT hei ?_
   | refine Bnd.eq u8_add ?_
   | refine Bnd.eq hm1 ?_
   | refine Bnd.eq hm2 ?_
   | refine Br.f ?_
   | (refine Br.decF ?_ ?_;(focus first | assumption | omega))
   | (refine Bnd.i64 ?_ ?_ ?_;(focus omega);(focus omega))
   | refine Req.mk hn1 ?_
   | refine Req.mk hn2 ?_
   | refine Idx.nat hsl ?_
   | refine Req.mk h0l ?_
   | refine Req.mk g1 ?_
   | refine Req.mk g2 ?_
   | refine Idx.nat g3 ?_
   | refine Req.mk g4 ?_
   | refine Req.mk g6 ?_
   | refine fV.as (g7 _) ?_
   | refine Get.mk _ (g8 _) ?_
   | refine Req.mk (g9 _) ?_
   | refine Req.mk q1 ?_
   | refine Req.mk q2 ?_
   | refine Idx.nat q3 ?_
   | refine Req.mk q4 ?_
   | refine Req.mk q5 ?_
   | refine Get.mk _ q7 ?_
   | refine Req.mk (fun _=>q9) ?_
   | refine Ifz.pos h0 ?_
   | refine Ifz.pos hc0 ?_
   | refine Get.mk _ hcg ?_
   | refine call_fun rfl rfl k1 (.inl rfl) ?_
   | refine call_fun rfl rfl k9 (.inl rfl) ?_
   | refine Get.mk _ rfl ?_
   | refine Leaves.of ?_
   | refine Vw.bool ?_
   | (refine Req.mk ?_ ?_;(focus first | rfl | decide | exact ⟨rfl,rfl⟩ | exact ⟨rfl,by decide⟩ | exact (fun _=>rfl) | exact (fun h=>nomatch h) | (simp;done) | omega | (simp [big];done) | exact le_big (by omega) | exact lt_big (by omega))))
   all_goals first | rfl | (exfalso;omega;done)
  have hei:¬ ((x.o.toNat:Nat):Int)=(((x.n+y).toNat:Nat):Int):=fun h=>hne (UInt8.toNat_inj.1 (Int.ofNat.inj h))
  have kr:=FunF.tab sub1 (undo_forged (c:=false) (d:=false) (k:=k) (x:=x) (y:=y) o h20 hcs hx hy hne)
  have q12:=q8 ⟨x.f,x.p,x.o,x.n+y⟩
  refine fun_of rfl rfl ?_
  repeat' (first
 | (conv=>whnf)
   first
   | refine Br.decF hy0 ?_
   | refine Br.decF hei ?_
   | refine Bnd.eq u8_add ?_
   | refine Bnd.eq hm1 ?_
   | refine Bnd.eq hm2 ?_
   | refine Br.t ?_
   | refine Br.f ?_
   | (refine Br.decT ?_ ?_;(focus first | assumption | omega))
   | (refine Br.decF ?_ ?_;(focus first | assumption | omega))
   | (refine Bnd.i64 ?_ ?_ ?_;(focus omega);(focus omega))
   | refine fV.as q12 ?_
   | refine call_fresh rfl (hview (z:=⟨x.f,x.p,x.o,x.n+y⟩) rfl rfl) kr ?_
   | refine Req.mk hn1 ?_
   | refine Req.mk hn2 ?_
   | refine Idx.nat hsl ?_
   | refine Req.mk h0l ?_
   | refine Req.mk g1 ?_
   | refine Req.mk g2 ?_
   | refine Idx.nat g3 ?_
   | refine Req.mk g4 ?_
   | refine Req.mk g6 ?_
   | refine fV.as (g7 _) ?_
   | refine Get.mk _ (g8 _) ?_
   | refine Req.mk (g9 _) ?_
   | refine Req.mk q1 ?_
   | refine Req.mk q2 ?_
   | refine Idx.nat q3 ?_
   | refine Req.mk q4 ?_
   | refine Req.mk q5 ?_
   | refine Req.mk q6 ?_
   | refine Get.mk _ q7 ?_
   | refine Req.mk (fun _=>q9) ?_
   | refine Ifz.pos h0 ?_
   | refine Ifz.pos hc0 ?_
   | refine Get.mk _ hcg ?_
   | refine call_fun rfl rfl k1 (.inl rfl) ?_
   | refine call_fun rfl rfl k9 (.inl rfl) ?_
   | refine Get.mk _ rfl ?_
   | refine Leaves.of ?_
   | refine Vw.bool ?_
   | (refine Req.mk ?_ ?_;(focus first | rfl | decide | exact ⟨rfl,rfl⟩ | exact ⟨rfl,by decide⟩ | exact (fun _=>rfl) | exact (fun h=>nomatch h) | (simp;done) | omega | (simp [big];done) | exact le_big (by omega) | exact lt_big (by omega))))
  all_goals first | rfl | (exfalso;omega;done)
 ·by_cases hy:y=0
  ·have hy0:((y.toNat:Nat):Int)=0:=by rw [hy];rfl
   refine fun_of rfl rfl ?_
   repeat' (first
 | (conv=>whnf)
   first
   | refine Br.decT hy0 ?_
   | refine Bnd.eq u8_add ?_
   | refine Bnd.eq hm1 ?_
   | refine Bnd.eq hm2 ?_
   | refine Br.t ?_
   | refine Br.f ?_
   | (refine Br.decF ?_ ?_;(focus first | assumption | omega))
   | (refine Bnd.i64 ?_ ?_ ?_;(focus omega);(focus omega))
   | refine Req.mk hn1 ?_
   | refine Req.mk hn2 ?_
   | refine Idx.nat hsl ?_
   | refine Req.mk h0l ?_
   | refine Req.mk g1 ?_
   | refine Req.mk g2 ?_
   | refine Idx.nat g3 ?_
   | refine Req.mk g4 ?_
   | refine Req.mk g6 ?_
   | refine fV.as (g7 _) ?_
   | refine Get.mk _ (g8 _) ?_
   | refine Req.mk (g9 _) ?_
   | refine Req.mk q1 ?_
   | refine Req.mk q2 ?_
   | refine Idx.nat q3 ?_
   | refine Req.mk q4 ?_
   | refine Req.mk q5 ?_
   | refine Get.mk _ q7 ?_
   | refine Req.mk (fun _=>q9) ?_
   | refine Ifz.pos h0 ?_
   | refine Ifz.pos hc0 ?_
   | refine Get.mk _ hcg ?_
   | refine call_fun rfl rfl k1 (.inl rfl) ?_
   | refine call_fun rfl rfl k9 (.inl rfl) ?_
   | refine Get.mk _ rfl ?_
   | refine Leaves.of ?_
   | refine Vw.bool ?_
   | (refine Req.mk ?_ ?_;(focus first | rfl | decide | exact ⟨rfl,rfl⟩ | exact ⟨rfl,by decide⟩ | exact (fun _=>rfl) | exact (fun h=>nomatch h) | (simp;done) | omega | (simp [big];done) | exact le_big (by omega) | exact lt_big (by omega))))
   all_goals first | rfl | (exfalso;omega;done)
  have hy0:¬ ((y.toNat:Nat):Int)=0:=fun h=>hy (UInt8.toNat_inj.1 (by rw [Int.ofNat.inj h];rfl))
  by_cases hne:(fgC x true y).o=(fgC x true y).n
  ·have hei:(((x.o+y).toNat:Nat):Int)=((x.n.toNat:Nat):Int):=congrArg (fun u:UInt8=>((u.toNat:Nat):Int)) hne
   refine fun_of rfl rfl ?_
   repeat' (first
 | (conv=>whnf)
   first
   | refine Br.decF hy0 ?_
   | refine Br.decT hei ?_
   | refine Bnd.eq u8_add ?_
   | refine Bnd.eq hm1 ?_
   | refine Bnd.eq hm2 ?_
   | refine Br.t ?_
   | refine Br.f ?_
   | (refine Br.decF ?_ ?_;(focus first | assumption | omega))
   | (refine Bnd.i64 ?_ ?_ ?_;(focus omega);(focus omega))
   | refine Req.mk hn1 ?_
   | refine Req.mk hn2 ?_
   | refine Idx.nat hsl ?_
   | refine Req.mk h0l ?_
   | refine Req.mk g1 ?_
   | refine Req.mk g2 ?_
   | refine Idx.nat g3 ?_
   | refine Req.mk g4 ?_
   | refine Req.mk g6 ?_
   | refine fV.as (g7 _) ?_
   | refine Get.mk _ (g8 _) ?_
   | refine Req.mk (g9 _) ?_
   | refine Req.mk q1 ?_
   | refine Req.mk q2 ?_
   | refine Idx.nat q3 ?_
   | refine Req.mk q4 ?_
   | refine Req.mk q5 ?_
   | refine Get.mk _ q7 ?_
   | refine Req.mk (fun _=>q9) ?_
   | refine Ifz.pos h0 ?_
   | refine Ifz.pos hc0 ?_
   | refine Get.mk _ hcg ?_
   | refine call_fun rfl rfl k1 (.inl rfl) ?_
   | refine call_fun rfl rfl k9 (.inl rfl) ?_
   | refine Get.mk _ rfl ?_
   | refine Leaves.of ?_
   | refine Vw.bool ?_
   | (refine Req.mk ?_ ?_;(focus first | rfl | decide | exact ⟨rfl,rfl⟩ | exact ⟨rfl,by decide⟩ | exact (fun _=>rfl) | exact (fun h=>nomatch h) | (simp;done) | omega | (simp [big];done) | exact le_big (by omega) | exact lt_big (by omega))))
   all_goals first | rfl | (exfalso;omega;done)
  have hei:¬ (((x.o+y).toNat:Nat):Int)=((x.n.toNat:Nat):Int):=fun h=>hne (UInt8.toNat_inj.1 (Int.ofNat.inj h))
  have kr:=FunF.tab sub1 (redo_forged (c:=c) (d:=false) (k:=k) (x:=x) (y:=y) o h20 hcs hx hy hne)
  have q12:=q8 ⟨x.f,x.p,x.o+y,x.n⟩
  refine fun_of rfl rfl ?_
  repeat' (first
 | (conv=>whnf)
   first
   | refine Br.decF hy0 ?_
   | refine Br.decF hei ?_
   | refine Bnd.eq u8_add ?_
   | refine Bnd.eq hm1 ?_
   | refine Bnd.eq hm2 ?_
   | refine Br.t ?_
   | refine Br.f ?_
   | (refine Br.decT ?_ ?_;(focus first | assumption | omega))
   | (refine Br.decF ?_ ?_;(focus first | assumption | omega))
   | (refine Bnd.i64 ?_ ?_ ?_;(focus omega);(focus omega))
   | refine fV.as q12 ?_
   | refine call_fresh rfl (hview (z:=⟨x.f,x.p,x.o+y,x.n⟩) rfl rfl) kr ?_
   | refine Req.mk hn1 ?_
   | refine Req.mk hn2 ?_
   | refine Idx.nat hsl ?_
   | refine Req.mk h0l ?_
   | refine Req.mk g1 ?_
   | refine Req.mk g2 ?_
   | refine Idx.nat g3 ?_
   | refine Req.mk g4 ?_
   | refine Req.mk g6 ?_
   | refine fV.as (g7 _) ?_
   | refine Get.mk _ (g8 _) ?_
   | refine Req.mk (g9 _) ?_
   | refine Req.mk q1 ?_
   | refine Req.mk q2 ?_
   | refine Idx.nat q3 ?_
   | refine Req.mk q4 ?_
   | refine Req.mk q5 ?_
   | refine Req.mk q6 ?_
   | refine Get.mk _ q7 ?_
   | refine Req.mk (fun _=>q9) ?_
   | refine Ifz.pos h0 ?_
   | refine Ifz.pos hc0 ?_
   | refine Get.mk _ hcg ?_
   | refine call_fun rfl rfl k1 (.inl rfl) ?_
   | refine call_fun rfl rfl k9 (.inl rfl) ?_
   | refine Get.mk _ rfl ?_
   | refine Leaves.of ?_
   | refine Vw.bool ?_
   | (refine Req.mk ?_ ?_;(focus first | rfl | decide | exact ⟨rfl,rfl⟩ | exact ⟨rfl,by decide⟩ | exact (fun _=>rfl) | exact (fun h=>nomatch h) | (simp;done) | omega | (simp [big];done) | exact le_big (by omega) | exact lt_big (by omega))))
  all_goals first | rfl | (exfalso;omega;done)
end Go.Dr.T
namespace Go.Dr.T
theorem hasInt {l:List V} (h:(Ty.int .i64).has l):∃ n:Int,l=[.int .i64 n]:=by
 simp only [Ty.has] at h
 obtain ⟨n,rfl,h1,h2⟩:=h
 exact ⟨n,rfl⟩
theorem hasStr {l:List V} (h:Ty.str.has l):∃ s,l=[.str s]:=by
 simpa only [Ty.has] using h
theorem hasBool {l:List V} (h:Ty.bool.has l):∃ b,l=[.bool b]:=by
 simpa only [Ty.has] using h
theorem int_val {v:V} (h:(Ty.int .i64).val v):∃ n,v = .int .i64 n:=by
 obtain ⟨n,e⟩:=hasInt (l:=[v]) h
 simp only [List.cons.injEq,and_true] at e
 exact ⟨n,e⟩
abbrev TyVt:Ty:=.agg [.str,.int .i64,.bool]
theorem vt_all {l:List V} (h:Ty.hasAll [.str,.int .i64,.bool] l):∃ x:Vt,l=[.str x.who,.int .i64 x.step,.bool x.yes]:=by
 simp only [Ty.hasAll] at h
 obtain ⟨a,b,rfl,ha,c,d,rfl,hc,e,f,rfl,he,rfl⟩:=h
 obtain ⟨s,rfl⟩:=hasStr ha
 obtain ⟨n,rfl⟩:=hasInt hc
 obtain ⟨y,rfl⟩:=hasBool he
 exact ⟨⟨s,n,y⟩,rfl⟩
theorem vts_cells:∀ {xs:List (List V)},(∀ x∈xs,x.length=3∧TyVt.has x)→∃ l:List Vt,xs.flatten=vtC l∧xs.length=l.length
 | [],_=>⟨[],rfl,rfl⟩
 | x :: xs,h=>by
  obtain ⟨l,h1,h2⟩:=vts_cells (xs:=xs) fun y hy=>h y (by simp [hy])
  obtain ⟨_,hx⟩:=h x (by simp)
  obtain ⟨y,rfl⟩:=vt_all (by simpa only [Ty.has] using hx)
  exact ⟨y :: l,by simp only [List.flatten_cons,h1];rfl,by simp [h2]⟩
abbrev TyVts:Ty:=.slice 3 TyVt
theorem vts_val {v:V} (h:TyVts.val v):∃ l:List Vt,v = .sl false l.length (vtC l):=by
 rw [TyVts] at h
 simp only [Ty.val] at h
 rw [Ty.has] at h
 obtain ⟨xs,e,hx⟩:=h
 simp only [List.cons.injEq,and_true] at e
 subst e
 obtain ⟨l,h1,h2⟩:=vts_cells (xs:=xs) hx
 exact ⟨l,by rw [h1,h2]⟩
theorem vts_has {l:List V} (h:TyVts.has l):∃ m:List Vt,l=[.sl false m.length (vtC m)]:=by
 rw [TyVts,Ty.has] at h
 obtain ⟨xs,e,hx⟩:=h
 obtain ⟨m,h1,h2⟩:=vts_cells (xs:=xs) hx
 exact ⟨m,by rw [e,h1,h2]⟩
theorem vt_val {v:V} (h:TyVt.val v):∃ x:Vt,v = .agg [.str x.who,.int .i64 x.step,.bool x.yes]:=by
 simp only [TyVt,Ty.val] at h
 obtain ⟨l,rfl,h⟩:=h
 obtain ⟨x,rfl⟩:=vt_all h
 exact ⟨x,rfl⟩
abbrev TyBal:Ty:=.agg [.int .i64,TyVts,.int .i64]
theorem bal_val {v:V} (h:TyBal.val v):∃ (n need:Int) (m:List Vt),v = .agg [.int .i64 n,.sl false m.length (vtC m),.int .i64 need]:=by
 simp only [TyBal,Ty.val] at h
 obtain ⟨l,rfl,h⟩:=h
 simp only [Ty.hasAll] at h
 obtain ⟨a,b,rfl,ha,c,d,rfl,hc,e,f,rfl,he,rfl⟩:=h
 obtain ⟨n,rfl⟩:=hasInt ha
 obtain ⟨m,rfl⟩:=vts_has hc
 obtain ⟨y,rfl⟩:=hasInt he
 exact ⟨n,y,m,rfl⟩
theorem u8_val {v:V} (h:(Ty.int .u8).val v):∃ n:Int,v = .int .u8 n∧0≤n∧n≤255:=by
 simp only [Ty.val,Ty.has] at h
 obtain ⟨n,e,h1,h2⟩:=h
 simp only [List.cons.injEq,and_true] at e
 exact ⟨n,e,h1,h2⟩
end Go.Dr.T
namespace Go.Dr.T
theorem bytes_cells:∀ {xs:List (List V)},(∀ x∈xs,x.length=1∧(Ty.int .u8).has x)→∃ l:List UInt8,xs.flatten=ofBytes l∧xs.length=l.length
 | [],_=>⟨[],rfl,rfl⟩
 | x :: xs,h=>by
  obtain ⟨l,h1,h2⟩:=bytes_cells (xs:=xs) fun y hy=>h y (by simp [hy])
  obtain ⟨_,hx⟩:=h x (by simp)
  simp only [Ty.has] at hx
  obtain ⟨n,rfl,h3,h4⟩:=hx
  simp only [IntKind.min,IntKind.max,IntKind.signed,IntKind.bits,Bool.false_eq_true,if_false] at h3 h4
  have h4' : n≤255:=by simpa using h4
  refine ⟨UInt8.ofNat n.toNat :: l,?_,by simp [h2]⟩
  have e:((UInt8.ofNat n.toNat).toNat:Int)=n:=by
   rw [UInt8.toNat_ofNat_of_lt' (by show n.toNat<256;omega)];omega
  simp only [List.flatten_cons,h1,ofBytes,e];rfl
theorem hasBytes {l:List V} (h:(Ty.slice 1 (.int .u8)).has l):∃ p:List UInt8,l=[.sl false p.length (ofBytes p)]:=by
 rw [Ty.has] at h
 obtain ⟨xs,rfl,hx⟩:=h
 obtain ⟨p,h1,h2⟩:=bytes_cells hx
 exact ⟨p,by rw [h1,h2]⟩
abbrev TyFm:Ty:=.agg [.int .i64,.int .i64,.slice 1 (.int .u8)]
theorem fm_all {l:List V} (h:Ty.hasAll [.int .i64,.int .i64,.slice 1 (.int .u8)] l):∃ f:Fm,l=[.int .i64 f.w,.int .i64 f.h,.sl f.c f.p.length (ofBytes f.p)]:=by
 simp only [Ty.hasAll] at h
 obtain ⟨a,b,rfl,ha,c,d,rfl,hc,e,f,rfl,he,rfl⟩:=h
 obtain ⟨w,rfl⟩:=hasInt ha
 obtain ⟨h,rfl⟩:=hasInt hc
 obtain ⟨p,rfl⟩:=hasBytes he
 exact ⟨⟨false,w,h,p⟩,rfl⟩
theorem fms_cells:∀ {xs:List (List V)},(∀ x∈xs,x.length=3∧TyFm.has x)→∃ l:List Fm,xs.flatten=fmC l∧xs.length=l.length
 | [],_=>⟨[],rfl,rfl⟩
 | x :: xs,h=>by
  obtain ⟨l,h1,h2⟩:=fms_cells (xs:=xs) fun y hy=>h y (by simp [hy])
  obtain ⟨_,hx⟩:=h x (by simp)
  obtain ⟨y,rfl⟩:=fm_all (by simpa only [Ty.has] using hx)
  exact ⟨y :: l,by simp only [List.flatten_cons,h1];rfl,by simp [h2]⟩
abbrev TyFms:Ty:=.slice 3 TyFm
theorem fms_val {v:V} (h:TyFms.val v):∃ l:List Fm,v = .sl false l.length (fmC l):=by
 rw [TyFms] at h
 simp only [Ty.val] at h
 rw [Ty.has] at h
 obtain ⟨xs,e,hx⟩:=h
 simp only [List.cons.injEq,and_true] at e
 subst e
 obtain ⟨l,h1,h2⟩:=fms_cells (xs:=xs) hx
 exact ⟨l,by rw [h1,h2]⟩
abbrev TyBx:Ty:=.agg [.int .i64,.int .i64,.int .i64,.int .i64]
theorem bx_all {l:List V} (h:Ty.hasAll [.int .i64,.int .i64,.int .i64,.int .i64] l):∃ x:Bx,l=bxV x:=by
 simp only [Ty.hasAll] at h
 obtain ⟨a,b,rfl,ha,c,d,rfl,hc,e,f,rfl,he,g,i,rfl,hg,rfl⟩:=h
 obtain ⟨w,rfl⟩:=hasInt ha
 obtain ⟨h,rfl⟩:=hasInt hc
 obtain ⟨p,rfl⟩:=hasInt he
 obtain ⟨q,rfl⟩:=hasInt hg
 exact ⟨⟨w,h,p,q⟩,rfl⟩
theorem bxs_cells:∀ {xs:List (List V)},(∀ x∈xs,x.length=4∧TyBx.has x)→∃ l:List Bx,xs.flatten=bxC l∧xs.length=l.length
 | [],_=>⟨[],rfl,rfl⟩
 | x :: xs,h=>by
  obtain ⟨l,h1,h2⟩:=bxs_cells (xs:=xs) fun y hy=>h y (by simp [hy])
  obtain ⟨_,hx⟩:=h x (by simp)
  obtain ⟨y,rfl⟩:=bx_all (by simpa only [Ty.has] using hx)
  exact ⟨y :: l,by simp only [List.flatten_cons,h1];rfl,by simp [h2]⟩
theorem hasBxs {l:List V} (h:(Ty.slice 4 TyBx).has l):∃ p:List Bx,l=[.sl false p.length (bxC p)]:=by
 rw [Ty.has] at h
 obtain ⟨xs,rfl,hx⟩:=h
 obtain ⟨p,h1,h2⟩:=bxs_cells hx
 exact ⟨p,by rw [h1,h2]⟩
abbrev TySp:Ty:=.agg [.int .i64,.int .i64,.int .i64,.slice 4 TyBx,.int .i64,.int .i64,.int .i64,.slice 1 (.int .u8)]
theorem sp_all {l:List V} (h:Ty.hasAll [.int .i64,.int .i64,.int .i64,.slice 4 TyBx,.int .i64,.int .i64,.int .i64,.slice 1 (.int .u8)] l):∃ s:Sp,l=spV s:=by
 simp only [Ty.hasAll] at h
 obtain ⟨a1,b1,rfl,h1,a2,b2,rfl,h2,a3,b3,rfl,h3,a4,b4,rfl,h4,a5,b5,rfl,h5,a6,b6,rfl,h6,a7,b7,rfl,h7,a8,b8,rfl,h8,rfl⟩:=h
 obtain ⟨n1,rfl⟩:=hasInt h1
 obtain ⟨n2,rfl⟩:=hasInt h2
 obtain ⟨n3,rfl⟩:=hasInt h3
 obtain ⟨n4,rfl⟩:=hasBxs h4
 obtain ⟨n5,rfl⟩:=hasInt h5
 obtain ⟨n6,rfl⟩:=hasInt h6
 obtain ⟨n7,rfl⟩:=hasInt h7
 obtain ⟨n8,rfl⟩:=hasBytes h8
 exact ⟨⟨n1,n2,n3,false,n4,n5,n6,n7,false,n8⟩,rfl⟩
theorem sp_val {v:V} (h:TySp.val v):∃ s:Sp,v = .agg (spV s):=by
 rw [TySp] at h
 simp only [Ty.val] at h
 obtain ⟨l,rfl,h⟩:=h
 obtain ⟨s,rfl⟩:=sp_all h
 exact ⟨s,rfl⟩
end Go.Dr.T
namespace Go.Dr.T
theorem sps_cells:∀ {xs:List (List V)},(∀ x∈xs,x.length=8∧TySp.has x)→∃ l:List Sp,xs.flatten=spC l∧xs.length=l.length
 | [],_=>⟨[],rfl,rfl⟩
 | x :: xs,h=>by
  obtain ⟨l,h1,h2⟩:=sps_cells (xs:=xs) fun y hy=>h y (by simp [hy])
  obtain ⟨_,hx⟩:=h x (by simp)
  obtain ⟨y,rfl⟩:=sp_all (by rw [TySp,Ty.has] at hx;exact hx)
  exact ⟨y :: l,by simp only [List.flatten_cons,h1];rfl,by simp [h2]⟩
abbrev TySps:Ty:=.slice 8 TySp
theorem sps_val {v:V} (h:TySps.val v):∃ l:List Sp,v = .sl false l.length (spC l):=by
 rw [TySps] at h
 simp only [Ty.val] at h
 rw [Ty.has] at h
 obtain ⟨xs,e,hx⟩:=h
 simp only [List.cons.injEq,and_true] at e
 subst e
 obtain ⟨l,h1,h2⟩:=sps_cells (xs:=xs) hx
 exact ⟨l,by rw [h1,h2]⟩
end Go.Dr.T
