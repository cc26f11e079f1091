/- Top, of chapter 08: Trace. -/
import Derived.Test.YtbnmdlnkhghbpaaGreatDoorR19Tk
import Derived.Test.YtbnmdlnkhghbpaaGreatDoorG32
import Derived.Test.YtbnmdlnkhghbpaaGreatDoorG30
import Derived.Test.YtbnmdlnkhghbpaaGreatDoorG28
import Derived.Test.YtbnmdlnkhghbpaaGreatDoorG29
import Derived.Test.YtbnmdlnkhghbpaaGreatDoorG25
import Derived.Test.YtbnmdlnkhghbpaaGreatDoorG27
set_option maxRecDepth 100000
set_option maxHeartbeats 20000000
namespace Go.Dr.T
theorem Qon {tm:List V} {c:Bool} {l:List Fm} {W H:Nat} {ss:List Sp} {i q k:Nat} {s:Sp} {v:V} {G:List B} {K:V→List B→Prop} (htm:tm=TM24 (tg tm)) (o:FOk l W H) (hL:ss.length≤20) (p:∀ s∈ss,SOk s l.length W H) (hi:i<l.length) (hk:k<ss.length) (hcs:ss[ss.length-(k+1)]?=some s) (hok1:trOk W H l ss i q k) (hx:(tr W H l ss i q k).q<W*H) (hS:TH (.sl c l.length (fmC l)) i i (tr W H l ss i q k).q (.sl (decide (rnC W H (czF l) ss=[])) (rnC W H (czF l) ss).length (lgC (rnC W H (czF l) ss))) (.lop true .nrm tm [59,60] AS24 BO24) (tr W H l ss i q k).b v G) (hK:∀ v' G',G.length≤G'.length→TH (.sl c l.length (fmC l)) i i (tr W H l ss i q (k+1)).q (.sl (decide (rnC W H (czF l) ss=[])) (rnC W H (czF l) ss).length (lgC (rnC W H (czF l) ss))) (.lop true .nrm tm [59,60] AS24 BO24) (tr W H l ss i q (k+1)).b v' G'→K (.bool true) G'):CallP FB md 0 (.yld 6) [.int .i64 ((ss.length-(k+1):Nat):Int),.agg (spV s)] G K:=by
 obtain ⟨X,rfl⟩:∃ X,tm=TM24 X:=⟨_,htm⟩
 clear htm
 by_cases h1:s.k=1
 ·cases hkp:Q35 s i ((tr W H l ss i q k).q%W:Nat) ((tr W H l ss i q k).q/W:Nat) with
  | true=>exact Qi9 (X:=X) o hL p hi hk hcs hok1 hx hS hK h1 hkp
  | false =>
   by_cases hab:s.a=0∧s.b=0
   ·exact Qi8 (X:=X) o hL p hi hk hcs hok1 hx hS hK h1 hkp hab.1 hab.2
   ·exact Qka (X:=X) o hL p hi hk hcs hok1 hx hS hK h1 hkp hab
 ·exact Qe0 (X:=X) o hL p hi hk hcs hok1 hx hS hK h1
theorem Qol {tm:List V} {c:Bool} {l:List Fm} {W H:Nat} {ss:List Sp} {i q k:Nat} {s:Sp} {v:V} {G:List B} {K:V→List B→Prop} (htm:tm=TM24 (tg tm)) (o:FOk l W H) (hL:ss.length≤20) (p:∀ s∈ss,SOk s l.length W H) (hi:i<l.length) (hk:k<ss.length) (hcs:ss[ss.length-(k+1)]?=some s) (hno1:¬ trOk W H l ss i q k) (hx:(tr W H l ss i q k).q<W*H) (hS:TH (.sl c l.length (fmC l)) i i (tr W H l ss i q k).q (.sl (decide (rnC W H (czF l) ss=[])) (rnC W H (czF l) ss).length (lgC (rnC W H (czF l) ss))) (.lop true .nrm tm [59,60] AS24 BO24) (tr W H l ss i q k).b v G) (hK:∀ G',G.length≤G'.length→(∃ v' tn ps as bo,TH (.sl c l.length (fmC l)) i (-1) (-1) (.sl (decide (rnC W H (czF l) ss=[])) (rnC W H (czF l) ss).length (lgC (rnC W H (czF l) ss))) (.lop false .ret tn ps as bo) ((tr W H l ss i q k).b++[((ss.length-(k+1):Nat):Int)]).reverse v' G')→K (.bool false) G'):CallP FB md 0 (.yld 6) [.int .i64 ((ss.length-(k+1):Nat):Int),.agg (spV s)] G K:=by
 obtain ⟨X,rfl⟩:∃ X,tm=TM24 X:=⟨_,htm⟩
 clear htm
 exact Qk9 (X:=X) o hL p hi hk hcs hno1 hx hS hK
theorem Qkd {c d:Bool} {l:List Fm} {W H:Nat} {ss:List Sp} {i q:Nat} {v:V} (o:FOk l W H) (hL:ss.length≤20) (p:∀ s∈ss,SOk s l.length W H) (he:(csE l ss).2=0) (hi:i<l.length) (hq:q<W*H)
  (hok:(∀ k,k<ss.length→trOk W H l ss i q k)→v=.tup [.agg [.int .i64 (i:Nat),.int .i64 ((tr W H l ss i q ss.length).q:Nat)],inL (tr W H l ss i q ss.length).b.reverse,.int .i64 0])
  (hno:∀ k:Nat,k<ss.length→(∀ j,j<k→trOk W H l ss i q j)→¬ trOk W H l ss i q k→v=.tup [.agg [.int .i64 (-1),.int .i64 (-1)],inL ((tr W H l ss i q k).b++[((ss.length-(k+1):Nat):Int)]).reverse,.int .i64 0]):FunF FB md 11 [.sl c l.length (fmC l),.sl d ss.length (spC ss),.int .i64 (i:Nat),.int .i64 (q:Nat)] v:=by
 have k1:=Q4b (c:=c) (d:=d) (l:=l) (ss:=ss)
 have k2:=run_ok (c:=c) (d:=d) o hL p he
 have k3:=Qqy (cv:=.sl d ss.length (spC ss)) ⟨_,_,_,rfl⟩
 rw [he] at k1
 generalize (csE l ss).1=e1 at *
 have k4:=Q0z (n:=(i:Int)) (lo:=0) (hi:=(l.length:Int)-1)
 have k5:=Q0z (n:=(q:Int)) (lo:=0) (hi:=((W*H:Nat):Int)-1)
 rw [show outB (i:Int) 0 ((l.length:Int)-1)=false by simp only [outB,jL,jI];omega] at k4
 rw [show outB (q:Int) 0 (((W*H:Nat):Int)-1)=false by simp only [outB,jL,jI];omega] at k5
 have hnn:=o.nn
 have hn12:=o.n12
 have hn0:=o.n0
 have o3:=o.w
 have o4:=o.h
 obtain ⟨f0,hf0,h0w,_,h0p⟩:=o.at o.n0
 obtain ⟨b0,_,b2⟩:=fm_c hf0
 rw [h0w] at b0
 rw [h0p] at b2
 have hlw:IntKind.i64.wrap ((l.length:Int)-1)=(l.length:Int)-1:=wrap_i64 (by omega) (by omega)
 have hpw:IntKind.i64.wrap (((W*H:Nat):Int)-1)=((W*H:Nat):Int)-1:=wrap_i64 (by omega) (by omega)
 refine Qez rfl rfl ?_
 repeat' ((conv=>whnf);first|refine Bnd.eq hlw ?_|refine Bnd.eq hpw ?_|refine Br.f ?_|refine Get.mk _ b2 ?_|refine Req.mk hn0 ?_|refine zC k1 ?_|refine zC k2 ?_|refine zC k3 ?_|refine zC k4 ?_|refine zC k5 ?_|refine zI ?_|refine Get.mk _ rfl ?_|refine zR ?_)
 all_goals try (exfalso;omega)
 refine Qom (l:=l) hL o3.1 hq ⟨?_,Nat.le_refl _,rfl,rfl,rfl,rfl,rfl,rfl,rfl,.inl ⟨rfl,rfl⟩⟩ rfl ?_ ?_ ?_ ?_
 ·simp [Cl,Q0a,B.blo,blos,V.blo,lgL]
 ·intro k s v G K hk hcs hok1 hx hS hK
  exact Qon rfl o hL p hi hk hcs hok1 hx hS hK
 ·intro k s v G K hk hcs hno1 hx hS hK
  exact Qol rfl o hL p hi hk hcs hno1 hx hS hK
 ·intro hall v2 G hS
  rw [show bget G (6+0)=_ from hS.lop]
  skip
  have hlb:=Q08 hS.cl (Q0p hS.lop)
  refine fB.lopT hS hlb ?_
  intro G2 g1 g2 hS2
  have d2:=hS2.b2
  have d3:=hS2.b3
  have d4:=hS2.b4
  have hbl:=Q7o (W:=W) (H:=H) (l:=l) (ss:=ss) (i:=i) (q:=q) (k:=ss.length)
  rw [hok hall]
  rcases hS2.il.frm with rfl|⟨r,rfl⟩
  ·repeat' ((conv=>whnf);first|refine fLen.mk ?_|refine fB.i0 ?_|refine Get.mk _ d2 ?_|refine Get.mk _ d3 ?_|refine Get.mk _ d4 ?_|(refine Qky hS2 ?_;intro hS3)|refine fB.as (Q0t d2) ?_|refine fB.as (Q0t d3) ?_|refine fB.as (Q0t d4) ?_|refine Q7w rfl rfl rfl d2 d3 d4 ?_|exact hS3.il.vw|refine Get.mk _ rfl ?_|refine LeavesF.of ?_|refine VwF.int ?_|refine VwF.tup ?_|refine VwF.agg ?_|refine VwLF.cons ?_ ?_|refine VwLF.nil|refine zR ?_)
   all_goals first|rfl|exact hS3.il.vw|(exfalso;omega)
  ·repeat' ((conv=>whnf);first|refine fLen.mk ?_|refine fB.i0 ?_|refine Get.mk _ d3 ?_|(refine Q7v hS2 (by omega) ?_;intro G3 g3 hS3)|refine Get.mk _ hS3.b2 ?_|refine Get.mk _ hS3.b3 ?_|refine Get.mk _ hS3.b4 ?_|refine fB.as (Q0t hS3.b2) ?_|refine fB.as (Q0t hS3.b3) ?_|refine fB.as (Q0t hS3.b4) ?_|refine Q7w rfl rfl rfl hS3.b2 hS3.b3 hS3.b4 ?_|exact hS3.il.vw|refine Get.mk _ rfl ?_|refine LeavesF.of ?_|refine VwF.int ?_|refine VwF.tup ?_|refine VwF.agg ?_|refine VwLF.cons ?_ ?_|refine VwLF.nil|refine zR ?_)
   all_goals first|rfl|exact hS3.il.vw|(exfalso;omega)
 ·intro k hk hpre hno1 v2 G tm ps as bo hlb hS
  rw [show bget G (6+0)=_ from hS.lop]
  skip
  refine fB.lopT hS hlb ?_
  intro G2 g1 g2 hS2
  have d2:=hS2.b2
  have d3:=hS2.b3
  have d4:=hS2.b4
  rw [hno k hk hpre hno1]
  rcases hS2.il.frm with rfl|⟨r,rfl⟩
  all_goals
   repeat' ((conv=>whnf);first|refine Q7w rfl rfl rfl d2 d3 d4 ?_|exact hS2.il.vw|refine LeavesF.of ?_|refine VwF.int ?_|refine VwF.tup ?_|refine VwF.agg ?_|refine VwLF.cons ?_ ?_|refine VwLF.nil)
   all_goals first|rfl|exact hS2.il.vw|(exfalso;omega)
end Go.Dr.T
namespace Go.Dr.T
section
variable {W H:Nat} {l:List Fm} {ss:List Sp} {i q:Nat}
structure TrA (W H:Nat) (l:List Fm) (ss:List Sp) (i q:Nat) (R:TrR):Prop where
 e:R.e=0
 len:R.by'.length≤ss.length
 step:∀ x∈R.by',∃ (j:Nat) (s:Sp),x=(j:Int)∧ss[j]?=some s∧outB (i:Int) s.fr s.un=false
 rise:R.by'.Pairwise (· < ·)
 place:(R.a = -1∧R.b = -1∧R.by'≠[])∨(R.a=(i:Int)∧∃ z:Nat,R.b=(z:Int)∧z<W*H∧((∀ x∈R.by',(sAt ss x).k=1)→(pxL (fK W H l ss ss.length) i).getD q 0=(pxL l i).getD z 0))
theorem pxL_0:pxL (fK W H l ss 0) i=pxL l i:=by
 unfold pxL
 rw [show fK W H l ss 0=czF l from rfl]
 cases h:l[i]? with
 | none=>rw [show (czF l)[i]?=none by rw [List.getElem?_eq_none_iff] at h ⊢;rw [Q0u];exact h]
 | some f=>rw [Q8w h]
theorem trA (o:FOk l W H) (hi:i<l.length) (hq:q<W*H):TrA W H l ss i q (trR W H l ss i q):=by
 by_cases hall:∀ k,k<ss.length→trOk W H l ss i q k
 ·rw [Qr6 hall]
  obtain ⟨f1,f2⟩:=Qe1 (W:=W) (H:=H) (l:=l) (ss:=ss) (i:=i) (q:=q) (Nat.le_refl _)
  refine ⟨rfl,by rw [List.length_reverse];exact Q7o,fun x hx=>Qai o hi (Nat.le_refl _) x (List.mem_reverse.1 hx),List.pairwise_reverse.2 (f2.imp fun h=>h),.inr ⟨rfl,_,rfl,Qke o.w.1 hq hall,fun h=>?_⟩⟩
  have:=Qg9 o hi hq (Nat.le_refl _) hall fun x hx=>h x (List.mem_reverse.2 hx)
  rw [Nat.sub_self,pxL_0] at this
  exact this
 ·obtain ⟨k,hk,hpre,hno⟩:=Qoo hall
  rw [Qr7 hk hpre hno]
  obtain ⟨s,hcs⟩:∃ s,ss[ss.length-(k+1)]?=some s:=⟨_,jC (by omega)⟩
  obtain ⟨e1,e2,e3⟩:=Qkf hcs hno
  have e:=Qe2 (W:=W) (H:=H) (l:=l) (i:=i) (q:=q) hcs
  rw [if_pos e2] at e
  obtain ⟨f1,f2⟩:=Qe1 (W:=W) (H:=H) (l:=l) (ss:=ss) (i:=i) (q:=q) (k:=k+1) hk
  have f3:=Q7o (W:=W) (H:=H) (l:=l) (ss:=ss) (i:=i) (q:=q) (k:=k+1)
  have f4:=Qai o hi (k:=k+1) (q:=q) (ss:=ss) hk
  rw [e] at f2 f3 f4
  dsimp only at f2 f3 f4
  exact ⟨rfl,by dsimp only;rw [List.length_reverse];omega,fun x hx=>f4 x (List.mem_reverse.1 hx),List.pairwise_reverse.2 (f2.imp fun h=>h),.inl ⟨rfl,rfl,by simp⟩⟩
theorem Qkb {c d:Bool} (o:FOk l W H) (hL:ss.length≤20) (p:∀ s∈ss,SOk s l.length W H) (he:(csE l ss).2=0) (hi:i<l.length) (hq:q<W*H):FunF FB1 md 11 [.sl c l.length (fmC l),.sl d ss.length (spC ss),.int .i64 (i:Nat),.int .i64 (q:Nat)] (.tup [.agg [.int .i64 (trR W H l ss i q).a,.int .i64 (trR W H l ss i q).b],inL (trR W H l ss i q).by',.int .i64 0]):=by
 have h:=Qkd (c:=c) (d:=d) (v:=(trR W H l ss i q).v) o hL p he hi hq (fun h=>by rw [Qr6 h];rfl) fun k hk hpre hno=>by rw [Qr7 hk hpre hno];rfl
 unfold TrR.v at h
 rw [(trA (ss:=ss) o hi hq).e] at h
 exact h.tab sub1
end
theorem Q9i {c d:Bool} {l:List Fm} {W H:Nat} {ss:List Sp} (o:FOk l W H) (hs:ss.length≤20):∃ B:List Fm,FSm B l∧FunF FB1 md 9 [.sl c l.length (fmC (rnF W H l ss)),.sl d ss.length (lgC (rnC W H l ss))] (.tup [.sl false l.length (fmC B),.int .i64 0,.int .i64 0]):=by
 have oF:=Q6u (ss:=ss) o
 have hl:(rnF W H l ss).length=l.length:=Q2u
 have hL:(rnC W H l ss).length=ss.length:=Q2j
 have hu:=Qr5 (ss:=ss) o ss.length (Nat.le_refl _)
 rw [Nat.sub_self,List.take_zero] at hu
 have h:=Qok (c:=c) (d:=d) (l:=rnF W H l ss) (L:=rnC W H l ss) (W:=W) (H:=H) oF (by omega) (fun x hx=>by
  have:=Qea (ss:=ss) o x hx
  rw [hl];exact this) oF.fl (fun _=>rfl) (fun i hi hpre hno=>absurd (hu.2 i (by omega)) hno)
 refine ⟨mkF (rnF W H l ss) (unT (pxL (rnF W H l ss)) (rnC W H l ss) (rnC W H l ss).length),Qpg oF o hl ?_,?_⟩
 ·rw [hL]
  exact hu.1
 ·rw [hL] at h ⊢
  rw [hl] at h
  exact h.tab sub1
end Go.Dr.T
namespace Go.Dr.T
def AfV (W H:Nat) (F:List Fm) (ss:List Sp) (av:V) (G:List B):Prop :=
 av=.sl false F.length (fmC (rnF W H (czF F) ss))∨(ss=[]∧∃ o Q,av=.ms 3 o (F.length*3) 0 F.length false∧bget G o=some (.blk (fmG (piV Q) 0 F) false)∧∀ j,j<F.length→bget G (Q j)=some (.blk (ofBytes (pxL F j)) true))
theorem AfV.old {W H:Nat} {F:List Fm} {ss:List Sp} {av:V} {G G':List B} (e:AfV W H F ss av G) (h:∀ m b,m<G.length→bget G m=some b→bget G' m=some b):AfV W H F ss av G':=by
 rcases e with e|⟨e1,o,Q,e2,e3,e4⟩
 ·exact .inl e
 ·exact .inr ⟨e1,o,Q,e2,h _ _ (Q05 e3) e3,fun j hj=>h _ _ (Q05 (e4 j hj)) (e4 j hj)⟩
theorem rnF_fK {W H:Nat} {l:List Fm} {ss:List Sp}:rnF W H (czF l) ss=fK W H l ss ss.length:=by
 unfold fK
 rw [List.take_length]
theorem Qex {l:List UInt8} {i:Nat} (h:i<l.length):l.getD i 0=l[i]:=by
 rw [jM,jC h]
 rfl
theorem bodyT {tm:List V} {G:List B} {Q:X→St→Prop} {W H i pix q:Nat} {d g:Bool} {ss:List Sp} {P:List T6.T3} {t:T6.T3} {wv hv pv:Int} {av:V} (h1:1≤W∧W≤7) (h2:1≤H∧H≤7) (hP:1≤P.length∧P.length≤12) (hpix:pix<W*H) (ht:P[i]?=some t) (hte:(0≤t.2.1∧t.2.1≤1000000)∧(0≤t.2.2∧t.2.2≤1000000)) (h20:ss.length≤20) (hp:∀ s∈ss,SOk s (pkFs W H P).length W H) (he:(csE (pkFs W H P) ss).2=0)
  (htm:tm=TMT (tg tm) g P.length W H q (pkFs W H P).length pix i (T6.trC P) av) (d0:bget G 0=some (.blk [.int .u8 wv,.int .u8 hv,.sl d ss.length (spC ss),.int .u8 pv] false)) (hbq:bget G q=some (.blk (fmC (pkFs W H P)) false)) (hav:AfV W H (pkFs W H P) ss av G)
  (hQ1:∀ tm' X,hasc G.length X→(∃ Y,tm'=TMTY (tg tm) Y g P.length W H q (pkFs W H P).length pix i (T6.trC P) av)→Q .nrm ⟨tm',G++X⟩)
  (hQ2:∀ tm' X,hasc G.length X→(∃ Y,tm'=TMTY (tg tm) Y g P.length W H q (pkFs W H P).length pix i (T6.trC P) av)→Q (.exit 3) ⟨tm',G++X⟩):wp FB1 md 0 BT ⟨tm,G⟩ Q:=by
 generalize tg tm=T at *
 subst htm
 have hQ1':∀ tm' X,hasc G.length X→tm'=TMTY T (tg tm') g P.length W H q (pkFs W H P).length pix i (T6.trC P) av→Q .nrm ⟨tm',G++X⟩:=fun tm' X a1 a2=>hQ1 tm' X a1 ⟨tg tm',a2⟩
 have hQ2':∀ tm' X,hasc G.length X→tm'=TMTY T (tg tm') g P.length W H q (pkFs W H P).length pix i (T6.trC P) av→Q (.exit 3) ⟨tm',G++X⟩:=fun tm' X a1 a2=>hQ2 tm' X a1 ⟨tg tm',a2⟩
 clear hQ1 hQ2
 have hi:=(jB.1 ht).1
 have o:=Qed h1 h2 hP
 have hFl:=Q3o (W:=W) (H:=H) (P:=P)
 have hFt:(pkFs W H P)[i]?=some ⟨false,W,H,shL t.2.1 t.2.2 (W*H)⟩:=Qta (W:=W) (H:=H) ht
 have hiF:i<(pkFs W H P).length:=by omega
 obtain ⟨hp1,hp2⟩:=trC_at ht
 have hpl:=Nat.lt_of_lt_of_le hpix (Nat.mul_le_mul h1.2 h2.2)
 have hWH:W*H≤7*7:=Nat.mul_le_mul h1.2 h2.2
 have hm:IntKind.i64.wrap ((W:Int)*(H:Int))=((W*H:Nat):Int):=by
  rw [← Int.natCast_mul]
  exact wrap_i64 (by omega) (by omega)
 have A:=trA (ss:=ss) o hiF hpix
 have k11:=Qkb (c:=false) (d:=d) o h20 hp he hiF hpix
 have k6:Fun FB1 md 6 _ _:=tabF (Qkn (e:=t.2.1) (k:=t.2.2) h1 h2 hte.1 hte.2)
 obtain ⟨A1,A2,A3,A4,A5⟩:=A
 rw [← rnF_fK,Q25 hFt] at A5
 dsimp only at A5
 have hsl:(shL t.2.1 t.2.2 (W*H)).length=W*H:=Qe5
 have hFo:FOk (rnF W H (czF (pkFs W H P)) ss) W H:=Q6u (Q4v o)
 obtain ⟨f,hf,_,_,hfl⟩:=hFo.at (i:=i) (by rw [Q2u,Q0u];exact hiF)
 obtain ⟨_,_,hfc⟩:=fm_c hf
 rw [Q25 hf] at A5
 have hF0:(0:Nat)<(pkFs W H P).length:=by omega
 have hP0:0<P.length:=by omega
 have hi1:i≤P.length-1:=by omega
 have hi2:i≤(pkFs W H P).length-1:=by omega
 have hvw:∀ X,Q1o (G++X) depth [.ms 3 q ((pkFs W H P).length*3) 0 (pkFs W H P).length false,.sl d ss.length (spC ss),.int .i64 (i:Nat),.int .i64 (pix:Nat)]=some [.sl false (pkFs W H P).length (fmC (pkFs W H P)),.sl d ss.length (spC ss),.int .i64 (i:Nat),.int .i64 (pix:Nat)]:=fun X=>(VwL.cons (Vw.ms (d:=62+1) (Q01 hbq) (Q0e _) (Q0y (Q0e _)) (Q6z _)) (VwL.cons Vw.sl (VwL.cons (Vw.int rfl) (VwL.cons (Vw.int rfl) VwL.nil)))).1
 generalize trR W H (pkFs W H P) ss i pix=R at *
 obtain ⟨ra,rb,L,re⟩:=R
 dsimp only at A1 A2 A3 A4 A5 k11
 generalize shL t.2.1 t.2.2 (W*H)=sp at *
 have hp0:0<f.p.length:=by omega
 have hs0:0<sp.length:=by omega
 have hq1:pix≤f.p.length-1:=by omega
 have hq2:pix≤sp.length-1:=by omega
 have ha:Q0h (ofBytes f.p) (pix*1)=some (.int .u8 ((f.p.getD pix 0).toNat:Nat)):=by
  rw [Nat.mul_one,Q2h (by omega),Qex (by omega)]
 have ha2:Q0h (ofBytes sp) (0+pix*1)=some (.int .u8 ((sp.getD pix 0).toNat:Nat)):=by
  rw [Nat.mul_one,Nat.zero_add,Q2h (by omega),Qex (by omega)]
 have hlG:∀ Q',(fmG (piV Q') 0 (pkFs W H P)).length=(pkFs W H P).length*3:=fun Q'=>Q1p
 have hcG:∀ Q',Q0h (fmG (piV Q') 0 (pkFs W H P)) (0+i*3+2)=some (.ms 1 (Q' i) sp.length 0 sp.length false):=fun Q'=>by
  have:=(Qf1 (g:=piV Q') (k:=0) hFt).2.2
  rw [Nat.zero_add] at this ⊢
  exact this
 have hob:(ofBytes sp).length=sp.length:=Q0j _
 have hpi:pxL (pkFs W H P) i=sp:=Q25 hFt
 clear A1 A2 A3 A4
 unfold BT TMT
 rcases A5 with ⟨rfl,rfl,hL⟩|⟨rfl,z,rfl,hzl,hpx⟩
 ·have hz:(1:Nat)=1:=rfl
  have hz1:(1:Nat)≤1:=Nat.le_refl _
  rcases hav with rfl|⟨rfl,o',Q',rfl,ho,hQ⟩
  ·repeat' ((conv=>whnf);first|refine Br.t ?_|refine Br.f ?_|refine zF ?_|refine fLen.mk ?_|refine fB.i0 ?_|refine fB.i1 ?_|refine Get.mk _ (Q01 d0) ?_|refine Get.mk _ hfc ?_|refine Idx.nat hi2 ?_|refine Req.mk hF0 ?_|refine Q17 rfl (hvw _) k11 ?_|refine Get.newj 0 rfl rfl ?_|refine fB.newj 0 rfl ?_|refine Get.mk _ rfl ?_|refine zR ?_)
   all_goals try (exfalso;omega)
   exact hQ2' _ _ ⟨rfl,trivial⟩ rfl
  ·have hoc:=hcG Q'
   have hol:=hlG Q'
   have hQi:=hQ i hiF
   rw [hpi] at hQi
   repeat' ((conv=>whnf);first|refine Br.t ?_|refine Br.f ?_|refine zF ?_|refine fLen.mk ?_|refine fB.i0 ?_|refine fB.i1 ?_|refine Get.mk _ (Q01 d0) ?_|refine Get.mk _ (Q01 ho) ?_|refine Get.mk _ hoc ?_|refine Req.mk hol ?_|refine Idx.nat hi2 ?_|refine Req.mk hF0 ?_|refine Q17 rfl (hvw _) k11 ?_|refine Get.newj 0 rfl rfl ?_|refine fB.newj 0 rfl ?_|refine Get.mk _ rfl ?_|refine zR ?_)
   all_goals try (exfalso;omega)
   exact hQ2' _ _ ⟨rfl,trivial⟩ rfl
 ·have hz:Q0h (ofBytes sp) (z*1)=some (.int .u8 ((sp.getD z 0).toNat:Nat)):=by
   rw [Nat.mul_one,Q2h (by omega),Qex (by omega)]
  have hz1:z≤sp.length-1:=by omega
  rcases hav with rfl|⟨rfl,o',Q',rfl,ho,hQ⟩
  ·cases L with
   | nil =>
    have hpx:=hpx fun x hx=>by cases hx
    rw [hpx] at ha
    repeat' ((conv=>whnf);first|refine Bnd.eq hm ?_|refine Br.t ?_|refine Br.f ?_|refine zT ?_|refine zF ?_|refine Br.not ?_|refine fLen.mk ?_|refine fB.i0 ?_|refine fB.i1 ?_|refine Get.mk _ (Q01 d0) ?_|refine Get.mk _ hfc ?_|refine Get.mk _ hp1 ?_|refine Get.mk _ hp2 ?_|refine Get.mk _ hz ?_|refine Get.mk _ ha ?_|refine Idx.nat hi1 ?_|refine Idx.nat hi2 ?_|refine Idx.nat hq1 ?_|refine Idx.nat hz1 ?_|refine Req.mk hP0 ?_|refine Req.mk hF0 ?_|refine Req.mk hp0 ?_|refine Req.mk hs0 ?_|refine Q17 rfl (hvw _) k11 ?_|refine zC k6 ?_|refine Get.newj 0 rfl rfl ?_|refine fB.newj 0 rfl ?_|refine Get.mk _ (Q01 (bget_new (i:=0))) ?_|refine Get.mk _ rfl ?_|refine zR ?_)
    all_goals try (exfalso;omega)
    all_goals try (rename_i hne;exact absurd rfl hne)
    rw [jO]
    exact hQ1' _ _ ⟨rfl,rfl,trivial⟩ rfl
   | cons y L =>
    repeat' ((conv=>whnf);first|refine Bnd.eq hm ?_|refine Br.f ?_|refine zT ?_|refine zF ?_|refine Br.not ?_|refine fLen.mk ?_|refine fB.i0 ?_|refine fB.i1 ?_|refine Get.mk _ (Q01 d0) ?_|refine Get.mk _ hfc ?_|refine Get.mk _ hp1 ?_|refine Get.mk _ hp2 ?_|refine Idx.nat hi1 ?_|refine Idx.nat hi2 ?_|refine Req.mk hP0 ?_|refine Req.mk hF0 ?_|refine Q17 rfl (hvw _) k11 ?_|refine zC k6 ?_|refine Get.newj 0 rfl rfl ?_|refine fB.newj 0 rfl ?_|refine Get.mk _ (Q01 (bget_new (i:=0))) ?_|refine Get.mk _ rfl ?_|refine zR ?_)
    all_goals try (exfalso;omega)
    rw [jO]
    exact hQ1' _ _ ⟨rfl,rfl,trivial⟩ rfl
  ·cases L with
   | nil =>
    have hpx:=hpx fun x hx=>by cases hx
    have hff:f.p=sp:=by
     have:=(Q8w hFt).symm.trans hf
     cases this
     rfl
    rw [hff] at hpx
    rw [hpx] at ha2
    have hoc:=hcG Q'
    have hol:=hlG Q'
    have hQi:=hQ i hiF
    rw [hpi] at hQi
    repeat' ((conv=>whnf);first|refine Bnd.eq hm ?_|refine Br.t ?_|refine Br.f ?_|refine zT ?_|refine zF ?_|refine Br.not ?_|refine fLen.mk ?_|refine fB.i0 ?_|refine fB.i1 ?_|refine Get.mk _ (Q01 d0) ?_|refine Get.mk _ (Q01 ho) ?_|refine Get.mk _ (Q01 (Q01 ho)) ?_|refine Get.mk _ (Q01 (Q01 hQi)) ?_|refine Get.mk _ hoc ?_|refine Get.mk _ ha2 ?_|refine Req.mk hol ?_|refine Req.mk hob ?_|refine Idx.nat hq2 ?_|refine Get.mk _ hp1 ?_|refine Get.mk _ hp2 ?_|refine Get.mk _ hz ?_|refine Idx.nat hi1 ?_|refine Idx.nat hi2 ?_|refine Idx.nat hz1 ?_|refine Req.mk hP0 ?_|refine Req.mk hF0 ?_|refine Req.mk hs0 ?_|refine Q17 rfl (hvw _) k11 ?_|refine zC k6 ?_|refine Get.newj 0 rfl rfl ?_|refine fB.newj 0 rfl ?_|refine Get.mk _ (Q01 (bget_new (i:=0))) ?_|refine Get.mk _ rfl ?_|refine zR ?_)
    all_goals try (exfalso;omega)
    all_goals try (rename_i hne;exact absurd rfl hne)
    rw [jO]
    exact hQ1' _ _ ⟨rfl,rfl,trivial⟩ rfl
   | cons y L =>
    have hoc:=hcG Q'
    have hol:=hlG Q'
    have hQi:=hQ i hiF
    rw [hpi] at hQi
    repeat' ((conv=>whnf);first|refine Bnd.eq hm ?_|refine Br.f ?_|refine zT ?_|refine zF ?_|refine Br.not ?_|refine fLen.mk ?_|refine fB.i0 ?_|refine fB.i1 ?_|refine Get.mk _ (Q01 d0) ?_|refine Get.mk _ (Q01 ho) ?_|refine Get.mk _ hoc ?_|refine Req.mk hol ?_|refine Get.mk _ hp1 ?_|refine Get.mk _ hp2 ?_|refine Idx.nat hi1 ?_|refine Idx.nat hi2 ?_|refine Req.mk hP0 ?_|refine Req.mk hF0 ?_|refine Q17 rfl (hvw _) k11 ?_|refine zC k6 ?_|refine Get.newj 0 rfl rfl ?_|refine fB.newj 0 rfl ?_|refine Get.mk _ (Q01 (bget_new (i:=0))) ?_|refine Get.mk _ rfl ?_|refine zR ?_)
    all_goals try (exfalso;omega)
    rw [jO]
    exact hQ1' _ _ ⟨rfl,rfl,trivial⟩ rfl
end Go.Dr.T
