/- Chapter 08: Trace: what its walks need; the code of its range. -/
import Derived.Test.YthihdpbgmhnloaaGreatDoorG11
import Derived.Test.YthihdpbgmhnloaaGreatDoorG12
namespace Go.Dr.T
theorem res_trace {tm:List V} {g:List B} {v w u z:V} {P:V→Prop} (h1:tg tm 8 = .ref 2 2 0) (h2:tg tm 9 = .ref 3 1 0) (h3:tg tm 10 = .ref 4 1 0) (hb:bget g 2=some (.blk [v,z] false)) (hc:bget g 3=some (.blk [w] false)) (hd:bget g 4=some (.blk [u] false)) (hk:P (.tup [.agg [v,z],w,u])):Get (result ⟨tm,g⟩ [.cell 8 true 2,.cell 9 false 1,.cell 10 false 1]) P:=by
 refine ⟨.tup [.agg [v,z],w,u],?_,hk⟩
 simp only [result,results,h1,h2,h3,hb,hc,hd,loadFrom,List.length_cons,List.length_nil]
 rfl
section
variable {c:Bool} {l:List Fm} {W H:Nat} {ss:List Sp} {i q:Nat} {vl lg:V} {lp:B}
theorem trace_it {Gs:List B} {K:V→List B→Prop} (hL:ss.length≤20) (hW:1≤W) (hq:q<W * H) (h0:TH vl i i q lg lp [] .nilsl Gs) (hGs:Gs.length=7)
  (hgo:∀ (k:Nat) (s:Sp) (v:V) (G:List B) (K:V→List B→Prop),k<ss.length→ss[ss.length - (k+1)]?=some s→trOk W H l ss i q k→(tr W H l ss i q k).q<W * H→TH vl i i (tr W H l ss i q k).q lg lp (tr W H l ss i q k).b v G→(∀ v' G', G.length≤G'.length→TH vl i i (tr W H l ss i q (k+1)).q lg lp (tr W H l ss i q (k+1)).b v' G' → K (.bool true) G')→CallP FB md 0 (.yld 6) [.int .i64 ((ss.length - (k+1):Nat):Int),.agg (spV s)] G K)
  (hno:∀ (k:Nat) (s:Sp) (v:V) (G:List B) (K:V→List B→Prop),k<ss.length→ss[ss.length - (k+1)]?=some s→¬ trOk W H l ss i q k→(tr W H l ss i q k).q<W * H→TH vl i i (tr W H l ss i q k).q lg lp (tr W H l ss i q k).b v G→(∀ G', G.length≤G'.length→(∃ v' tm ps as bo,TH vl i (-1) (-1) lg (.lop false .ret tm ps as bo) ((tr W H l ss i q k).b++[((ss.length - (k+1):Nat):Int)]).reverse v' G')→K (.bool false) G')→CallP FB md 0 (.yld 6) [.int .i64 ((ss.length - (k+1):Nat):Int),.agg (spV s)] G K)
  (hk1:(∀ k,k<ss.length→trOk W H l ss i q k)→∀ v G,TH vl i i (tr W H l ss i q ss.length).q lg lp (tr W H l ss i q ss.length).b v G→K (.tup []) G)
  (hk2:∀ k:Nat,k<ss.length→(∀ j,j<k→trOk W H l ss i q j)→¬ trOk W H l ss i q k→∀ v G tm ps as bo,lp.blo G.length=true→TH vl i (-1) (-1) lg (.lop false .ret tm ps as bo) ((tr W H l ss i q k).b++[((ss.length - (k+1):Nat):Int)]).reverse v G→K (.tup []) G):CallP FB md 0 (.fn 93 [.rp [.sl c ss.length (spC ss)] 0]) [.yld 6] Gs K:=by
 have hlp:=blo_of_hbelow h0.cl (mem_bget h0.lop)
 rw [hGs] at hlp
 refine it93 (N:=7) (Q:=fun k G=>(∃ v,TH vl i i (tr W H l ss i q k).q lg lp (tr W H l ss i q k).b v G)∧∀ j,j<k→trOk W H l ss i q j) (S:=fun G=>∃ k v tm ps as bo,(k<ss.length∧(∀ j,j<k→trOk W H l ss i q j)∧¬ trOk W H l ss i q k)∧TH vl i (-1) (-1) lg (.lop false .ret tm ps as bo) ((tr W H l ss i q k).b++[((ss.length - (k+1):Nat):Int)]).reverse v G) (ok:=fun k=>trOk W H l ss i q k) (by omega) ⟨fun k G ⟨⟨v,e⟩,_⟩=>⟨e.cl,e.le⟩,fun k G j ⟨⟨v,e⟩,e2⟩ h1 h2=>⟨⟨v,e.take h1 h2⟩,e2⟩,fun G ⟨k,v,tm,ps,as,bo,e0,e⟩=>⟨e.cl,e.le⟩,fun G j ⟨k,v,tm,ps,as,bo,e0,e⟩ h1 h2=>⟨k,v,tm,ps,as,bo,e0,e.take h1 h2⟩,?_,?_⟩ hGs ⟨⟨.nilsl,h0⟩,fun j hj=>absurd hj (Nat.not_lt_zero _)⟩ (fun G ⟨⟨v,e⟩,e2⟩=>hk1 e2 v G e) (fun G ⟨k,v,tm,ps,as,bo,e0,e⟩=>hk2 k e0.1 e0.2.1 e0.2.2 v G tm ps as bo (Bblo_mono e.le _ hlp) e)
 ·rintro k s G K' hk hcs hok ⟨⟨v,e⟩,e2⟩ hK
  refine hgo k s v G K' hk hcs hok (tr_lt hW hq e2) e fun v' G' g1 g2=>hK G' g1 ⟨⟨v', g2⟩,fun j hj => ?_⟩
  by_cases ej:j=k
  ·subst ej;exact hok
  ·exact e2 j (by omega)
 ·rintro k s G K' hk hcs hnk ⟨⟨v,e⟩,e2⟩ hK
  exact hno k s v G K' hk hcs hnk (tr_lt hW hq e2) e fun G' g1 ⟨v', tm,ps,as,bo,g2⟩=>hK G' g1 ⟨k,v', tm,ps,as,bo,⟨hk,e2,hnk⟩,g2⟩
end
theorem bset_last {h:List B} {x y:B}:bset (h++[x]) h.length y=h++[y]:=by
 rw [bset_eq,List.set_append_right _ _ (Nat.le_refl _),Nat.sub_self]
 rfl
theorem wk_views4 {s:Sp} {c:Bool} {l:List Fm} {a x y n z t u:Int} {h:List B} {w:Nat} {dat:Bool} (hb:bget h w=some (.blk (wkC s c l a x y n) dat)):views h depth [.ref w 13 0,.int .i64 z,.int .i64 t,.int .i64 u]=some [.rp (wkC s c l a x y n) 0,.int .i64 z,.int .i64 t,.int .i64 u] :=
 (VwL.cons (wk_view (d:=62) hb) (VwL.cons (Vw.int rfl) (VwL.cons (Vw.int rfl) (VwL.cons (Vw.int rfl) VwL.nil)))).1
theorem thFin {vl lg v v' : V} {i a b a' b' : Int} {lp lp' : B} {L L' : List Int} {G G4:List B} {tm:List V} (e:TH vl i a b lg lp L v G) (h1:G.length≤G4.length) (h2:TH vl i a' b' lg lp' L' v' G4):G.length≤(bset (trunc G.length tm G4) 6 lp).length∧TH vl i a' b' lg lp L' v' (bset (trunc G.length tm G4) 6 lp):=by
 have hlb0:=blo_of_hbelow e.cl (mem_bget e.lop)
 have h3:=h2.trunc (tm:=tm) e.le h1
 have h4:G.length≤(trunc G.length tm G4).length:=strip_len (by omega)
 exact ⟨by rw [bset_len];exact h4,h3.setlop (Bblo_mono h4 _ hlb0)⟩
theorem thFin2 {vl lg v v' : V} {i a b a' b' : Int} {lp lp' lp2:B} {L L' : List Int} {G G4:List B} {tm:List V} (e:TH vl i a b lg lp L v G) (hb:lp2.blo G.length=true) (h1:G.length≤G4.length) (h2:TH vl i a' b' lg lp' L' v' G4):G.length≤(bset (trunc G.length tm G4) 6 lp2).length∧TH vl i a' b' lg lp2 L' v' (bset (trunc G.length tm G4) 6 lp2):=by
 have h3:=h2.trunc (tm:=tm) e.le h1
 have h4:G.length≤(trunc G.length tm G4).length:=strip_len (by omega)
 exact ⟨by rw [bset_len];exact h4,h3.setlop (Bblo_mono h4 _ hb)⟩
theorem TH.at {vl lg v:V} {i a b:Int} {lp:B} {L:List Int} {G:List B} {q n:Nat} (e:TH vl i a b lg lp L v G) (hv:v = .ms 1 q n 0 n false):7≤q∧q<G.length∧L≠[]∧n=L.length∧bget G q=some (.blk (ofInts L) true):=by
 rcases e.il with ⟨_,h⟩ | ⟨q', h1,h4,h2,h3⟩
 ·rw [h] at hv;cases hv
 ·rw [h2] at hv;cases hv;exact ⟨h1,bget_lt h3,h4,rfl,h3⟩
theorem rev_callT {vl lg:V} {i a b:Int} {lp:B} {L:List Int} {G:List B} {q n:Nat} {K:V→List B→Prop} (e:TH vl i a b lg lp L (.ms 1 q n 0 n false) G) (hl:L.length≤100000) (hk:∀ G', G'.length=G.length→TH vl i a b lg lp L.reverse (.ms 1 q n 0 n false) G' → K (.tup []) G'):CallP FB md 0 (.fn 55 []) [.ms 1 q n 0 n false] G K:=by
 obtain ⟨_,_,_,rfl,h3⟩:=e.at rfl
 exact reverse_call h3 hl (hk _ (bset_len ..) e.rev)
theorem rev_callN {vl lg:V} {i a b:Int} {lp:B} {L:List Int} {G:List B} {K:V→List B→Prop} (e:TH vl i a b lg lp L .nilsl G) (hk:TH vl i a b lg lp L.reverse .nilsl G→K (.tup []) G):CallP FB md 0 (.fn 55 []) [.nilsl] G K:=by
 rcases e.il with ⟨rfl,_⟩ | ⟨_,_,_,h,_⟩
 ·exact reverse_nil (hk e)
 ·cases h
theorem tY_any {F:List Fm} {W H:Nat} {s:Sp} {i q:Nat} {f:Fm} (h1:¬ s.k=1) (hf:F[i]?=some f) (hq:q<f.p.length):tY F W H s i q=(doC F W H s).any (atB i q):=by
 unfold tY
 rw [if_neg h1,doC_any hf hq,pxL_at hf]
theorem at_views {d:Bool} {n:Nat} {k:List V} {i x z:Int} {h:List B} (h1:bget h 1=some (.blk [.int .i64 i] false)) (h2:bget h 2=some (.blk [.int .i64 z,.int .i64 x] false)):views h depth [.sl d n k,.fn 57 [.ref 1 1 0,.ref 2 2 0]]=some [.sl d n k,.fn 57 [.rp [.int .i64 i] 0,.rp [.int .i64 z,.int .i64 x] 0]] :=
 (VwL.cons Vw.sl (VwL.cons (Vw.fn (VwL.cons (Vw.ref h1 rfl rfl (VwL.cons (Vw.int rfl) VwL.nil)) (VwL.cons (Vw.ref h2 rfl rfl (VwL.cons (Vw.int rfl) (VwL.cons (Vw.int rfl) VwL.nil))) VwL.nil))) VwL.nil)).1
section
variable {vl lg v:V} {i a b:Int} {lp:B} {L:List Int} {G:List B}
theorem fB.put0T {y:Int} {K:List B→Prop} (e:TH vl i a b lg lp [] .nilsl G) (hk:∀ G', G'.length=G.length+1→(∀ k x,7≤k→bget G k=some x→bget G' k=some x)→TH vl i a b lg lp [y] (.ms 1 G.length 1 0 1 false) G' → K G'):fB (bset (G++[.blk [.int .i64 y] true]) 3 (.blk [.ms 1 G.length 1 0 1 false] false)) K :=
 fB.mk (hk _ (by rw [bset_len,List.length_append];rfl) (fun k x h1 h2=>(bset_other (by omega)).trans (bget_app h2)) e.put0)
theorem fB.putST {y:Int} {q n:Nat} {K:List B→Prop} (e:TH vl i a b lg lp L (.ms 1 q L.length 0 L.length false) G) (hn:n=L.length+1) (hk:∀ G', G'.length=G.length+1→(∀ k x,7≤k→k≠q→bget G k=some x→bget G' k=some x)→TH vl i a b lg lp (L++[y]) (.ms 1 q n 0 n false) G' → K G'):fB (bset (bset (G++[.unborn]) q (.blk (ofInts L++[.int .i64 y]) true)) 3 (.blk [.ms 1 q n 0 n false] false)) K :=
 fB.mk (hk _ (by rw [bset_len,bset_len,List.length_append];rfl) (fun k x h1 h2 h3=>(bset_other (by omega)).trans ((bset_other (Ne.symm h2)).trans (bget_app h3))) (e.putS hn))
theorem fB.fromT {a' b' : Int} {K:List B→Prop} (e:TH vl i a b lg lp L v G) (hk:∀ G', G'.length=G.length→TH vl i a' b' lg lp L v G' → K G'):fB (bset G 2 (.blk [.int .i64 a', .int .i64 b'] false)) K :=
 fB.mk (hk _ (bset_len ..) e.from)
end
theorem shift_xy {W H x:Nat} {s:Sp} (o3:1≤W∧W≤48) (hnn:1≤W * H∧W * H≤2304) (hx:x<W * H) (ha : -47≤s.a∧s.a≤47) (hb : -47≤s.b∧s.b≤47):IntKind.i64.wrap (((x % W:Nat):Int) - s.a)=((x % W:Nat):Int) - s.a∧IntKind.i64.wrap (((x / W:Nat):Int) - s.b)=((x / W:Nat):Int) - s.b:=by
 have m1:x % W<W:=Nat.mod_lt _ (by omega)
 have m2:x / W≤x:=Nat.div_le_self _ _
 generalize x % W=u at *
 generalize x / W=v at *
 exact ⟨wrap_i64 (by omega) (by omega),wrap_i64 (by omega) (by omega)⟩
theorem shift_nums {N W H x i:Nat} {s:Sp} (o3:1≤W∧W≤48) (hnn:1≤W * H∧W * H≤2304) (hx:x<W * H) (ha : -47≤s.a∧s.a≤47) (hb : -47≤s.b∧s.b≤47) (hin:tO N W H s i x=true):IntKind.i64.wrap (((x % W:Nat):Int) - s.a)=((x % W:Nat):Int) - s.a∧IntKind.i64.wrap (((x / W:Nat):Int) - s.b)=((x / W:Nat):Int) - s.b∧IntKind.i64.wrap (s.b * (W:Int))=s.b * (W:Int)∧IntKind.i64.wrap (s.b * (W:Int)+s.a)=s.b * (W:Int)+s.a∧IntKind.i64.wrap ((x:Int) - (s.b * (W:Int)+s.a))=((tQ W s x:Nat):Int):=by
 obtain ⟨hq1,hq2⟩:=tQ_in (W:=W) (H:=H) o3.1 hin
 have m1:x % W<W:=Nat.mod_lt _ (by omega)
 have m2:x / W≤x:=Nat.div_le_self _ _
 generalize x % W=u at *
 generalize x / W=v at *
 have hbW : -2256≤s.b * (W:Int)∧s.b * (W:Int)≤2256:=by
  have h1:(W:Int)≤48:=by omega
  have h2:(0:Int)≤W:=by omega
  constructor
  ·have:=Int.mul_le_mul_of_nonneg_right hb.1 h2
   omega
  ·have:=Int.mul_le_mul_of_nonneg_right hb.2 h2
   omega
 generalize s.b * (W:Int)=m at *
 refine ⟨wrap_i64 (by omega) (by omega),wrap_i64 (by omega) (by omega),wrap_i64 (by omega) (by omega),wrap_i64 (by omega) (by omega),?_⟩
 rw [wrap_i64 (by omega) (by omega)]
 exact hq2.symm
def AS24:MC:=.seq (.reg false 0 [⟨some 14,none,0,.mv (.t 59)⟩]) (.reg false 1 [⟨some 15,none,0,.al 0 [.int .i64 0,.int .i64 0,.int .i64 0,.nilsl,.int .i64 0,.int .i64 0,.int .i64 0,.nilsl]⟩,⟨none,none,1,.st 8 (.t 15) (.t 60)⟩])
def BO24:MC:=.block 2 (.seq (.reg false 1 [⟨some 61,none,0,.ld true 8 (.t 15)⟩,⟨some 62,none,0,.ld false 1 (.t 4)⟩,⟨some 63,none,3,.bd [.int .i64 0,.int .i64 0,.int .i64 0,.nilsl,.int .i64 0,.int .i64 0,.int .i64 0,.nilsl,.nilsl,.int .i64 0,.int .i64 0,.int .i64 0,.int .i64 0] [(0,8,.t 61),(8,1,.t 62)]⟩,⟨some 64,none,7,.bx 0 (.t 63)⟩,⟨some 16,none,15,.mv (.t 64)⟩]) (.seq (.reg false 0 [⟨some 65,none,0,.mv (.t 16)⟩,⟨some 66,none,0,.ld false 1 (.t 6)⟩,⟨some 67,none,0,.fa 1 (.t 8)⟩,⟨some 68,none,4,.ld false 1 (.t 67)⟩,⟨some 69,none,15,.call (.c (.fn 52 [])) [.t 65,.t 66,.t 68]⟩]) (.block 3 (.seq (.reg false 0 [⟨some 71,none,0,.fa 0 (.t 15)⟩,⟨some 72,none,1,.ld false 1 (.t 71)⟩,⟨some 73,none,3,.bo .eql (.t 72) (.c (.int .i64 1))⟩,⟨some 74,none,7,.mv (.t 73)⟩,⟨some 75,some (74,true),15,.mv (.t 16)⟩,⟨some 76,some (74,true),31,.call (.c (.fn 53 [])) [.t 75]⟩,⟨some 77,some (74,true),63,.un .not (.t 76)⟩,⟨some 78,none,127,.pk (.t 74) (.t 77) (.c (.bool false))⟩,⟨some 79,none,255,.mv (.t 78)⟩,⟨some 80,some (79,true),511,.fa 4 (.t 15)⟩,⟨some 81,some (79,true),1023,.ld false 1 (.t 80)⟩,⟨some 82,some (79,true),2047,.bo .neq (.t 81) (.c (.int .i64 0))⟩,⟨some 83,some (79,true),4095,.mv (.t 82)⟩,⟨some 84,some (83,false),8191,.fa 5 (.t 15)⟩,⟨some 85,some (83,false),16383,.ld false 1 (.t 84)⟩,⟨some 86,some (83,false),32767,.bo .neq (.t 85) (.c (.int .i64 0))⟩,⟨some 87,some (79,true),65535,.pk (.t 83) (.c (.bool true)) (.t 86)⟩,⟨some 88,none,131071,.pk (.t 79) (.t 87) (.c (.bool false))⟩,⟨some 70,none,262143,.mv (.t 88)⟩]) (.cond (.t 70) (.seq (.reg false 1 [⟨some 89,none,0,.ld false 1 (.t 9)⟩,⟨some 90,none,0,.mv (.t 14)⟩,⟨some 91,none,2,.bs 1 [.int .i64 0] [(0,1,.t 90)]⟩,⟨some 92,none,7,.app 0 1 8 true (.t 89) (.t 91)⟩,⟨none,none,15,.st 1 (.t 9) (.t 92)⟩]) (.seq (.seq (.reg true 0 [⟨some 94,none,0,.mv (.t 16)⟩,⟨some 95,none,0,.ld false 1 (.t 6)⟩,⟨some 96,none,0,.mv (.t 16)⟩,⟨some 97,none,4,.nc (.t 96)⟩,⟨some 98,none,12,.fa 10 (.t 97)⟩,⟨some 99,none,28,.ld false 1 (.t 98)⟩,⟨some 100,none,0,.fa 4 (.t 15)⟩,⟨some 101,none,64,.ld false 1 (.t 100)⟩,⟨some 102,none,252,.bo .sub (.t 99) (.t 101)⟩,⟨some 103,none,0,.mv (.t 16)⟩,⟨some 104,none,512,.nc (.t 103)⟩,⟨some 105,none,1536,.fa 11 (.t 104)⟩,⟨some 106,none,3584,.ld false 1 (.t 105)⟩,⟨some 107,none,0,.fa 5 (.t 15)⟩,⟨some 108,none,8192,.ld false 1 (.t 107)⟩,⟨some 109,none,32256,.bo .sub (.t 106) (.t 108)⟩,⟨some 110,none,65535,.call (.c (.fn 54 [])) [.t 94,.t 95,.t 102,.t 109]⟩,⟨some 93,none,131071,.mv (.t 110)⟩,⟨some 111,none,262143,.ex (.t 93) 0⟩,⟨some 112,none,262143,.ex (.t 93) 1⟩,⟨some 17,none,524287,.mv (.t 111)⟩,⟨some 18,none,2097151,.mv (.t 112)⟩]) (.seq (.reg false 0 [⟨some 113,none,0,.mv (.t 18)⟩,⟨some 114,none,1,.un .not (.t 113)⟩]) (.cond (.t 114) (.seq (.reg false 0 [⟨some 115,none,0,.ld false 1 (.t 9)⟩,⟨some 116,none,1,.call (.c (.fn 55 [])) [.t 115]⟩]) (.seq (.reg true 0 [⟨some 117,none,0,.bd [.int .i64 0,.int .i64 0] [(0,1,.c (.int .i64 (-1))),(1,1,.c (.int .i64 (-1)))]⟩,⟨some 118,none,0,.ld false 1 (.t 9)⟩,⟨none,none,1,.st 2 (.t 8) (.t 117)⟩,⟨none,none,7,.st 1 (.t 9) (.t 118)⟩,⟨none,none,15,.st 1 (.t 10) (.c (.int .i64 0))⟩]) .ret)) .skip))) (.reg true 0 [⟨some 119,none,0,.fa 1 (.t 8)⟩,⟨some 120,none,1,.ld false 1 (.t 119)⟩,⟨some 121,none,0,.fa 5 (.t 15)⟩,⟨some 122,none,4,.ld false 1 (.t 121)⟩,⟨some 123,none,0,.ld false 1 (.t 4)⟩,⟨some 124,none,16,.ia 3 (.t 123) (.c (.int .i64 0))⟩,⟨some 125,none,48,.fa 0 (.t 124)⟩,⟨some 126,none,112,.ld false 1 (.t 125)⟩,⟨some 127,none,252,.bo .mul (.t 122) (.t 126)⟩,⟨some 128,none,0,.fa 4 (.t 15)⟩,⟨some 129,none,512,.ld false 1 (.t 128)⟩,⟨some 130,none,2044,.bo .add (.t 127) (.t 129)⟩,⟨some 131,none,4095,.bo .sub (.t 120) (.t 130)⟩,⟨some 132,none,8191,.fa 1 (.t 8)⟩,⟨none,none,16383,.st 1 (.t 132) (.t 131)⟩]))) (.seq (.reg false 0 [⟨some 134,none,0,.fa 0 (.t 15)⟩,⟨some 135,none,1,.ld false 1 (.t 134)⟩,⟨some 136,none,3,.bo .neq (.t 135) (.c (.int .i64 1))⟩,⟨some 137,none,7,.mv (.t 136)⟩,⟨some 138,some (137,true),15,.ld false 1 (.t 12)⟩,⟨some 139,some (137,true),15,.mv (.t 14)⟩,⟨some 140,some (137,true),63,.ia 1 (.t 138) (.t 139)⟩,⟨some 141,some (137,true),127,.ld false 1 (.t 140)⟩,⟨some 142,some (137,true),15,.mf 57 [.t 6,.t 8]⟩,⟨some 143,some (137,true),511,.call (.c (.fn 56 [])) [.t 141,.t 142]⟩,⟨some 144,none,1023,.pk (.t 137) (.t 143) (.c (.bool false))⟩,⟨some 133,none,2047,.mv (.t 144)⟩]) (.cond (.t 133) (.reg false 1 [⟨some 145,none,0,.ld false 1 (.t 9)⟩,⟨some 146,none,0,.mv (.t 14)⟩,⟨some 147,none,2,.bs 1 [.int .i64 0] [(0,1,.t 146)]⟩,⟨some 148,none,7,.app 0 1 8 true (.t 145) (.t 147)⟩,⟨none,none,15,.st 1 (.t 9) (.t 148)⟩]) .skip)))))))
def TM24 (x:Nat→V):List V:=[x 0,x 1,x 2,x 3,.ref 0 1 0,.dead,.ref 1 1 0,.dead,.ref 2 2 0,.ref 3 1 0,.ref 4 1 0,x 11,.ref 5 1 0,x 13,.dead,.dead,.dead,.dead,.dead,x 19,x 20,x 21,x 22,x 23,x 24,x 25,x 26,x 27,x 28,x 29,x 30,x 31,x 32,x 33,x 34,x 35,x 36,x 37,x 38,x 39,x 40,x 41,x 42,x 43,x 44,x 45,x 46,x 47,x 48,x 49,x 50,x 51,x 52,x 53,x 54,x 55,x 56,x 57,x 58,.dead,.dead,.dead,.dead,.dead,.dead,.dead,.dead,.dead,.dead,.dead,.dead,.dead,.dead,.dead,.dead,.dead,.dead,.dead,.dead,.dead,.dead,.dead,.dead,.dead,.dead,.dead,.dead,.dead,.dead,.dead,.dead,.dead,.dead,.dead,.dead,.dead,.dead,.dead,.dead,.dead,.dead,.dead,.dead,.dead,.dead,.dead,.dead,.dead,.dead,.dead,.dead,.dead,.dead,.dead,.dead,.dead,.dead,.dead,.dead,.dead,.dead,.dead,.dead,.dead,.dead,.dead,.dead,.dead,.dead,.dead,.dead,.dead,.dead,.dead,.dead,.dead,.dead,.dead,.dead,.dead,.dead,.dead,.dead,.dead,.dead,.dead,.dead,.dead,.dead,.dead,.dead,.dead,.dead]
end Go.Dr.T
