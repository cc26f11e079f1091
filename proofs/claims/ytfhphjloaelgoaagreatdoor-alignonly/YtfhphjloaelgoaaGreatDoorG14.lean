/- Chapter 06: the iterator of begins, for yields that may enlarge the heap. -/
import Derived.Test.YtfhphjloaelgoaaGreatDoorG7
import Derived.Test.YtfhphjloaelgoaaGreatDoorDrJ
namespace Go.Dr.T
structure KH (σ:Type) where
 k:Nat
 s:σ
 h:List B
theorem norm_h {m:List Bool} {n:Nat} {tm:List V} {h:List B}:(norm m n ⟨tm,h⟩).h=trunc n (masked m tm) h:=rfl
set_option maxRecDepth 100000 in
set_option maxHeartbeats 20000000 in
theorem begins_callH {σ:Type} {Hp:σ × Bool→List B→Prop} {N0 id:Nat} {ok:σ→Nat × Nat→Bool} {nx:σ→Nat × Nat→σ} {a b:Sh} {sl:Int} {f:Nat→Nat→Int} {i j:Nat} {s0:σ} {h0:List B} {K:V→List B→Prop}
  (ha:shOk a.l) (hb:shOk b.l) (hs:0≤sl∧sl≤200000) (hf:∀ k l,0≤f k l∧f k l≤8000000) (hi:i≤a.l.length) (hj:j≤b.l.length)
  (hle:∀ q h,Hp q h→N0≤h.length) (htr:∀ q h n tm,N0≤n→Hp q h→Hp q (trunc n tm h)) (hI:Hp (s0,true) h0)
  (hy:∀ s h (k l:Nat) (K:V→List B→Prop),Hp (s,true) h→i≤k→k<a.l.length→j≤l→l<b.l.length→(∀ h', Hp (nx s (k,l),ok s (k,l)) h' → K (.bool (ok s (k,l))) h')→CallP FB md 0 (.yld id) [.agg [.int .i64 (k:Nat),.int .i64 (l:Nat)]] h K)
  (hk:∀ h', Hp (goR ok nx s0 (bgs (shA a.l b.l sl) f a.l.length b.l.length i j)) h' → K (.tup []) h'):CallP FB md 0 (.fn 90 [.rp [.int .i64 (i:Nat)] 0,.rp [.rp (pC a b sl f) 0] 0,.rp [.int .i64 (j:Nat)] 0]) [.yld id] h0 K:=by
 have hal:=ha.1
 have hbl:=hb.1
 have hJ0:j<41:=by omega
 have hI0:i<41:=by omega
 have fx:∀ p q:Nat,0+3+p * 41+q * 1=3+p * 41+q:=fun p q=>by omega
 have cij:=pC_t (a:=a) (b:=b) (s:=sl) (f:=f) hI0 hJ0
 rw [← fx] at cij
 unfold bgs at hk
 have hfij:=hf i j
 have hl0:=hle _ _ hI
 have hend:∀ q h,Hp q h→q=goR ok nx s0 (bgF (shA a.l b.l sl) f a.l.length b.l.length (f i j) j i)→K (.tup []) (trunc h0.length [.tup []] h):=fun q h hq e=>hk _ (by rw [← e];exact htr q h _ _ hl0 hq)
 refine call_one rfl rfl rfl ?_
 repeat' (first
 | (conv=>whnf)
   first
   | refine fLen.mk ?_
   | refine fB.i0 ?_
   | refine Get.mk _ rfl ?_)
 refine LoopP.by (fun a' : KH σ=>i≤a'.k∧Hp (a'.s,true) a'.h∧goR ok nx s0 (bgF (shA a.l b.l sl) f a.l.length b.l.length (f i j) j i)=goR ok nx a'.s (bgF (shA a.l b.l sl) f a.l.length b.l.length (f i j) j a'.k)) (fun a' => [(5,.int .i64 (a'.k:Nat))]) (fun a' => a'.h) (fun a' => a.l.length - a'.k) ⟨i,s0,h0⟩ ⟨Nat.le_refl _,hI,rfl⟩ rfl ?_
 rintro ⟨k,s,h⟩ ⟨w1,w2,w3⟩
 dsimp only at w1 w2 w3 ⊢
 have hlh:=hle _ _ w2
 by_cases hkn:k<a.l.length
 rotate_left
 ·rw [bgF_end (fun h=>hkn h.1)] at w3
  repeat' (first
 | (conv=>whnf)
   first
   | refine Br.f ?_
   | (refine Br.decF ?_ ?_;(focus first | assumption | omega))
   | refine fLen.mk ?_
   | refine fB.i0 ?_
   | refine fB.mk ?_
   | refine Get.mk _ pC_0 ?_
   | refine Get.mk _ rfl ?_
   | refine Ends.of ?_)
  all_goals first | exact hend _ _ w2 w3.symm | (exfalso;omega)
 have hK0:k<41:=by omega
 have hK1:k+1<41:=by omega
 have ckj:=pC_t (a:=a) (b:=b) (s:=sl) (f:=f) hK0 hJ0
 rw [← fx] at ckj
 by_cases hv:f k j=f i j
 rotate_left
 ·rw [bgF_end (fun h=>hv h.2)] at w3
  repeat' (first
 | (conv=>whnf)
   first
   | refine Idx.nat (Nat.le_of_lt_succ hK0) ?_
   | refine Idx.nat (Nat.le_of_lt_succ hJ0) ?_
   | refine Idx.nat (Nat.le_of_lt_succ hI0) ?_
   | (refine Br.decT ?_ ?_;(focus first | assumption | omega))
   | (refine Br.decF ?_ ?_;(focus first | assumption | omega))
   | refine fLen.mk ?_
   | refine fB.i0 ?_
   | refine fB.mk ?_
   | refine Get.mk _ pC_0 ?_
   | refine Get.mk _ ckj ?_
   | refine Get.mk _ cij ?_
   | refine Get.mk _ rfl ?_
   | refine Ends.of ?_)
  all_goals first | exact hend _ _ w2 w3.symm | (exfalso;omega)
 rw [bgF_step ⟨hkn,hv⟩] at w3
 obtain ⟨x,hx⟩:∃ x,a.l[k]?=some x:=⟨_,List.getElem?_eq_getElem hkn⟩
 repeat' (first
 | (conv=>whnf)
   first
   | refine Idx.nat (Nat.le_of_lt_succ hK0) ?_
   | refine Idx.nat (Nat.le_of_lt_succ hJ0) ?_
   | refine Idx.nat (Nat.le_of_lt_succ hI0) ?_
   | (refine Br.decT ?_ ?_;(focus first | assumption | omega))
   | refine fLen.mk ?_
   | refine fB.i0 ?_
   | refine fB.mk ?_
   | refine Get.mk _ pC_0 ?_
   | refine Get.mk _ ckj ?_
   | refine Get.mk _ cij ?_
   | refine Get.mk _ rfl ?_)
 all_goals try (exfalso;omega)
 refine LoopP.by (fun a' : KH σ=>j≤a'.k∧Hp (a'.s,true) a'.h∧goR ok nx s (bgR (shA a.l b.l sl) f b.l.length (f i j) j k++bgF (shA a.l b.l sl) f a.l.length b.l.length (f i j) j (k+1))=goR ok nx a'.s (bgR (shA a.l b.l sl) f b.l.length (f i j) a'.k k++bgF (shA a.l b.l sl) f a.l.length b.l.length (f i j) j (k+1))) (fun a' => [(6,.int .i64 (a'.k:Nat))]) (fun a' => a'.h) (fun a' => b.l.length - a'.k) ⟨j,s,h⟩ ⟨Nat.le_refl _,w2,rfl⟩ rfl ?_
 rintro ⟨l,s', h1⟩ ⟨v1,v2,v3⟩
 dsimp only at v1 v2 v3 ⊢
 by_cases hlm:l<b.l.length
 rotate_left
 ·rw [bgR_end (m:=b.l.length) (l:=l) (by omega),List.nil_append] at v3
  repeat' (first
 | (conv=>whnf)
   first
   | (refine Br.decF ?_ ?_;(focus first | assumption | omega))
   | (refine Bnd.i64 ?_ ?_ ?_;(focus omega);(focus omega))
   | refine fLen.mk ?_
   | refine fB.i0 ?_
   | refine fB.mk ?_
   | refine Get.mk _ pC_1 ?_
   | refine Get.mk _ rfl ?_)
  all_goals first | (exfalso;omega;done) | exact NextP.of (fun N=>(⟨k+1,s', N⟩:KH σ)) ⟨by dsimp only;omega,htr _ _ _ _ hl0 v2,by dsimp only;rw [w3,v3]⟩ (by dsimp only;omega) rfl
 obtain ⟨y,hy'⟩:∃ y,b.l[l]?=some y:=⟨_,List.getElem?_eq_getElem hlm⟩
 have hL1:l+1<41:=by omega
 have ckl:=pC_t (a:=a) (b:=b) (s:=sl) (f:=f) hK1 hL1
 rw [← fx] at ckl
 have hfkl:=hf (k+1) (l+1)
 have hsh:=share_fun (f:=f) ha hb hs hx hy'
 have hxm:=ha.2 x (List.mem_of_getElem? hx)
 have hym:=hb.2 y (List.mem_of_getElem? hy')
 have rs:=shr_rng (s:=sl) (x:=x) (y:=y) ⟨hxm.2.2.1,hxm.2.2.2⟩ ⟨hym.2.2.1,hym.2.2.2⟩
 have hS:shA a.l b.l sl k l=shr sl x y:=by unfold shA;rw [List.getD_eq_getElem?_getD,hx,List.getD_eq_getElem?_getD,hy'];rfl
 rw [bgR_step hlm,hS] at v3
 have hkw:IntKind.i64.wrap ((k:Int)+1)=((k+1:Nat):Int):=by rw [wrap_i64 (by omega) (by omega)];omega
 have hlw:IntKind.i64.wrap ((l:Int)+1)=((l+1:Nat):Int):=by rw [wrap_i64 (by omega) (by omega)];omega
 generalize shr sl x y=S at *
 by_cases hc:0<S∧S+f (k+1) (l+1)=f i j
 ·rw [if_pos hc,List.cons_append] at v3
  have hy2:=hy s' h1 k l
  repeat' (first
 | (conv=>whnf)
   first
   | refine Bnd.eq hkw ?_
   | refine Bnd.eq hlw ?_
   | refine Idx.nat (Nat.le_of_lt_succ hK1) ?_
   | refine Idx.nat (Nat.le_of_lt_succ hL1) ?_
   | refine Idx.nat (Nat.le_of_lt_succ hJ0) ?_
   | refine Idx.nat (Nat.le_of_lt_succ hI0) ?_
   | (refine Br.decT ?_ ?_;(focus first | assumption | omega))
   | (refine Bnd.i64 ?_ ?_ ?_;(focus omega);(focus omega))
   | refine fLen.mk ?_
   | refine fB.i0 ?_
   | refine fB.mk ?_
   | refine Get.mk _ pC_1 ?_
   | refine Get.mk _ ckl ?_
   | refine Get.mk _ cij ?_
   | refine call_fun rfl rfl hsh (.inl rfl) ?_
   | refine Get.mk _ rfl ?_)
  all_goals try (exfalso;omega;done)
  refine hy2 _ v2 w1 hkn v1 hlm ?_
  intro h2 hh2
  cases hok:ok s' (k,l) with
  | true =>
   rw [hok] at hh2
   rw [goR_t hok] at v3
   repeat' (first
 | (conv=>whnf)
   first
   | refine Bnd.eq hlw ?_
   | refine Br.f ?_
   | (refine Br.decT ?_ ?_;(focus first | assumption | omega))
   | refine fLen.mk ?_
   | refine fB.i0 ?_)
   all_goals first | (exfalso;omega;done) | exact NextP.of (fun N=>(⟨l+1,nx s' (k,l),N⟩:KH σ)) ⟨by dsimp only;omega,htr _ _ _ _ hlh hh2,by dsimp only;rw [v3]⟩ (by dsimp only;omega) rfl
  | false =>
   rw [hok] at hh2
   rw [goR_f hok] at v3
   repeat' (first
 | (conv=>whnf)
   first
   | refine Br.t ?_
   | (refine Br.decT ?_ ?_;(focus first | assumption | omega))
   | refine fB.mk ?_
   | refine Get.mk _ rfl ?_
   | refine Ends.of ?_)
   all_goals first | (exfalso;omega;done) | exact hend _ _ hh2 (by rw [w3,v3])
 ·rw [if_neg hc] at v3
  repeat' (first
 | (conv=>whnf)
   first
   | refine Bnd.eq hkw ?_
   | refine Bnd.eq hlw ?_
   | refine Idx.nat (Nat.le_of_lt_succ hK1) ?_
   | refine Idx.nat (Nat.le_of_lt_succ hL1) ?_
   | refine Idx.nat (Nat.le_of_lt_succ hJ0) ?_
   | refine Idx.nat (Nat.le_of_lt_succ hI0) ?_
   | refine Br.f ?_
   | (refine Br.decT ?_ ?_;(focus first | assumption | omega))
   | (refine Br.decF ?_ ?_;(focus first | assumption | omega))
   | refine Br.dec (fun _ => ?_) (fun _ => ?_)
   | (refine Bnd.i64 ?_ ?_ ?_;(focus omega);(focus omega))
   | refine fLen.mk ?_
   | refine fB.i0 ?_
   | refine fB.mk ?_
   | refine Get.mk _ pC_1 ?_
   | refine Get.mk _ ckl ?_
   | refine Get.mk _ cij ?_
   | refine call_fun rfl rfl hsh (.inl rfl) ?_
   | refine Get.mk _ rfl ?_)
  all_goals first | (exfalso;omega;done) | exact NextP.of (fun N=>(⟨l+1,s', N⟩:KH σ)) ⟨by dsimp only;omega,htr _ _ _ _ hlh v2,by dsimp only;rw [v3]⟩ (by dsimp only;omega) rfl
end Go.Dr.T
namespace Go.Dr.T
theorem views_shL {h:List B} {d:Nat}:∀ l:List (Int × Int),VwLF h (d+1) (shC l) (shC l)
 | []=>VwLF.nil
 | _ :: l=>VwLF.cons (VwF.int rfl) (VwLF.cons (VwF.int rfl) (views_shL l))
theorem scal_sh:∀ l:List (Int × Int),scalars (shC l)=true
 | []=>rfl
 | _ :: l=>by simp only [shC,scalars,V.scalar,Bool.true_and];exact scal_sh l
set_option maxRecDepth 100000 in
theorem clone_ok {c:Bool} {l:List (Int × Int)} (hl:l.length≤1000) (h0:l.length≠0):FunF FB md 92 [.sl c l.length (shC l)] (.sl false l.length (shC l)):=by
 have hlen:=shC_length l
 have hr:(([]:List V).length+(shC l).length) * (16+1)<big:=by rw [hlen];simp [big];omega
 have hs:true=true→scalars ([]++shC l)=true:=fun _=>scal_sh l
 have hvw:∀ h,bget h 0=some (.blk ([]++shC l) true)→VwF h depth (.ms 2 (0+0) (([]:List V).length+(shC l).length) 0 (0+l.length) false) (.sl false l.length (shC l)):=fun h hb=>by
  show VwF h depth (.ms 2 0 (0+(shC l).length) 0 (0+l.length) false) _
  rw [Nat.zero_add,Nat.zero_add]
  exact VwF.ms (d:=63) (dat:=true) hb (by rw [List.nil_append]) (part_all (by rw [List.nil_append,hlen])) (views_shL (d:=62) l)
 have heq:eqv2 3 (.sl c l.length (shC l)) .nilsl=some false:=by unfold eqv2;simp [h0]
 refine funF_of rfl rfl ?_
 repeat' (first
 | (conv=>whnf)
   first
   | refine hvw _ rfl
   | refine Br.f ?_
   | refine Get.mk _ heq ?_
   | refine Req.mk hlen ?_
   | refine Req.mk hr ?_
   | refine Req.mk hs ?_
   | (refine Ifz.pos ?_ ?_;(focus omega))
   | refine Get.mk _ rfl ?_
   | refine LeavesF.of ?_
   | (refine Req.mk ?_ ?_;(focus first | rfl | decide | exact ⟨rfl,rfl⟩ | exact ⟨rfl,by decide⟩ | exact (fun _=>rfl) | exact (fun h=>nomatch h) | (simp;done) | omega | (simp [big];done) | exact le_big (by omega) | exact lt_big (by omega))))
 all_goals first | (exfalso;omega;done)
theorem clip_ms {id g len ro:Nat} {c:Bool} {h:List B} {K:V→List B→Prop} (hid:id<h.length) (hl:len≤1000) (hk:K (.ms 2 id g 0 len true) h):CallP FB md ro (.fn 93 []) [.ms 2 id g 0 len c] h K:=by
 have hb:(V.ms 2 id g 0 len true).blo h.length=true:=decide_eq_true hid
 have hd:decide (len=len)=true:=decide_eq_true rfl
 refine call_two rfl rfl rfl ?_
 repeat' (first
 | (conv=>whnf)
   first
   | refine fLen.mk ?_
   | refine fB.i0 ?_
   | (refine Idx.nat ?_ ?_;(focus omega))
   | refine Get.mk _ rfl ?_
   | refine Ends.of ?_)
 refine Req.mk ?_ ?_
 ·show (V.ms 2 id g (0+0 * 2) (len - 0) (decide (len=len))).blo h.length=true
  exact hb
 ·show K (V.ms 2 id g 0 len (decide (len=len))) h
  rw [hd];exact hk
theorem clipA_nil {ro:Nat} {h:List B} {K:V→List B→Prop} (hk:K .nilsl h):CallP FB md ro (.fn 93 []) [.nilsl] h K:=by
 refine call_two rfl rfl rfl ?_
 repeat' (first
 | (conv=>whnf)
   first
   | refine fLen.mk ?_
   | refine fB.i0 ?_
   | (refine Idx.int ?_ ?_ ?_;(focus omega);(focus omega))
   | refine Get.mk _ rfl ?_
   | refine Ends.of ?_
   | (refine Req.mk ?_ ?_;(focus first | rfl | decide | exact ⟨rfl,rfl⟩ | exact ⟨rfl,by decide⟩ | exact (fun _=>rfl) | exact (fun h=>nomatch h) | (simp;done) | omega | (simp [big];done) | exact le_big (by omega) | exact lt_big (by omega))))
 exact hk
theorem cloneA_nil {ro:Nat} {h:List B} {K:V→List B→Prop} (hk:K .nilsl h):CallP FB md ro (.fn 92 []) [.nilsl] h K:=by
 refine call_two rfl rfl rfl ?_
 repeat' (first
 | (conv=>whnf)
   first
   | refine Br.t ?_
   | refine fLen.mk ?_
   | refine fB.i0 ?_
   | refine Get.mk _ rfl ?_
   | refine Ends.of ?_
   | (refine Req.mk ?_ ?_;(focus first | rfl | decide | exact ⟨rfl,rfl⟩ | exact ⟨rfl,by decide⟩ | exact (fun _=>rfl) | exact (fun h=>nomatch h) | (simp;done) | omega | (simp [big];done) | exact le_big (by omega) | exact lt_big (by omega))))
 exact hk
set_option maxRecDepth 100000 in
theorem alsn_call {H:List B} {C:List V} {r g n L:Nat} {i j:Int} {K:V→List B→Prop} (hL:H.length=L) (hk:K (.fn 91 [.ref (L+0) 1 0,.ref (L+2) 1 0,.ref (L+3) 1 0,.ref (L+1) 1 0]) (H++[.blk [.rp C 0] false,.blk [.ms 2 r g 0 n false] false,.blk [.int .i64 i] false,.blk [.int .i64 j] false])):CallP FB md 0 (.fn 59 []) [.rp C 0,.ms 2 r g 0 n false,.int .i64 i,.int .i64 j] H K:=by
 have hi4:∀ (h:List B) (K:List B→Prop),(fB (unborns 4) fun r=>K (h++r))→fB (if 4=0 then h else h++unborns 4) K:=fun h K hk=>by rw [if_neg (by decide)];exact fB.tail hk
 have hji:∀ j,L+j=H.length+j:=fun j=>by rw [hL]
 have hT:trunc H.length [.fn 91 [.ref (L+0) 1 0,.ref (L+2) 1 0,.ref (L+3) 1 0,.ref (L+1) 1 0]] (H++[.blk [.rp C 0] false,.blk [.ms 2 r g 0 n false] false,.blk [.int .i64 i] false,.blk [.int .i64 j] false])=H++[.blk [.rp C 0] false,.blk [.ms 2 r g 0 n false] false,.blk [.int .i64 i] false,.blk [.int .i64 j] false]:=by
  unfold trunc
  rw [show (H++[B.blk [.rp C 0] false,.blk [.ms 2 r g 0 n false] false,.blk [.int .i64 i] false,.blk [.int .i64 j] false]).length - H.length=4 by rw [List.length_append];simp]
  unfold strip
  have:blos (H.length+3) [V.fn 91 [.ref (L+0) 1 0,.ref (L+2) 1 0,.ref (L+3) 1 0,.ref (L+1) 1 0]]=false:=by
   simp only [blos,V.blo,hL]
   simp
  rw [this,Bool.false_and]
  rfl
 have hl4:∀ r:List B,(H++r).length=L+r.length:=fun r=>by rw [List.length_append,hL]
 refine call_one rfl rfl rfl ?_
 repeat' (first
 | (conv=>whnf)
   first
   | refine fLen.as hL ?_
   | refine fLen.as (hl4 _) ?_
   | refine hi4 _ _ ?_
   | refine fB.i0 ?_
   | refine Get.newj 0 (hji 0) rfl ?_
   | refine fB.newj 0 (hji 0) ?_
   | refine Get.newj 1 (hji 1) rfl ?_
   | refine fB.newj 1 (hji 1) ?_
   | refine Get.newj 2 (hji 2) rfl ?_
   | refine fB.newj 2 (hji 2) ?_
   | refine Get.newj 3 (hji 3) rfl ?_
   | refine fB.newj 3 (hji 3) ?_
   | refine fB.mk ?_
   | refine Get.mk _ rfl ?_
   | refine Ends.of ?_
   | (refine Req.mk ?_ ?_;(focus first | rfl | decide | exact ⟨rfl,rfl⟩ | exact ⟨rfl,by decide⟩ | exact (fun _=>rfl) | exact (fun h=>nomatch h) | (simp;done) | omega | (simp [big];done) | exact le_big (by omega) | exact lt_big (by omega))))
 all_goals first | (rw [hT];exact hk)
end Go.Dr.T
namespace Go.Dr.T
def prN (p:Nat × Nat):Int × Int:=((p.1:Int),(p.2:Int))
def pvL (l:List (Nat × Nat)):V:=if l=[] then .nilsl else .sl false (l.map prN).length (shC (l.map prN))
def BefOk (Bl:List B) (e:Nat) (bef:List (Nat × Nat)) (q:Nat):Prop :=
 (bef=[]∧bget Bl e=some (.blk [.nilsl] false))∨(bef≠[]∧bget Bl e=some (.blk [.ms 2 q ((bef.map prN).length * 2) 0 (bef.map prN).length false] false)∧bget Bl q=some (.blk (shC (bef.map prN)) true))
theorem views_shC {h:List B} {d:Nat}:∀ l:List (Int × Int),VwL h (d+1) (shC l) (shC l)
 | []=>VwL.nil
 | _ :: l=>VwL.cons (Vw.int rfl) (VwL.cons (Vw.int rfl) (views_shC l))
theorem fB.i1a {h l g:List B} {K:List B→Prop} (hk:fB (l++g) fun r=>K (h++r)):fB (if 1=0 then h++l else (h++l)++g) K:=by
 rw [if_neg (by decide),List.append_assoc];exact fB.tail hk
theorem free_by' {b:Bool} {A:Prop} (h:b=true) (hk:A):(match (generalizing:=false) b with | true=>A | false=>False):=by subst h;exact hk
theorem free_cons {fp q:Fp} {b i:Nat} {l:List (Nat × Fp)} (h:(b.testBit i || fp.free q)=true) (t:freeOf fp b l=true):freeOf fp b ((i,q) :: l)=true:=by
 simp only [freeOf,h,t,Bool.and_self]
theorem free_nil {fp:Fp} {b:Nat}:freeOf fp b []=true:=rfl
theorem hbelow_app {n:Nat}:∀ {h l:List B},hbelow n h=true→hbelow n l=true→hbelow n (h++l)=true
 | [],_,_,h2=>h2
 | b :: h,l,h1,h2=>by
  simp only [hbelow,Bool.and_eq_true,List.cons_append] at h1 ⊢
  exact ⟨h1.1,hbelow_app h1.2 h2⟩
theorem Cl.apps {h l:List B} (c:Cl h) (e:hbelow (h.length+l.length) l=true):Cl (h++l):=by
 unfold Cl at c ⊢
 rw [List.length_append]
 exact hbelow_app (hbelow_mono (Nat.le_add_right _ _) _ c) e
def hasc:Nat→List B→Prop
 | _,[]=>True
 | n,b :: l=>b.blo n=true∧hasc (n+1) l
theorem cl_asc:∀ {A H:List B},Cl H→hasc H.length A→Cl (H++A)
 | [],H,c,_=>by rw [List.append_nil];exact c
 | b :: A,H,c,h=>by
  have:=cl_asc (A:=A) (H:=H++[b]) (c.app h.1) (by rw [List.length_append];exact h.2)
  rwa [List.append_assoc] at this
theorem hasc_take:∀ {A:List B} {n k:Nat},hasc n A→hasc n (A.take k)
 | [],_,k,_=>by cases k <;> exact trivial
 | b :: A,n,0,_=>trivial
 | b :: A,n,k+1,h=>⟨h.1,hasc_take h.2⟩
theorem trunc_asc {H A:List B} {n:Nat} (hL:H.length=n) (hc:Cl H) (ha:hasc n A):trunc n [] (H++A)=H:=by
 subst hL
 have key:∀ k,k≤A.length→strip H.length [] k (H++A.take k)=H:=by
  intro k
  induction k with
  | zero=>intro _;simp [strip]
  | succ k ih =>
   intro hk
   unfold strip
   have e:(H++A.take (k+1)).take (H.length+k)=H++A.take k:=by
    rw [List.take_length_add_append,List.take_take]
    congr 2
    omega
   have c:=cl_asc hc (hasc_take (k:=k) ha)
   unfold Cl at c
   rw [List.length_append,List.length_take,Nat.min_eq_left (by omega)] at c
   rw [e,c]
   exact ih (by omega)
 unfold trunc
 rw [List.length_append,Nat.add_sub_cancel_left]
 have:=key A.length (Nat.le_refl _)
 rwa [List.take_length] at this
end Go.Dr.T
