/- Chapter 06: what two shots share, and two elements' error, of the document. -/
import Derived.Test.YtfhphjloaelgoaaGreatDoorG5
import Derived.Test.YtfhphjloaelgoaaGreatDoorG7
namespace Go.Dr.T
abbrev elB (x:El):B:=.blk [.str x.nm,.sl x.c x.l.length (shC x.l),.int .i64 x.g] false
set_option maxRecDepth 100000 in
theorem refShare_ok {s:Int} {x y:Int × Int} (hs:0≤s∧s≤200000) (hx:0≤x.1∧x.1≤999∧1≤x.2∧x.2≤200000) (hy:0≤y.1∧y.1≤999∧1≤y.2∧y.2≤200000):Fun FB md 64 [.agg [.int .i64 x.1,.int .i64 x.2],.agg [.int .i64 y.1,.int .i64 y.2],.int .i64 s] (.int .i64 (shr s x y)):=by
 obtain ⟨m,n⟩:=x
 obtain ⟨m', n'⟩:=y
 dsimp only at *
 have hw:IntKind.i64.wrap ((min n n').tdiv 2)=min n n' / 2:=by rw [Int.tdiv_eq_ediv_of_nonneg (by omega)];exact wrap_i64 (by omega) (by omega)
 refine fun_of rfl rfl ?_
 repeat' (first
 | (conv=>whnf)
   first
   | refine Br.t ?_
   | refine Br.f ?_
   | (refine Br.decT ?_ ?_;(focus first | assumption | omega))
   | (refine Br.decF ?_ ?_;(focus first | assumption | omega))
   | refine Br.dec (fun _ => ?_) (fun _ => ?_)
   | refine Br.not ?_
   | (refine Bnd.i64 ?_ ?_ ?_;(focus omega);(focus omega))
   | refine Bnd.any ?_
   | refine Get.mk _ rfl ?_
   | refine Leaves.of ?_
   | refine Vw.int ?_
   | (refine Req.mk ?_ ?_;(focus first | rfl | decide | exact ⟨rfl,rfl⟩ | exact ⟨rfl,by decide⟩ | exact (fun _=>rfl) | exact (fun h=>nomatch h) | (simp;done) | omega | (simp [big];done) | exact le_big (by omega) | exact lt_big (by omega))))
 all_goals rw [shr_case]
 all_goals (try rw [hw])
 all_goals first
  | (rw [if_pos (by omega)];done)
  | (rw [if_neg (by omega),if_pos (by omega)];omega)
  | (rw [if_neg (by omega),if_neg (by omega),if_pos (by omega)];done)
  | (rw [if_neg (by omega),if_neg (by omega),if_neg (by omega)];done)
  | (exfalso;omega)
theorem openE_1 {x y:El} {s:Int} (h:x.e≠0):openE x y s=x.e:=by simp [openE,ckd,h]
theorem openE_2 {x y:El} {s:Int} (h:x.e=0) (h2:y.e≠0):openE x y s=y.e:=by simp [openE,ckd,h,h2]
theorem openE_3 {x y:El} {s:Int} (h:x.e=0) (h2:y.e=0):openE x y s=if outB s 0 200000=true then 7 else 0:=by simp [openE,ckd,h,h2]
set_option maxRecDepth 100000 in
theorem two_ok {x y:El} {s:Int}:Fun FB md 55 [elA' x,elA' y,.int .i64 s] (.int .i64 (openE x y s)):=by
 have h1:Fun FB md 19 [elA' x] (.tup [.int .i64 (ckE x.nm x.l x.g).1,.int .i64 x.e]):=refCheck_ok (nm:=x.nm) (c:=x.c) (l:=x.l) (g:=x.g)
 have h2:Fun FB md 19 [elA' y] (.tup [.int .i64 (ckE y.nm y.l y.g).1,.int .i64 y.e]):=refCheck_ok (nm:=y.nm) (c:=y.c) (l:=y.l) (g:=y.g)
 have h3:=in_ok (n:=s) (lo:=0) (hi:=200000)
 generalize (ckE x.nm x.l x.g).1=ax at *
 generalize (ckE y.nm y.l y.g).1=ay at *
 by_cases hex:x.e=0
 ·by_cases hey:y.e=0
  ·rw [openE_3 hex hey]
   rw [hex] at h1
   rw [hey] at h2
   cases hs:outB s 0 200000 <;> rw [hs] at h3
   all_goals refine fun_of rfl rfl ?_
   all_goals
    repeat' (first
 | (conv=>whnf)
   first
   | refine Br.t ?_
   | refine Br.f ?_
   | refine call_fun rfl rfl h1 (.inl rfl) ?_
   | refine call_fun rfl rfl h2 (.inl rfl) ?_
   | refine call_fun rfl rfl h3 (.inl rfl) ?_
   | refine Get.mk _ rfl ?_
   | refine Leaves.of ?_
   | refine Vw.int ?_
   | (refine Req.mk ?_ ?_;(focus first | rfl | decide | exact ⟨rfl,rfl⟩ | exact ⟨rfl,by decide⟩ | exact (fun _=>rfl) | exact (fun h=>nomatch h) | (simp;done) | omega | (simp [big];done) | exact le_big (by omega) | exact lt_big (by omega))))
   all_goals first | rfl | (exfalso;omega)
  ·rw [openE_2 hex hey]
   rw [hex] at h1
   generalize y.e=ey at *
   refine fun_of rfl rfl ?_
   repeat' (first
 | (conv=>whnf)
   first
   | refine Br.t ?_
   | refine Br.f ?_
   | (refine Br.decF ?_ ?_;(focus first | assumption | omega))
   | refine call_fun rfl rfl h1 (.inl rfl) ?_
   | refine call_fun rfl rfl h2 (.inl rfl) ?_
   | refine Get.mk _ rfl ?_
   | refine Leaves.of ?_
   | refine Vw.int ?_
   | (refine Req.mk ?_ ?_;(focus first | rfl | decide | exact ⟨rfl,rfl⟩ | exact ⟨rfl,by decide⟩ | exact (fun _=>rfl) | exact (fun h=>nomatch h) | (simp;done) | omega | (simp [big];done) | exact le_big (by omega) | exact lt_big (by omega))))
   all_goals first | rfl | (exfalso;omega)
 ·rw [openE_1 hex]
  generalize x.e=ex at *
  refine fun_of rfl rfl ?_
  repeat' (first
 | (conv=>whnf)
   first
   | refine Br.f ?_
   | (refine Br.decF ?_ ?_;(focus first | assumption | omega))
   | refine call_fun rfl rfl h1 (.inl rfl) ?_
   | refine Get.mk _ rfl ?_
   | refine Leaves.of ?_
   | refine Vw.int ?_
   | (refine Req.mk ?_ ?_;(focus first | rfl | decide | exact ⟨rfl,rfl⟩ | exact ⟨rfl,by decide⟩ | exact (fun _=>rfl) | exact (fun h=>nomatch h) | (simp;done) | omega | (simp [big];done) | exact le_big (by omega) | exact lt_big (by omega))))
  all_goals first | rfl | (exfalso;omega)
end Go.Dr.T
namespace Go.Dr.T
structure FrS where
 i:Nat
 w:Int
theorem frS_take {l:List (Int × Int)} {i:Nat} {p:Int × Int} (h:l[i]?=some p):frS (l.take (i+1))=frS (l.take i)+p.2:=by
 obtain ⟨hi,rfl⟩:=List.getElem?_eq_some_iff.1 h
 rw [← List.take_append_getElem hi,frS_append]
 simp [frS]
theorem shC_cellB {l:List (Int × Int)} {i:Nat} {p:Int × Int} (h:l[i]?=some p):cellAt (shC l) (i * 2+1)=some (.int .i64 p.2):=by
 have h1:=shC_drop h
 have:(shC l).drop (i * 2+1) = .int .i64 p.2 :: (shC l).drop (i * 2+2):=by
  rw [← List.drop_drop,h1];rfl
 exact cellAt_drop this
set_option maxRecDepth 100000 in
set_option maxHeartbeats 20000000 in
theorem frames_ok {x:El} (hx:shOk x.l):Fun FB md 30 [elA' x] (.int .i64 (frS x.l)):=by
 have hl:=hx.1
 refine fun_of rfl rfl ?_
 repeat' (first
 | (conv=>whnf)
   first
   | refine Get.mk _ rfl ?_
   | (refine Req.mk ?_ ?_;(focus first | rfl | decide | exact ⟨rfl,rfl⟩ | exact ⟨rfl,by decide⟩ | exact (fun _=>rfl) | exact (fun h=>nomatch h) | (simp;done) | omega | (simp [big];done) | exact le_big (by omega) | exact lt_big (by omega))))
 refine LoopP.by (fun a:FrS=>a.i≤x.l.length∧a.w=frS (x.l.take a.i)) (fun a=>[(3,.int .i64 a.w),(4,.int .i64 (a.i:Nat))]) (fun _=>[elB x]) (fun a=>x.l.length - a.i) ⟨0,0⟩ ⟨Nat.zero_le _,rfl⟩ rfl ?_
 rintro ⟨i,w⟩ ⟨w1,w2⟩
 dsimp only at w1 w2 ⊢
 by_cases hi:i<x.l.length
 rotate_left
 ·have hres:frS x.l=w:=by rw [w2,show i=x.l.length by omega,List.take_length]
  rw [hres]
  repeat' (first
 | (conv=>whnf)
   first
   | (refine Br.decF ?_ ?_;(focus first | assumption | omega))
   | refine Get.mk _ rfl ?_
   | refine Leaves.of ?_
   | refine Vw.int ?_
   | (refine Req.mk ?_ ?_;(focus first | rfl | decide | exact ⟨rfl,rfl⟩ | exact ⟨rfl,by decide⟩ | exact (fun _=>rfl) | exact (fun h=>nomatch h) | (simp;done) | omega | (simp [big];done) | exact le_big (by omega) | exact lt_big (by omega))))
  all_goals first | rfl | (exfalso;omega)
 obtain ⟨p,hp⟩:∃ p,x.l[i]?=some p:=⟨_,List.getElem?_eq_getElem hi⟩
 have hc:=shC_cellB hp
 have hpm:=hx.2 p (List.mem_of_getElem? hp)
 have hb:=frS_pos (l:=x.l.take i) fun q hq=>hx.fr q (List.mem_of_mem_take hq)
 rw [← w2,List.length_take] at hb
 have hst:=frS_take hp
 rw [← w2] at hst
 have hmin:min i x.l.length=i:=by omega
 rw [hmin] at hb
 repeat' (first
 | (conv=>whnf)
   first
   | (refine Br.decT ?_ ?_;(focus first | assumption | omega))
   | (refine Bnd.i64 ?_ ?_ ?_;(focus omega);(focus omega))
   | refine Get.mk _ hc ?_
   | (refine Idx.nat ?_ ?_;(focus omega))
   | refine Get.mk _ rfl ?_
   | (refine Req.mk ?_ ?_;(focus first | rfl | decide | exact ⟨rfl,rfl⟩ | exact ⟨rfl,by decide⟩ | exact (fun _=>rfl) | exact (fun h=>nomatch h) | (simp;done) | omega | (simp [big];done) | exact le_big (by omega) | exact lt_big (by omega))))
 all_goals try (exfalso;omega)
 exact NextP.mk ⟨i+1,w+p.2⟩ ⟨hi,hst.symm⟩ (by dsimp only;omega) rfl
end Go.Dr.T
namespace Go.Dr.T
def bitE (b:Int) (i:Nat):Int:=(b.fdiv (2 ^ (min (IntKind.u64.wrap ((i:Int).tmod 64)).toNat IntKind.u64.bits))).tmod 2
def bitB (b:Int) (i:Nat):Bool:=decide (bitE b i=1)
def ptF (b:Int) (a:List (Int × Int)) (i:Nat):List Nat:=(List.range' i (a.length - i)).filter (bitB b)
def ptL (b:Int) (a:List (Int × Int)) (i:Nat):List (Int × Int):=(ptF b a i).map fun k=>a.getD k (0,0)
theorem ptF_end {b:Int} {a:List (Int × Int)} {i:Nat} (h:a.length≤i):ptF b a i=[]:=by unfold ptF;rw [show a.length - i=0 by omega];rfl
theorem ptF_t {b:Int} {a:List (Int × Int)} {i:Nat} (h:i<a.length) (hb:bitE b i=1):ptF b a i=i :: ptF b a (i+1):=by
 unfold ptF
 rw [show a.length - i=(a.length - (i+1))+1 by omega,List.range'_succ,List.filter_cons_of_pos (by unfold bitB;simpa using hb)]
theorem ptF_f {b:Int} {a:List (Int × Int)} {i:Nat} (h:i<a.length) (hb:¬ bitE b i=1):ptF b a i=ptF b a (i+1):=by
 unfold ptF
 rw [show a.length - i=(a.length - (i+1))+1 by omega,List.range'_succ,List.filter_cons_of_neg (by unfold bitB;simpa using hb)]
theorem ptF_len {b:Int} {a:List (Int × Int)} {i:Nat}:(ptF b a i).length≤a.length - i:=by
 unfold ptF
 have:=List.length_filter_le (bitB b) (List.range' i (a.length - i))
 rwa [List.length_range'] at this
def ptV:List (Int × Int)→V
 | []=>.nilsl
 | p :: l=>.ms 2 3 ((p :: l).length * 2) 0 (p :: l).length false
def ptH (x:El):List (Int × Int)→List B
 | []=>[elB x,.blk [.str [],.nilsl,.int .i64 0] false,.blk [.str x.nm,.nilsl,.int .i64 x.g] false]
 | p :: l=>[elB x,.blk [.str [],.nilsl,.int .i64 0] false,.blk [.str x.nm,.ms 2 3 ((p :: l).length * 2) 0 (p :: l).length false,.int .i64 x.g] false,.blk (shC (p :: l)) true]
theorem ptH_app {x:El} {p q:Int × Int} {l:List (Int × Int)}:ptH x ((p :: l)++[q])=[elB x,.blk [.str [],.nilsl,.int .i64 0] false,.blk [.str x.nm,.ms 2 3 ((p :: l).length * 2+2) 0 ((p :: l).length+1) false,.int .i64 x.g] false,.blk (shC (p :: l)++[.int .i64 q.1,.int .i64 q.2]) true]:=by
 have e1:((p :: l)++[q]).length=(p :: l).length+1:=by rw [List.length_append];rfl
 have e2:shC ((p :: l)++[q])=shC (p :: l)++[.int .i64 q.1,.int .i64 q.2]:=by rw [shC_appS];rfl
 have e3:ptH x ((p :: l)++[q])=[elB x,.blk [.str [],.nilsl,.int .i64 0] false,.blk [.str x.nm,.ms 2 3 (((p :: l)++[q]).length * 2) 0 ((p :: l)++[q]).length false,.int .i64 x.g] false,.blk (shC ((p :: l)++[q])) true]:=rfl
 rw [e3,e1,e2,Nat.add_mul]
structure PA where
 k:Nat
 L:List (Int × Int)
set_option maxRecDepth 100000 in
set_option maxHeartbeats 20000000 in
theorem part_ok {x:El} {b:Int} (hx:x.l.length≤1000000):Fun FB md 31 [elA' x,.int .u64 b] (.agg [.str x.nm,lsP (ptL b x.l 0),.int .i64 x.g]):=by
 refine fun_of rfl rfl ?_
 repeat' (first
 | (conv=>whnf)
   first
   | refine Get.mk _ rfl ?_
   | (refine Req.mk ?_ ?_;(focus first | rfl | decide | exact ⟨rfl,rfl⟩ | exact ⟨rfl,by decide⟩ | exact (fun _=>rfl) | exact (fun h=>nomatch h) | (simp;done) | omega | (simp [big];done) | exact le_big (by omega) | exact lt_big (by omega))))
 all_goals try (exfalso;omega;done)
 refine LoopP.by (fun a:PA=>a.k≤x.l.length∧a.L.length≤a.k∧a.L++ptL b x.l a.k=ptL b x.l 0) (fun a=>[(6,.int .i64 (a.k:Nat))]) (fun a=>ptH x a.L) (fun a=>x.l.length - a.k) ⟨0,[]⟩ ⟨Nat.zero_le _,Nat.le_refl _,rfl⟩ rfl ?_
 rintro ⟨k,L⟩ ⟨w1,w2,w3⟩
 dsimp only at w1 w2 w3 ⊢
 by_cases hk:k<x.l.length
 rotate_left
 ·have e:ptL b x.l k=[]:=by unfold ptL;rw [ptF_end (by omega)];rfl
  rw [e,List.append_nil] at w3
  subst w3
  cases hL:ptL b x.l 0 with
  | nil =>
   unfold ptH lsP
   rw [if_pos rfl]
   repeat' (first
 | (conv=>whnf)
   first
   | refine Vw.str rfl
   | (refine Br.decF ?_ ?_;(focus first | assumption | omega))
   | refine Get.mk _ rfl ?_
   | refine Leaves.of ?_
   | refine Vw.int ?_
   | refine Vw.nil
   | refine Vw.agg ?_
   | refine VwL.cons ?_ ?_
   | refine VwL.nil
   | (refine Req.mk ?_ ?_;(focus first | rfl | decide | exact ⟨rfl,rfl⟩ | exact ⟨rfl,by decide⟩ | exact (fun _=>rfl) | exact (fun h=>nomatch h) | (simp;done) | omega | (simp [big];done) | exact le_big (by omega) | exact lt_big (by omega))))
   all_goals first | rfl | (exfalso;omega;done)
  | cons p l =>
   have hvw:∀ h,bget h 3=some (.blk (shC (p :: l)) true)→Vw h 63 (.ms 2 3 ((p :: l).length * 2) 0 (p :: l).length false) (.sl false (p :: l).length (shC (p :: l))):=fun h hb=>Vw.ms (d:=62) hb (shC_length _) (part_all (shC_length _)) (by
    have key:∀ l:List (Int × Int),VwL h 62 (shC l) (shC l):=by
     intro l
     induction l with
     | nil=>exact VwL.nil
     | cons p l ih=>exact VwL.cons (Vw.int rfl) (VwL.cons (Vw.int rfl) ih)
    exact key _)
   unfold ptH lsP
   rw [if_neg (by simp)]
   repeat' (first
 | (conv=>whnf)
   first
   | refine Vw.str rfl
   | refine hvw _ rfl
   | (refine Br.decF ?_ ?_;(focus first | assumption | omega))
   | refine Get.mk _ rfl ?_
   | refine Leaves.of ?_
   | refine Vw.int ?_
   | refine Vw.agg ?_
   | refine VwL.cons ?_ ?_
   | refine VwL.nil
   | (refine Req.mk ?_ ?_;(focus first | rfl | decide | exact ⟨rfl,rfl⟩ | exact ⟨rfl,by decide⟩ | exact (fun _=>rfl) | exact (fun h=>nomatch h) | (simp;done) | omega | (simp [big];done) | exact le_big (by omega) | exact lt_big (by omega))))
   all_goals first | rfl | (exfalso;omega;done)
 obtain ⟨u,hu⟩:∃ u,x.l[k]?=some u:=⟨_,List.getElem?_eq_getElem hk⟩
 have hpu:=shC_part hu
 have hkl:k≤x.l.length - 1:=by omega
 have h0l:0<x.l.length:=by omega
 have hud:x.l.getD k (0,0)=u:=by rw [List.getD_eq_getElem?_getD,hu];rfl
 have hkw:IntKind.i64.wrap ((k:Int)+1)=((k+1:Nat):Int):=by rw [wrap_i64 (by omega) (by omega)];omega
 have h64:(64:Int)≠0:=by decide
 have hsh:0≤IntKind.u64.wrap ((k:Int).tmod 64):=by
  have:0≤(k:Int).tmod 64:=Int.tmod_nonneg _ (by omega)
  have h2:(k:Int).tmod 64<64:=Int.tmod_lt_of_pos _ (by decide)
  have e:IntKind.u64.wrap ((k:Int).tmod 64)=(k:Int).tmod 64:=by
   unfold IntKind.wrap
   simp only [IntKind.bits,IntKind.signed]
   first | omega | (split <;> omega) | (simp;omega)
  omega
 by_cases hb:bitE b k=1
 ·have z:(L++[u])++ptL b x.l (k+1)=ptL b x.l 0:=by
   rw [← w3]
   unfold ptL
   rw [ptF_t hk hb,List.map_cons,hud]
   simp
  unfold bitE at hb
  cases L with
  | nil =>
   unfold ptH
   repeat' (first
 | (conv=>whnf)
   first
   | refine Bnd.eq hkw ?_
   | (refine Br.decT ?_ ?_;(focus first | assumption | omega))
   | refine Idx.nat hkl ?_
   | refine Req.mk h0l ?_
   | refine Req.mk h64 ?_
   | refine Req.mk hsh ?_
   | refine Get.mk _ hpu ?_
   | refine Bnd.any ?_
   | (refine Ifz.pos ?_ ?_;(focus omega))
   | refine Get.mk _ rfl ?_
   | (refine Req.mk ?_ ?_;(focus first | rfl | decide | exact ⟨rfl,rfl⟩ | exact ⟨rfl,by decide⟩ | exact (fun _=>rfl) | exact (fun h=>nomatch h) | (simp;done) | omega | (simp [big];done) | exact le_big (by omega) | exact lt_big (by omega))))
   all_goals first | (exfalso;omega;done) | exact NextP.mk (⟨k+1,[]++[u]⟩:PA) ⟨hk,by (try dsimp only);simp,z⟩ (by (try dsimp only);omega) rfl
  | cons p l =>
   have e1:(shC (p :: l)).length=(p :: l).length * 2:=shC_length _
   have e2:0+(p :: l).length * 2=(p :: l).length * 2∧((shC (p :: l)).length+[V.int .i64 u.1,.int .i64 u.2].length) * (16+1)<big:=⟨Nat.zero_add _,by rw [e1];show ((p :: l).length * 2+2) * 17<68719476736;omega⟩
   unfold ptH
   repeat' (first
 | (conv=>whnf)
   first
   | refine Bnd.eq hkw ?_
   | (refine Br.decT ?_ ?_;(focus first | assumption | omega))
   | refine Idx.nat hkl ?_
   | refine Req.mk h0l ?_
   | refine Req.mk h64 ?_
   | refine Req.mk hsh ?_
   | refine Get.mk _ hpu ?_
   | refine Req.mk e1 ?_
   | refine Req.mk e2 ?_
   | refine Bnd.any ?_
   | (refine Ifz.pos ?_ ?_;(focus omega))
   | refine Get.mk _ rfl ?_
   | (refine Req.mk ?_ ?_;(focus first | rfl | decide | exact ⟨rfl,rfl⟩ | exact ⟨rfl,by decide⟩ | exact (fun _=>rfl) | exact (fun h=>nomatch h) | (simp;done) | omega | (simp [big];done) | exact le_big (by omega) | exact lt_big (by omega))))
   all_goals first | (exfalso;omega;done) | exact NextP.mk (⟨k+1,(p :: l)++[u]⟩:PA) ⟨hk,by (try dsimp only);rw [List.length_append];exact Nat.succ_le_succ w2,z⟩ (by (try dsimp only);omega) (by show _=(⟨_,ptH x ((p :: l)++[u])⟩:St);rw [ptH_app];rfl)
 ·have z:L++ptL b x.l (k+1)=ptL b x.l 0:=by
   rw [← w3]
   unfold ptL
   rw [ptF_f hk hb]
  unfold bitE at hb
  cases L with
  | nil =>
   unfold ptH
   repeat' (first
 | (conv=>whnf)
   first
   | refine Bnd.eq hkw ?_
   | (refine Br.decT ?_ ?_;(focus first | assumption | omega))
   | (refine Br.decF ?_ ?_;(focus first | assumption | omega))
   | refine Req.mk h64 ?_
   | refine Req.mk hsh ?_
   | refine Bnd.any ?_
   | refine Get.mk _ rfl ?_
   | (refine Req.mk ?_ ?_;(focus first | rfl | decide | exact ⟨rfl,rfl⟩ | exact ⟨rfl,by decide⟩ | exact (fun _=>rfl) | exact (fun h=>nomatch h) | (simp;done) | omega | (simp [big];done) | exact le_big (by omega) | exact lt_big (by omega))))
   all_goals first | (exfalso;omega;done) | exact NextP.mk (⟨k+1,[]⟩:PA) ⟨hk,by (try dsimp only);omega,z⟩ (by (try dsimp only);omega) rfl
  | cons p l =>
   unfold ptH
   repeat' (first
 | (conv=>whnf)
   first
   | refine Bnd.eq hkw ?_
   | (refine Br.decT ?_ ?_;(focus first | assumption | omega))
   | (refine Br.decF ?_ ?_;(focus first | assumption | omega))
   | refine Req.mk h64 ?_
   | refine Req.mk hsh ?_
   | refine Bnd.any ?_
   | refine Get.mk _ rfl ?_
   | (refine Req.mk ?_ ?_;(focus first | rfl | decide | exact ⟨rfl,rfl⟩ | exact ⟨rfl,by decide⟩ | exact (fun _=>rfl) | exact (fun h=>nomatch h) | (simp;done) | omega | (simp [big];done) | exact le_big (by omega) | exact lt_big (by omega))))
   all_goals first | (exfalso;omega;done) | exact NextP.mk (⟨k+1,p :: l⟩:PA) ⟨hk,by (try dsimp only);omega,z⟩ (by (try dsimp only);omega) rfl
end Go.Dr.T
namespace Go.Dr.T
def zC:List V:=List.replicate 1681 (.int .i64 0)
def c21z:Fc:=⟨87,3,[.tmp 6,.tmp 7,.tmp 8],.seq (.reg false 2 [⟨some 3,none,0,.bx 0 (.t 0)⟩,⟨some 4,none,0,.bx 1 (.t 1)⟩,⟨some 6,none,0,.mv (.c (.int .i64 0))⟩,⟨some 7,none,4,.mv (.c (.int .i64 0))⟩,⟨some 8,none,12,.mv (.c (.int .i64 0))⟩]) (.seq (.reg false 0 [⟨some 15,none,0,.ld true 3 (.t 3)⟩,⟨some 16,none,0,.ld true 3 (.t 4)⟩,⟨some 17,none,0,.mv (.t 2)⟩,⟨some 18,none,7,.call (.c (.fn 53 [])) [.t 15,.t 16,.t 17]⟩,⟨some 14,none,15,.mv (.t 18)⟩,⟨some 19,none,31,.ex (.t 14) 0⟩,⟨some 20,none,31,.ex (.t 14) 1⟩,⟨some 9,none,63,.mv (.t 19)⟩,⟨some 8,none,255,.mv (.t 20)⟩]) (.seq (.seq (.reg false 0 [⟨some 21,none,0,.mv (.t 8)⟩,⟨some 22,none,1,.bo .neq (.t 21) (.c (.int .i64 0))⟩]) (.cond (.t 22) (.seq (.reg false 0 [⟨some 23,none,0,.mv (.t 8)⟩,⟨some 6,none,0,.mv (.c (.int .i64 0))⟩,⟨some 7,none,2,.mv (.c (.int .i64 0))⟩,⟨some 8,none,7,.mv (.t 23)⟩]) .ret) .skip)) (.seq (.reg false 1 [⟨some 10,none,0,.al 0 zC⟩]) (.seq (.seq (.reg false 1 [⟨some 24,none,0,.fa 1 (.t 3)⟩,⟨some 25,none,1,.ld false 1 (.t 24)⟩,⟨some 26,none,3,.len false (.t 25)⟩,⟨some 11,none,0,.al 0 [.int .i64 0]⟩,⟨none,none,15,.st 1 (.t 11) (.t 26)⟩]) (.block 0 (.loop (.seq (.seq (.reg false 0 [⟨some 27,none,0,.ld false 1 (.t 11)⟩,⟨some 28,none,1,.bo .geq (.t 27) (.c (.int .i64 0))⟩]) (.cond (.t 28) .skip (.exit 0))) (.seq (.block 1 (.seq (.reg false 1 [⟨some 31,none,0,.fa 1 (.t 4)⟩,⟨some 32,none,1,.ld false 1 (.t 31)⟩,⟨some 33,none,3,.len false (.t 32)⟩,⟨some 12,none,0,.al 0 [.int .i64 0]⟩,⟨none,none,15,.st 1 (.t 12) (.t 33)⟩]) (.block 2 (.loop (.seq (.seq (.reg false 0 [⟨some 34,none,0,.ld false 1 (.t 12)⟩,⟨some 35,none,1,.bo .geq (.t 34) (.c (.int .i64 0))⟩]) (.cond (.t 35) .skip (.exit 2))) (.seq (.block 3 (.seq (.seq (.reg true 0 [⟨some 38,none,0,.mv (.t 9)⟩,⟨some 39,none,0,.ld false 1 (.t 11)⟩,⟨some 40,none,0,.ld false 1 (.t 12)⟩,⟨some 41,none,1,.nc (.t 38)⟩,⟨some 42,none,9,.fa 3 (.t 41)⟩,⟨some 43,none,27,.iaa 41 41 (.t 42) (.t 39)⟩,⟨some 44,none,63,.iaa 1 41 (.t 43) (.t 40)⟩,⟨some 45,none,127,.ld false 1 (.t 44)⟩,⟨some 46,none,255,.bo .eql (.t 45) (.c (.int .i64 0))⟩]) (.cond (.t 46) (.seq (.reg true 0 [⟨some 47,none,0,.ld false 1 (.t 11)⟩,⟨some 48,none,0,.ld false 1 (.t 12)⟩,⟨some 49,none,1,.iaa 41 41 (.t 10) (.t 47)⟩,⟨some 50,none,7,.iaa 1 41 (.t 49) (.t 48)⟩,⟨none,none,15,.st 1 (.t 50) (.c (.int .i64 1))⟩]) (.exit 3)) .skip)) (.seq (.reg false 0 [⟨some 51,none,0,.mv (.t 9)⟩,⟨some 52,none,0,.ld false 1 (.t 11)⟩,⟨some 53,none,0,.ld false 1 (.t 12)⟩,⟨some 54,none,7,.call (.c (.fn 54 [])) [.t 51,.t 52,.t 53]⟩]) (.block 4 (.rf (.t 54) [55] (.reg false 1 [⟨some 13,none,0,.al 0 [.int .i64 0,.int .i64 0]⟩,⟨none,none,1,.st 2 (.t 13) (.t 55)⟩]) (.block 5 (.reg true 0 [⟨some 56,none,0,.ld false 1 (.t 11)⟩,⟨some 57,none,0,.ld false 1 (.t 12)⟩,⟨some 58,none,0,.ld false 1 (.t 11)⟩,⟨some 59,none,0,.ld false 1 (.t 12)⟩,⟨some 60,none,4,.iaa 41 41 (.t 10) (.t 58)⟩,⟨some 61,none,28,.iaa 1 41 (.t 60) (.t 59)⟩,⟨some 62,none,60,.ld false 1 (.t 61)⟩,⟨some 63,none,0,.fa 0 (.t 13)⟩,⟨some 64,none,128,.ld false 1 (.t 63)⟩,⟨some 65,none,384,.bo .add (.t 64) (.c (.int .i64 1))⟩,⟨some 66,none,0,.fa 1 (.t 13)⟩,⟨some 67,none,1024,.ld false 1 (.t 66)⟩,⟨some 68,none,3072,.bo .add (.t 67) (.c (.int .i64 1))⟩,⟨some 69,none,896,.iaa 41 41 (.t 10) (.t 65)⟩,⟨some 70,none,16256,.iaa 1 41 (.t 69) (.t 68)⟩,⟨some 71,none,32640,.ld false 1 (.t 70)⟩,⟨some 72,none,65532,.bo .add (.t 62) (.t 71)⟩,⟨some 73,none,131068,.mm false [.c (.int .i64 1000000),.t 72]⟩,⟨some 74,none,1,.iaa 41 41 (.t 10) (.t 56)⟩,⟨some 75,none,524287,.iaa 1 41 (.t 74) (.t 57)⟩,⟨none,none,1048575,.st 1 (.t 75) (.t 73)⟩]))))))) (.seq (.seq (.reg false 0 [⟨some 76,none,0,.ld false 1 (.t 12)⟩]) (.reg false 1 [⟨some 12,none,0,.al 0 [.int .i64 0]⟩,⟨none,none,1,.st 1 (.t 12) (.t 76)⟩])) (.reg false 0 [⟨some 36,none,0,.ld false 1 (.t 12)⟩,⟨some 37,none,1,.bo .sub (.t 36) (.c (.int .i64 1))⟩,⟨none,none,3,.st 1 (.t 12) (.t 37)⟩])))))))) (.seq (.seq (.reg false 0 [⟨some 77,none,0,.ld false 1 (.t 11)⟩]) (.reg false 1 [⟨some 11,none,0,.al 0 [.int .i64 0]⟩,⟨none,none,1,.st 1 (.t 11) (.t 77)⟩])) (.reg false 0 [⟨some 29,none,0,.ld false 1 (.t 11)⟩,⟨some 30,none,1,.bo .sub (.t 29) (.c (.int .i64 1))⟩,⟨none,none,3,.st 1 (.t 11) (.t 30)⟩]))))))) (.seq (.reg true 0 [⟨some 78,none,0,.mv (.t 9)⟩,⟨some 79,none,1,.nc (.t 78)⟩,⟨some 80,none,3,.fa 3 (.t 79)⟩,⟨some 81,none,7,.iaa 41 41 (.t 80) (.c (.int .i64 0))⟩,⟨some 82,none,15,.iaa 1 41 (.t 81) (.c (.int .i64 0))⟩,⟨some 83,none,31,.ld false 1 (.t 82)⟩,⟨some 84,none,0,.iaa 41 41 (.t 10) (.c (.int .i64 0))⟩,⟨some 85,none,64,.iaa 1 41 (.t 84) (.c (.int .i64 0))⟩,⟨some 86,none,192,.ld false 1 (.t 85)⟩,⟨some 6,none,63,.mv (.t 83)⟩,⟨some 7,none,1023,.mv (.t 86)⟩,⟨some 8,none,2047,.mv (.c (.int .i64 0))⟩]) .ret))))),none⟩
theorem c21_eq:FB 21=some c21z:=rfl
theorem cells_ints:∀ {l:List Int} {n:Nat},n<l.length→∃ y,l[n]?=some y∧cellAt (ofInts l) n=some (.int .i64 y)
 | x :: l,0,_=>⟨x,rfl,rfl⟩
 | x :: l,n+1,h=>by
  obtain ⟨y,h1,h2⟩:=cells_ints (l:=l) (n:=n) (by simpa using h)
  exact ⟨y,by simpa using h1,by simpa [ofInts,cellAt] using h2⟩
theorem over_ints:∀ {M:List Int} {i:Nat} {y:Int},over (ofInts M) i [.int .i64 y]=ofInts (M.set i y)
 | [],i,y=>by cases i <;> rfl
 | m :: M,0,y=>by cases M <;> rfl
 | m :: M,i+1,y=>by
  have:=over_ints (M:=M) (i:=i) (y:=y)
  simp only [ofInts,List.map_cons,List.set_cons_succ,over] at this ⊢
  rw [this]
@[irreducible] def tC (f:Nat→Nat→Int):List V:=ofInts (tb f)
theorem tC_eq (f:Nat→Nat→Int):tC f=ofInts (tb f):=by unfold tC;rfl
theorem zC_eq:zC=tC zT:=by rw [tC_eq,tb_zero];rfl
theorem zC_len:zC.length=1681:=List.length_replicate
attribute [irreducible] zC
theorem tC_len {f:Nat→Nat→Int}:(tC f).length=1681:=by rw [tC_eq];simp [ofInts,tb_len]
theorem tC_get {f:Nat→Nat→Int} {i j:Nat} (hi:i<41) (hj:j<41):cellAt (tC f) (0+i * 41+j * 1)=some (.int .i64 (f i j)):=by
 rw [tC_eq,show 0+i * 41+j * 1=i * 41+j by omega]
 obtain ⟨y,h1,h2⟩:=cells_ints (l:=tb f) (n:=i * 41+j) (by rw [tb_len];omega)
 rw [tb_get hi hj] at h1
 cases h1;exact h2
theorem tC_set {f:Nat→Nat→Int} {i j:Nat} {v:Int} (hi:i<41) (hj:j<41):over (tC f) (0+i * 41+j * 1) [.int .i64 v]=tC (upT f i j v):=by
 rw [tC_eq,tC_eq,show 0+i * 41+j * 1=i * 41+j by omega,over_ints,tb_set hi hj]
theorem tC_blo {f:Nat→Nat→Int} (n:Nat):blos n (tC f)=true:=by rw [tC_eq];exact blos_int1 _ _
theorem tC_blk {T:Nat→Nat→Int} {n:Nat}:(B.blk (tC T) false).blo n=true:=tC_blo n
end Go.Dr.T
