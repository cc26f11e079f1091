/- Chapter 06: sources: plain; the document's source, the program's best, walked. -/
import Derived.Test.YtfhphjloaelgoaaGreatDoorR06X3
import Derived.Test.YtfhphjloaelgoaaGreatDoorG2
import Derived.Test.YtfhphjloaelgoaaGreatDoorDrE
namespace Go.Dr.T
structure Src where
 e:Nat
 k:Nat
 f:Int
 g:Int
def wrs (o n:Src):Bool:=decide (o.f<n.f) || (decide (n.f=o.f) && decide (n.g<o.g))
def srU (o:Option Src) (n:Src):Option Src:=match o with
 | none=>some n
 | some o=>if wrs o n then some n else some o
def srcEl (m:Int) (i:Nat) (x:El) (b:Option Src):Nat→Option Src
 | 0=>b
 | n+1=>match x.l[n]? with
  | none=>srcEl m i x b n
  | some p=>if p.1=m then srU (srcEl m i x b n) ⟨i,n,p.2,x.g⟩ else srcEl m i x b n
def srcAll (m:Int) (l:List El):Nat→Option Src
 | 0=>none
 | i+1=>match l[i]? with
  | none=>srcAll m l i
  | some x=>srcEl m i x (srcAll m l i) x.l.length
def SrOk (o:Option Src):Prop:=∀ s,o=some s→1≤s.f∧s.f≤200000∧s.e<1000000∧s.k<1000000
theorem srU_ok {o:Option Src} {n:Src} (h:SrOk o) (h1:1≤n.f∧n.f≤200000∧n.e<1000000∧n.k<1000000):SrOk (srU o n):=fun s hs=>by
 unfold srU at hs
 split at hs
 ·cases hs;exact h1
 ·split at hs
  ·cases hs;exact h1
  ·cases hs;exact h _ rfl
theorem srcEl_ok {m:Int} {i:Nat} {x:El} {b:Option Src} (hx:x.l.length≤40∧∀ p∈x.l,0≤p.1∧p.1≤999∧1≤p.2∧p.2≤200000) (hi:i<1000000) (hb:SrOk b):∀ n,SrOk (srcEl m i x b n)
 | 0=>hb
 | n+1=>by
  have ih:=srcEl_ok (m:=m) hx hi hb n
  unfold srcEl
  split
  ·exact ih
  ·rename_i p hp
   have hq:=hx.2 p (List.mem_of_getElem? hp)
   have hl:=(List.getElem?_eq_some_iff.1 hp).1
   split
   ·exact srU_ok ih ⟨hq.2.2.1,hq.2.2.2,hi,by dsimp only;omega⟩
   ·exact ih
theorem srcAll_ok {m:Int} {l:List El} (hv:vldE l=0):∀ i,i≤l.length→SrOk (srcAll m l i)
 | 0,_=>fun s h=>by cases h
 | i+1,hi=>by
  have ih:=srcAll_ok (m:=m) hv i (by omega)
  have h8:=(vld_good hv).1
  unfold srcAll
  split
  ·exact ih
  ·rename_i x hx
   exact srcEl_ok (vld_el hv (List.mem_of_getElem? hx)) (by omega) ih _
def oF (o:Option Src):Int:=match o with
 | none=>0
 | some s=>s.f
def oG (o:Option Src):Int:=match o with
 | none=>0
 | some s=>s.g
def oE (o:Option Src):Nat:=match o with
 | none=>0
 | some s=>s.e
def oK (o:Option Src):Nat:=match o with
 | none=>0
 | some s=>s.k
def srcV (m:Int) (o:Option Src):V:=.tup [.agg [.int .i64 m,.int .i64 (oE o:Nat),.int .i64 (oK o:Nat)],.int .i64 (oF o),.bool o.isSome]
abbrev b3B (x:Int) (o:Option Src):B:=.blk [.int .i64 x,.int .i64 (oE o:Nat),.int .i64 (oK o:Nat)] false
theorem elC_gr:∀ {l:List El} {i:Nat} {x:El},l[i]?=some x→cellAt (elC l) (i * 3+2)=some (.int .i64 x.g)
 | y :: l,0,x,h=>by
  rw [List.getElem?_cons_zero,Option.some.injEq] at h
  subst h
  rfl
 | y :: l,i+1,x,h=>by
  rw [List.getElem?_cons_succ] at h
  have:=elC_gr h
  rw [show (i+1) * 3+2=i * 3+2+1+1+1 by omega]
  exact this
theorem elC_sh' : ∀ {l:List El} {i:Nat} {x:El},l[i]?=some x→cellAt (elC l) (i * 3+1)=some (.sl x.c x.l.length (shC x.l))
 | y :: l,0,x,h=>by
  rw [List.getElem?_cons_zero,Option.some.injEq] at h
  subst h
  rfl
 | y :: l,i+1,x,h=>by
  rw [List.getElem?_cons_succ] at h
  have:=elC_sh' h
  rw [show (i+1) * 3+1=i * 3+1+1+1+1 by omega]
  exact this
set_option maxRecDepth 100000 in
set_option maxHeartbeats 20000000 in
theorem source_ok {c:Bool} {l:List El} {m:Int} (hv:vldE l=0):Fun FB md 79 [elsV c l,.int .i64 m] (srcV m (srcAll m l l.length)):=by
 have h8:=(vld_good hv).1
 have hel:=fun x (hx:x∈l)=>vld_el hv hx
 have hok:=fun i (hi:i≤l.length)=>srcAll_ok (m:=m) hv i hi
 refine fun_rn rfl rfl ?_
 repeat' (first
 | (conv=>whnf)
   first
   | refine Rn.seq ?_
   | refine Rn.block ?_
   | refine Rn.reg ?_
   | refine Get.mk _ rfl ?_
   | (refine Req.mk ?_ ?_;(focus first | rfl | decide | exact ⟨rfl,rfl⟩ | exact ⟨rfl,by decide⟩ | exact (fun _=>rfl) | exact (fun h=>nomatch h) | (simp;done) | omega | (simp [big];done) | exact le_big (by omega) | exact lt_big (by omega))))
 all_goals try (exfalso;omega;done)
 refine Rn.loop (fun i:Nat=>i≤l.length) (fun i=>[(8,.int .i64 (oF (srcAll m l i))),(9,.int .i64 (oG (srcAll m l i))),(10,.int .i64 (i:Nat))]) (fun i=>[B.blk [.int .i64 0,.int .i64 0,.int .i64 0] false,b3B m (srcAll m l i)]) (fun i=>l.length - i) 0 (Nat.zero_le _) rfl ?_
 rintro i w1
 try dsimp only
 have hoi:=hok i w1
 by_cases hi:i<l.length
 rotate_left
 ·have hie:i=l.length:=by omega
  subst hie
  unfold srcV
  generalize srcAll m l l.length=o at *
  cases o with
  | none =>
   dsimp only [oF,oG,oE,oK]
   repeat' (first
 | (conv=>whnf)
   first
   | (refine Br.decF ?_ ?_;(focus first | assumption | omega))
   | refine Rn.seq ?_
   | refine Rn.cond ?_
   | refine Rn.reg ?_
   | refine Rn.exit ?_
   | refine Rn.ret ?_
   | refine Get.mk _ rfl ?_
   | refine Leaves.of ?_
   | refine Vw.bool ?_
   | refine Vw.int ?_
   | refine Vw.tup ?_
   | refine Vw.agg ?_
   | refine VwL.cons ?_ ?_
   | refine VwL.nil
   | (refine Req.mk ?_ ?_;(focus first | rfl | decide | exact ⟨rfl,rfl⟩ | exact ⟨rfl,by decide⟩ | exact (fun _=>rfl) | exact (fun h=>nomatch h) | (simp;done) | omega | (simp [big];done) | exact le_big (by omega) | exact lt_big (by omega))))
   all_goals first | rfl | (exfalso;omega;done)
  | some o =>
   have h1:=(hoi o rfl).1
   have hq:decide (o.f > 0)=true:=decide_eq_true (by omega)
   dsimp only [oF,oG,oE,oK]
   repeat' (first
 | (conv=>whnf)
   first
   | (refine Br.decF ?_ ?_;(focus first | assumption | omega))
   | refine Rn.seq ?_
   | refine Rn.cond ?_
   | refine Rn.reg ?_
   | refine Rn.exit ?_
   | refine Rn.ret ?_
   | refine Get.mk _ rfl ?_
   | refine Leaves.of ?_
   | refine Vw.bool ?_
   | refine Vw.int ?_
   | refine Vw.tup ?_
   | refine Vw.agg ?_
   | refine VwL.cons ?_ ?_
   | refine VwL.nil
   | (refine Req.mk ?_ ?_;(focus first | rfl | decide | exact ⟨rfl,rfl⟩ | exact ⟨rfl,by decide⟩ | exact (fun _=>rfl) | exact (fun h=>nomatch h) | (simp;done) | omega | (simp [big];done) | exact le_big (by omega) | exact lt_big (by omega))))
   all_goals first | rfl | (exfalso;omega;done) | exact hq
 obtain ⟨x,hx⟩:∃ x,l[i]?=some x:=⟨_,List.getElem?_eq_getElem hi⟩
 have gs:=elC_sh' hx
 have gg:=elC_gr hx
 have hxl:=hel x (List.mem_of_getElem? hx)
 have hup:srcAll m l (i+1)=srcEl m i x (srcAll m l i) x.l.length:=by rw [srcAll,hx]
 have hok2:=fun n=>srcEl_ok (m:=m) hxl (show i<1000000 by omega) hoi n
 generalize srcAll m l i=b at *
 repeat' (first
 | (conv=>whnf)
   first
   | (refine Br.decT ?_ ?_;(focus first | assumption | omega))
   | refine Rn.seq ?_
   | refine Rn.block ?_
   | refine Rn.cond ?_
   | refine Rn.reg ?_
   | refine Rn.skip ?_)
 all_goals try (exfalso;omega;done)
 refine Rn.loop (fun n:Nat=>n≤x.l.length) (fun n=>[(8,.int .i64 (oF (srcEl m i x b n))),(9,.int .i64 (oG (srcEl m i x b n))),(11,.int .i64 (n:Nat))]) (fun n=>[B.blk [.int .i64 0,.int .i64 0,.int .i64 0] false,b3B m (srcEl m i x b n)]) (fun n=>x.l.length - n) 0 (Nat.zero_le _) rfl ?_
 rintro n y1
 try dsimp only
 by_cases hn:n<x.l.length
 rotate_left
 ·have hne:n=x.l.length:=by omega
  subst hne
  repeat' (first
 | (conv=>whnf)
   first
   | (refine Br.decF ?_ ?_;(focus first | assumption | omega))
   | (refine Bnd.i64 ?_ ?_ ?_;(focus omega);(focus omega))
   | refine Rn.seq ?_
   | refine Rn.cond ?_
   | refine Rn.reg ?_
   | refine Rn.exit ?_
   | refine Get.mk _ gs ?_
   | (refine Idx.nat ?_ ?_;(focus omega))
   | (refine Req.mk ?_ ?_;(focus first | rfl | decide | exact ⟨rfl,rfl⟩ | exact ⟨rfl,by decide⟩ | exact (fun _=>rfl) | exact (fun h=>nomatch h) | (simp;done) | omega | (simp [big];done) | exact le_big (by omega) | exact lt_big (by omega))))
  all_goals first | (exfalso;omega;done) | exact NextP.mk (i+1) hi (by omega) (by rw [hup];rfl)
 obtain ⟨p,hp⟩:∃ p,x.l[n]?=some p:=⟨_,List.getElem?_eq_getElem hn⟩
 have gp:=shC_part hp
 have hpr:=hxl.2 p (List.mem_of_getElem? hp)
 have hun:srcEl m i x b (n+1)=if p.1=m then srU (srcEl m i x b n) ⟨i,n,p.2,x.g⟩ else srcEl m i x b n:=by rw [srcEl,hp]
 have hob:=hok2 n
 generalize srcEl m i x b n=o at *
 by_cases hpm:p.1=m
 rotate_left
 ·rw [if_neg hpm] at hun
  repeat' (first
 | (conv=>whnf)
   first
   | refine Br.f ?_
   | (refine Br.decT ?_ ?_;(focus first | assumption | omega))
   | (refine Br.decF ?_ ?_;(focus first | assumption | omega))
   | (refine Bnd.i64 ?_ ?_ ?_;(focus omega);(focus omega))
   | refine Rn.seq ?_
   | refine Rn.block ?_
   | refine Rn.cond ?_
   | refine Rn.reg ?_
   | refine Rn.skip ?_
   | refine Get.mk _ gs ?_
   | refine Get.mk _ gp ?_
   | (refine Idx.nat ?_ ?_;(focus omega))
   | refine Get.mk _ rfl ?_
   | (refine Req.mk ?_ ?_;(focus first | rfl | decide | exact ⟨rfl,rfl⟩ | exact ⟨rfl,by decide⟩ | exact (fun _=>rfl) | exact (fun h=>nomatch h) | (simp;done) | omega | (simp [big];done) | exact le_big (by omega) | exact lt_big (by omega))))
  all_goals first | (exfalso;omega;done) | exact NextP.mk (n+1) hn (by omega) (by rw [hun];rfl)
 rw [if_pos hpm] at hun
 cases o with
 | none =>
  rw [show oF (none:Option Src)=0 from rfl,show oG (none:Option Src)=0 from rfl]
  unfold srU at hun
  repeat' (first
 | (conv=>whnf)
   first
   | refine Br.t ?_
   | (refine Br.decT ?_ ?_;(focus first | assumption | omega))
   | (refine Bnd.i64 ?_ ?_ ?_;(focus omega);(focus omega))
   | refine Rn.seq ?_
   | refine Rn.block ?_
   | refine Rn.cond ?_
   | refine Rn.reg ?_
   | refine Rn.skip ?_
   | refine Get.mk _ gs ?_
   | refine Get.mk _ gp ?_
   | refine Get.mk _ gg ?_
   | (refine Idx.nat ?_ ?_;(focus omega))
   | refine Get.mk _ rfl ?_
   | (refine Req.mk ?_ ?_;(focus first | rfl | decide | exact ⟨rfl,rfl⟩ | exact ⟨rfl,by decide⟩ | exact (fun _=>rfl) | exact (fun h=>nomatch h) | (simp;done) | omega | (simp [big];done) | exact le_big (by omega) | exact lt_big (by omega))))
  all_goals first | (exfalso;omega;done) | exact NextP.mk (n+1) hn (by omega) (by rw [hun];rfl)
 | some o =>
  unfold srU at hun
  dsimp only at hun
  rw [show oF (some o)=o.f from rfl,show oG (some o)=o.g from rfl]
  by_cases h1:o.f<p.2
  ·rw [if_pos (by unfold wrs;rw [decide_eq_true h1];rfl)] at hun
   repeat' (first
 | (conv=>whnf)
   first
   | refine Br.t ?_
   | (refine Br.decT ?_ ?_;(focus first | assumption | omega))
   | (refine Bnd.i64 ?_ ?_ ?_;(focus omega);(focus omega))
   | refine Rn.seq ?_
   | refine Rn.block ?_
   | refine Rn.cond ?_
   | refine Rn.reg ?_
   | refine Rn.skip ?_
   | refine Get.mk _ gs ?_
   | refine Get.mk _ gp ?_
   | refine Get.mk _ gg ?_
   | (refine Idx.nat ?_ ?_;(focus omega))
   | refine Get.mk _ rfl ?_
   | (refine Req.mk ?_ ?_;(focus first | rfl | decide | exact ⟨rfl,rfl⟩ | exact ⟨rfl,by decide⟩ | exact (fun _=>rfl) | exact (fun h=>nomatch h) | (simp;done) | omega | (simp [big];done) | exact le_big (by omega) | exact lt_big (by omega))))
   all_goals first | (exfalso;omega;done) | exact NextP.mk (n+1) hn (by omega) (by rw [hun];rfl)
  ·by_cases h2:p.2=o.f
   ·by_cases h3:x.g<o.g
    ·rw [if_pos (by unfold wrs;rw [decide_eq_true h2,decide_eq_true h3];simp)] at hun
     repeat' (first
 | (conv=>whnf)
   first
   | (refine Br.decT ?_ ?_;(focus first | assumption | omega))
   | (refine Br.decF ?_ ?_;(focus first | assumption | omega))
   | (refine Bnd.i64 ?_ ?_ ?_;(focus omega);(focus omega))
   | refine Rn.seq ?_
   | refine Rn.block ?_
   | refine Rn.cond ?_
   | refine Rn.reg ?_
   | refine Rn.skip ?_
   | refine Get.mk _ gs ?_
   | refine Get.mk _ gp ?_
   | refine Get.mk _ gg ?_
   | (refine Idx.nat ?_ ?_;(focus omega))
   | refine Get.mk _ rfl ?_
   | (refine Req.mk ?_ ?_;(focus first | rfl | decide | exact ⟨rfl,rfl⟩ | exact ⟨rfl,by decide⟩ | exact (fun _=>rfl) | exact (fun h=>nomatch h) | (simp;done) | omega | (simp [big];done) | exact le_big (by omega) | exact lt_big (by omega))))
     all_goals first | (exfalso;omega;done) | exact NextP.mk (n+1) hn (by omega) (by rw [hun];rfl)
    ·rw [if_neg (by unfold wrs;rw [decide_eq_false h1,decide_eq_false h3];simp)] at hun
     repeat' (first
 | (conv=>whnf)
   first
   | (refine Br.decT ?_ ?_;(focus first | assumption | omega))
   | (refine Br.decF ?_ ?_;(focus first | assumption | omega))
   | (refine Bnd.i64 ?_ ?_ ?_;(focus omega);(focus omega))
   | refine Rn.seq ?_
   | refine Rn.block ?_
   | refine Rn.cond ?_
   | refine Rn.reg ?_
   | refine Rn.skip ?_
   | refine Get.mk _ gs ?_
   | refine Get.mk _ gp ?_
   | refine Get.mk _ gg ?_
   | (refine Idx.nat ?_ ?_;(focus omega))
   | refine Get.mk _ rfl ?_
   | (refine Req.mk ?_ ?_;(focus first | rfl | decide | exact ⟨rfl,rfl⟩ | exact ⟨rfl,by decide⟩ | exact (fun _=>rfl) | exact (fun h=>nomatch h) | (simp;done) | omega | (simp [big];done) | exact le_big (by omega) | exact lt_big (by omega))))
     all_goals first | (exfalso;omega;done) | exact NextP.mk (n+1) hn (by omega) (by rw [hun];rfl)
   ·rw [if_neg (by unfold wrs;rw [decide_eq_false h1,decide_eq_false h2];simp)] at hun
    repeat' (first
 | (conv=>whnf)
   first
   | refine Br.f ?_
   | (refine Br.decT ?_ ?_;(focus first | assumption | omega))
   | (refine Br.decF ?_ ?_;(focus first | assumption | omega))
   | (refine Bnd.i64 ?_ ?_ ?_;(focus omega);(focus omega))
   | refine Rn.seq ?_
   | refine Rn.block ?_
   | refine Rn.cond ?_
   | refine Rn.reg ?_
   | refine Rn.skip ?_
   | refine Get.mk _ gs ?_
   | refine Get.mk _ gp ?_
   | (refine Idx.nat ?_ ?_;(focus omega))
   | refine Get.mk _ rfl ?_
   | (refine Req.mk ?_ ?_;(focus first | rfl | decide | exact ⟨rfl,rfl⟩ | exact ⟨rfl,by decide⟩ | exact (fun _=>rfl) | exact (fun h=>nomatch h) | (simp;done) | omega | (simp [big];done) | exact le_big (by omega) | exact lt_big (by omega))))
    all_goals first | (exfalso;omega;done) | exact NextP.mk (n+1) hn (by omega) (by rw [hun];rfl)
theorem call_bf {F:Nat→Option Fc} {md:Nat→Nat} {ro f:Nat} {v:V} {args:List V} {h:List B} {K:V→List B→Prop} (hk:CallP F md ro (.fn f []) (v :: args) h K):CallP F md ro (.bf f v) args h K:=by
 obtain ⟨w,h', ⟨n,hn⟩,hk⟩:=hk
 refine ⟨w,h', ⟨n,fun m hm => ?_⟩,hk⟩
 have:=hn m hm
 simp only [doCall] at this ⊢
 simp only [doFn]
 exact this
def srcA (m:Int) (s:Src):V:=.agg [.int .i64 m,.int .i64 (s.e:Nat),.int .i64 (s.k:Nat),.int .i64 s.f,.int .i64 s.g]
set_option maxRecDepth 100000 in
set_option maxHeartbeats 20000000 in
theorem worse_ok {a b:Int} {o n:Src}:Fun FB md 78 [srcA a o,srcA b n] (.bool (wrs o n)):=by
 unfold wrs
 refine fun_of rfl rfl ?_
 by_cases h1:o.f<n.f
 ·rw [decide_eq_true h1]
  repeat' (first
 | (conv=>whnf)
   first
   | (refine Br.decT ?_ ?_;(focus first | assumption | omega))
   | refine Get.mk _ rfl ?_
   | refine Leaves.of ?_
   | refine Vw.bool ?_
   | (refine Req.mk ?_ ?_;(focus first | rfl | decide | exact ⟨rfl,rfl⟩ | exact ⟨rfl,by decide⟩ | exact (fun _=>rfl) | exact (fun h=>nomatch h) | (simp;done) | omega | (simp [big];done) | exact le_big (by omega) | exact lt_big (by omega))))
  all_goals first | rfl | (exfalso;omega;done) | simp [h1]
 ·rw [decide_eq_false h1]
  by_cases h2:n.f=o.f
  ·rw [decide_eq_true h2]
   repeat' (first
 | (conv=>whnf)
   first
   | (refine Br.decT ?_ ?_;(focus first | assumption | omega))
   | (refine Br.decF ?_ ?_;(focus first | assumption | omega))
   | refine Get.mk _ rfl ?_
   | refine Leaves.of ?_
   | refine Vw.bool ?_
   | (refine Req.mk ?_ ?_;(focus first | rfl | decide | exact ⟨rfl,rfl⟩ | exact ⟨rfl,by decide⟩ | exact (fun _=>rfl) | exact (fun h=>nomatch h) | (simp;done) | omega | (simp [big];done) | exact le_big (by omega) | exact lt_big (by omega))))
   all_goals first | rfl | (exfalso;omega;done) | simp [h1,h2]
  ·rw [decide_eq_false h2]
   repeat' (first
 | (conv=>whnf)
   first
   | (refine Br.decF ?_ ?_;(focus first | assumption | omega))
   | refine Get.mk _ rfl ?_
   | refine Leaves.of ?_
   | refine Vw.bool ?_
   | (refine Req.mk ?_ ?_;(focus first | rfl | decide | exact ⟨rfl,rfl⟩ | exact ⟨rfl,by decide⟩ | exact (fun _=>rfl) | exact (fun h=>nomatch h) | (simp;done) | omega | (simp [big];done) | exact le_big (by omega) | exact lt_big (by omega))))
   all_goals first | rfl | (exfalso;omega;done) | simp [h1,h2]
set_option maxRecDepth 100000 in
set_option maxHeartbeats 20000000 in
theorem best77_ok {a b m:Int} {is:Bool} {o n:Src}:Fun FB md 77 [.bool is,.bf 78 (srcA a o),srcA b o,srcA m n] (if is && !wrs o n then srcA b o else srcA m n):=by
 have h:=worse_ok (a:=a) (b:=m) (o:=o) (n:=n)
 generalize wrs o n=w at *
 cases is
 all_goals cases w
 all_goals
  refine fun_of rfl rfl ?_
  repeat' (first
 | (conv=>whnf)
   first
   | refine Br.t ?_
   | refine Br.f ?_
   | refine call_bf ?_
   | refine call_fun rfl rfl h (.inl rfl) ?_
   | refine Get.mk _ rfl ?_
   | refine Leaves.of ?_
   | refine Vw.int ?_
   | refine Vw.agg ?_
   | refine VwL.cons ?_ ?_
   | refine VwL.nil
   | (refine Req.mk ?_ ?_;(focus first | rfl | decide | exact ⟨rfl,rfl⟩ | exact ⟨rfl,by decide⟩ | exact (fun _=>rfl) | exact (fun h=>nomatch h) | (simp;done) | omega | (simp [big];done) | exact le_big (by omega) | exact lt_big (by omega))))
  all_goals first | rfl | (exfalso;omega;done)
end Go.Dr.T
namespace Go.Dr.T
theorem hasInt {l:List V} (h:(Ty.int .i64).has l):∃ n:Int,l=[.int .i64 n]:=by
 simp only [Ty.has] at h
 obtain ⟨n,rfl,h1,h2⟩:=h
 exact ⟨n,rfl⟩
theorem hasStr {l:List V} (h:Ty.str.has l):∃ s,l=[.str s]:=by
 simpa only [Ty.has] using h
theorem int_val {v:V} (h:(Ty.int .i64).val v):∃ n,v = .int .i64 n:=by
 obtain ⟨n,e⟩:=hasInt (l:=[v]) h
 simp only [List.cons.injEq,and_true] at e
 exact ⟨n,e⟩
theorem two_has {x:List V} (h:(Ty.agg [.int .i64,.int .i64]).has x):∃ a b:Int,x=[.int .i64 a,.int .i64 b]:=by
 simp only [Ty.has,Ty.hasAll] at h
 obtain ⟨a,b,rfl,⟨n,rfl,_⟩,c,d,rfl,⟨m,rfl,_⟩,rfl⟩:=h
 exact ⟨n,m,rfl⟩
theorem pairs_cells:∀ {xs:List (List V)},(∀ x∈xs,x.length=2∧(Ty.agg [.int .i64,.int .i64]).has x)→∃ l:List (Int × Int),xs.flatten=shC l∧xs.length=l.length
 | [],_=>⟨[],rfl,rfl⟩
 | x :: xs,h=>by
  obtain ⟨l,h1,h2⟩:=pairs_cells (xs:=xs) fun y hy=>h y (by simp [hy])
  obtain ⟨_,hx⟩:=h x (by simp)
  obtain ⟨a,b,rfl⟩:=two_has hx
  exact ⟨(a,b) :: l,by simp only [List.flatten_cons,h1];rfl,by simp [h2]⟩
abbrev TyP:Ty:=.slice 2 (.agg [.int .i64,.int .i64])
theorem pairs_has {v:List V} (h:TyP.has v):∃ l:List (Int × Int),v=[.sl false l.length (shC l)]:=by
 rw [TyP,Ty.has] at h
 obtain ⟨xs,rfl,hx⟩:=h
 obtain ⟨l,h1,h2⟩:=pairs_cells (xs:=xs) hx
 exact ⟨l,by rw [h1,h2]⟩
theorem pairs_val {v:V} (h:TyP.val v):∃ l:List (Int × Int),v = .sl false l.length (shC l):=by
 obtain ⟨l,e⟩:=pairs_has (v:=[v]) h
 simp only [List.cons.injEq,and_true] at e
 exact ⟨l,e⟩
abbrev TyEl:Ty:=.agg [.str,TyP,.int .i64]
def elA (x:El):V:=.agg x.v
theorem el_all {l:List V} (h:Ty.hasAll [.str,TyP,.int .i64] l):∃ x:El,l=x.v:=by
 simp only [Ty.hasAll] at h
 obtain ⟨a,b,rfl,ha,c,d,rfl,hc,e,f,rfl,he,rfl⟩:=h
 obtain ⟨s,rfl⟩:=hasStr ha
 obtain ⟨l,rfl⟩:=pairs_has hc
 obtain ⟨n,rfl⟩:=hasInt he
 exact ⟨⟨s,false,l,n⟩,rfl⟩
theorem el_val {v:V} (h:TyEl.val v):∃ x:El,v=elA x:=by
 simp only [Ty.val] at h
 obtain ⟨l,rfl,h⟩:=h
 obtain ⟨x,rfl⟩:=el_all h
 exact ⟨x,rfl⟩
theorem els_cells:∀ {xs:List (List V)},(∀ x∈xs,x.length=3∧TyEl.has x)→∃ l:List El,xs.flatten=elC l∧xs.length=l.length
 | [],_=>⟨[],rfl,rfl⟩
 | x :: xs,h=>by
  obtain ⟨l,h1,h2⟩:=els_cells (xs:=xs) fun y hy=>h y (by simp [hy])
  obtain ⟨_,hx⟩:=h x (by simp)
  obtain ⟨y,rfl⟩:=el_all (by simpa only [Ty.has] using hx)
  exact ⟨y :: l,by simp only [List.flatten_cons,h1];rfl,by simp [h2]⟩
abbrev TyEls:Ty:=.slice 3 TyEl
theorem els_val {v:V} (h:TyEls.val v):∃ l:List El,v=elsV false l:=by
 rw [TyEls] at h
 simp only [Ty.val] at h
 rw [Ty.has] at h
 obtain ⟨xs,e,hx⟩:=h
 simp only [List.cons.injEq,and_true] at e
 subst e
 obtain ⟨l,h1,h2⟩:=els_cells (xs:=xs) hx
 exact ⟨l,by rw [h1,h2]⟩
theorem two_val {v:V} (h:(Ty.agg [TyEl,TyEl]).val v):∃ x y:El,v = .agg (x.v++y.v):=by
 simp only [Ty.val,Ty.hasAll] at h
 obtain ⟨l,rfl,a,b,rfl,ha,c,d,rfl,hc,rfl⟩:=h
 obtain ⟨x,rfl⟩:=el_all (by simpa only [Ty.has] using ha)
 obtain ⟨y,rfl⟩:=el_all (by simpa only [Ty.has] using hc)
 exact ⟨x,y,by rw [List.append_nil]⟩
end Go.Dr.T
