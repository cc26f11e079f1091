/- Chapter 06: the program's Version, walked. -/
import Derived.Test.YtfhphjloaelgoaaGreatDoorG15
import Derived.Test.YtfhphjloaelgoaaGreatDoorG6
namespace Go.Dr.T
theorem norm_stay {m:List Bool} {hl k:Nat} {st:St} {tm:List V} (e1:masked m st.tm=tm) (e2:st.h.length=hl+(k+1)) (c:blos (hl+k) tm=false):norm m hl st=⟨tm,st.h⟩:=by
 unfold norm trunc
 rw [e1,e2,Nat.add_sub_cancel_left]
 unfold strip
 simp only [c,Bool.false_and]
 rfl
theorem norm_d1 {m:List Bool} {hl k:Nat} {st:St} {tm:List V} {h1:List B} (e1:masked m st.tm=tm) (e2:st.h.length=hl+(k+2)) (a:st.h.take (hl+(k+1))=h1) (c3:blos (hl+(k+1)) tm=true) (d3:hbelow (hl+(k+1)) h1=true) (c:blos (hl+k) tm=false):norm m hl st=⟨tm,h1⟩:=by
 unfold norm trunc
 rw [e1,e2,Nat.add_sub_cancel_left]
 unfold strip
 simp only [a,c3,d3,Bool.and_self,if_true]
 unfold strip
 simp only [c,Bool.false_and]
 rfl
theorem norm_d2 {m:List Bool} {hl k:Nat} {st:St} {tm:List V} {h1 h2:List B} (e1:masked m st.tm=tm) (e2:st.h.length=hl+(k+3)) (a2:st.h.take (hl+(k+2))=h2) (a:h2.take (hl+(k+1))=h1) (c2:blos (hl+(k+2)) tm=true) (d2:hbelow (hl+(k+2)) h2=true) (c3:blos (hl+(k+1)) tm=true) (d3:hbelow (hl+(k+1)) h1=true) (c:blos (hl+k) tm=false):norm m hl st=⟨tm,h1⟩:=by
 unfold norm trunc
 rw [e1,e2,Nat.add_sub_cancel_left]
 unfold strip
 simp only [a2,c2,d2,Bool.and_self,if_true]
 unfold strip
 simp only [a,c3,d3,Bool.and_self,if_true]
 unfold strip
 simp only [c,Bool.false_and]
 rfl
abbrev MS:=List (Int × Src)
def srcP (p:Int × Src):V:=srcA p.1 p.2
def mpB (M:MS):B:=.mp (ofInts (M.map (·.1))) (M.map srcP)
structure MpOk (M:MS) (sr:Int→Option Src):Prop where
 nd:(M.map (·.1)).Nodup
 is:∀ m s,(m,s)∈M ↔ sr m=some s
theorem blos_src (n:Nat):∀ M:MS,blos n (M.map srcP)=true
 | []=>rfl
 | p :: M=>by
  have:=blos_src n M
  rw [List.map_cons,blos,this,Bool.and_true]
  rfl
theorem mpB_blo (n:Nat) (M:MS):(mpB M).blo n=true:=by
 simp only [mpB,B.blo,blos_ofInts,blos_src,Bool.and_self]
theorem MpOk.find {M:MS} {sr:Int→Option Src} (o:MpOk M sr) {m:Int} {s:Src} (h:sr m=some s):∃ j,M[j]?=some (m,s)∧mfind 0 (.int .i64 m) (ofInts (M.map (·.1))) 0=some (some j)∧tg (M.map srcP) j=srcA m s:=by
 have hm:m∈M.map (·.1):=List.mem_map.2 ⟨(m,s),(o.is m s).2 h,rfl⟩
 obtain ⟨j,j1,j2,j3⟩:=mfind_mem (i:=0) hm
 rw [Nat.zero_add] at j3
 rw [List.getElem?_map,Option.map_eq_some_iff] at j2
 obtain ⟨⟨x,t⟩,h1,h2⟩:=j2
 dsimp only at h2
 subst h2
 have:=(o.is x t).1 (List.mem_of_getElem? h1)
 rw [h,Option.some.injEq] at this
 subst this
 exact ⟨j,h1,j3,tg_eq (by rw [List.getElem?_map,h1];rfl)⟩
theorem MpOk.not {M:MS} {sr:Int→Option Src} (o:MpOk M sr) {m:Int} (h:sr m=none):mfind 0 (.int .i64 m) (ofInts (M.map (·.1))) 0=some none :=
 mfind_not fun hm=>by
  obtain ⟨⟨x,t⟩,h1,h2⟩:=List.mem_map.1 hm
  dsimp only at h2
  subst h2
  have:=(o.is x t).1 h1
  rw [h] at this
  cases this
theorem MpOk.add {M:MS} {sr sr' : Int→Option Src} (o:MpOk M sr) {m:Int} {s:Src} (h:sr m=none) (h' : ∀ x,sr' x=if x=m then some s else sr x):MpOk (M++[(m,s)]) sr' := by
 have hn:m ∉ M.map (·.1):=fun hm=>by
  obtain ⟨⟨x,t⟩,h1,h2⟩:=List.mem_map.1 hm
  dsimp only at h2
  subst h2
  have:=(o.is x t).1 h1
  rw [h] at this
  cases this
 refine ⟨by
  rw [List.map_append,List.nodup_append]
  exact ⟨o.nd,by simp,fun x hx y hy=>by
   simp at hy
   subst hy
   rintro rfl
   exact hn hx⟩,fun x t => ?_⟩
 rw [h', List.mem_append,o.is,List.mem_singleton,Prod.mk.injEq]
 by_cases e:x=m
 ·subst e
  rw [if_pos rfl,h]
  constructor
  ·rintro (h | ⟨_,h⟩)
   ·cases h
   ·rw [h]
  ·intro h
   cases h
   exact .inr ⟨rfl,rfl⟩
 ·rw [if_neg e]
  constructor
  ·rintro (h | ⟨h,_⟩)
   ·exact h
   ·exact absurd h e
  ·exact .inl
theorem MpOk.set {M:MS} {sr sr' : Int→Option Src} (o:MpOk M sr) {m:Int} {s t:Src} {j:Nat} (h:M[j]?=some (m,s)) (h' : ∀ x,sr' x=if x=m then some t else sr x):MpOk (M.set j (m,t)) sr' ∧ (M.set j (m,t)).map (·.1)=M.map (·.1):=by
 have hj:=(List.getElem?_eq_some_iff.1 h).1
 have hk:(M.set j (m,t)).map (·.1)=M.map (·.1):=by
  apply List.ext_getElem?
  intro i
  rw [List.getElem?_map,List.getElem?_map,List.getElem?_set]
  split
  ·rename_i e
   subst e
   rw [h]
   rfl
  ·rfl
 refine ⟨⟨by rw [hk];exact o.nd,fun x u => ?_⟩,hk⟩
 rw [h']
 have hlt:∀ (i:Nat) (v:Src),M[i]?=some (m,v)→i=j:=fun i v hi=>by
  have hil:=(List.getElem?_eq_some_iff.1 hi).1
  exact (List.getElem?_inj (i:=i) (j:=j) (by simpa using hil) o.nd).1 (by rw [List.getElem?_map,List.getElem?_map,hi,h];rfl)
 by_cases e:x=m
 ·subst e
  rw [if_pos rfl]
  constructor
  ·intro hm
   obtain ⟨i,hi⟩:=List.getElem?_of_mem hm
   rw [List.getElem?_set] at hi
   split at hi
   ·rename_i e2
    subst e2
    cases hi
    rfl
   ·rename_i e2
    exact absurd (hlt i u hi).symm e2
  ·intro hu
   cases hu
   exact List.mem_of_getElem? (i:=j) (by rw [List.getElem?_set_self hj])
 ·rw [if_neg e, ← o.is]
  constructor
  ·intro hm
   obtain ⟨i,hi⟩:=List.getElem?_of_mem hm
   rw [List.getElem?_set] at hi
   split at hi
   ·rename_i e2
    subst e2
    cases hi
    exact absurd rfl e
   ·exact List.mem_of_getElem? hi
  ·intro hm
   obtain ⟨i,hi⟩:=List.getElem?_of_mem hm
   refine List.mem_of_getElem? (i:=i) ?_
   rw [List.getElem?_set_ne (fun e2 => ?_),hi]
   subst e2
   rw [h] at hi
   cases hi
   exact e rfl
structure VRA where
 n:Nat
 M:MS
def pgV (G:List T3):V:=match G with
 | []=>.nilsl
 | _ :: _=>.ms 3 2 (G.length * 3) 0 G.length false
def pgH (mp:B) (G:List T3) (X:B):List B:=match G with
 | []=>[mp]
 | _ :: _=>[mp,X,.blk (trC G) true]
theorem pg_ne {G:List T3} (h:G≠[]) {mp X:B}:pgV G = .ms 3 2 (G.length * 3) 0 G.length false∧pgH mp G X=[mp,X,.blk (trC G) true]:=by
 cases G with
 | nil=>exact absurd rfl h
 | cons x l=>exact ⟨rfl,rfl⟩
theorem pgV_snoc {G:List T3} {t:T3}:pgV (G++[t]) = .ms 3 2 (G.length * 3+3) 0 (G.length+1) false:=by
 have:=(pg_ne (G:=G++[t]) (by simp) (mp:=.unborn) (X:=.unborn)).1
 rw [this,List.length_append,List.length_singleton,show (G.length+1) * 3=G.length * 3+3 by omega]
structure VRB where
 i:Nat
 X:B
set_option maxRecDepth 100000 in
set_option maxHeartbeats 20000000 in
theorem version_ok {c d:Bool} {l:List El} {s:List Int} (hsh:s.length≤9223372036854775807):FunF FB1 md 42 [elsV c l,.sl d s.length (ofInts s)] (verV l s):=by
 have hg:=gather_fun (c:=c) (l:=l) gatherV_view
 unfold gatherV at hg
 unfold verV
 by_cases hv:vldE l=0
 rotate_left
 ·rw [if_pos hv] at hg ⊢
  generalize vldE l=e at *
  refine funF_rn rfl rfl ?_
  repeat' (first
 | (conv=>whnf)
   first
   | (refine Br.decF ?_ ?_;(focus first | assumption | omega))
   | refine Br.not ?_
   | refine Rn.seq ?_
   | refine Rn.block ?_
   | refine Rn.cond ?_
   | refine Rn.reg ?_
   | refine Rn.skip ?_
   | refine Rn.ret ?_
   | refine call_fun rfl rfl hg (.inl rfl) ?_
   | refine Get.mk _ rfl ?_
   | refine LeavesF.of ?_
   | refine VwF.int ?_
   | refine VwF.nil
   | refine VwF.tup ?_
   | refine VwLF.cons ?_ ?_
   | refine VwLF.nil)
  all_goals first | rfl | (exfalso;omega;done)
 rw [if_neg (fun h=>h hv)] at hg ⊢
 have hc:=(scripted_ok (c:=d) hsh).tab sub1
 by_cases hs:scrE s=0
 rotate_left
 ·rw [if_pos hs]
  generalize scrE s=e at *
  refine funF_rn rfl rfl ?_
  repeat' (first
 | (conv=>whnf)
   first
   | refine Br.t ?_
   | (refine Br.decF ?_ ?_;(focus first | assumption | omega))
   | refine Br.not ?_
   | refine Rn.seq ?_
   | refine Rn.block ?_
   | refine Rn.cond ?_
   | refine Rn.reg ?_
   | refine Rn.ret ?_
   | refine call_fun rfl rfl hg (.inl rfl) ?_
   | refine call_fun rfl rfl hc (.inl rfl) ?_
   | refine Get.mk _ rfl ?_
   | refine LeavesF.of ?_
   | refine VwF.int ?_
   | refine VwF.nil
   | refine VwF.tup ?_
   | refine VwLF.cons ?_ ?_
   | refine VwLF.nil)
  all_goals first | rfl | (exfalso;omega;done)
 rw [if_neg (fun h=>h hs)]
 rw [hs] at hc
 obtain ⟨hl60,hrg,hnd⟩:=scr_ok hs
 have w:=wg_all hv
 have hwl:=w.len
 have hne:rndP l≠some []:=round_ne (fun k=>w.ne) _ _ (by simp)
 have hrn:=w.round
 rw [show roundP (fun k=>wayP (pAll l) k k k) mks=rndP l from rfl] at hrn
 have hrc:∀ {h:List B} {ro:Nat} {K:V→List B→Prop},K (bestV (rndP l)) h→CallP FB1 md ro (.fn 66 []) [gatV (pAll l)] h K:=fun hk=>round_call (w:=fun k=>wayP (pAll l) k k k) (by omega) (fun k _=>w.funs) (fun k=>w.ne) (by rw [show (pAll l).map (·.k)=keysOf (pAll l) from rfl,hrn];exact hk)
 have h8:=(vld_good hv).1
 have hel:=fun x (hx:x∈l)=>vld_el hv hx
 have hsr:∀ m,SrOk (srcAll m l l.length):=fun m=>srcAll_ok hv _ (Nat.le_refl _)
 clear hrn w
 generalize pAll l=D at *
 generalize rndP l=r at *
 cases r with
 | some p =>
  have hpl:0<p.length:=List.length_pos_iff.2 fun e=>hne (by rw [e])
  dsimp only [bestV] at hrc ⊢
  obtain ⟨y,r,rfl⟩:∃ y r,p=y :: r:=by
   cases p with
   | nil=>simp at hpl
   | cons y r=>exact ⟨y,r,rfl⟩
  refine funF_rn rfl rfl ?_
  repeat' (first
 | (conv=>whnf)
   first
   | refine Br.t ?_
   | refine Br.f ?_
   | refine Rn.seq ?_
   | refine Rn.block ?_
   | refine Rn.cond ?_
   | refine Rn.reg ?_
   | refine Rn.ret ?_
   | refine call_fun rfl rfl hg (.inl rfl) ?_
   | refine call_fun rfl rfl hc (.inl rfl) ?_
   | refine hrc ?_
   | refine Get.mk _ rfl ?_
   | refine LeavesF.of ?_
   | refine VwF.int ?_
   | refine VwF.nil
   | refine VwF.tup ?_
   | refine VwLF.cons ?_ ?_
   | refine VwLF.nil)
  all_goals first | rfl | (exfalso;omega;done)
 | none =>
 dsimp only [bestV] at hrc ⊢
 refine funF_rn rfl rfl ?_
 repeat' (first
 | (conv=>whnf)
   first
   | refine Br.t ?_
   | refine Br.f ?_
   | refine Rn.seq ?_
   | refine Rn.block ?_
   | refine Rn.cond ?_
   | refine Rn.reg ?_
   | refine Rn.skip ?_
   | refine call_fun rfl rfl hg (.inl rfl) ?_
   | refine call_fun rfl rfl hc (.inl rfl) ?_
   | refine hrc ?_
   | refine Get.mk _ rfl ?_)
 all_goals try (exfalso;omega;done)
 refine Rn.loop (fun a:VRA=>a.n≤l.length∧MpOk a.M (fun m=>srcAll m l a.n)) (fun a=>[(39,.int .i64 (a.n:Nat))]) (fun a=>[mpB a.M]) (fun a=>l.length - a.n) ⟨0,[]⟩ ⟨Nat.zero_le _,.nil,fun m s=>by simp [srcAll]⟩ rfl ?_
 rintro ⟨i,M⟩ ⟨w1,mo⟩
 dsimp only at w1 mo ⊢
 by_cases hi:i<l.length
 ·obtain ⟨x,hx⟩:∃ x,l[i]?=some x:=⟨_,List.getElem?_eq_getElem hi⟩
  have gx:=elC_part hx
  have hxl:=hel x (List.mem_of_getElem? hx)
  have hup:(fun m=>srcAll m l (i+1))=fun m=>srcEl m i x (srcAll m l i) x.l.length:=by
   funext m
   rw [srcAll,hx]
  repeat' (first
 | (conv=>whnf)
   first
   | (refine Br.decT ?_ ?_;(focus first | assumption | omega))
   | refine Rn.seq ?_
   | refine Rn.block ?_
   | refine Rn.cond ?_
   | refine Rn.reg ?_
   | refine Rn.skip ?_
   | refine Get.mk _ gx ?_
   | (refine Idx.nat ?_ ?_;(focus omega))
   | refine Get.mk _ rfl ?_
   | (refine Req.mk ?_ ?_;(focus first | rfl | decide | exact ⟨rfl,rfl⟩ | exact ⟨rfl,by decide⟩ | exact (fun _=>rfl) | exact (fun h=>nomatch h) | (simp;done) | omega | (simp [big];done) | exact le_big (by omega) | exact lt_big (by omega))))
  all_goals try (exfalso;omega;done)
  refine Rn.loop (fun a:VRA=>a.n≤x.l.length∧MpOk a.M (fun m=>srcEl m i x (srcAll m l i) a.n)) (fun a=>[(47,.int .i64 (a.n:Nat))]) (fun a=>[mpB a.M,.blk [.str x.nm,.sl x.c x.l.length (shC x.l),.int .i64 x.g] false]) (fun a=>x.l.length - a.n) ⟨0,M⟩ ⟨Nat.zero_le _,mo⟩ rfl ?_
  rintro ⟨n,M2⟩ ⟨y1,mo2⟩
  dsimp only at y1 mo2 ⊢
  by_cases hn:n<x.l.length
  ·obtain ⟨p,hp⟩:∃ p,x.l[n]?=some p:=⟨_,List.getElem?_eq_getElem hn⟩
   have gp:=shC_part hp
   have hun:∀ m,srcEl m i x (srcAll m l i) (n+1)=if m=p.1 then srU (srcEl m i x (srcAll m l i) n) ⟨i,n,p.2,x.g⟩ else srcEl m i x (srcAll m l i) n:=fun m=>by
    rw [srcEl,hp]
    dsimp only
    by_cases e:p.1=m
    ·rw [if_pos e,if_pos e.symm]
    ·rw [if_neg e,if_neg (fun h=>e h.symm)]
   have hbl:∀ (M' : MS) (b2:B),b2.blo 3=true→hbelow 3 [mpB M', .blk [.str x.nm,.sl x.c x.l.length (shC x.l),.int .i64 x.g] false,b2]=true:=fun M' b2 h=>by
    simp only [hbelow,mpB_blo,h]
    rfl
   have hbl2:∀ (M' : MS),hbelow 2 [mpB M', .blk [.str x.nm,.sl x.c x.l.length (shC x.l),.int .i64 x.g] false]=true:=fun M' => by
    simp only [hbelow,mpB_blo]
    rfl
   cases ho:srcEl p.1 i x (srcAll p.1 l i) n with
   | none =>
    have hmn:=mo2.not (m:=p.1) ho
    have h77:=(best77_ok (a:=0) (b:=0) (m:=p.1) (is:=false) (o:=⟨0,0,0,0⟩) (n:=⟨i,n,p.2,x.g⟩)).tab sub1
    rw [Bool.false_and,if_neg (by simp)] at h77
    have k1:ofInts (M2.map (·.1))++[V.int .i64 p.1]=ofInts ((M2++[(p.1,(⟨i,n,p.2,x.g⟩:Src))]).map (·.1)):=by simp [ofInts]
    have k2:M2.map srcP++[srcA p.1 ⟨i,n,p.2,x.g⟩]=(M2++[(p.1,(⟨i,n,p.2,x.g⟩:Src))]).map srcP:=by rw [List.map_append];rfl
    have mo3:=mo2.add (sr' := fun m=>srcEl m i x (srcAll m l i) (n+1)) ho (fun m=>by
     rw [hun]
     split
     ·rename_i e
      rw [e,ho]
      rfl
     ·rfl)
    repeat' (first
 | (conv=>whnf)
   first
   | (refine Br.decT ?_ ?_;(focus first | assumption | omega))
   | (refine Bnd.i64 ?_ ?_ ?_;(focus omega);(focus omega))
   | refine Rn.seq ?_
   | refine Rn.block ?_
   | refine Rn.cond ?_
   | refine Rn.reg ?_
   | refine Rn.skip ?_
   | refine Get.mk _ gp ?_
   | refine call_fun rfl rfl h77 (.inl rfl) ?_
   | refine Get.mk _ hmn ?_
   | refine fVf k1 ?_
   | refine fVf k2 ?_
   | (refine Idx.nat ?_ ?_;(focus omega))
   | refine Get.mk _ rfl ?_
   | (refine Req.mk ?_ ?_;(focus first | rfl | decide | exact ⟨rfl,rfl⟩ | exact ⟨rfl,by decide⟩ | exact (fun _=>rfl) | exact (fun h=>nomatch h) | (simp;done) | omega | (simp [big];done) | exact le_big (by omega) | exact lt_big (by omega))))
    all_goals try (exfalso;omega;done)
    all_goals exact NextP.mk ⟨n+1,M2++[(p.1,⟨i,n,p.2,x.g⟩)]⟩ ⟨hn,mo3⟩ (by (try dsimp only);omega) (norm_two rfl rfl rfl rfl rfl rfl (hbl _ _ rfl) (hbl2 _))
   | some o =>
    obtain ⟨j,hj,hmf,htg⟩:=mo2.find (m:=p.1) ho
    have h77:=(best77_ok (a:=p.1) (b:=p.1) (m:=p.1) (is:=true) (o:=o) (n:=⟨i,n,p.2,x.g⟩)).tab sub1
    have e77:(if true && !wrs o ⟨i,n,p.2,x.g⟩ then srcA p.1 o else srcA p.1 ⟨i,n,p.2,x.g⟩)=srcA p.1 (if wrs o ⟨i,n,p.2,x.g⟩ then ⟨i,n,p.2,x.g⟩ else o):=by cases wrs o ⟨i,n,p.2,x.g⟩ <;> rfl
    rw [e77] at h77
    have hsu:srU (some o) ⟨i,n,p.2,x.g⟩=some (if wrs o ⟨i,n,p.2,x.g⟩ then ⟨i,n,p.2,x.g⟩ else o):=by
     unfold srU
     dsimp only
     split <;> rfl
    generalize (if wrs o ⟨i,n,p.2,x.g⟩ then (⟨i,n,p.2,x.g⟩:Src) else o)=t at *
    obtain ⟨mo3,hkk⟩:=mo2.set (sr' := fun m=>srcEl m i x (srcAll m l i) (n+1)) (t:=t) hj (fun m=>by
     rw [hun]
     split
     ·rename_i e
      rw [e,ho,hsu]
     ·rfl)
    have k1:tset (M2.map srcP) j (srcA p.1 t)=(M2.set j (p.1,t)).map srcP:=by rw [tset_list,List.map_set];rfl
    have hmm:B.mp (ofInts (M2.map (·.1))) ((M2.set j (p.1,t)).map srcP)=mpB (M2.set j (p.1,t)):=by rw [mpB,hkk]
    repeat' (first
 | (conv=>whnf)
   first
   | (refine Br.decT ?_ ?_;(focus first | assumption | omega))
   | (refine Bnd.i64 ?_ ?_ ?_;(focus omega);(focus omega))
   | refine Rn.seq ?_
   | refine Rn.block ?_
   | refine Rn.cond ?_
   | refine Rn.reg ?_
   | refine Rn.skip ?_
   | refine Get.mk _ gp ?_
   | refine call_fun rfl rfl h77 (.inl rfl) ?_
   | (refine Get.mk _ hmf ?_;refine fWe htg ?_)
   | refine Get.mk _ hmf ?_
   | refine fVf k1 ?_
   | (refine Idx.nat ?_ ?_;(focus omega))
   | refine Get.mk _ rfl ?_
   | (refine Req.mk ?_ ?_;(focus first | rfl | decide | exact ⟨rfl,rfl⟩ | exact ⟨rfl,by decide⟩ | exact (fun _=>rfl) | exact (fun h=>nomatch h) | (simp;done) | omega | (simp [big];done) | exact le_big (by omega) | exact lt_big (by omega))))
    all_goals try (exfalso;omega;done)
    all_goals rw [hmm]
    all_goals exact NextP.mk ⟨n+1,M2.set j (p.1,t)⟩ ⟨hn,mo3⟩ (by (try dsimp only);omega) (norm_two rfl rfl rfl rfl rfl rfl (hbl _ _ rfl) (hbl2 _))
  ·have hne2:n=x.l.length:=by omega
   subst hne2
   rw [← hup] at mo2
   repeat' (first
 | (conv=>whnf)
   first
   | (refine Br.decF ?_ ?_;(focus first | assumption | omega))
   | (refine Bnd.i64 ?_ ?_ ?_;(focus omega);(focus omega))
   | refine Rn.seq ?_
   | refine Rn.cond ?_
   | refine Rn.reg ?_
   | refine Rn.exit ?_)
   all_goals first | (exfalso;omega;done) | exact NextP.mk ⟨i+1,M2⟩ ⟨hi,mo2⟩ (by (try dsimp only);omega) (norm_one' rfl rfl rfl rfl (by simp only [hbelow,mpB_blo];rfl))
 have hie:i=l.length:=by omega
 subst hie
 generalize hsre:(fun m=>srcAll m l l.length)=sr at *
 have hsr:∀ m,SrOk (sr m):=fun m=>by rw [← hsre];exact hsr m
 repeat' (first
 | (conv=>whnf)
   first
   | (refine Br.decF ?_ ?_;(focus first | assumption | omega))
   | refine Rn.seq ?_
   | refine Rn.block ?_
   | refine Rn.cond ?_
   | refine Rn.reg ?_
   | refine Rn.exit ?_)
 all_goals try (exfalso;omega;done)
 refine Rn.loop (fun a:VRB=>a.i≤s.length∧∀ n,a.X.blo n=true) (fun a=>[(4,pgV (verF sr (s.take a.i)).1),(5,.int .i64 (verF sr (s.take a.i)).2),(81,.int .i64 (a.i:Nat))]) (fun a=>pgH (mpB M) (verF sr (s.take a.i)).1 a.X) (fun a=>s.length - a.i) ⟨0,.unborn⟩ ⟨Nat.zero_le _,fun n=>rfl⟩ rfl ?_
 rintro ⟨i,X⟩ ⟨w1,hX⟩
 dsimp only at w1 hX ⊢
 obtain ⟨b1,b2,b3⟩:=verF_bd hsr (s:=s) i w1
 by_cases hi:i<s.length
 rotate_left
 ·rw [List.take_of_length_le (by omega)] at b1 b2 b3 ⊢
  generalize verF sr s=st at *
  obtain ⟨G,sum⟩:=st
  dsimp only at *
  by_cases hG:G=[]
  ·subst hG
   dsimp only [pgV,pgH]
   repeat' (first
 | (conv=>whnf)
   first
   | (refine Br.decF ?_ ?_;(focus first | assumption | omega))
   | refine Rn.seq ?_
   | refine Rn.cond ?_
   | refine Rn.reg ?_
   | refine Rn.exit ?_
   | refine Rn.ret ?_
   | refine Get.mk _ rfl ?_
   | refine LeavesF.of ?_
   | refine VwF.int ?_
   | refine VwF.nil
   | refine VwF.tup ?_
   | refine VwLF.cons ?_ ?_
   | refine VwLF.nil)
   all_goals first | rfl | (exfalso;omega;done)
  ·obtain ⟨e1,e2⟩:=pg_ne hG (mp:=mpB M) (X:=X)
   rw [e1,e2,gapV_ne hG]
   have hvw:VwF [mpB M,X,B.blk (trC G) true] 63 (.ms 3 2 (G.length * 3) 0 G.length false) (.sl false G.length (trC G)):=VwF.ms (d:=62) rfl (trC_len G) (part_all (trC_len G)) (VwLF.trC G)
   repeat' (first
 | (conv=>whnf)
   first
   | refine hvw
   | (refine Br.decF ?_ ?_;(focus first | assumption | omega))
   | refine Rn.seq ?_
   | refine Rn.cond ?_
   | refine Rn.reg ?_
   | refine Rn.exit ?_
   | refine Rn.ret ?_
   | refine Get.mk _ rfl ?_
   | refine LeavesF.of ?_
   | refine VwF.int ?_
   | refine VwF.tup ?_
   | refine VwLF.cons ?_ ?_
   | refine VwLF.nil)
   all_goals first | rfl | (exfalso;omega;done)
 obtain ⟨m,hm,gi⟩:=ofInts_cell hi
 have hsn:=verF_snoc (sr:=sr) hm
 have hok:=hsr m
 have hb1:hbelow 1 [mpB M]=true:=by simp only [hbelow,mpB_blo];rfl
 have hb3:∀ G:List T3,hbelow 3 [mpB M,X,.blk (trC G) true]=true:=fun G=>by simp only [hbelow,mpB_blo,hX];rfl
 generalize verF sr (s.take i)=st at *
 obtain ⟨G,sum⟩:=st
 unfold verS at hsn
 dsimp only at hsn b1 b2 b3 ⊢
 cases ho:sr m with
 | none =>
  rw [ho] at hsn
  dsimp only at hsn
  have hmn:=mo.not (m:=m) ho
  by_cases hG:G=[]
  ·subst hG
   dsimp only [pgV,pgH]
   repeat' (first
 | (conv=>whnf)
   first
   | refine Br.f ?_
   | (refine Br.decT ?_ ?_;(focus first | assumption | omega))
   | (refine Bnd.i64 ?_ ?_ ?_;(focus omega);(focus omega))
   | refine Rn.seq ?_
   | refine Rn.block ?_
   | refine Rn.cond ?_
   | refine Rn.reg ?_
   | refine Rn.skip ?_
   | refine Get.mk _ gi ?_
   | refine Get.mk _ hmn ?_
   | (refine Idx.nat ?_ ?_;(focus omega))
   | refine Get.mk _ rfl ?_
   | (refine Req.mk ?_ ?_;(focus first | rfl | decide | exact ⟨rfl,rfl⟩ | exact ⟨rfl,by decide⟩ | exact (fun _=>rfl) | exact (fun h=>nomatch h) | (simp;done) | omega | (simp [big];done) | exact le_big (by omega) | exact lt_big (by omega))))
   all_goals first | (exfalso;omega;done) | exact NextP.mk ⟨i+1,X⟩ ⟨hi,hX⟩ (by (try dsimp only);omega) (by rw [hsn];exact norm_one' rfl rfl rfl rfl hb1)
  ·obtain ⟨e1,e2⟩:=pg_ne hG (mp:=mpB M) (X:=X)
   rw [e1,e2]
   repeat' (first
 | (conv=>whnf)
   first
   | refine Br.f ?_
   | (refine Br.decT ?_ ?_;(focus first | assumption | omega))
   | (refine Bnd.i64 ?_ ?_ ?_;(focus omega);(focus omega))
   | refine Rn.seq ?_
   | refine Rn.block ?_
   | refine Rn.cond ?_
   | refine Rn.reg ?_
   | refine Rn.skip ?_
   | refine Get.mk _ gi ?_
   | refine Get.mk _ hmn ?_
   | (refine Idx.nat ?_ ?_;(focus omega))
   | refine Get.mk _ rfl ?_
   | (refine Req.mk ?_ ?_;(focus first | rfl | decide | exact ⟨rfl,rfl⟩ | exact ⟨rfl,by decide⟩ | exact (fun _=>rfl) | exact (fun h=>nomatch h) | (simp;done) | omega | (simp [big];done) | exact le_big (by omega) | exact lt_big (by omega))))
   all_goals first | (exfalso;omega;done) | exact NextP.mk ⟨i+1,X⟩ ⟨hi,hX⟩ (by (try dsimp only);omega) (by rw [hsn];dsimp only;rw [e1,e2];exact norm_d1 (k:=1) rfl rfl rfl rfl (hb3 _) rfl)
 | some o =>
  rw [ho] at hsn hok
  dsimp only at hsn
  have hof:=hok o rfl
  obtain ⟨j,hj,hmf,htg⟩:=mo.find (m:=m) ho
  have hwr:IntKind.i64.wrap (sum+o.f)=sum+o.f:=wrap_i64 (by omega) (by omega)
  by_cases hG:G=[]
  ·subst hG
   dsimp only [pgV,pgH]
   repeat' (first
 | (conv=>whnf)
   first
   | refine Bnd.eq hwr ?_
   | refine Br.t ?_
   | (refine Br.decT ?_ ?_;(focus first | assumption | omega))
   | (refine Bnd.i64 ?_ ?_ ?_;(focus omega);(focus omega))
   | refine Rn.seq ?_
   | refine Rn.block ?_
   | refine Rn.cond ?_
   | refine Rn.reg ?_
   | refine Rn.skip ?_
   | refine Get.mk _ gi ?_
   | (refine Get.mk _ hmf ?_;refine fWe htg ?_)
   | (refine Idx.nat ?_ ?_;(focus omega))
   | (refine Ifz.pos ?_ ?_;(focus omega))
   | refine Get.mk _ rfl ?_
   | (refine Req.mk ?_ ?_;(focus first | rfl | decide | exact ⟨rfl,rfl⟩ | exact ⟨rfl,by decide⟩ | exact (fun _=>rfl) | exact (fun h=>nomatch h) | (simp;done) | omega | (simp [big];done) | exact le_big (by omega) | exact lt_big (by omega))))
   all_goals try (exfalso;omega;done)
   all_goals exact NextP.mk ⟨i+1,.blk [.int .i64 m,.int .i64 (o.e:Nat),.int .i64 (o.k:Nat),.int .i64 o.f,.int .i64 o.g] false⟩ ⟨hi,fun n=>rfl⟩ (by (try dsimp only);omega) (by rw [hsn];exact norm_stay (k:=1) rfl rfl rfl)
  ·obtain ⟨e1,e2⟩:=pg_ne hG (mp:=mpB M) (X:=X)
   have e3:=(pg_ne (G:=G++[(m,((o.e:Nat):Int),((o.k:Nat):Int))]) (by simp) (mp:=mpB M) (X:=X)).2
   rw [← trC_snoc] at e3
   rw [e1,e2]
   have hlc:=trC_len G
   have hap:0+G.length * 3=G.length * 3∧((trC G).length+[V.int .i64 m,.int .i64 (o.e:Nat),.int .i64 (o.k:Nat)].length) * (24+1)<big:=⟨by omega,by rw [hlc];exact lt_big (by simp;omega)⟩
   have hb3' : hbelow 3 [mpB M,X,.blk (trC G++[V.int .i64 m,.int .i64 (o.e:Nat),.int .i64 (o.k:Nat)]) true]=true:=by simp only [hbelow,mpB_blo,hX];rfl
   have hb4:hbelow 4 [mpB M,X,.blk (trC G++[V.int .i64 m,.int .i64 (o.e:Nat),.int .i64 (o.k:Nat)]) true,.blk [.int .i64 m,.int .i64 (o.e:Nat),.int .i64 (o.k:Nat),.int .i64 o.f,.int .i64 o.g] false]=true:=by simp only [hbelow,mpB_blo,hX];rfl
   repeat' (first
 | (conv=>whnf)
   first
   | refine Bnd.eq hwr ?_
   | refine Br.t ?_
   | (refine Br.decT ?_ ?_;(focus first | assumption | omega))
   | (refine Bnd.i64 ?_ ?_ ?_;(focus omega);(focus omega))
   | refine Rn.seq ?_
   | refine Rn.block ?_
   | refine Rn.cond ?_
   | refine Rn.reg ?_
   | refine Rn.skip ?_
   | refine Get.mk _ gi ?_
   | (refine Get.mk _ hmf ?_;refine fWe htg ?_)
   | refine Req.mk hlc ?_
   | refine Req.mk hap ?_
   | (refine Idx.nat ?_ ?_;(focus omega))
   | (refine Ifz.pos ?_ ?_;(focus omega))
   | refine Get.mk _ rfl ?_
   | (refine Req.mk ?_ ?_;(focus first | rfl | decide | exact ⟨rfl,rfl⟩ | exact ⟨rfl,by decide⟩ | exact (fun _=>rfl) | exact (fun h=>nomatch h) | (simp;done) | omega | (simp [big];done) | exact le_big (by omega) | exact lt_big (by omega))))
   all_goals try (exfalso;omega;done)
   all_goals exact NextP.mk ⟨i+1,X⟩ ⟨hi,hX⟩ (by (try dsimp only);omega) (by rw [hsn];dsimp only;rw [pgV_snoc,e3];exact norm_d2 (k:=1) rfl rfl rfl rfl rfl hb4 rfl hb3' rfl)
end Go.Dr.T
