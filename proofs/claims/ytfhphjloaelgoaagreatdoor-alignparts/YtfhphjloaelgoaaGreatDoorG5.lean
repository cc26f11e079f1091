/- Chapter 06: open: the pair of two elements. -/
import Derived.Test.YtfhphjloaelgoaaGreatDoorG4
import Derived.Test.YtfhphjloaelgoaaGreatDoorG3
namespace Go.Dr.T
def zP:List V:=[.nilsl,.nilsl]++List.replicate 1682 (.int .i64 0)
def c53z:Fc:=⟨30,3,[.tmp 6,.tmp 7],.seq (.reg false 2 [⟨some 3,none,0,.bx 0 (.t 0)⟩,⟨some 4,none,0,.bx 1 (.t 1)⟩,⟨some 6,none,0,.mv (.c .nilp)⟩,⟨some 7,none,4,.mv (.c (.int .i64 0))⟩]) (.seq (.seq (.reg false 1 [⟨some 10,none,0,.ld true 3 (.t 3)⟩,⟨some 11,none,0,.ld true 3 (.t 4)⟩,⟨some 12,none,3,.bl 0 3 2 [.str [],.nilsl,.int .i64 0] [(0,3,.t 10),(3,3,.t 11)]⟩,⟨some 13,none,7,.call (.c (.fn 89 [])) [.t 12]⟩,⟨some 8,none,15,.mv (.t 13)⟩]) (.seq (.reg false 0 [⟨some 14,none,0,.mv (.t 8)⟩,⟨some 15,none,1,.bo .neq (.t 14) (.c (.int .i64 0))⟩]) (.cond (.t 15) (.seq (.reg false 0 [⟨some 16,none,0,.mv (.t 8)⟩,⟨some 6,none,0,.mv (.c .nilp)⟩,⟨some 7,none,3,.mv (.t 16)⟩]) .ret) .skip))) (.seq (.seq (.reg false 0 [⟨some 17,none,0,.mv (.t 2)⟩,⟨some 18,none,1,.call (.c (.fn 50 [])) [.t 17,.c (.int .i64 0),.c (.int .i64 200000)]⟩]) (.cond (.t 18) (.seq (.reg false 0 [⟨some 6,none,0,.mv (.c .nilp)⟩,⟨some 7,none,1,.mv (.c (.int .i64 7))⟩]) .ret) .skip)) (.seq (.reg false 1 [⟨some 19,none,0,.fa 1 (.t 3)⟩,⟨some 20,none,1,.ld false 1 (.t 19)⟩,⟨some 21,none,0,.fa 1 (.t 4)⟩,⟨some 22,none,4,.ld false 1 (.t 21)⟩,⟨some 23,none,0,.mv (.t 2)⟩,⟨some 24,none,31,.bd zP [(0,1,.t 20),(1,1,.t 22),(2,1,.t 23)]⟩,⟨some 25,none,63,.bx 0 (.t 24)⟩,⟨some 9,none,127,.mv (.t 25)⟩]) (.seq (.reg false 0 [⟨some 26,none,0,.mv (.t 9)⟩,⟨some 27,none,0,.bd [.int .i64 0,.int .i64 0] [(0,1,.c (.int .i64 (-1)))]⟩,⟨some 28,none,3,.call (.c (.fn 80 [])) [.t 26,.t 27]⟩]) (.seq (.reg false 0 [⟨some 29,none,0,.mv (.t 9)⟩,⟨some 6,none,1,.mv (.t 29)⟩,⟨some 7,none,3,.mv (.c (.int .i64 0))⟩]) .ret))))),none⟩
theorem c53_eq:FB 53=some c53z:=rfl
def El.sh (x:El):Sh:=⟨x.c,x.l⟩
def zT:Nat→Nat→Int:=fun _ _=>0
theorem tb_zero:ofInts (tb zT)=List.replicate 1681 (.int .i64 0):=by
 have key:∀ (n:Nat) (c:V),(List.range n).map (fun _=>c)=List.replicate n c:=fun n c=>by rw [List.map_const'];simp
 unfold tb zT ofInts
 rw [List.map_map]
 exact key 1681 _
theorem fills_zP {tm:List V} {a b:Sh} {s:Int} (h1:(O.t 20).ev tm=a.v) (h2:(O.t 22).ev tm=b.v) (h3:(O.t 23).ev tm = .int .i64 s):fills tm zP [(0,1,.t 20),(1,1,.t 22),(2,1,.t 23)]=some (pC a b s zT):=by
 have e:zP = .nilsl :: .nilsl :: .int .i64 0 :: ofInts (tb zT):=by rw [tb_zero];rfl
 rw [e,pC_eq]
 have hl:(ofInts (tb zT)).length=1681:=by simp [ofInts,tb_len]
 generalize ofInts (tb zT)=T at *
 unfold Sh.v at *
 simp only [fills,h1,h2,h3,V.cells,over,List.length_cons,List.length_nil,hl]
 rfl
attribute [irreducible] zP
theorem fC.mk {l:List V} {K:List V→Prop} (h:K l):fC l K:=fC_eq.2 h
theorem fLv.pC {a b:Sh} {s:Int} {f:Nat→Nat→Int} {K:Nat→Prop} (h:K 1684):fLv (pC a b s f) 0 K:=fLv_eq.2 (by rw [pC_len];exact h)
theorem pC_ones {a b:Sh} {s:Int} {f:Nat→Nat→Int}:ones (pC a b s f)=true:=by
 rw [pC_eq]
 have key:∀ l:List Int,ones (ofInts l)=true:=by
  intro l
  induction l with
  | nil=>rfl
  | cons x l ih=>simp only [ofInts,List.map_cons,ones,Bool.and_eq_true] at ih ⊢; exact ⟨rfl,ih⟩
 simp only [ones,Bool.and_eq_true]
 exact ⟨rfl,rfl,rfl,key _⟩
def openT (x y:El) (s:Int):Nat→Nat→Int:=mixT zT (wT x.l y.l s (-1) 0) x.l.length y.l.length 0 y.l.length
def openE (x y:El) (s:Int):Int:=if ckd [x,y]≠0 then ckd [x,y] else if outB s 0 200000 then 7 else 0
def openV (x y:El) (s:Int):V:=if openE x y s≠0 then .tup [.nilp,.int .i64 (openE x y s)] else .tup [.rp (pC x.sh y.sh s (openT x y s)) 0,.int .i64 0]
theorem shOk_of {x:El} (h:x.e=0):shOk x.l:=by
 obtain ⟨_,_,_,h1,h2⟩:=ck_good h
 refine ⟨h1,fun p hp => ?_⟩
 obtain ⟨i,hi⟩:=List.getElem?_of_mem hp
 obtain ⟨a,b,c,d,_⟩:=h2 i p hi
 exact ⟨a,b,c,d⟩
theorem open_good {x y:El} {s:Int} (h:openE x y s=0):shOk x.l∧shOk y.l∧0≤s∧s≤200000:=by
 unfold openE at h
 split at h
 ·rename_i h1;exact absurd h h1
 ·rename_i h1
  have h1:ckd [x,y]=0:=Classical.not_not.1 h1
  split at h
  ·cases h
  ·rename_i h2
   simp only [outB,Bool.or_eq_true,decide_eq_true_eq,not_or] at h2
   exact ⟨shOk_of (ckd_good h1 x (by simp)),shOk_of (ckd_good h1 y (by simp)),by omega,by omega⟩
theorem wG_bxP {base d k n:Nat} {tm:List V} {h:List B} {a b:Sh} {s:Int} {f:Nat→Nat→Int} {K:List V→List B→Fp→Prop} (hv:(O.t n).ev tm = .agg (pC a b s f)) (hb:bget h (base+k)=some .unborn)
  (hk:fB (bset h (base+k) (.blk (pC a b s f) false)) fun h' => fV (tset tm d (.ref (base+k) 1684 0)) fun tm' => K tm' h' (fpS md base tm (.bx k (.t n)))):wG FB md 0 base tm h (some d) none (.bx k (.t n)) K:=by
 show fC ((O.t n).ev tm).cells _
 rw [hv]
 refine fC.mk ?_
 refine fLv.pC ?_
 refine Req.mk pC_ones ?_
 refine ⟨_,hb,?_⟩
 exact hk
def elA' (x:El):V:=.agg x.v
set_option maxRecDepth 100000 in
set_option maxHeartbeats 20000000 in
theorem open_ok {x y:El} {s:Int}:Fun FB md 53 [elA' x,elA' y,.int .i64 s] (openV x y s):=by
 have hck:=checked_ok (c:=true) (l:=[x,y]) (by simp)
 have hou:=out_ok (n:=s) (lo:=0) (hi:=200000)
 unfold openV
 by_cases he:ckd [x,y]=0
 rotate_left
 ·have e1:openE x y s=ckd [x,y]:=by unfold openE;rw [if_pos he]
  rw [e1,if_pos he]
  generalize ckd [x,y]=e at *
  refine fun_of c53_eq rfl ?_
  repeat' (first
 | (conv=>whnf)
   first
   | (refine Br.decF ?_ ?_;(focus first | assumption | omega))
   | refine Br.not ?_
   | refine call_fun rfl rfl hck (.inl rfl) ?_
   | refine Get.mk _ rfl ?_
   | refine Leaves.of ?_
   | refine Vw.int ?_
   | refine Vw.tup ?_
   | refine VwL.cons ?_ ?_
   | refine VwL.nil
   | (refine Req.mk ?_ ?_;(focus first | rfl | decide | exact ⟨rfl,rfl⟩ | exact ⟨rfl,by decide⟩ | exact (fun _=>rfl) | exact (fun h=>nomatch h) | (simp;done) | omega | (simp [big];done) | exact le_big (by omega) | exact lt_big (by omega))))
  all_goals first | rfl | exact ⟨rfl⟩ | (exfalso;omega)
 rw [he] at hck
 cases hs:outB s 0 200000 with
 | true =>
  have e1:openE x y s=7:=by unfold openE;rw [if_neg (fun h=>h he),hs];rfl
  rw [hs] at hou
  rw [e1,if_pos (by decide)]
  refine fun_of c53_eq rfl ?_
  repeat' (first
 | (conv=>whnf)
   first
   | refine Br.t ?_
   | refine Br.f ?_
   | refine call_fun rfl rfl hck (.inl rfl) ?_
   | refine call_fun rfl rfl hou (.inl rfl) ?_
   | refine Get.mk _ rfl ?_
   | refine Leaves.of ?_
   | refine Vw.int ?_
   | refine Vw.tup ?_
   | refine VwL.cons ?_ ?_
   | refine VwL.nil
   | (refine Req.mk ?_ ?_;(focus first | rfl | decide | exact ⟨rfl,rfl⟩ | exact ⟨rfl,by decide⟩ | exact (fun _=>rfl) | exact (fun h=>nomatch h) | (simp;done) | omega | (simp [big];done) | exact le_big (by omega) | exact lt_big (by omega))))
  all_goals first | rfl | exact ⟨rfl⟩ | (exfalso;omega)
 | false =>
  have e1:openE x y s=0:=by unfold openE;rw [if_neg (fun h=>h he),hs];rfl
  rw [hs] at hou
  obtain ⟨ha,hb,hs1⟩:=open_good e1
  rw [e1,if_neg (by decide)]
  have hvw:∀ h,bget h 3=some (pB x.sh y.sh s (openT x y s))→Vw h depth (.tup [.ref 3 1684 0,.int .i64 0]) (.tup [.rp (pC x.sh y.sh s (openT x y s)) 0,.int .i64 0]):=fun h hb =>
   Vw.tup (d:=63) (VwL.cons (Vw.ref (d:=62) hb pC_len (part_all pC_len) ⟨view_pC⟩) (VwL.cons (Vw.int rfl) VwL.nil))
  refine fun_of c53_eq rfl ?_
  repeat' (first
 | (conv=>whnf)
   first
   | refine Br.f ?_
   | refine call_fun rfl rfl hck (.inl rfl) ?_
   | refine call_fun rfl rfl hou (.inl rfl) ?_
   | refine Get.mk _ (fills_zP (a:=x.sh) (b:=y.sh) (s:=s) rfl rfl rfl) ?_
   | refine Get.mk _ rfl ?_
   | (refine Req.mk ?_ ?_;(focus first | rfl | decide | exact ⟨rfl,rfl⟩ | exact ⟨rfl,by decide⟩ | exact (fun _=>rfl) | exact (fun h=>nomatch h) | (simp;done) | omega | (simp [big];done) | exact le_big (by omega) | exact lt_big (by omega))))
  all_goals refine fC.mk ?_
  simp only [wPut]
  refine fW.mk ?_
  refine fV.mk ?_
  simp only [wOps]
  refine wG_bxP (a:=x.sh) (b:=y.sh) (s:=s) (f:=zT) rfl rfl ?_
  refine fB.mk ?_
  refine fV.mk ?_
  simp only [tset,bset]
  repeat' (first
 | (conv=>whnf)
   first
   | refine hvw _ rfl
   | refine fill_call (a:=x.sh) (b:=y.sh) (g:=zT) ha hb hs1 (fun _ _ _=>rfl) (fun _ _=>rfl) ?_
   | refine Get.mk _ rfl ?_
   | refine Leaves.of ?_)
end Go.Dr.T
namespace Go.Dr.T
abbrev elB (x:El):B:=.blk [.str x.nm,.sl x.c x.l.length (shC x.l),.int .i64 x.g] false
set_option maxRecDepth 100000 in
theorem refShare_ok {s:Int} {x y:Int × Int} (hs:0≤s∧s≤200000) (hx:0≤x.1∧x.1≤999∧1≤x.2∧x.2≤200000) (hy:0≤y.1∧y.1≤999∧1≤y.2∧y.2≤200000):Fun FB md 64 [.agg [.int .i64 x.1,.int .i64 x.2],.agg [.int .i64 y.1,.int .i64 y.2],.int .i64 s] (.int .i64 (shr s x y)):=by
 obtain ⟨m,n⟩:=x
 obtain ⟨m', n'⟩:=y
 dsimp only at *
 have hw:IntKind.i64.wrap ((min n n').tdiv 2)=min n n' / 2:=by rw [Int.tdiv_eq_ediv_of_nonneg (by omega)];exact wrap_i64 (by omega) (by omega)
 refine fun_of rfl rfl ?_
 repeat' (first
 | (conv=>whnf)
   first
   | refine Br.t ?_
   | refine Br.f ?_
   | (refine Br.decT ?_ ?_;(focus first | assumption | omega))
   | (refine Br.decF ?_ ?_;(focus first | assumption | omega))
   | refine Br.dec (fun _ => ?_) (fun _ => ?_)
   | refine Br.not ?_
   | (refine Bnd.i64 ?_ ?_ ?_;(focus omega);(focus omega))
   | refine Bnd.any ?_
   | refine Get.mk _ rfl ?_
   | refine Leaves.of ?_
   | refine Vw.int ?_
   | (refine Req.mk ?_ ?_;(focus first | rfl | decide | exact ⟨rfl,rfl⟩ | exact ⟨rfl,by decide⟩ | exact (fun _=>rfl) | exact (fun h=>nomatch h) | (simp;done) | omega | (simp [big];done) | exact le_big (by omega) | exact lt_big (by omega))))
 all_goals rw [shr_case]
 all_goals (try rw [hw])
 all_goals first
  | (rw [if_pos (by omega)];done)
  | (rw [if_neg (by omega),if_pos (by omega)];omega)
  | (rw [if_neg (by omega),if_neg (by omega),if_pos (by omega)];done)
  | (rw [if_neg (by omega),if_neg (by omega),if_neg (by omega)];done)
  | (exfalso;omega)
theorem openE_1 {x y:El} {s:Int} (h:x.e≠0):openE x y s=x.e:=by simp [openE,ckd,h]
theorem openE_2 {x y:El} {s:Int} (h:x.e=0) (h2:y.e≠0):openE x y s=y.e:=by simp [openE,ckd,h,h2]
theorem openE_3 {x y:El} {s:Int} (h:x.e=0) (h2:y.e=0):openE x y s=if outB s 0 200000=true then 7 else 0:=by simp [openE,ckd,h,h2]
set_option maxRecDepth 100000 in
theorem two_ok {x y:El} {s:Int}:Fun FB md 55 [elA' x,elA' y,.int .i64 s] (.int .i64 (openE x y s)):=by
 have h1:Fun FB md 19 [elA' x] (.tup [.int .i64 (ckE x.nm x.l x.g).1,.int .i64 x.e]):=refCheck_ok (nm:=x.nm) (c:=x.c) (l:=x.l) (g:=x.g)
 have h2:Fun FB md 19 [elA' y] (.tup [.int .i64 (ckE y.nm y.l y.g).1,.int .i64 y.e]):=refCheck_ok (nm:=y.nm) (c:=y.c) (l:=y.l) (g:=y.g)
 have h3:=in_ok (n:=s) (lo:=0) (hi:=200000)
 generalize (ckE x.nm x.l x.g).1=ax at *
 generalize (ckE y.nm y.l y.g).1=ay at *
 by_cases hex:x.e=0
 ·by_cases hey:y.e=0
  ·rw [openE_3 hex hey]
   rw [hex] at h1
   rw [hey] at h2
   cases hs:outB s 0 200000 <;> rw [hs] at h3
   all_goals refine fun_of rfl rfl ?_
   all_goals
    repeat' (first
 | (conv=>whnf)
   first
   | refine Br.t ?_
   | refine Br.f ?_
   | refine call_fun rfl rfl h1 (.inl rfl) ?_
   | refine call_fun rfl rfl h2 (.inl rfl) ?_
   | refine call_fun rfl rfl h3 (.inl rfl) ?_
   | refine Get.mk _ rfl ?_
   | refine Leaves.of ?_
   | refine Vw.int ?_
   | (refine Req.mk ?_ ?_;(focus first | rfl | decide | exact ⟨rfl,rfl⟩ | exact ⟨rfl,by decide⟩ | exact (fun _=>rfl) | exact (fun h=>nomatch h) | (simp;done) | omega | (simp [big];done) | exact le_big (by omega) | exact lt_big (by omega))))
   all_goals first | rfl | (exfalso;omega)
  ·rw [openE_2 hex hey]
   rw [hex] at h1
   generalize y.e=ey at *
   refine fun_of rfl rfl ?_
   repeat' (first
 | (conv=>whnf)
   first
   | refine Br.t ?_
   | refine Br.f ?_
   | (refine Br.decF ?_ ?_;(focus first | assumption | omega))
   | refine call_fun rfl rfl h1 (.inl rfl) ?_
   | refine call_fun rfl rfl h2 (.inl rfl) ?_
   | refine Get.mk _ rfl ?_
   | refine Leaves.of ?_
   | refine Vw.int ?_
   | (refine Req.mk ?_ ?_;(focus first | rfl | decide | exact ⟨rfl,rfl⟩ | exact ⟨rfl,by decide⟩ | exact (fun _=>rfl) | exact (fun h=>nomatch h) | (simp;done) | omega | (simp [big];done) | exact le_big (by omega) | exact lt_big (by omega))))
   all_goals first | rfl | (exfalso;omega)
 ·rw [openE_1 hex]
  generalize x.e=ex at *
  refine fun_of rfl rfl ?_
  repeat' (first
 | (conv=>whnf)
   first
   | refine Br.f ?_
   | (refine Br.decF ?_ ?_;(focus first | assumption | omega))
   | refine call_fun rfl rfl h1 (.inl rfl) ?_
   | refine Get.mk _ rfl ?_
   | refine Leaves.of ?_
   | refine Vw.int ?_
   | (refine Req.mk ?_ ?_;(focus first | rfl | decide | exact ⟨rfl,rfl⟩ | exact ⟨rfl,by decide⟩ | exact (fun _=>rfl) | exact (fun h=>nomatch h) | (simp;done) | omega | (simp [big];done) | exact le_big (by omega) | exact lt_big (by omega))))
  all_goals first | rfl | (exfalso;omega)
end Go.Dr.T
namespace Go.Dr.T
def lsP (l:List (Int × Int)):V:=if l=[] then .sl true 0 [] else .sl false l.length (shC l)
def idOf:V→Nat
 | .ms _ id _ _ _ _=>id
 | _=>0
theorem shC_appS:∀ {l m:List (Int × Int)},shC (l++m)=shC l++shC m
 | [],m=>rfl
 | p :: l,m=>by simp only [List.cons_append,shC,shC_appS (l:=l)]
theorem lsP_eq (l:List (Int × Int)):∃ c,lsP l = .sl c l.length (shC l):=by
 unfold lsP
 split
 ·rename_i h;subst h;exact ⟨true,rfl⟩
 ·exact ⟨false,rfl⟩
def pI (p:Nat × Nat):Int × Int:=((p.1:Int),(p.2:Int))
end Go.Dr.T
namespace Go.Dr.T
def bitE (b:Int) (i:Nat):Int:=(b.fdiv (2 ^ (min (IntKind.u64.wrap ((i:Int).tmod 64)).toNat IntKind.u64.bits))).tmod 2
def bitB (b:Int) (i:Nat):Bool:=decide (bitE b i=1)
def ptF (b:Int) (a:List (Int × Int)) (i:Nat):List Nat:=(List.range' i (a.length - i)).filter (bitB b)
def ptL (b:Int) (a:List (Int × Int)) (i:Nat):List (Int × Int):=(ptF b a i).map fun k=>a.getD k (0,0)
theorem ptF_end {b:Int} {a:List (Int × Int)} {i:Nat} (h:a.length≤i):ptF b a i=[]:=by unfold ptF;rw [show a.length - i=0 by omega];rfl
theorem ptF_t {b:Int} {a:List (Int × Int)} {i:Nat} (h:i<a.length) (hb:bitE b i=1):ptF b a i=i :: ptF b a (i+1):=by
 unfold ptF
 rw [show a.length - i=(a.length - (i+1))+1 by omega,List.range'_succ,List.filter_cons_of_pos (by unfold bitB;simpa using hb)]
theorem ptF_f {b:Int} {a:List (Int × Int)} {i:Nat} (h:i<a.length) (hb:¬ bitE b i=1):ptF b a i=ptF b a (i+1):=by
 unfold ptF
 rw [show a.length - i=(a.length - (i+1))+1 by omega,List.range'_succ,List.filter_cons_of_neg (by unfold bitB;simpa using hb)]
theorem ptF_len {b:Int} {a:List (Int × Int)} {i:Nat}:(ptF b a i).length≤a.length - i:=by
 unfold ptF
 have:=List.length_filter_le (bitB b) (List.range' i (a.length - i))
 rwa [List.length_range'] at this
def ptV:List (Int × Int)→V
 | []=>.nilsl
 | p :: l=>.ms 2 3 ((p :: l).length * 2) 0 (p :: l).length false
def ptH (x:El):List (Int × Int)→List B
 | []=>[elB x,.blk [.str [],.nilsl,.int .i64 0] false,.blk [.str x.nm,.nilsl,.int .i64 x.g] false]
 | p :: l=>[elB x,.blk [.str [],.nilsl,.int .i64 0] false,.blk [.str x.nm,.ms 2 3 ((p :: l).length * 2) 0 (p :: l).length false,.int .i64 x.g] false,.blk (shC (p :: l)) true]
theorem ptH_app {x:El} {p q:Int × Int} {l:List (Int × Int)}:ptH x ((p :: l)++[q])=[elB x,.blk [.str [],.nilsl,.int .i64 0] false,.blk [.str x.nm,.ms 2 3 ((p :: l).length * 2+2) 0 ((p :: l).length+1) false,.int .i64 x.g] false,.blk (shC (p :: l)++[.int .i64 q.1,.int .i64 q.2]) true]:=by
 have e1:((p :: l)++[q]).length=(p :: l).length+1:=by rw [List.length_append];rfl
 have e2:shC ((p :: l)++[q])=shC (p :: l)++[.int .i64 q.1,.int .i64 q.2]:=by rw [shC_appS];rfl
 have e3:ptH x ((p :: l)++[q])=[elB x,.blk [.str [],.nilsl,.int .i64 0] false,.blk [.str x.nm,.ms 2 3 (((p :: l)++[q]).length * 2) 0 ((p :: l)++[q]).length false,.int .i64 x.g] false,.blk (shC ((p :: l)++[q])) true]:=rfl
 rw [e3,e1,e2,Nat.add_mul]
structure PA where
 k:Nat
 L:List (Int × Int)
set_option maxRecDepth 100000 in
set_option maxHeartbeats 20000000 in
theorem part_ok {x:El} {b:Int} (hx:x.l.length≤1000000):Fun FB md 31 [elA' x,.int .u64 b] (.agg [.str x.nm,lsP (ptL b x.l 0),.int .i64 x.g]):=by
 refine fun_of rfl rfl ?_
 repeat' (first
 | (conv=>whnf)
   first
   | refine Get.mk _ rfl ?_
   | (refine Req.mk ?_ ?_;(focus first | rfl | decide | exact ⟨rfl,rfl⟩ | exact ⟨rfl,by decide⟩ | exact (fun _=>rfl) | exact (fun h=>nomatch h) | (simp;done) | omega | (simp [big];done) | exact le_big (by omega) | exact lt_big (by omega))))
 all_goals try (exfalso;omega;done)
 refine LoopP.by (fun a:PA=>a.k≤x.l.length∧a.L.length≤a.k∧a.L++ptL b x.l a.k=ptL b x.l 0) (fun a=>[(6,.int .i64 (a.k:Nat))]) (fun a=>ptH x a.L) (fun a=>x.l.length - a.k) ⟨0,[]⟩ ⟨Nat.zero_le _,Nat.le_refl _,rfl⟩ rfl ?_
 rintro ⟨k,L⟩ ⟨w1,w2,w3⟩
 dsimp only at w1 w2 w3 ⊢
 by_cases hk:k<x.l.length
 rotate_left
 ·have e:ptL b x.l k=[]:=by unfold ptL;rw [ptF_end (by omega)];rfl
  rw [e,List.append_nil] at w3
  subst w3
  cases hL:ptL b x.l 0 with
  | nil =>
   unfold ptH lsP
   rw [if_pos rfl]
   repeat' (first
 | (conv=>whnf)
   first
   | refine Vw.str rfl
   | (refine Br.decF ?_ ?_;(focus first | assumption | omega))
   | refine Get.mk _ rfl ?_
   | refine Leaves.of ?_
   | refine Vw.int ?_
   | refine Vw.nil
   | refine Vw.agg ?_
   | refine VwL.cons ?_ ?_
   | refine VwL.nil
   | (refine Req.mk ?_ ?_;(focus first | rfl | decide | exact ⟨rfl,rfl⟩ | exact ⟨rfl,by decide⟩ | exact (fun _=>rfl) | exact (fun h=>nomatch h) | (simp;done) | omega | (simp [big];done) | exact le_big (by omega) | exact lt_big (by omega))))
   all_goals first | rfl | (exfalso;omega;done)
  | cons p l =>
   have hvw:∀ h,bget h 3=some (.blk (shC (p :: l)) true)→Vw h 63 (.ms 2 3 ((p :: l).length * 2) 0 (p :: l).length false) (.sl false (p :: l).length (shC (p :: l))):=fun h hb=>Vw.ms (d:=62) hb (shC_length _) (part_all (shC_length _)) (by
    have key:∀ l:List (Int × Int),VwL h 62 (shC l) (shC l):=by
     intro l
     induction l with
     | nil=>exact VwL.nil
     | cons p l ih=>exact VwL.cons (Vw.int rfl) (VwL.cons (Vw.int rfl) ih)
    exact key _)
   unfold ptH lsP
   rw [if_neg (by simp)]
   repeat' (first
 | (conv=>whnf)
   first
   | refine Vw.str rfl
   | refine hvw _ rfl
   | (refine Br.decF ?_ ?_;(focus first | assumption | omega))
   | refine Get.mk _ rfl ?_
   | refine Leaves.of ?_
   | refine Vw.int ?_
   | refine Vw.agg ?_
   | refine VwL.cons ?_ ?_
   | refine VwL.nil
   | (refine Req.mk ?_ ?_;(focus first | rfl | decide | exact ⟨rfl,rfl⟩ | exact ⟨rfl,by decide⟩ | exact (fun _=>rfl) | exact (fun h=>nomatch h) | (simp;done) | omega | (simp [big];done) | exact le_big (by omega) | exact lt_big (by omega))))
   all_goals first | rfl | (exfalso;omega;done)
 obtain ⟨u,hu⟩:∃ u,x.l[k]?=some u:=⟨_,List.getElem?_eq_getElem hk⟩
 have hpu:=shC_part hu
 have hkl:k≤x.l.length - 1:=by omega
 have h0l:0<x.l.length:=by omega
 have hud:x.l.getD k (0,0)=u:=by rw [List.getD_eq_getElem?_getD,hu];rfl
 have hkw:IntKind.i64.wrap ((k:Int)+1)=((k+1:Nat):Int):=by rw [wrap_i64 (by omega) (by omega)];omega
 have h64:(64:Int)≠0:=by decide
 have hsh:0≤IntKind.u64.wrap ((k:Int).tmod 64):=by
  have:0≤(k:Int).tmod 64:=Int.tmod_nonneg _ (by omega)
  have h2:(k:Int).tmod 64<64:=Int.tmod_lt_of_pos _ (by decide)
  have e:IntKind.u64.wrap ((k:Int).tmod 64)=(k:Int).tmod 64:=by
   unfold IntKind.wrap
   simp only [IntKind.bits,IntKind.signed]
   first | omega | (split <;> omega) | (simp;omega)
  omega
 by_cases hb:bitE b k=1
 ·have z:(L++[u])++ptL b x.l (k+1)=ptL b x.l 0:=by
   rw [← w3]
   unfold ptL
   rw [ptF_t hk hb,List.map_cons,hud]
   simp
  unfold bitE at hb
  cases L with
  | nil =>
   unfold ptH
   repeat' (first
 | (conv=>whnf)
   first
   | refine Bnd.eq hkw ?_
   | (refine Br.decT ?_ ?_;(focus first | assumption | omega))
   | refine Idx.nat hkl ?_
   | refine Req.mk h0l ?_
   | refine Req.mk h64 ?_
   | refine Req.mk hsh ?_
   | refine Get.mk _ hpu ?_
   | refine Bnd.any ?_
   | (refine Ifz.pos ?_ ?_;(focus omega))
   | refine Get.mk _ rfl ?_
   | (refine Req.mk ?_ ?_;(focus first | rfl | decide | exact ⟨rfl,rfl⟩ | exact ⟨rfl,by decide⟩ | exact (fun _=>rfl) | exact (fun h=>nomatch h) | (simp;done) | omega | (simp [big];done) | exact le_big (by omega) | exact lt_big (by omega))))
   all_goals first | (exfalso;omega;done) | exact NextP.mk (⟨k+1,[]++[u]⟩:PA) ⟨hk,by (try dsimp only);simp,z⟩ (by (try dsimp only);omega) rfl
  | cons p l =>
   have e1:(shC (p :: l)).length=(p :: l).length * 2:=shC_length _
   have e2:0+(p :: l).length * 2=(p :: l).length * 2∧((shC (p :: l)).length+[V.int .i64 u.1,.int .i64 u.2].length) * (16+1)<big:=⟨Nat.zero_add _,by rw [e1];show ((p :: l).length * 2+2) * 17<68719476736;omega⟩
   unfold ptH
   repeat' (first
 | (conv=>whnf)
   first
   | refine Bnd.eq hkw ?_
   | (refine Br.decT ?_ ?_;(focus first | assumption | omega))
   | refine Idx.nat hkl ?_
   | refine Req.mk h0l ?_
   | refine Req.mk h64 ?_
   | refine Req.mk hsh ?_
   | refine Get.mk _ hpu ?_
   | refine Req.mk e1 ?_
   | refine Req.mk e2 ?_
   | refine Bnd.any ?_
   | (refine Ifz.pos ?_ ?_;(focus omega))
   | refine Get.mk _ rfl ?_
   | (refine Req.mk ?_ ?_;(focus first | rfl | decide | exact ⟨rfl,rfl⟩ | exact ⟨rfl,by decide⟩ | exact (fun _=>rfl) | exact (fun h=>nomatch h) | (simp;done) | omega | (simp [big];done) | exact le_big (by omega) | exact lt_big (by omega))))
   all_goals first | (exfalso;omega;done) | exact NextP.mk (⟨k+1,(p :: l)++[u]⟩:PA) ⟨hk,by (try dsimp only);rw [List.length_append];exact Nat.succ_le_succ w2,z⟩ (by (try dsimp only);omega) (by show _=(⟨_,ptH x ((p :: l)++[u])⟩:St);rw [ptH_app];rfl)
 ·have z:L++ptL b x.l (k+1)=ptL b x.l 0:=by
   rw [← w3]
   unfold ptL
   rw [ptF_f hk hb]
  unfold bitE at hb
  cases L with
  | nil =>
   unfold ptH
   repeat' (first
 | (conv=>whnf)
   first
   | refine Bnd.eq hkw ?_
   | (refine Br.decT ?_ ?_;(focus first | assumption | omega))
   | (refine Br.decF ?_ ?_;(focus first | assumption | omega))
   | refine Req.mk h64 ?_
   | refine Req.mk hsh ?_
   | refine Bnd.any ?_
   | refine Get.mk _ rfl ?_
   | (refine Req.mk ?_ ?_;(focus first | rfl | decide | exact ⟨rfl,rfl⟩ | exact ⟨rfl,by decide⟩ | exact (fun _=>rfl) | exact (fun h=>nomatch h) | (simp;done) | omega | (simp [big];done) | exact le_big (by omega) | exact lt_big (by omega))))
   all_goals first | (exfalso;omega;done) | exact NextP.mk (⟨k+1,[]⟩:PA) ⟨hk,by (try dsimp only);omega,z⟩ (by (try dsimp only);omega) rfl
  | cons p l =>
   unfold ptH
   repeat' (first
 | (conv=>whnf)
   first
   | refine Bnd.eq hkw ?_
   | (refine Br.decT ?_ ?_;(focus first | assumption | omega))
   | (refine Br.decF ?_ ?_;(focus first | assumption | omega))
   | refine Req.mk h64 ?_
   | refine Req.mk hsh ?_
   | refine Bnd.any ?_
   | refine Get.mk _ rfl ?_
   | (refine Req.mk ?_ ?_;(focus first | rfl | decide | exact ⟨rfl,rfl⟩ | exact ⟨rfl,by decide⟩ | exact (fun _=>rfl) | exact (fun h=>nomatch h) | (simp;done) | omega | (simp [big];done) | exact le_big (by omega) | exact lt_big (by omega))))
   all_goals first | (exfalso;omega;done) | exact NextP.mk (⟨k+1,p :: l⟩:PA) ⟨hk,by (try dsimp only);omega,z⟩ (by (try dsimp only);omega) rfl
end Go.Dr.T
