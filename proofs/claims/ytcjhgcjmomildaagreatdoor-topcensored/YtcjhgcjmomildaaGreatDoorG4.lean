/- Cuts of the bench: Before, walked. -/
import Derived.Test.YtcjhgcjmomildaaGreatDoorG3
namespace Go.Dr.T
theorem LoopP.byK {w:St→(X→St→Prop)→Prop} {m:List Bool} {hl:Nat} {tm:List V} {h:List B} {Q:X→St→Prop} {α:Type} (P:α→Prop) (us:α→List (Nat × V)) (bs:α→List (Nat × B)) (μ:α→Nat) (a0:α) (p0:P a0)
  (h0:(⟨tm,h⟩:St)=⟨upds tm (us a0),bupds h (bs a0)⟩)
  (step:∀ a,P a→fV (upds tm (us a)) fun tm' => fB (bupds h (bs a)) fun h' => w ⟨tm', h'⟩ fun x s=>match x with
   | .nrm=>NextP P (fun a=>(⟨upds tm (us a),bupds h (bs a)⟩:St)) μ a (norm m hl s)
   | x=>Q x s):LoopP w m hl ⟨tm,h⟩ Q:=LoopP.by P us (fun a=>bupds h (bs a)) μ a0 p0 h0 step
theorem VwRp {h:List B} {d n:Nat} {c:List V}:Vw h (d+1) (.rp c n) (.rp c n):=⟨rfl⟩
def beS (c:Int × Int) (fr:Int):Int:=if c.1≤fr then fr+lngC c else fr
def beR (fr:Int) (l:List (Int × Int)):Int:=l.foldr beS fr
theorem beR_bd {fr:Int} (hf:0≤fr∧fr≤200000):∀ {l:List (Int × Int)},CutsOk l→0≤beR fr l∧beR fr l≤200000+200000 * (l.length:Int)
 | [],_=>by
  show 0≤fr∧fr≤200000+200000 * ((0:Nat):Int)
  omega
 | c :: l,h=>by
  have ih:=beR_bd hf (l:=l) fun x hx=>h x (List.mem_cons_of_mem _ hx)
  have hc:=h c (by simp)
  have hln:lngC c=c.2 - c.1+1:=rfl
  show 0≤beS c (beR fr l)∧beS c (beR fr l)≤_
  rw [List.length_cons]
  unfold beS
  split <;> omega
theorem mdF_rng {f:Int}:∀ {l:List (Int × Int)},0≤f→f≤200000→0≤(mdF f l).1∧(mdF f l).1≤200000:=by
 intro l
 induction l generalizing f with
 | nil=>intro h0 h1;exact ⟨h0,h1⟩
 | cons p l ih =>
  intro h0 h1
  rw [mdF]
  split
  ·exact ⟨Int.le_refl _,by decide⟩
  ·rename_i hn
   split
   ·exact ⟨Int.le_refl _,by decide⟩
   ·have hp:¬ outB p.1 0 (f - 1)=true∧¬ outB p.2 0 (f - 1)=true:=⟨fun e=>hn (.inl e),fun e=>hn (.inr e)⟩
    simp only [outB,Bool.or_eq_true,decide_eq_true_eq,not_or] at hp
    have hln:lngC p=p.2 - p.1+1:=rfl
    exact ih (by omega) (by omega)
theorem made_rng {f:Int} {l:List (Int × Int)}:0≤(madeP f l).1∧(madeP f l).1≤200000:=by
 unfold madeP
 split
 ·exact ⟨Int.le_refl _,by decide⟩
 ·rename_i ho
  split
  ·exact ⟨Int.le_refl _,by decide⟩
  ·simp only [outB,Bool.or_eq_true,decide_eq_true_eq,not_or] at ho
   exact mdF_rng (by omega) (by omega)
theorem back_ok {c:Bool} {n:Nat} {cs:List V}:Fun FB md 24 [.sl c n cs] (.fn 44 [.rp [.sl c n cs] 0]):=by
 refine fun_of rfl rfl ?_
 repeat' (first
 | (conv=>whnf)
   first
   | refine Vw.fn ?_
   | refine Vw.ref rfl rfl rfl ?_
   | refine Get.mk _ rfl ?_
   | refine Leaves.of ?_
   | refine Vw.sl
   | refine VwL.cons ?_ ?_
   | refine VwL.nil
   | (refine Req.mk ?_ ?_;(focus first | rfl | decide | exact ⟨rfl,rfl⟩ | exact ⟨rfl,by decide⟩ | exact (fun _=>rfl) | exact (fun h=>nomatch h) | (simp;done) | omega | (simp [big];done) | exact le_big (by omega) | exact lt_big (by omega))))
 all_goals rfl
def beV (f:Int) (l:List (Int × Int)) (fr:Int):Int × Int :=
 if (madeP f l).2≠0 then (0,(madeP f l).2) else if outB fr 0 ((madeP f l).1 - 1)=true then (0,7) else (beR fr l,0)
set_option maxRecDepth 100000 in
set_option maxHeartbeats 20000000 in
theorem bench_before_ok {f fr:Int} {c:Bool} {l:List (Int × Int)}:Fun FB md 7 [.int .i64 f,.sl c l.length (shC l),.int .i64 fr] (.tup [.int .i64 (beV f l fr).1,.int .i64 (beV f l fr).2]):=by
 have hm:=made_ok (f:=f) (c:=c) (l:=l)
 have hmr:=made_rng (f:=f) (l:=l)
 unfold beV
 by_cases he:(madeP f l).2=0
 rotate_left
 ·rw [if_pos he]
  generalize (madeP f l).2=e at *
  generalize (madeP f l).1=e1 at *
  refine fun_of rfl rfl ?_
  repeat' (first
 | (conv=>whnf)
   first
   | (refine Br.decF ?_ ?_;(focus first | assumption | omega))
   | refine Br.not ?_
   | refine call_fun rfl rfl hm (.inl rfl) ?_
   | refine Get.mk _ rfl ?_
   | refine Leaves.of ?_
   | refine Vw.int ?_
   | refine Vw.tup ?_
   | refine VwL.cons ?_ ?_
   | refine VwL.nil
   | (refine Req.mk ?_ ?_;(focus first | rfl | decide | exact ⟨rfl,rfl⟩ | exact ⟨rfl,by decide⟩ | exact (fun _=>rfl) | exact (fun h=>nomatch h) | (simp;done) | omega | (simp [big];done) | exact le_big (by omega) | exact lt_big (by omega))))
  all_goals first | rfl | (exfalso;omega;done)
 rw [if_neg (fun h=>h he)]
 rw [he] at hm
 obtain ⟨g1,g2,g3,g4⟩:=made_good he
 generalize (madeP f l).1=e1 at *
 have ho:=bout_ok (n:=fr) (lo:=0) (hi:=e1 - 1)
 have hwf:IntKind.i64.wrap (e1 - 1)=e1 - 1:=wrap_i64 (by omega) (by omega)
 cases hb:outB fr 0 (e1 - 1) with
 | true =>
  rw [if_pos rfl]
  rw [hb] at ho
  refine fun_of rfl rfl ?_
  repeat' (first
 | (conv=>whnf)
   first
   | refine Bnd.eq hwf ?_
   | refine Br.t ?_
   | refine Br.f ?_
   | refine call_fun rfl rfl hm (.inl rfl) ?_
   | refine call_fun rfl rfl ho (.inl rfl) ?_
   | refine Get.mk _ rfl ?_
   | refine Leaves.of ?_
   | refine Vw.int ?_
   | refine Vw.tup ?_
   | refine VwL.cons ?_ ?_
   | refine VwL.nil
   | (refine Req.mk ?_ ?_;(focus first | rfl | decide | exact ⟨rfl,rfl⟩ | exact ⟨rfl,by decide⟩ | exact (fun _=>rfl) | exact (fun h=>nomatch h) | (simp;done) | omega | (simp [big];done) | exact le_big (by omega) | exact lt_big (by omega))))
  all_goals first | rfl | (exfalso;omega;done)
 | false =>
  rw [if_neg (by simp)]
  rw [hb] at ho
  simp only [outB,Bool.or_eq_false_iff,decide_eq_false_iff_not] at hb
  have hbk:=back_ok (c:=c) (n:=l.length) (cs:=shC l)
  have hbd:=fun n=>beR_bd (fr:=fr) (by omega) (l:=l.drop n) (fun x hx=>g4 x (List.mem_of_mem_drop hx))
  refine fun_of rfl rfl ?_
  repeat' (first
 | (conv=>whnf)
   first
   | refine Bnd.eq hwf ?_
   | refine Br.f ?_
   | (refine Bnd.i64 ?_ ?_ ?_;(focus omega);(focus omega))
   | refine call_fun rfl rfl hm (.inl rfl) ?_
   | refine call_fun rfl rfl ho (.inl rfl) ?_
   | refine call_fun rfl rfl hbk (.inl rfl) ?_
   | refine call_one rfl rfl rfl ?_
   | refine Get.mk _ rfl ?_
   | (refine Req.mk ?_ ?_;(focus first | rfl | decide | exact ⟨rfl,rfl⟩ | exact ⟨rfl,by decide⟩ | exact (fun _=>rfl) | exact (fun h=>nomatch h) | (simp;done) | omega | (simp [big];done) | exact le_big (by omega) | exact lt_big (by omega))))
  all_goals try (exfalso;omega;done)
  refine LoopP.byK (fun n:Nat=>n≤l.length) (fun n=>[(3,.int .i64 ((n:Int) - 1))]) (fun n=>[(0,.blk [.int .i64 (beR fr (l.drop n))] false)]) (fun n=>n) l.length (Nat.le_refl _) (by
   rw [List.drop_length]
   rfl) ?_
  intro n hn
  have hbn:=hbd n
  rw [List.length_drop] at hbn
  cases n with
  | zero =>
   repeat' (first
 | (conv=>whnf)
   first
   | refine Br.f ?_
   | refine Get.mk _ rfl ?_
   | refine Leaves.of ?_
   | refine Ends.of ?_
   | refine Vw.int ?_
   | refine Vw.tup ?_
   | refine VwL.cons ?_ ?_
   | refine VwL.nil
   | (refine Req.mk ?_ ?_;(focus first | rfl | decide | exact ⟨rfl,rfl⟩ | exact ⟨rfl,by decide⟩ | exact (fun _=>rfl) | exact (fun h=>nomatch h) | (simp;done) | omega | (simp [big];done) | exact le_big (by omega) | exact lt_big (by omega))))
   all_goals first | rfl | (exfalso;omega;done) | (trace_state;sorry)
  | succ k =>
   obtain ⟨p,hp⟩:∃ p,l[k]?=some p:=⟨_,List.getElem?_eq_getElem (by omega)⟩
   have hpart:=shC_part hp
   have hpr:=g4 p (List.mem_of_getElem? hp)
   have hln:lngC p=p.2 - p.1+1:=rfl
   have h4:=long_ok (c:=p) (by omega)
   have hd:beR fr (l.drop k)=beS p (beR fr (l.drop (k+1))):=by rw [drop_at hp];rfl
   generalize beR fr (l.drop (k+1))=g at *
   unfold beS at hd
   rw [show (((k+1:Nat):Int) - 1)=(k:Nat) by omega]
   by_cases hc:p.1≤g
   ·rw [if_pos hc] at hd
    repeat' (first
 | (conv=>whnf)
   first
   | refine Br.t ?_
   | refine Br.f ?_
   | (refine Br.decT ?_ ?_;(focus first | assumption | omega))
   | (refine Bnd.i64 ?_ ?_ ?_;(focus omega);(focus omega))
   | refine Get.mk _ hpart ?_
   | refine call_fun rfl rfl h4 (.inl rfl) ?_
   | refine call_yld rfl (Nat.zero_le _) rfl ?_
   | refine ⟨rfl,?_⟩
   | (refine Idx.nat ?_ ?_;(focus omega))
   | refine Get.mk _ rfl ?_
   | (refine Req.mk ?_ ?_;(focus first | rfl | decide | exact ⟨rfl,rfl⟩ | exact ⟨rfl,by decide⟩ | exact (fun _=>rfl) | exact (fun h=>nomatch h) | (simp;done) | omega | (simp [big];done) | exact le_big (by omega) | exact lt_big (by omega))))
    all_goals first | (exfalso;omega;done) | exact NextP.mk k (by omega) (by omega) (by rw [hd];rfl) | (trace_state;sorry)
   ·rw [if_neg hc] at hd
    repeat' (first
 | (conv=>whnf)
   first
   | refine Br.t ?_
   | refine Br.f ?_
   | (refine Br.decF ?_ ?_;(focus first | assumption | omega))
   | (refine Bnd.i64 ?_ ?_ ?_;(focus omega);(focus omega))
   | refine Get.mk _ hpart ?_
   | refine call_yld rfl (Nat.zero_le _) rfl ?_
   | refine ⟨rfl,?_⟩
   | (refine Idx.nat ?_ ?_;(focus omega))
   | refine Get.mk _ rfl ?_
   | (refine Req.mk ?_ ?_;(focus first | rfl | decide | exact ⟨rfl,rfl⟩ | exact ⟨rfl,by decide⟩ | exact (fun _=>rfl) | exact (fun h=>nomatch h) | (simp;done) | omega | (simp [big];done) | exact le_big (by omega) | exact lt_big (by omega))))
    all_goals first | (exfalso;omega;done) | exact NextP.mk k (by omega) (by omega) (by rw [hd];rfl) | (trace_state;sorry)
end Go.Dr.T
namespace Go.Dr.T
abbrev Sht:=Int × Bool
def sumA:List Sht→Int
 | []=>0
 | s :: l=>s.1+sumA l
def sumK:List Sht→Int
 | []=>0
 | s :: l=>(if s.2 then s.1 else 0)+sumK l
def keptL:Int→Int→List Sht→List (Int × Int)
 | _,_,[]=>[]
 | at', left,s :: l=>if s.2 then (at', left) :: keptL (at' + s.1) (left+s.1) l else keptL (at' + s.1) left l
def cutF:Int→List Sht→List (Int × Int)
 | _,[]=>[]
 | left,s :: l=>if s.2 then cutF (left+s.1) l else (left,left+s.1 - 1) :: cutF left l
def cutL:Int→List Sht→List (Int × Int)
 | _,[]=>[]
 | at', s :: l=>if s.2 then cutL (at' + s.1) l else (at', at' + s.1 - 1) :: cutL (at' + s.1) l
def ShtOk (l:List Sht):Prop:=∀ s∈l,1≤s.1
theorem ShtOk.tl {s:Sht} {l:List Sht} (h:ShtOk (s :: l)):1≤s.1∧ShtOk l:=⟨h s (by simp),fun x hx=>h x (List.mem_cons_of_mem _ hx)⟩
theorem sumK_0:∀ {l:List Sht},ShtOk l→0≤sumK l∧sumK l≤sumA l
 | [],_=>⟨Int.le_refl _,Int.le_refl _⟩
 | s :: l,h=>by
  have ih:=sumK_0 h.tl.2
  have:=h.tl.1
  unfold sumK sumA
  split <;> omega
theorem keptL_ge:∀ {l:List Sht} {at' left:Int},ShtOk l→∀ p∈keptL at' left l,at' ≤ p.1∧left≤p.2∧p.1<at' + sumA l∧p.2<left+sumK l
 | [],_,_,_,p,hp=>by cases hp
 | s :: l,at', left,h,p,hp=>by
  have h1:=h.tl.1
  have hk:=sumK_0 h.tl.2
  unfold keptL at hp
  unfold sumA sumK
  split at hp
  ·rename_i hs
   rw [if_pos hs]
   rcases List.mem_cons.1 hp with hp | hp
   ·subst hp
    dsimp only
    omega
   ·have:=keptL_ge h.tl.2 p hp
    omega
  ·rename_i hs
   rw [if_neg hs]
   have:=keptL_ge h.tl.2 p hp
   omega
theorem cutF_ge:∀ {l:List Sht} {left:Int},ShtOk l→∀ c∈cutF left l,left≤c.1∧c.1≤c.2
 | [],_,_,c,hc=>by cases hc
 | s :: l,left,h,c,hc=>by
  have h1:=h.tl.1
  unfold cutF at hc
  split at hc
  ·have:=cutF_ge h.tl.2 c hc
   omega
  ·rcases List.mem_cons.1 hc with hc | hc
   ·subst hc;dsimp only;omega
   ·exact cutF_ge h.tl.2 c hc
theorem cutL_ge:∀ {l:List Sht} {at' : Int},ShtOk l→∀ c∈cutL at' l,at' ≤ c.1∧c.1≤c.2
 | [],_,_,c,hc=>by cases hc
 | s :: l,at', h,c,hc=>by
  have h1:=h.tl.1
  unfold cutL at hc
  split at hc
  ·have:=cutL_ge h.tl.2 c hc
   omega
  ·rcases List.mem_cons.1 hc with hc | hc
   ·subst hc;dsimp only;omega
   ·have:=cutL_ge h.tl.2 c hc
    omega
theorem afF_low {fr:Int}:∀ {l:List (Int × Int)},(∀ c∈l,fr<c.1∧c.1≤c.2)→afF fr l=some fr
 | [],_=>rfl
 | c :: l,h=>by
  have:=h c (by simp)
  rw [afF,if_neg (by omega),if_neg (by omega)]
  exact afF_low fun x hx=>h x (List.mem_cons_of_mem _ hx)
theorem beR_low {fr:Int}:∀ {l:List (Int × Int)},(∀ c∈l,fr<c.1)→beR fr l=fr
 | [],_=>rfl
 | c :: l,h=>by
  have ih:=beR_low (fr:=fr) (l:=l) fun x hx=>h x (List.mem_cons_of_mem _ hx)
  have:=h c (by simp)
  show beS c (beR fr l)=fr
  rw [ih,beS,if_neg (by omega)]
theorem afF_app {b:List (Int × Int)}:∀ {a:List (Int × Int)} {fr:Int},afF fr (a++b)=(afF fr a).bind fun g=>afF g b
 | [],_=>rfl
 | c :: a,fr=>by
  rw [List.cons_append,afF,afF]
  split
  ·exact afF_app
  ·split
   ·rfl
   ·exact afF_app
theorem beR_app {fr:Int} {a b:List (Int × Int)}:beR fr (a++b)=beR (beR fr b) a:=by unfold beR;rw [List.foldr_append]
theorem mdF_app {b:List (Int × Int)}:∀ {a:List (Int × Int)} {f g:Int},mdF f a=(g,0)→mdF f (a++b)=mdF g b
 | [],f,g,h=>by cases h;rfl
 | c :: a,f,g,h=>by
  rw [List.cons_append,mdF]
  rw [mdF] at h
  split at h
  ·cases h
  ·rename_i h1
   split at h
   ·cases h
   ·rename_i h2
    rw [if_neg h1,if_neg h2]
    exact mdF_app h
theorem mdF_one {f:Int} {c:Int × Int} {l:List (Int × Int)} (h:0≤c.1∧c.1≤c.2∧c.2<f):mdF f (c :: l)=mdF (f - lngC c) l:=by
 rw [mdF,if_neg (fun e=>by
  simp only [outB,Bool.or_eq_true,decide_eq_true_eq] at e
  omega),if_neg (by omega)]
theorem fwd_made:∀ {l:List Sht} {left:Int},ShtOk l→0≤left→mdF (left+sumA l) (cutF left l)=(left+sumK l,0)
 | [],left,_,_=>by
  show (left+0,(0:Int))=(left+0,0)
  rfl
 | s :: l,left,h,h0=>by
  have h1:=h.tl.1
  have hk:=sumK_0 h.tl.2
  unfold cutF sumA sumK
  split
  ·rename_i hs
   have ih:=fwd_made (left:=left+s.1) h.tl.2 (by omega)
   rw [← Int.add_assoc,ih,Int.add_assoc]
  ·have ih:=fwd_made (left:=left) h.tl.2 h0
   rw [mdF_one (by dsimp only;omega)]
   have e:left+(s.1+sumA l) - lngC (left,left+s.1 - 1)=left+sumA l:=by unfold lngC;dsimp only;omega
   rw [e,ih,Int.zero_add]
theorem fwd_after:∀ {l:List Sht} {at' left:Int},ShtOk l→∀ p∈keptL at' left l,afF (left+(p.1 - at')) (cutF left l)=some p.2
 | [],_,_,_,p,hp=>by cases hp
 | s :: l,at', left,h,p,hp=>by
  have h1:=h.tl.1
  unfold keptL at hp
  unfold cutF
  split at hp
  ·rename_i hs
   rw [if_pos hs]
   rcases List.mem_cons.1 hp with hp | hp
   ·subst hp
    dsimp only
    rw [Int.sub_self,Int.add_zero]
    exact afF_low fun c hc=>by have:=cutF_ge h.tl.2 c hc;omega
   ·have:=fwd_after h.tl.2 p hp
    rwa [show left+s.1+(p.1 - (at' + s.1))=left+(p.1 - at') by omega] at this
  ·rename_i hs
   rw [if_neg hs]
   have hg:=keptL_ge h.tl.2 p hp
   have:=fwd_after h.tl.2 p hp
   rw [afF,if_pos (by dsimp only;omega)]
   rwa [show left+(p.1 - at') - lngC (left,left+s.1 - 1)=left+(p.1 - (at' + s.1)) by unfold lngC;dsimp only;omega]
theorem fwd_before:∀ {l:List Sht} {at' left:Int},ShtOk l→∀ p∈keptL at' left l,beR p.2 (cutF left l)=left+(p.1 - at')
 | [],_,_,_,p,hp=>by cases hp
 | s :: l,at', left,h,p,hp=>by
  have h1:=h.tl.1
  unfold keptL at hp
  unfold cutF
  split at hp
  ·rename_i hs
   rw [if_pos hs]
   rcases List.mem_cons.1 hp with hp | hp
   ·subst hp
    dsimp only
    rw [Int.sub_self,Int.add_zero]
    exact beR_low fun c hc=>by have:=cutF_ge h.tl.2 c hc;omega
   ·have:=fwd_before h.tl.2 p hp
    rw [this]
    omega
  ·rename_i hs
   rw [if_neg hs]
   have hg:=keptL_ge h.tl.2 p hp
   have:=fwd_before h.tl.2 p hp
   show beS _ (beR p.2 (cutF left l))=_
   rw [this,beS,if_pos (by dsimp only;omega)]
   unfold lngC
   dsimp only
   omega
theorem bwd_made:∀ {l:List Sht} {at' : Int},ShtOk l→0≤at' → mdF (at' + sumA l) (cutL at' l).reverse=(at' + sumK l,0)
 | [],at', _,_=>by
  show (at' + 0,(0:Int))=(at' + 0,0)
  rfl
 | s :: l,at', h,h0=>by
  have h1:=h.tl.1
  have hk:=sumK_0 h.tl.2
  have ih:=bwd_made (at' := at' + s.1) h.tl.2 (by omega)
  unfold cutL sumA sumK
  split
  ·rw [← Int.add_assoc,ih,Int.add_assoc]
  ·rw [List.reverse_cons, ← Int.add_assoc,mdF_app ih,mdF_one (by dsimp only;omega)]
   have e:at' + s.1+sumK l - lngC (at', at' + s.1 - 1)=at' + sumK l:=by unfold lngC;dsimp only;omega
   rw [e,Int.zero_add]
   rfl
theorem bwd_after:∀ {l:List Sht} {at' left:Int},ShtOk l→∀ p∈keptL at' left l,afF p.1 (cutL at' l).reverse=some (at' + (p.2 - left))
 | [],_,_,_,p,hp=>by cases hp
 | s :: l,at', left,h,p,hp=>by
  have h1:=h.tl.1
  unfold keptL at hp
  unfold cutL
  split at hp
  ·rename_i hs
   rw [if_pos hs]
   rcases List.mem_cons.1 hp with hp | hp
   ·subst hp
    dsimp only
    rw [Int.sub_self,Int.add_zero]
    exact afF_low fun c hc=>by have:=cutL_ge h.tl.2 c (List.mem_reverse.1 hc);omega
   ·have:=bwd_after h.tl.2 p hp
    rwa [show at' + s.1+(p.2 - (left+s.1))=at' + (p.2 - left) by omega] at this
  ·rename_i hs
   rw [if_neg hs,List.reverse_cons,afF_app,bwd_after h.tl.2 p hp]
   have hg:=keptL_ge h.tl.2 p hp
   show afF _ [(at', at' + s.1 - 1)]=_
   rw [afF,if_pos (by dsimp only;omega)]
   show some _=some _
   congr 1
   unfold lngC
   dsimp only
   omega
theorem bwd_before:∀ {l:List Sht} {at' left:Int},ShtOk l→∀ p∈keptL at' left l,beR (at' + (p.2 - left)) (cutL at' l).reverse=p.1
 | [],_,_,_,p,hp=>by cases hp
 | s :: l,at', left,h,p,hp=>by
  have h1:=h.tl.1
  unfold keptL at hp
  unfold cutL
  split at hp
  ·rename_i hs
   rw [if_pos hs]
   rcases List.mem_cons.1 hp with hp | hp
   ·subst hp
    dsimp only
    rw [Int.sub_self,Int.add_zero]
    exact beR_low fun c hc=>by have:=cutL_ge h.tl.2 c (List.mem_reverse.1 hc);omega
   ·have:=bwd_before h.tl.2 p hp
    rwa [show at' + s.1+(p.2 - (left+s.1))=at' + (p.2 - left) by omega] at this
  ·rename_i hs
   have hg:=keptL_ge h.tl.2 p hp
   rw [if_neg hs,List.reverse_cons,beR_app]
   have e:beR (at' + (p.2 - left)) [(at', at' + s.1 - 1)]=at' + s.1+(p.2 - left):=by
    show beS _ (at' + (p.2 - left))=_
    rw [beS,if_pos (by dsimp only;omega)]
    unfold lngC
    dsimp only
    omega
   rw [e]
   exact bwd_before h.tl.2 p hp
end Go.Dr.T
namespace Go.Dr.T
def tb (f:Nat→Nat→Int):List Int:=(List.range 1681).map fun k=>f (k / 41) (k % 41)
def upT (f:Nat→Nat→Int) (i j:Nat) (v:Int):Nat→Nat→Int:=fun i' j' => if i' = i∧j' = j then v else f i' j'
theorem tb_len (f:Nat→Nat→Int):(tb f).length=1681:=by simp [tb]
theorem tb_get {f:Nat→Nat→Int} {i j:Nat} (hi:i<41) (hj:j<41):(tb f)[i * 41+j]?=some (f i j):=by
 have h1:(i * 41+j) / 41=i:=by omega
 have h2:(i * 41+j) % 41=j:=by omega
 have h3:i * 41+j<1681:=by omega
 simp [tb,h1,h2,h3]
theorem tb_set {f:Nat→Nat→Int} {i j:Nat} {v:Int} (hi:i<41) (hj:j<41):(tb f).set (i * 41+j) v=tb (upT f i j v):=by
 apply List.ext_getElem?
 intro k
 by_cases hk:k<1681
 ·rw [List.getElem?_set,tb_len]
  have e:∀ g:Nat→Nat→Int,(tb g)[k]?=some (g (k / 41) (k % 41)):=fun g=>by simp [tb,hk]
  rw [e,e]
  by_cases h:i * 41+j=k
  ·rw [if_pos h,if_pos (by omega)]
   have h1:k / 41=i:=by omega
   have h2:k % 41=j:=by omega
   simp [upT,h1,h2]
  ·rw [if_neg h]
   have:¬ (k / 41=i∧k % 41=j):=by omega
   simp [upT,this]
 ·rw [List.getElem?_eq_none (by simp [tb_len];omega),List.getElem?_eq_none (by simp [tb_len];omega)]
structure Sh where
 c:Bool
 l:List (Int × Int)
def Sh.v (a:Sh):V:=.sl a.c a.l.length (shC a.l)
@[irreducible] def pC (a b:Sh) (s:Int) (f:Nat→Nat→Int):List V:=a.v :: b.v :: .int .i64 s :: ofInts (tb f)
theorem pC_eq (a b:Sh) (s:Int) (f:Nat→Nat→Int):pC a b s f=a.v :: b.v :: .int .i64 s :: ofInts (tb f):=by unfold pC;rfl
section
variable {a b:Sh} {s:Int} {f:Nat→Nat→Int}
theorem pC_len:(pC a b s f).length=1684:=by rw [pC_eq];simp [ofInts,tb_len]
theorem pC_0:cellAt (pC a b s f) 0=some a.v:=by rw [pC_eq];rfl
theorem pC_1:cellAt (pC a b s f) 1=some b.v:=by rw [pC_eq];rfl
theorem pC_2:cellAt (pC a b s f) 2=some (.int .i64 s):=by rw [pC_eq];rfl
theorem pC_t {i j:Nat} (hi:i<41) (hj:j<41):cellAt (pC a b s f) (3+i * 41+j)=some (.int .i64 (f i j)):=by
 rw [pC_eq,show 3+i * 41+j=(i * 41+j)+1+1+1 by omega]
 simp only [cellAt]
 obtain ⟨y,h1,h2⟩:∃ y,(tb f)[i * 41+j]?=some y∧cellAt (ofInts (tb f)) (i * 41+j)=some (.int .i64 y):=by
  refine ⟨_,tb_get hi hj,?_⟩
  have key:∀ (l:List Int) (n:Nat) (y:Int),l[n]?=some y→cellAt (ofInts l) n=some (.int .i64 y):=by
   intro l
   induction l with
   | nil=>intro n y h;simp at h
   | cons x l ih =>
    intro n y h
    cases n with
    | zero=>simp at h;subst h;rfl
    | succ n=>exact ih n y (by simpa using h)
  exact key _ _ _ (tb_get hi hj)
 rw [tb_get hi hj] at h1
 cases h1;exact h2
theorem pC_st {i j:Nat} {v:Int} (hi:i<41) (hj:j<41):over (pC a b s f) (3+i * 41+j) [.int .i64 v]=pC a b s (upT f i j v):=by
 rw [pC_eq,pC_eq,show 3+i * 41+j=(i * 41+j)+1+1+1 by omega]
 have key:∀ (M:List Int) (n:Nat) (y:Int),over (ofInts M) n [.int .i64 y]=ofInts (M.set n y):=by
  intro M
  induction M with
  | nil=>intro n y;cases n <;> rfl
  | cons m M ih =>
   intro n y
   cases n with
   | zero=>cases M <;> rfl
   | succ n =>
    have:=ih n y
    simp only [ofInts,List.map_cons,List.set_cons_succ,over] at this ⊢
    rw [this]
 simp only [over]
 rw [key,tb_set hi hj]
end
abbrev pB (a b:Sh) (s:Int) (f:Nat→Nat→Int):B:=.blk (pC a b s f) false
def shr (s:Int) (x y:Int × Int):Int :=
 let n:=min x.2 y.2
 if s<max x.2 y.2 - n then 0 else if x.1=0∨y.1=0 then max (n / 2) 1 else if x.1≠y.1 then 0 else n
def shOk (l:List (Int × Int)):Prop:=l.length≤40∧∀ p∈l,0≤p.1∧p.1≤999∧1≤p.2∧p.2≤200000
theorem shr_case {s:Int} {m n m' n' : Int}:shr s (m,n) (m', n')=if s<max n n' - min n n' then 0 else if m=0∨m' = 0 then max (min n n' / 2) 1 else if m≠m' then 0 else min n n' := rfl
theorem mul_zero {m m' : Int}:m * m' = 0 ↔ m=0∨m' = 0:=Int.mul_eq_zero
set_option maxRecDepth 100000 in
set_option maxHeartbeats 20000000 in
theorem share_fun {a b:Sh} {s:Int} {f:Nat→Nat→Int} {i j:Nat} {x y:Int × Int} (ha:shOk a.l) (hb:shOk b.l) (hs:0≤s∧s≤200000) (hx:a.l[i]?=some x) (hy:b.l[j]?=some y) :
  Fun FB md 39 [.rp (pC a b s f) 0,.int .i64 (i:Nat),.int .i64 (j:Nat)] (.int .i64 (shr s x y)):=by
 have hil:=(List.getElem?_eq_some_iff.1 hx).1
 have hjl:=(List.getElem?_eq_some_iff.1 hy).1
 obtain ⟨a1,a2⟩:=ha
 obtain ⟨b1,b2⟩:=hb
 obtain ⟨x1,x2,x3,x4⟩:=a2 x (List.mem_of_getElem? hx)
 obtain ⟨y1,y2,y3,y4⟩:=b2 y (List.mem_of_getElem? hy)
 have hpx:=shC_part hx
 have hpy:=shC_part hy
 obtain ⟨m,n⟩:=x
 obtain ⟨m', n'⟩:=y
 dsimp only at *
 have hmm:0≤m * m' := Int.mul_nonneg x1 y1
 have hmM:m * m' ≤ 999 * 999:=Int.mul_le_mul x2 y2 y1 (by omega)
 have hz:=mul_zero (m:=m) (m' := m')
 have hw:IntKind.i64.wrap ((min n n').tdiv 2)=min n n' / 2:=by rw [Int.tdiv_eq_ediv_of_nonneg (by omega)];exact wrap_i64 (by omega) (by omega)
 refine fun_of rfl rfl ?_
 repeat' (first
 | (conv=>whnf)
   first
   | refine Br.dec (fun _ => ?_) (fun _ => ?_)
   | refine Br.not ?_
   | (refine Bnd.i64 ?_ ?_ ?_;(focus omega);(focus omega))
   | refine Get.mk _ pC_0 ?_
   | refine Get.mk _ pC_1 ?_
   | refine Get.mk _ pC_2 ?_
   | refine Get.mk _ hpx ?_
   | refine Get.mk _ hpy ?_
   | refine Bnd.any ?_
   | (refine Idx.nat ?_ ?_;(focus omega))
   | refine Get.mk _ rfl ?_
   | refine Leaves.of ?_
   | refine Vw.int ?_
   | (refine Req.mk ?_ ?_;(focus first | rfl | decide | exact ⟨rfl,rfl⟩ | exact ⟨rfl,by decide⟩ | exact (fun _=>rfl) | exact (fun h=>nomatch h) | (simp;done) | omega | (simp [big];done) | exact le_big (by omega) | exact lt_big (by omega))))
 all_goals rw [shr_case]
 all_goals first
  | (rw [if_pos (by omega)];done)
  | (rw [if_neg (by omega),if_pos (hz.1 (by assumption)),hw];done)
  | (rw [if_neg (by omega),if_neg (fun h=>absurd (hz.2 h) (by assumption)),if_pos (by assumption)];done)
  | (rw [if_neg (by omega),if_neg (fun h=>absurd (hz.2 h) (by assumption)),if_neg (by assumption)];done)
  | (rw [if_neg (by omega),if_neg (fun h=>absurd (hz.2 h) (by assumption)),if_neg (fun h=>by omega)];done)
theorem blos_int1 (n:Nat):∀ l:List Int,blos n (ofInts l)=true
 | []=>rfl
 | _ :: l=>by have:=blos_int1 n l;simp only [ofInts,List.map_cons,blos,V.blo,Bool.true_and] at this ⊢; exact this
theorem pB_blo {a b:Sh} {s:Int} {f:Nat→Nat→Int} (n:Nat):(pB a b s f).blo n=true:=by
 simp only [pB,B.blo,Bool.false_or]
 rw [pC_eq]
 simp only [blos,V.blo,Sh.v,blos_int1,Bool.and_self]
end Go.Dr.T
