/- The door: code that runs as wished, part after part: ways that meet again are walked once behind the meeting, loops within. -/
import Derived.Test.YtcjhgcjmomildaaGreatDoorDrF
namespace Go.Dr
variable {F:Nat→Option Fc} {md:Nat→Nat} {ro:Nat}
inductive Rn (F:Nat→Option Fc) (md:Nat→Nat) (ro:Nat) (c:MC) (st:St) (Q:X→St→Prop):Prop where
 | mk:Ends' F md ro c st Q→Rn F md ro c st Q
theorem Rn.wp {c:MC} {st:St} {Q:X→St→Prop} (h:Dr.wp F md ro c st Q):Rn F md ro c st Q:=⟨wp_ok h⟩
theorem Rn.mono {c:MC} {st:St} {P Q:X→St→Prop} (h:Rn F md ro c st P) (hq:∀ x s,P x s→Q x s):Rn F md ro c st Q:=by
 obtain ⟨n,x,s,h1,h2⟩:=h
 exact ⟨n,x,s,h1,hq x s h2⟩
def seqQ (F:Nat→Option Fc) (md:Nat→Nat) (ro:Nat) (b:MC) (Q:X→St→Prop) (x:X) (s:St):Prop :=
 match x with
 | .nrm=>Rn F md ro b s Q
 | x=>Q x s
theorem Rn.seq {a b:MC} {st:St} {Q:X→St→Prop} (ha:Rn F md ro a st (seqQ F md ro b Q)):Rn F md ro (.seq a b) st Q:=by
 obtain ⟨n,x,s,h1,h2⟩:=ha
 cases x with
 | nrm =>
  obtain ⟨n2,x2,s2,h3,h4⟩:=h2
  refine ⟨max n n2+1,x2,s2,fun m hm => ?_,h4⟩
  cases m with
  | zero=>omega
  | succ m=>simp only [run,h1 m (by omega)];exact h3 m (by omega)
 | exit i =>
  refine ⟨n+1,_,s,fun m hm => ?_,h2⟩
  cases m with
  | zero=>omega
  | succ m=>simp only [run,h1 m (by omega)]
 | ret =>
  refine ⟨n+1,_,s,fun m hm => ?_,h2⟩
  cases m with
  | zero=>omega
  | succ m=>simp only [run,h1 m (by omega)]
theorem Rn.reg {draw:Bool} {na:Nat} {ops:List G} {st:St} {Q:X→St→Prop} (h:Dr.wp F md ro (.reg draw na ops) st Q):Rn F md ro (.reg draw na ops) st Q:=Rn.wp h
def condQ (F:Nat→Option Fc) (md:Nat→Nat) (ro:Nat) (x:O) (a b:MC) (tm:List V) (h:List B) (Q:X→St→Prop):Prop :=
 match x.ev tm with
 | .bool t=>Br t (Rn F md ro a ⟨tm,h⟩ Q) (Rn F md ro b ⟨tm,h⟩ Q)
 | _=>False
theorem Rn.cond {x:O} {a b:MC} {tm:List V} {h:List B} {Q:X→St→Prop} (hc:condQ F md ro x a b tm h Q):Rn F md ro (.cond x a b) ⟨tm,h⟩ Q:=by
 unfold condQ at hc
 split at hc
 ·rename_i t ht
  obtain ⟨h1,h2⟩:=hc
  cases t with
  | true =>
   obtain ⟨n,x,s,h3,h4⟩:=h1 rfl
   refine ⟨n+1,x,s,fun m hm => ?_,h4⟩
   cases m with
   | zero=>omega
   | succ m=>simp only [run,ht,if_true];exact h3 m (by omega)
  | false =>
   obtain ⟨n,x,s,h3,h4⟩:=h2 rfl
   refine ⟨n+1,x,s,fun m hm => ?_,h4⟩
   cases m with
   | zero=>omega
   | succ m=>simp only [run,ht,Bool.false_eq_true,if_false];exact h3 m (by omega)
 ·exact hc.elim
def blockQ (id:Nat) (Q:X→St→Prop) (x:X) (s:St):Prop :=
 match x with
 | .exit i=>if i=id then Q .nrm s else Q (.exit i) s
 | x=>Q x s
theorem Rn.block {id:Nat} {c:MC} {st:St} {Q:X→St→Prop} (h:Rn F md ro c st (blockQ id Q)):Rn F md ro (.block id c) st Q:=by
 obtain ⟨n,x,s,h1,h2⟩:=h
 cases x with
 | nrm =>
  refine ⟨n+1,_,s,fun m hm => ?_,h2⟩
  cases m with
  | zero=>omega
  | succ m=>simp only [run,h1 m (by omega)]
 | ret =>
  refine ⟨n+1,_,s,fun m hm => ?_,h2⟩
  cases m with
  | zero=>omega
  | succ m=>simp only [run,h1 m (by omega)]
 | exit i =>
  unfold blockQ at h2
  by_cases hi:i=id
  ·simp only [hi,if_true] at h2
   refine ⟨n+1,_,s,fun m hm => ?_,h2⟩
   cases m with
   | zero=>omega
   | succ m=>simp only [run,h1 m (by omega),hi,if_true]
  ·simp only [hi,if_false] at h2
   refine ⟨n+1,_,s,fun m hm => ?_,h2⟩
   cases m with
   | zero=>omega
   | succ m=>simp only [run,h1 m (by omega),hi,if_false]
def loopQ {α:Type} (P:α→Prop) (I:α→St) (μ:α→Nat) (a:α) (mk:List Bool) (hl:Nat) (Q:X→St→Prop) (x:X) (s:St):Prop :=
 match x with
 | .nrm=>NextP P I μ a (norm mk hl s)
 | x=>Q x s
theorem Rn.loop {c:MC} {tm:List V} {h:List B} {Q:X→St→Prop} {α:Type} (P:α→Prop) (us:α→List (Nat × V)) (hs:α→List B) (μ:α→Nat) (a0:α) (p0:P a0)
  (h0:(⟨tm,h⟩:St)=⟨upds tm (us a0),hs a0⟩)
  (step:∀ a,P a→fV (upds tm (us a)) fun tm' => fB (hs a) fun h' => Rn F md ro c ⟨tm', h'⟩ (loopQ P (fun a=>(⟨upds tm (us a),hs a⟩:St)) μ a (maskOf tm) h.length Q)):Rn F md ro (.loop c) ⟨tm,h⟩ Q:=by
 have hs' : ∀ a,P a→Ends' F md ro c ⟨upds tm (us a),hs a⟩ (fun x s=>match x with
   | .nrm=>NextP P (fun a=>(⟨upds tm (us a),hs a⟩:St)) μ a (norm (maskOf tm) h.length s)
   | x=>Q x s):=fun a pa=>by
  obtain ⟨n,x,s,h1,h2⟩:=fB_eq.1 (fV_eq.1 (step a pa))
  refine ⟨n,x,s,h1,?_⟩
  cases x <;> exact h2
 obtain ⟨n,x,s,h1,h2⟩:=lp_ok (F:=F) (md:=md) (ro:=ro) (I:=fun a=>(⟨upds tm (us a),hs a⟩:St)) hs' (μ a0+1) a0 p0 (by omega)
 refine ⟨n+1,x,s,fun m hm => ?_,h2⟩
 cases m with
 | zero=>omega
 | succ m=>simp only [run];have:=h1 m (by omega);rw [← h0] at this;exact this
def mrg (f:Nat→V):List (Option Nat)→List V→List V
 | some k :: ms,_ :: l=>f k :: mrg f ms l
 | none :: ms,v :: l=>v :: mrg f ms l
 | _,l=>l
def wfm:Nat→List (Option Nat)→Bool
 | _,[]=>true
 | i,none :: ms=>wfm (i+1) ms
 | i,some k :: ms=>(k == i) && wfm (i+1) ms
def same:List (Option Nat)→List V→List V→Prop
 | some _ :: ms,_ :: l,_ :: r=>same ms l r
 | none :: ms,x :: l,y :: r=>x=y∧same ms l r
 | _,l,r=>l=r
theorem same_mrg {f:Nat→V}:∀ {ms:List (Option Nat)} {i:Nat} {l r:List V},wfm i ms=true→(∀ n,f (i+n)=tg l n)→same ms l r→l=mrg f ms r
 | [],i,l,r,_,_,h=>by
  cases l <;> cases r <;> exact h
 | none :: ms,i,[],r,_,_,h=>by
  cases r with
  | nil=>rfl
  | cons y r=>simp only [same] at h;cases h
 | some k :: ms,i,[],r,_,_,h=>by
  cases r with
  | nil=>rfl
  | cons y r=>simp only [same] at h;cases h
 | none :: ms,i,x :: l,[],_,_,h=>by simp only [same] at h;cases h
 | some k :: ms,i,x :: l,[],_,_,h=>by simp only [same] at h;cases h
 | none :: ms,i,x :: l,y :: r,hw,hf,h=>by
  obtain ⟨rfl,h⟩:=h
  simp only [mrg]
  rw [← same_mrg (i:=i+1) (l:=l) hw (fun n=>by have:=hf (n+1);rw [show i+1+n=i+(n+1) by omega];exact this) h]
 | some k :: ms,i,x :: l,y :: r,hw,hf,h=>by
  simp only [wfm,Bool.and_eq_true,beq_iff_eq] at hw
  obtain ⟨rfl,hw⟩:=hw
  simp only [mrg]
  have h0:=hf 0
  rw [Nat.add_zero] at h0
  rw [h0, ← same_mrg (i:=k+1) (l:=l) hw (fun n=>by have:=hf (n+1);rw [show k+1+n=k+(n+1) by omega];exact this) h]
  rfl
inductive Meets (tm:List V) (ms:List (Option Nat)) (J:(Nat→V)→List B→Prop) (x:X) (s:St):Prop where
 | mk (f:Nat→V):x = .nrm→s.tm=mrg f ms tm→J f s.h→Meets tm ms J x s
theorem Meets.of {tm tm' : List V} {h:List B} {ms:List (Option Nat)} {J:(Nat→V)→List B→Prop} (hw:wfm 0 ms=true) (hs:same ms tm' tm) (hj:J (tg tm') h):Meets tm ms J .nrm ⟨tm', h⟩ :=
 ⟨tg tm', rfl,same_mrg hw (fun n=>by rw [Nat.zero_add]) hs,hj⟩
theorem Rn.meet {c:MC} {tm:List V} {h:List B} {Q:X→St→Prop} (ms:List (Option Nat)) (J:(Nat→V)→List B→Prop) (h1:Rn F md ro c ⟨tm,h⟩ (Meets tm ms J))
  (h2:∀ f h', J f h' → fV (mrg f ms tm) fun tm' => Q .nrm ⟨tm', h'⟩):Rn F md ro c ⟨tm,h⟩ Q :=
 h1.mono fun x s ⟨f,e1,e2,e3⟩=>by
  subst e1
  have:=fV_eq.1 (h2 _ _ e3)
  rw [← e2] at this
  exact this
def nd:List (Option Nat)→List V→Prop
 | some _ :: ms,v :: l=>v ≠ .dead∧nd ms l
 | none :: ms,_ :: l=>nd ms l
 | _,_=>True
theorem maskOf_cons {v:V} {l:List V} (h:v ≠ .dead):maskOf (v :: l)=false :: maskOf l:=by
 cases v <;> first | rfl | exact absurd rfl h
theorem maskOf_mrg:∀ {ms:List (Option Nat)} {l:List V},nd ms l→maskOf l=maskOf (mrg (fun _=>.nilsl) ms l)
 | [],[],_=>rfl
 | [],_ :: _,_=>rfl
 | none :: _,[],_=>rfl
 | some _ :: _,[],_=>rfl
 | none :: ms,v :: l,h=>by
  have ih:=maskOf_mrg (ms:=ms) (l:=l) h
  simp only [mrg]
  cases v <;> simp only [maskOf,ih]
 | some k :: ms,v :: l,h=>by
  have ih:=maskOf_mrg (ms:=ms) (l:=l) h.2
  simp only [mrg]
  rw [maskOf_cons h.1,ih]
  rfl
theorem Rn.loopM {c:MC} {tm:List V} {h:List B} {Q:X→St→Prop} {α:Type} (ms:List (Option Nat)) (hnd:nd ms tm) (P:α→Prop) (us:α→List (Nat × V)) (hs:α→List B) (μ:α→Nat) (a0:α) (p0:P a0)
  (h0:(⟨tm,h⟩:St)=⟨upds tm (us a0),hs a0⟩)
  (step:∀ a,P a→fV (upds tm (us a)) fun tm' => fB (hs a) fun h' => Rn F md ro c ⟨tm', h'⟩ (loopQ P (fun a=>(⟨upds tm (us a),hs a⟩:St)) μ a (maskOf (mrg (fun _=>.nilsl) ms tm)) h.length Q)):Rn F md ro (.loop c) ⟨tm,h⟩ Q :=
 Rn.loop P us hs μ a0 p0 h0 (by rw [maskOf_mrg hnd];exact step)
theorem Rn.skip {st:St} {Q:X→St→Prop} (h:Q .nrm st):Rn F md ro .skip st Q:=Rn.wp h
theorem Rn.exit {id:Nat} {st:St} {Q:X→St→Prop} (h:Q (.exit id) st):Rn F md ro (.exit id) st Q:=Rn.wp h
theorem Rn.ret {st:St} {Q:X→St→Prop} (h:Q .ret st):Rn F md ro .ret st Q:=Rn.wp h
theorem fun_rn {f:Nat} {fc:Fc} {as:List V} {v:V} (hF:F f=some fc) (hn:as.length=fc.np) (hw:fV (as++deads (fc.ntm - fc.np)) fun tm=>Rn F md 0 fc.body ⟨tm,[]⟩ (Leaves fc.res v)):Fun F md f as v:=by
 obtain ⟨n,x,st,h1,⟨v0,h2,h3,h4⟩⟩:=(fV_eq.1 hw).1
 exact ⟨fc,hF,hn,n,x,st,v0,h1,h2,h3,h4⟩
theorem funF_rn {f:Nat} {fc:Fc} {as:List V} {v:V} (hF:F f=some fc) (hn:as.length=fc.np) (hw:fV (as++deads (fc.ntm - fc.np)) fun tm=>Rn F md 0 fc.body ⟨tm,[]⟩ (LeavesF fc.res v)):FunF F md f as v:=by
 obtain ⟨n,x,st,h1,⟨v0,h2,h3,h4,h5⟩⟩:=(fV_eq.1 hw).1
 exact ⟨fc,hF,hn,n,x,st,v0,h1,h2,h3,h4,h5⟩
theorem call_rn {f:Nat} {fc:Fc} {caps args:List V} {h:List B} {K:V→List B→Prop} (hm:mode md (.fn f caps) args=1) (hF:F f=some fc) (hn:(args++caps).length=fc.np)
  (hw:fV (args++caps++deads (fc.ntm - fc.np)) fun tm=>Rn F md ro fc.body ⟨tm,h⟩ fun x s=>Ends fc.res x s fun v=>fB (trunc h.length [v] s.h) fun h' => K v h'):CallP F md ro (.fn f caps) args h K:=by
 obtain ⟨n,x,st,h1,⟨v,h2,h3,h4⟩⟩:=(fV_eq.1 hw).1
 refine ⟨v,_,⟨n,fun m hm' => ?_⟩,fB_eq.1 h4⟩
 simp only [doCall,hF,hn,if_true,hm]
 rcases h2 with rfl | rfl <;> simp only [h1 m hm', h3]
end Go.Dr
