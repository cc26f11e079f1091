/- The door: code that runs as wished, part after part: ways that meet again are walked once behind the meeting, loops within. -/
import Derived.Test.YtbnmdlnkhghbpaaGreatDoorDrF
namespace Go.Dr
variable {F:Nat→Option Fc} {md:Nat→Nat} {ro:Nat}
inductive Rn (F:Nat→Option Fc) (md:Nat→Nat) (ro:Nat) (c:MC) (st:St) (Q:X→St→Prop):Prop where
 | mk:Qjb F md ro c st Q→Rn F md ro c st Q
theorem Rn.wp {c:MC} {st:St} {Q:X→St→Prop} (h:Dr.wp F md ro c st Q):Rn F md ro c st Q:=⟨Qc2 h⟩
def seqQ (F:Nat→Option Fc) (md:Nat→Nat) (ro:Nat) (b:MC) (Q:X→St→Prop) (x:X) (s:St):Prop :=
 match x with
 | .nrm=>Rn F md ro b s Q
 | x=>Q x s
theorem Rn.seq {a b:MC} {st:St} {Q:X→St→Prop} (ha:Rn F md ro a st (seqQ F md ro b Q)):Rn F md ro (.seq a b) st Q:=by
 obtain ⟨n,x,s,h1,h2⟩:=ha
 cases x with
 | nrm =>
  obtain ⟨n2,x2,s2,h3,h4⟩:=h2
  refine ⟨max n n2+1,x2,s2,fun m hm=>?_,h4⟩
  cases m with
  | zero=>omega
  | succ m=>simp only [run,h1 m (by omega)];exact h3 m (by omega)
 | exit i =>
  refine ⟨n+1,_,s,fun m hm=>?_,h2⟩
  cases m with
  | zero=>omega
  | succ m=>simp only [run,h1 m (by omega)]
 | ret =>
  refine ⟨n+1,_,s,fun m hm=>?_,h2⟩
  cases m with
  | zero=>omega
  | succ m=>simp only [run,h1 m (by omega)]
theorem Rn.reg {draw:Bool} {na:Nat} {ops:List G} {st:St} {Q:X→St→Prop} (h:Dr.wp F md ro (.reg draw na ops) st Q):Rn F md ro (.reg draw na ops) st Q:=Rn.wp h
def condQ (F:Nat→Option Fc) (md:Nat→Nat) (ro:Nat) (x:O) (a b:MC) (tm:List V) (h:List B) (Q:X→St→Prop):Prop :=
 match x.ev tm with
 | .bool t=>Br t (Rn F md ro a ⟨tm,h⟩ Q) (Rn F md ro b ⟨tm,h⟩ Q)
 | _=>False
theorem Rn.cond {x:O} {a b:MC} {tm:List V} {h:List B} {Q:X→St→Prop} (hc:condQ F md ro x a b tm h Q):Rn F md ro (.cond x a b) ⟨tm,h⟩ Q:=by
 unfold condQ at hc
 split at hc
 ·rename_i t ht
  obtain ⟨h1,h2⟩:=hc
  cases t with
  | true =>
   obtain ⟨n,x,s,h3,h4⟩:=h1 rfl
   refine ⟨n+1,x,s,fun m hm=>?_,h4⟩
   cases m with
   | zero=>omega
   | succ m=>simp only [run,ht,if_true];exact h3 m (by omega)
  | false =>
   obtain ⟨n,x,s,h3,h4⟩:=h2 rfl
   refine ⟨n+1,x,s,fun m hm=>?_,h4⟩
   cases m with
   | zero=>omega
   | succ m=>simp only [run,ht,Bool.false_eq_true,if_false];exact h3 m (by omega)
 ·exact hc.elim
def Qs1 (id:Nat) (Q:X→St→Prop) (x:X) (s:St):Prop :=
 match x with
 | .exit i=>if i=id then Q .nrm s else Q (.exit i) s
 | x=>Q x s
theorem Rn.block {id:Nat} {c:MC} {st:St} {Q:X→St→Prop} (h:Rn F md ro c st (Qs1 id Q)):Rn F md ro (.block id c) st Q:=by
 obtain ⟨n,x,s,h1,h2⟩:=h
 cases x with
 | nrm =>
  refine ⟨n+1,_,s,fun m hm=>?_,h2⟩
  cases m with
  | zero=>omega
  | succ m=>simp only [run,h1 m (by omega)]
 | ret =>
  refine ⟨n+1,_,s,fun m hm=>?_,h2⟩
  cases m with
  | zero=>omega
  | succ m=>simp only [run,h1 m (by omega)]
 | exit i =>
  unfold Qs1 at h2
  by_cases hi:i=id
  ·simp only [hi,if_true] at h2
   refine ⟨n+1,_,s,fun m hm=>?_,h2⟩
   cases m with
   | zero=>omega
   | succ m=>simp only [run,h1 m (by omega),hi,if_true]
  ·simp only [hi,if_false] at h2
   refine ⟨n+1,_,s,fun m hm=>?_,h2⟩
   cases m with
   | zero=>omega
   | succ m=>simp only [run,h1 m (by omega),hi,if_false]
def loopQ {α:Type} (P:α→Prop) (I:α→St) (μ:α→Nat) (a:α) (mk:List Bool) (hl:Nat) (Q:X→St→Prop) (x:X) (s:St):Prop :=
 match x with
 | .nrm=>NextP P I μ a (norm mk hl s)
 | x=>Q x s
theorem Rn.loop {c:MC} {tm:List V} {h:List B} {Q:X→St→Prop} {α:Type} (P:α→Prop) (us:α→List (Nat × V)) (hs:α→List B) (μ:α→Nat) (a0:α) (p0:P a0)
  (h0:(⟨tm,h⟩:St)=⟨upds tm (us a0),hs a0⟩)
  (step:∀ a,P a→fV (upds tm (us a)) fun tm'=>fB (hs a) fun h'=>Rn F md ro c ⟨tm',h'⟩ (loopQ P (fun a=>(⟨upds tm (us a),hs a⟩:St)) μ a (Q4t tm) h.length Q)):Rn F md ro (.loop c) ⟨tm,h⟩ Q:=by
 have hs':∀ a,P a→Qjb F md ro c ⟨upds tm (us a),hs a⟩ (fun x s=>match x with
   | .nrm=>NextP P (fun a=>(⟨upds tm (us a),hs a⟩:St)) μ a (norm (Q4t tm) h.length s)
   | x=>Q x s):=fun a pa=>by
  obtain ⟨n,x,s,h1,h2⟩:=Q1w.1 (Q23.1 (step a pa))
  refine ⟨n,x,s,h1,?_⟩
  cases x<;>exact h2
 obtain ⟨n,x,s,h1,h2⟩:=Qtm (F:=F) (md:=md) (ro:=ro) (I:=fun a=>(⟨upds tm (us a),hs a⟩:St)) hs' (μ a0+1) a0 p0 (by omega)
 refine ⟨n+1,x,s,fun m hm=>?_,h2⟩
 cases m with
 | zero=>omega
 | succ m=>simp only [run];have:=h1 m (by omega);rw [← h0] at this;exact this
def mrg (f:Nat→V):List (Option Nat)→List V→List V
 | some k::ms,_::l=>f k::mrg f ms l
 | none::ms,v::l=>v::mrg f ms l
 | _,l=>l
def same:List (Option Nat)→List V→List V→Prop
 | some _::ms,_::l,_::r=>same ms l r
 | none::ms,x::l,y::r=>x=y∧same ms l r
 | _,l,r=>l=r
inductive Meets (tm:List V) (ms:List (Option Nat)) (J:(Nat→V)→List B→Prop) (x:X) (s:St):Prop where
 | mk (f:Nat→V):x=.nrm→s.tm=mrg f ms tm→J f s.h→Meets tm ms J x s
def nd:List (Option Nat)→List V→Prop
 | some _::ms,v::l=>v≠.dead∧nd ms l
 | none::ms,_::l=>nd ms l
 | _,_=>True
theorem Rn.skip {st:St} {Q:X→St→Prop} (h:Q .nrm st):Rn F md ro .skip st Q:=Rn.wp h
theorem Rn.exit {id:Nat} {st:St} {Q:X→St→Prop} (h:Q (.exit id) st):Rn F md ro (.exit id) st Q:=Rn.wp h
theorem Rn.ret {st:St} {Q:X→St→Prop} (h:Q .ret st):Rn F md ro .ret st Q:=Rn.wp h
theorem Qb8 {f:Nat} {fc:Fc} {as:List V} {v:V} (hF:F f=some fc) (hn:as.length=fc.np) (hw:fV (as++Q1a (fc.ntm-fc.np)) fun tm=>Rn F md 0 fc.body ⟨tm,[]⟩ (LeavesF fc.res v)):FunF F md f as v:=by
 obtain ⟨n,x,st,h1,⟨v0,h2,h3,h4,h5⟩⟩:=(Q23.1 hw).1
 exact ⟨fc,hF,hn,n,x,st,v0,h1,h2,h3,h4,h5⟩
end Go.Dr
