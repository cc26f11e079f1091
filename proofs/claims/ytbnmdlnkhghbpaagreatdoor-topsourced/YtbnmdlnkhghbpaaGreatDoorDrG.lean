/- The door: code with ranges over maps, whatever comes next; functions of which it is known what they give. -/
import Derived.Test.YtbnmdlnkhghbpaaGreatDoorDrD
import Derived.Test.YtbnmdlnkhghbpaaGreatDoorDrF
import Derived.Maps.RangeRun
import Derived.Lib.SlTrimSet
import Derived.Lib.Bytealg
namespace Go.Dr
open Go.RowKit (Below)
variable {P:Program} [GT P] {md:Nat→Nat} {F:Nat→Option Fc} {k:K} {ro:Nat}
inductive NextQ (st seen:List Nat) (P0:Prop) (P1:Nat→Nat→Prop):Prop where
 | mk:((∀ s∈st,s∈seen)→P0)→(∀ j s,st[j]?=some s→s∉seen→P1 j s)→NextQ st seen P0 P1
inductive NextR (n:Nat) (seen:List Nat) (P0:Prop) (P1:Nat→Prop):Prop where
 | mk:((∀ s,s<n→s∈seen)→P0)→(∀ s,s<n→s∉seen→P1 s)→NextR n seen P0 P1
theorem Qpf (g:Good P k) {id m since stepped:Nat} {seen:List Nat} {b:B} {st:List Nat} {ck:Nat} {ks vs:List V} {x:Value} {ty:TypeId} (hit:bget k.h id=some (.it m since stepped seen)) (hb:bget k.h m=some b) (he:b.ents=some (st,ck,ks,vs))
  (hold:∀ s∈st,s<since) (hsc:since≤ck) (hro:ro≤id) (hx:R k (.itr id m) x) :
  ((∀ s∈st,s∈seen)∧Did P ro k (do pure (Next.value (← Instr.next x false ty)):Sem Next) (.tup [.bool false]) k.h) ∨
  ∃ j s,st[j]?=some s∧s∉seen∧Did P ro k (do pure (Next.value (← Instr.next x false ty)):Sem Next) (.tup [.bool true,tg ks j,tg vs j]) (bset k.h id (.it m since ck (seen++[s]))):=by
 simp only [R] at hx
 obtain ⟨rfl,_⟩:=hx
 have hmap:=Qhd he
 obtain ⟨i1,_,i3,i4⟩:Qs5 k id m since stepped seen:=g.od id _ hit rfl
 obtain ⟨_,es,ck',h2,hpre⟩:=g.map hb hmap
 obtain ⟨st',ks',vs',he',hst,_,_,h4,h5⟩:=hpre.ents
 rw [he] at he'
 simp only [jA,jN] at he'
 obtain ⟨rfl,rfl,rfl,rfl⟩:=he'
 have hold':∀ e∈es.toList,e.born<since:=fun e h=>hold _ (by rw [hst];exact List.mem_map.2 ⟨e,h,rfl⟩)
 rcases run_next_at (P:=P) k.w ty (k.β id).1 (k.β m).1 since stepped ⟨seen⟩ es ck i4 h2 hold' i3 with ⟨h0,hrun⟩|⟨e,hem,w1,hal,hrun⟩
 ·refine .inl ⟨fun s hs=>?_,.val g (x:=.tuple #[.bool false]) (Q0c hrun) (by simp only [R];exact ⟨_,rfl,RL.cons (by simp only [R]) RL.nil⟩)⟩
  rw [hst] at hs
  obtain ⟨e,h1,rfl⟩:=List.mem_map.1 hs
  refine Classical.byContradiction fun hn=>?_
  have:e∈(leftOf es ⟨seen⟩).toList:=by
   unfold leftOf
   rw [Array.toList_filter,List.mem_filter]
   exact ⟨h1,by simpa using hn⟩
  have hl:(leftOf es ⟨seen⟩).toList=[]:=by rw [← List.length_eq_zero_iff,Array.length_toList];exact h0
  rw [hl] at this;cases this
 ·right
  unfold leftOf at hem
  rw [Array.toList_filter,List.mem_filter] at hem
  obtain ⟨hm1,hm2⟩:=hem
  have hns:e.born∉seen:=by simpa using hm2
  obtain ⟨j,hj⟩:=List.getElem?_of_mem hm1
  have hstj:st[j]?=some e.born:=by rw [hst,jH,hj];rfl
  refine ⟨j,e.born,hstj,hns,?_⟩
  rw [show (⟨seen⟩:Array Nat).push e.born=⟨seen++[e.born]⟩ by simp] at hrun
  have hr1:w1.heap[(k.β id).1]?=some (.mapIter (some (k.β m).1) since ⟨seen⟩ stepped):=by rcases hal with rfl|rfl<;>exact i4
  have hp:=Qb7 (ob':=.mapIter (some (k.β m).1) since ⟨seen++[e.born]⟩ ck) hr1
  have hsame:∀ b,b≠(k.β id).1→(w1.heap.setIfInBounds (k.β id).1 (.mapIter (some (k.β m).1) since ⟨seen++[e.born]⟩ ck))[b]?=k.w.heap[b]?:=fun b hb'=>by
   have:=hp.2 b hb'
   simp only at this
   rw [this]
   rcases hal with rfl|rfl<;>rfl
  have hl:=Q1i hit rfl
  have hne:(k.β id).1≠(k.β m).1:=fun e=>by
   have:=g.inj id m hl (Q1i hb (B.isMap.odd hmap)) e
   subst this
   rw [hit] at hb;cases hb;cases hmap
  obtain ⟨g1,e1⟩:=g.updo (id:=id) (b':=.it m since ck (seen++[e.born])) (p:=k.β id) (ro:=ro) (w':={ w1 with heap:=w1.heap.setIfInBounds (k.β id).1 (.mapIter (some (k.β m).1) since ⟨seen++[e.born]⟩ ck) }) rfl (Q05 hit) hro
   (.inr ⟨_,hit,rfl,⟨rfl,rfl⟩,rfl⟩)
   (by
    refine ⟨?_,?_,?_,?_,fun b hb'=>hsame b (by omega)⟩
    ·rcases hal with rfl|rfl<;>rfl
    ·rcases hal with rfl|rfl<;>rfl
    ·rcases hal with rfl|rfl<;>rfl
    ·show _≤(w1.heap.setIfInBounds _ _).size
     rw [Array.size_setIfInBounds]
     rcases hal with rfl|rfl<;>exact Nat.le_refl _)
   (fun b _ hl'=>hsame b (hl' hl)) (.inr ⟨hl,rfl⟩)
   (fun ev=>⟨by simpa [K.set] using i1,⟨b,by simp only [K.set,Q0g];rw [if_neg (by rintro ⟨rfl,_⟩;exact hne rfl)];exact hb,hmap⟩,hsc,by
    have:=hp.1
    have hmid:m≠id:=by rintro rfl;exact hne rfl
    simpa [K.set,hmid] using this⟩)
  refine ⟨.tuple #[.bool true,e.key,e.val],_,.inl (Q0c (by rw [hrun];rfl)),rfl,g1,e1,?_⟩
  simp only [R]
  refine ⟨_,rfl,RL.cons (by simp only [R]) (RL.cons ?_ (RL.cons ?_ RL.nil))⟩
  ·exact R.ev e1 (R.blo (RL.get' h4 (by rw [jH,hj];rfl))) (RL.get' h4 (by rw [jH,hj];rfl))
  ·exact R.ev e1 (R.blo (RL.get' h5 (by rw [jH,hj];rfl))) (RL.get' h5 (by rw [jH,hj];rfl))
theorem Qlj (g:Good P k) {id:Nat} {seen:List Nat} {ks vs:List V} {x:Value} {ty:TypeId} (hit:bget k.h id=some (.ir ks vs seen)) (hro:ro≤id) (hx:R k (.irr id) x) :
  ((∀ s,s<ks.length→s∈seen)∧Did P ro k (do pure (Next.value (← Instr.next x false ty)):Sem Next) (.tup [.bool false]) k.h) ∨
  ∃ s,s<ks.length∧s∉seen∧Did P ro k (do pure (Next.value (← Instr.next x false ty)):Sem Next) (.tup [.bool true,tg ks s,tg vs s]) (bset k.h id (.ir ks vs (seen++[s]))):=by
 simp only [R] at hx
 obtain ⟨rfl,_⟩:=hx
 obtain ⟨i1,b0,kv,vv,o1,o2,⟨es,h2,hborn,e2,e3⟩,h4,h5,h6,h7,hw⟩:=g.od id _ hit rfl
 have hkl:kv.length=es.size:=by rw [← e2];simp
 have hks:ks.length=es.size:=by rw [← hkl,RL.len h4]
 rw [hkl] at hw
 have hmem:∀ e∈es.toList,e.born<es.size∧es.toList[e.born]?=some e:=fun e he=>by
  obtain ⟨i,hi,rfl⟩:=List.mem_iff_getElem.1 he
  have hi':i<es.size:=by simpa using hi
  have hb:=hborn i hi'
  have hb2:(es.toList[i]).born=i:=by rw [Array.getElem_toList];exact hb
  rw [hb2]
  exact ⟨hi',jC hi⟩
 rcases run_next_at (P:=P) k.w ty (k.β id).1 b0 es.size es.size ⟨seen⟩ es es.size hw h2 (fun e he=>(hmem e he).1) (Nat.le_refl _) with ⟨h0,hrun⟩|⟨e,hem,w1,hal,hrun⟩
 ·refine .inl ⟨fun s hs=>?_,.val g (x:=.tuple #[.bool false]) (Q0c hrun) (by simp only [R];exact ⟨_,rfl,RL.cons (by simp only [R]) RL.nil⟩)⟩
  rw [hks] at hs
  refine Classical.byContradiction fun hn=>?_
  have hsl:s<es.toList.length:=by simpa using hs
  have hb:=hborn s hs
  have hb2:(es.toList[s]).born=s:=by rw [Array.getElem_toList];exact hb
  have:es.toList[s]∈(leftOf es ⟨seen⟩).toList:=by
   unfold leftOf
   rw [Array.toList_filter,List.mem_filter]
   refine ⟨List.getElem_mem hsl,?_⟩
   rw [hb2];simpa using hn
  have hl:(leftOf es ⟨seen⟩).toList=[]:=by rw [← List.length_eq_zero_iff,Array.length_toList];exact h0
  rw [hl] at this;cases this
 ·right
  unfold leftOf at hem
  rw [Array.toList_filter,List.mem_filter] at hem
  obtain ⟨hm1,hm2⟩:=hem
  have hns:e.born∉seen:=by simpa using hm2
  obtain ⟨hlt,hj⟩:=hmem e hm1
  refine ⟨e.born,by omega,hns,?_⟩
  rw [show (⟨seen⟩:Array Nat).push e.born=⟨seen++[e.born]⟩ by simp] at hrun
  have hr1:w1.heap[(k.β id).1]?=some (.mapIter (some b0) es.size ⟨seen⟩ es.size):=by rcases hal with rfl|rfl<;>exact hw
  have hp:=Qb7 (ob':=.mapIter (some b0) es.size ⟨seen++[e.born]⟩ es.size) hr1
  have hsame:∀ b,b≠(k.β id).1→(w1.heap.setIfInBounds (k.β id).1 (.mapIter (some b0) es.size ⟨seen++[e.born]⟩ es.size))[b]?=k.w.heap[b]?:=fun b hb'=>by
   have:=hp.2 b hb'
   simp only at this
   rw [this]
   rcases hal with rfl|rfl<;>rfl
  have hl:=Q1i hit rfl
  obtain ⟨g1,e1⟩:=g.updo (id:=id) (b':=.ir ks vs (seen++[e.born])) (p:=k.β id) (ro:=ro) (w':={ w1 with heap:=w1.heap.setIfInBounds (k.β id).1 (.mapIter (some b0) es.size ⟨seen++[e.born]⟩ es.size) }) rfl (Q05 hit) hro
   (.inr ⟨_,hit,rfl,⟨rfl,rfl⟩,rfl⟩)
   (by
    refine ⟨?_,?_,?_,?_,fun b hb'=>hsame b (by omega)⟩
    ·rcases hal with rfl|rfl<;>rfl
    ·rcases hal with rfl|rfl<;>rfl
    ·rcases hal with rfl|rfl<;>rfl
    ·show _≤(w1.heap.setIfInBounds _ _).size
     rw [Array.size_setIfInBounds]
     rcases hal with rfl|rfl<;>exact Nat.le_refl _)
   (fun b _ hl'=>hsame b (hl' hl)) (.inr ⟨hl,rfl⟩)
   (fun ev=>by
    obtain ⟨p1,p2⟩:=ev.prot b0 o1 o2
    have hev:=ev
    refine ⟨by simpa [K.set] using i1,b0,kv,vv,p1,Nat.lt_of_lt_of_le o2 ev.low.size,mapAt.same p2 ⟨es,h2,hborn,e2,e3⟩,RL.ev ev (Q0o (Nat.zero_le _) _ h6) h4,RL.ev ev (Q0o (Nat.zero_le _) _ h7) h5,h6,h7,?_⟩
    have:=hp.1
    simpa [K.set,hkl] using this)
  refine ⟨.tuple #[.bool true,e.key,e.val],_,.inl (Q0c (by rw [hrun];rfl)),rfl,g1,e1,?_⟩
  subst e2 e3
  simp only [R]
  refine ⟨_,rfl,RL.cons (by simp only [R]) (RL.cons ?_ (RL.cons ?_ RL.nil))⟩
  ·exact R.ev e1 (R.blo (RL.get' h4 (by rw [jH,hj];rfl))) (RL.get' h4 (by rw [jH,hj];rfl))
  ·exact R.ev e1 (R.blo (RL.get' h5 (by rw [jH,hj];rfl))) (RL.get' h5 (by rw [jH,hj];rfl))
def Qlk:Bool→Nat→List G→Option (Nat × O × List G)
 | false,0,⟨some d,none,_,.nx x⟩::l=>some (d,x,l)
 | _,_,_=>none
theorem Qeh {draw:Bool} {na:Nat} {l l':List G} {d:Nat} {x:O} (h:Qlk draw na l=some (d,x,l')):draw=false∧na=0∧∃ b,l=⟨some d,none,b,.nx x⟩::l':=by
 unfold Qlk at h
 split at h
 ·simp only [jA,jN] at h
  obtain ⟨rfl,rfl,rfl⟩:=h
  exact ⟨rfl,rfl,_,rfl⟩
 ·cases h
section
variable (F:Nat→Option Fc) (md:Nat→Nat)
def Qse (ro base d:Nat) (x:O) (l:List G) (tm:List V) (h:List B) (Q:X→St→Prop):Prop :=
 match x.ev tm with
 | .itr id m=>RoOk ro id (Get (bget h id) fun
  | .it m' since _ seen=>Req (m'=m) (Get (bget h m) fun b=>Get b.ents fun e=>Req ((∀ s∈e.1,s<since)∧since≤e.2.1)
    (NextQ e.1 seen (fV (tset tm d (.tup [.bool false])) fun tm'=>wOps F md ro base l tm' h fun tm h=>Q .nrm ⟨tm,h⟩)
     fun j s=>fV (tset tm d (.tup [.bool true,tg e.2.2.1 j,tg e.2.2.2 j])) fun tm'=>fB (bset h id (.it m since e.2.1 (seen++[s]))) fun h'=>wOps F md ro base l tm' h' fun tm h=>Q .nrm ⟨tm,h⟩))
  | _=>False)
 | .irr id=>RoOk ro id (Get (bget h id) fun
  | .ir ks vs seen=>NextR ks.length seen (fV (tset tm d (.tup [.bool false])) fun tm'=>wOps F md ro base l tm' h fun tm h=>Q .nrm ⟨tm,h⟩)
     fun s=>fV (tset tm d (.tup [.bool true,tg ks s,tg vs s])) fun tm'=>fB (bset h id (.ir ks vs (seen++[s]))) fun h'=>wOps F md ro base l tm' h' fun tm h=>Q .nrm ⟨tm,h⟩
  | _=>False)
 | _=>False
def wpm (ro:Nat):MC→St→(X→St→Prop)→Prop
 | .skip,st,Q=>Q .nrm st
 | .exit id,st,Q=>Q (.exit id) st
 | .ret,st,Q=>Q .ret st
 | .seq a b,st,Q=>wpm ro a st fun x s=>match x with
  | .nrm=>wpm ro b s Q
  | x=>Q x s
 | .cond x a b,⟨tm,h⟩,Q=>match x.ev tm with
  | .bool t=>Br t (wpm ro a ⟨tm,h⟩ Q) (wpm ro b ⟨tm,h⟩ Q)
  | _=>False
 | .block id c,st,Q=>wpm ro c st fun x s=>match x with
  | .exit i=>if i=id then Q .nrm s else Q (.exit i) s
  | x=>Q x s
 | .loop c,⟨tm,h⟩,Q=>LoopP (wpm ro c) (Q4t tm) h.length ⟨tm,h⟩ Q
 | .reg draw na ops,⟨tm,h⟩,Q=>match Qlk draw na ops with
  | some (d,x,l)=>fLen h 0 fun base=>Qse F md ro base d x l tm h Q
  | none=>wp F md ro (.reg draw na ops) ⟨tm,h⟩ Q
 | .lp _ _ _,_,_=>False
 | .kn _ _,_,_=>False
 | .rf x ps asg body,st,Q=>wp F md ro (.rf x ps asg body) st Q
end
theorem Qfw (hF:Q1h P F) {c:Code} {mc:MC} {st:St} {Q:X→St→Prop} (hcc:Q14 P c=some mc) (hw:wp F md ro mc st Q) (k:K) (a:Act) (fr:Option Nat) (n:Nat) (QQ:Exit→Act→World→Prop) (g:Good P k) (hk:k.h=st.h) (ht:RL k st.tm a.tmps.toList) (hfr:FrOk k fr)
  (hQ:∀ x st',Q x st'→Lands P ro k a.defers x st' QQ):c.wpIn (fen fr) n P QQ a k.w:=by
 obtain ⟨N,x,st',h1,h2⟩:=Qc2 hw
 exact (Q62 hF N).1 ro mc st x st' (h1 N (Nat.le_refl _)) c k a fr n QQ hcc g hk ht hfr (hQ x st' h2)
theorem Qqo {j:Nat} {op:Op} {x:O} (h:cOp P j op=some (.nx x)):∃ xo,op=.next xo false∧cO xo=some x:=by
 unfold cOp at h
 repeat' split at h
 all_goals first
  | (cases h;done)
  | (obtain ⟨_,_,e⟩:=map_some h;cases e;done)
  | (obtain ⟨_,_,_,_,_,_,_,_,_,e⟩:=Q4d h;cases e;done)
  | skip
 ·obtain ⟨z,hz,e⟩:=map_some h
  cases e
  exact ⟨_,rfl,hz⟩
 ·unfold Q3v at h
  split at h<;>(try (cases h;done))
  ·unfold cLen at h;repeat' split at h
   all_goals cases h
  ·unfold cApp at h;repeat' split at h
   all_goals cases h
  ·unfold cCpy at h;repeat' split at h
   all_goals first|(cases h;done)|(obtain ⟨_,_,e⟩:=map_some h;cases e)
  ·repeat' split at h
   all_goals first|(cases h;done)|(obtain ⟨_,_,e⟩:=map_some h;cases e)
theorem Qiq (hF:Q1h P F) {idr:Nat} {ops:Array Oper} {na d:Nat} {x:O} {l l':List G} {tm:List V} {h:List B} {Q:X→St→Prop} (hrows:Qfn P ops 0 0 [] ops.toList=some (na,l)) {b0:Nat} (hl:l=⟨some d,none,b0,.nx x⟩::l')
  (hw:Qse F md ro h.length d x l' tm h Q) (k:K) (a:Act) (fr:Option Nat) (n:Nat) (QQ:Exit→Act→World→Prop) (g:Good P k) (hk:k.h=h) (ht:RL k tm a.tmps.toList)
  (hQ:∀ x st',Q x st'→Lands P ro k a.defers x st' QQ):(Code.region idr ops false).wpIn (fen fr) n P QQ a k.w:=by
 subst hl hk
 have hrs:=Qht hrows
 refine wpIn_region_list ?_
 have hlen:ops.toList.length=l'.length+1:=by rw [Array.length_toList,← hrs.len];simp
 have hrow:∀ (i:Nat) o r,ops.toList[i]?=some o→((⟨some d,none,b0,.nx x⟩:G)::l')[i]?=some r→Qo8 P ops o r:=fun i o r h1 h2=>by
  obtain ⟨o',q1,q2,_⟩:=hrs.row i r h2
  rw [Array.getElem?_toList,q1] at h1
  cases h1;exact q2
 generalize ops.toList=ol at hlen hrow
 cases ol with
 | nil=>simp at hlen
 | cons o ol =>
  obtain ⟨j,hc,hd,hg⟩:=hrow 0 o _ rfl rfl
  have hguard:o.guard=none:=by
   cases hgd:o.guard with
   | none=>rfl
   | some q =>
    obtain ⟨i,want⟩:=q
    rw [hgd] at hg
    obtain ⟨_,_,_,_,hg⟩:=hg
    cases hg
  obtain ⟨xo,ho,hxo⟩:=Qqo hc
  show (if Region.wanted o (yielded ops a.tmps) then o.wpIn (fen fr) n P a k.w (wpListIn (fen fr) n P ops QQ ol) QQ else _)
  rw [if_pos (by simp [Region.wanted,hguard])]
  have hxR:=cO_R ht hxo
  unfold Qse at hw
  have rest:∀ (v:V) (h':List B),Did P ro k (do pure (Next.value (← Instr.next (a.eval xo) false o.type)):Sem Next) v h'→wOps F md ro k.h.length l' (tset tm d v) h' (fun tm h=>Q .nrm ⟨tm,h⟩)→o.wpIn (fen fr) n P a k.w (wpListIn (fen fr) n P ops QQ ol) QQ:=by
   intro v h' hdid hops
   obtain ⟨N,tm2,h2,e1,e2⟩:=Qdx hops
   refine Qn5 (v:=v) (h':=h') (ro:=ro) (tm:=tm) (Qdi hc) (.at_once (by simpa only [execOp,ho] using hdid)) g ht fun k' a' g' hh ev hl' hdf=>?_
   have hl2:RL k' (tset tm d v) a'.tmps.toList:=by
    have:dput o.dst tm v=tset tm d v:=by rw [← hd];rfl
    rw [← this];exact hl'
   refine Qbg (oc:=Q07 F md ro (run F md N)) (base:=k.h.length) (Qrf hF (Q62 hF N).1 ro) (by simpa using hlen.symm) (fun i o r h1 h2=>hrow (i+1) o r h1 h2) g' hl2 (by rw [hh];exact e1 N (Nat.le_refl _)) fun k2 a2 g2 hh2 ev2 hl3 hd2=>?_
   exact hQ _ _ e2 k2 a2 g2 hh2 (ev.after ev2) hl3 (by rw [hd2,hdf];exact Marks.refl _ _ _)
  split at hw
  ·rename_i id m hx
   rw [hx] at hxR
   obtain ⟨hro,⟨bi,hbi,hw⟩⟩:=Q2l hw
   cases bi<;>try exact hw.elim
   rename_i m' since stepped seen
   obtain ⟨rfl,⟨b,hb,⟨⟨st,ck,ks,vs⟩,he,⟨⟨hold,hsc⟩,⟨q0,q1⟩⟩⟩⟩⟩:=hw
   rcases Qpf (ro:=ro) (ty:=o.type) g hbi hb he hold hsc hro hxR with ⟨h0,hdid⟩|⟨j,s,hj,hs,hdid⟩
   ·exact rest _ _ hdid (Q23.1 (q0 h0))
   ·exact rest _ _ hdid (Q1w.1 (Q23.1 (q1 j s hj hs)))
  ·rename_i id hx
   rw [hx] at hxR
   obtain ⟨hro,⟨bi,hbi,hw⟩⟩:=Q2l hw
   cases bi<;>try exact hw.elim
   rename_i ks vs seen
   obtain ⟨q0,q1⟩:=hw
   rcases Qlj (ro:=ro) (ty:=o.type) g hbi hro hxR with ⟨h0,hdid⟩|⟨s,hj,hs,hdid⟩
   ·exact rest _ _ hdid (Q23.1 (q0 h0))
   ·exact rest _ _ hdid (Q1w.1 (Q23.1 (q1 s hj hs)))
  ·exact hw.elim
theorem Q9y {c:Code} {m1:MC} {mk:List Bool} {hl:Nat} {Q:X→St→Prop}
  (hc:∀ {st:St} {Q':X→St→Prop},wpm F md ro m1 st Q'→∀ (k:K) (a:Act) (fr:Option Nat) (n:Nat) (QQ:Exit→Act→World→Prop),Good P k→k.h=st.h→RL k st.tm a.tmps.toList→FrOk k fr→(∀ x st',Q' x st'→Lands P ro k a.defers x st' QQ)→c.wpIn (fen fr) n P QQ a k.w)
  {α:Type} {Pα:α→Prop} {I:α→St} {μ:α→Nat} (hs:∀ a,Pα a→wpm F md ro m1 (I a) (fun x s=>match x with
   | .nrm=>NextP Pα I μ a (norm mk hl s)
   | x=>Q x s)) {k0:K} {ds0:List Deferred} {fr:Option Nat} {n:Nat} {QQ:Exit→Act→World→Prop} (hhl:hl=k0.h.length) (hfr:FrOk k0 fr)
  (hQ:∀ x st',Q x st'→∀ k' a',Good P k'→k'.h=st'.h→Ev ro hl k0 k'→RL k' st'.tm a'.tmps.toList→Marks k' k0.w.heap.size a'.defers ds0→QQ x.out a' k'.w) :
  ∀ (N:Nat) (z:α),Pα z→μ z<N→∀ (k:K) (a:Act),Good P k→k.h=(I z).h→RL k (I z).tm a.tmps.toList→Ev ro hl k0 k→Marks k k0.w.heap.size a.defers ds0→InLoop (fen fr) n P c QQ a k.w
 | 0,_,_,h=>absurd h (Nat.not_lt_zero _)
 | N+1,z,pz,hN=>fun k a g hk ht e0 hm=>by
  refine InLoop.round ?_
  refine hc (hs z pz) k a fr n _ g hk ht (hfr.ev e0 hhl) ?_
  intro x s hx
  cases x with
  | nrm =>
   obtain ⟨z',pz',hμ,he⟩:=hx
   intro k1 a1 g1 hh1 ev1 hl1 hm1
   obtain ⟨k2,t1,t2,t3,t4,t5,t6⟩:=Q74 g1 hl ro (Q0m mk s.tm)
   have hI:(I z').h=trunc hl (Q0m mk s.tm) s.h∧(I z').tm=Q0m mk s.tm:=by rw [← he];exact ⟨rfl,rfl⟩
   have:=Q9y (n:=n) hc hs hhl hfr hQ N z' pz' (by omega) k2 a1 t3 (by rw [t1,hh1,hI.1]) (by rw [hI.2];exact t6 _ (Q7b hl1)) ((e0.after ev1).trans t4) ((hm.trans ev1 hm1 e0.low.size).same t5 t2)
   rw [t2] at this
   exact this
  | exit i =>
   intro k1 a1 g1 hh1 ev1 hl1 hm1
   exact hQ _ _ hx k1 a1 g1 hh1 (e0.after ev1) hl1 (hm.trans ev1 hm1 e0.low.size)
  | ret =>
   intro k1 a1 g1 hh1 ev1 hl1 hm1
   exact hQ _ _ hx k1 a1 g1 hh1 (e0.after ev1) hl1 (hm.trans ev1 hm1 e0.low.size)
theorem Qjl (hF:Q1h P F):∀ (c:Code) {mc:MC} {st:St} {Q:X→St→Prop},Q14 P c=some mc→wpm F md ro mc st Q→∀ (k:K) (a:Act) (fr:Option Nat) (n:Nat) (QQ:Exit→Act→World→Prop),Good P k→k.h=st.h→RL k st.tm a.tmps.toList→FrOk k fr →
  (∀ x st',Q x st'→Lands P ro k a.defers x st' QQ)→c.wpIn (fen fr) n P QQ a k.w:=by
 intro c
 induction c with
 | skip =>
  intro mc st Q hcc hw k a fr n QQ g hk ht hfr hQ
  simp only [Q14,jA] at hcc;subst hcc
  exact wpIn_skip (hQ _ _ hw k a g hk (Ev.refl _ _ _) ht (Marks.refl _ _ _))
 | label l =>
  intro mc st Q hcc hw k a fr n QQ g hk ht hfr hQ
  simp only [Q14,jA] at hcc;subst hcc
  exact wpIn_label (hQ _ _ hw k a g hk (Ev.refl _ _ _) ht (Marks.refl _ _ _))
 | exit id =>
  intro mc st Q hcc hw k a fr n QQ g hk ht hfr hQ
  simp only [Q14,jA] at hcc;subst hcc
  exact wpIn_exit (hQ _ _ hw k a g hk (Ev.refl _ _ _) ht (Marks.refl _ _ _))
 | ret =>
  intro mc st Q hcc hw k a fr n QQ g hk ht hfr hQ
  simp only [Q14,jA] at hcc;subst hcc
  exact wpIn_ret (hQ _ _ hw k a g hk (Ev.refl _ _ _) ht (Marks.refl _ _ _))
 | goto l=>intro mc st Q hcc;simp [Q14] at hcc
 | refuse r=>intro mc st Q hcc;simp [Q14] at hcc
 | scope c ih =>
  intro mc st Q hcc hw k a fr n QQ g hk ht hfr hQ
  simp only [Q14] at hcc
  refine Q9g (ih hcc hw k a fr n _ g hk ht hfr ?_)
  intro x st' hx k' a' g' hh e hl' hm
  have:=hQ x st' hx k' a' g' hh e hl' hm
  cases x<;>exact this
 | block id c ih =>
  intro mc st Q hcc hw k a fr n QQ g hk ht hfr hQ
  simp only [Q14] at hcc
  obtain ⟨mc',hm,rfl⟩:=map_some hcc
  refine wpIn_block ?_
  refine ih hm hw k a fr n _ g hk ht hfr ?_
  intro x st' hx k' a' g' hh e hl' hm'
  cases x with
  | nrm=>exact hQ _ _ hx k' a' g' hh e hl' hm'
  | ret=>exact hQ _ _ hx k' a' g' hh e hl' hm'
  | exit i =>
   by_cases hi:i=id
   ·simp only [hi,if_true] at hx
    simp only [X.out,Exit.inBlock,hi,if_true]
    exact hQ _ _ hx k' a' g' hh e hl' hm'
   ·simp only [hi,if_false] at hx
    simp only [X.out,Exit.inBlock,hi,if_false]
    exact hQ _ _ hx k' a' g' hh e hl' hm'
 | cond x0 c1 c2 ih1 ih2 =>
  intro mc st Q hcc hw k a fr n QQ g hk ht hfr hQ
  simp only [Q14] at hcc
  split at hcc<;>(try (cases hcc;done))
  rename_i y m1 m2 hy h1 h2
  cases hcc
  obtain ⟨tm,h⟩:=st
  simp only [wpm] at hw
  split at hw<;>(try exact hw.elim)
  rename_i t htv
  have hyR:=cO_R ht hy
  rw [htv] at hyR;simp only [R] at hyR
  refine wpIn_cond hyR ?_
  cases t
  ·exact ih2 h2 (hw.2 rfl) k a fr n QQ g hk ht hfr hQ
  ·exact ih1 h1 (hw.1 rfl) k a fr n QQ g hk ht hfr hQ
 | seq c1 c2 ih1 ih2 =>
  intro mc st Q hcc hw k a fr n QQ g hk ht hfr hQ
  simp only [Q14] at hcc
  split at hcc<;>(try (cases hcc;done))
  rename_i m1 m2 h1 h2
  cases hcc
  refine wpIn_seq ?_
  refine ih1 h1 hw k a fr n _ g hk ht hfr ?_
  intro x s hx
  cases x with
  | nrm =>
   intro k1 a1 g1 hh1 e1 hl1 hm1
   exact ih2 h2 hx k1 a1 fr n QQ g1 hh1 hl1 (hfr.ev e1 rfl) (fun y s' hy=>(hQ y s' hy).seq e1 hm1)
  | exit i=>exact fun k1 a1 g1 hh1 e1 hl1 hm1=>hQ _ _ hx k1 a1 g1 hh1 e1 hl1 hm1
  | ret=>exact fun k1 a1 g1 hh1 e1 hl1 hm1=>hQ _ _ hx k1 a1 g1 hh1 e1 hl1 hm1
 | loop c ih =>
  intro mc st Q hcc hw k a fr n QQ g hk ht hfr hQ
  simp only [Q14] at hcc
  obtain ⟨mc',hm,rfl⟩:=map_some hcc
  obtain ⟨tm,h⟩:=st
  obtain ⟨α,Pα,I,μ,z0,pz0,h0,hs⟩:=hw
  simp only at hk ht
  refine (Q9y (ro:=ro) (fun hw k a fr n QQ g hk ht hfr hQ=>ih hm hw k a fr n QQ g hk ht hfr hQ) hs (k0:=k) (ds0:=a.defers) (by rw [hk]) hfr (fun x st' hx k' a' g' hh e hl' hm'=>hQ x st' hx k' a' g' hh (by rw [hk];exact e) hl' hm') (μ z0+1) z0 pz0 (Nat.lt_succ_self _) k a g (by rw [← h0];exact hk) (by rw [← h0];exact ht) (Ev.refl _ _ _) (Marks.refl _ _ _)).start
 | rangeFunc f ps asg body ih1 ih2 =>
  intro mc st Q hcc hw k a fr n QQ g hk ht hfr hQ
  have hcc':=hcc
  simp only [Q14] at hcc'
  split at hcc'<;>(try (cases hcc';done))
  cases hcc'
  exact Qfw hF hcc hw k a fr n QQ g hk ht hfr hQ
 | region id ops draw =>
  intro mc st Q hcc hw k a fr n QQ g hk ht hfr hQ
  have hcc':=hcc
  simp only [Q14] at hcc'
  split at hcc'<;>(try (cases hcc';done))
  rename_i na l hrows
  split at hcc'<;>(try (cases hcc';done))
  cases hcc'
  obtain ⟨tm,h⟩:=st
  simp only [wpm] at hw
  split at hw
  ·rename_i d x l' hn
   obtain ⟨rfl,rfl,b0,hl⟩:=Qeh hn
   have hw:=Q8p.1 hw
   rw [Nat.zero_add] at hw
   exact Qiq hF hrows hl hw k a fr n QQ g hk ht hQ
  ·exact Qfw hF hcc hw k a fr n QQ g hk ht hfr hQ
theorem Qhq (hF:Q1h P F) {f:Nat} {fn:Func} {fc:Fc} (hf:P.funcs[f]?=some fn) (hfc:Q9f P fn=some fc) {k:K} {as:List V} {xs:List Value} (g:Good P k) (ha:RL k as xs) (hnp:as.length=fc.np) {Q:X→St→Prop}
  (hw:wpm F md ro fc.body ⟨as++Q1a (fc.ntm-fc.np),k.h⟩ Q) {QQ:Ending→World→Prop}
  (hQ:∀ x s,Q x s→(x=.nrm∨x=.ret)∧∃ v,Q0s s fc.res=some v∧∀ y k',k'.h=s.h→Good P k'→Ev ro k.h.length k k'→R k' v y→QQ (.returned y) k'.w):Calls P f ⟨xs⟩ k.w QQ:=by
 obtain ⟨c,hb,hcc,hres,hntm,_⟩:=Q6o hfc
 rw [← callsIn_wide (n:=0)]
 refine callsIn_of_wp_marks hf hb trivial ?_
 have hxs:xs.length=fc.np:=by rw [RL.len ha,hnp]
 have ht:RL k (as++Q1a (fc.ntm-fc.np)) ((⟨xs⟩:Array Value)++Array.replicate (fn.ntmps-(⟨xs⟩:Array Value).size) undef).toList:=by
  simp only [Array.toList_append,Array.toList_replicate,List.size_toArray,hxs,← hntm]
  exact RL.append ha (deads_R _)
 refine Qjl hF c hcc hw k { tmps:=(⟨xs⟩:Array Value)++Array.replicate (fn.ntmps-(⟨xs⟩:Array Value).size) undef,defers:=[] } none 0 _ g rfl ht (FrOk.none k) ?_
 intro x s hx k' a' g' hh e hl hm
 obtain ⟨hx',v,hr,hq⟩:=hQ x s hx
 obtain ⟨ms,hms,hnd,hmm⟩:=hm
 simp only [List.append_nil] at hms
 have:=Qm5 (P:=P) (fn:=fn) (Q:=QQ) g hres hr (fun y k1 h1 g1 e1 hy=>hq y k1 h1 g1 e1 hy) ms k' g' hh e hl hmm hnd
 rcases hx' with rfl|rfl
 ·show LeavesInM _ _ _ _ _ _ _ _ _;rw [hms];exact this
 ·show LeavesInM _ _ _ _ _ _ _ _ _;rw [hms];exact this
def knFc (np f:Nat) (g:Nat→List V→List B→Option (V × List B)):Fc:=⟨np,np,[.tmp 0],.kn np f,some g⟩
def Q13 (gp:List V→Option V):Nat→List V→List B→Option (V × List B):=fun _ as h=>match h with
 | []=>(gp as).map fun v=>(v,[])
 | _::_=>none
theorem EntryOk.known {f np : Nat} {g : Nat → List V → List B → Option (V × List B)} (h : ∃ fn, P.funcs[f]? = some fn ∧ fn.body.isSome = true ∧ fn.name ≠ "runtime.NumGoroutine") (hk : KnOk P f np g) : EntryOk P f (knFc np f g) := by
 obtain ⟨fn,h1,h2,h3⟩:=h
 exact ⟨fn,h1,h2,h3,.inr ⟨g,rfl,rfl,rfl,rfl,hk⟩⟩
theorem Qdq {k k1:K} {ro:Nat} {v0 v:V} {y:Value} (g:Good P k) (hk:k.h=[]) (g1:Good P k1) (e1:Ev ro k.h.length k k1) (hv:V.view k1.h depth v0=some v) (hy:R k1 v0 y) :
  Good P { k with w:=k1.w }∧(∀ ro',Ev ro' k.h.length k { k with w:=k1.w })∧R { k with w:=k1.w } v y:=by
 have hnl:∀ id,¬ live k.h id:=by rintro id ⟨b,hb,_⟩;rw [hk] at hb;simp [bget] at hb
 have hnown:∀ b,¬ k.own b:=by rintro b ⟨id,l,_⟩;exact hnl id l
 have same:∀ b,k.ok b→b<k.w.heap.size→k1.w.heap[b]?=k.w.heap[b]?:=fun b hb hlt=>(e1.prot b hb hlt).2
 have hsame:∀ b,b<k.w.heap.size→k1.w.heap[b]?=k.w.heap[b]?:=by
  intro b hb
  by_cases h0:b<k.n0
  ·exact e1.low.block b h0
  ·exact same b (.inr ⟨by omega,hnown b⟩) hb
 have hw:=fun ro'=>g.world e1.low hsame ro' k.h.length
 refine ⟨(hw 0).1,fun ro'=>(hw ro').2,?_⟩
 have hok:∀ b,b<k1.w.heap.size→(k1.ok b∨k1.own b)→K.ok { k with w:=k1.w } b:=by
  intro b hb hbo
  have hn1:k1.n0=k.n0:=e1.n0
  have hA1:k1.A=k.A:=e1.A
  rcases hbo with (⟨h1,h2⟩|⟨h1,_⟩)|⟨id,l,rfl⟩
  ·exact .inl ⟨by rw [← hn1];exact h1,by rw [← hA1];exact h2⟩
  ·exact .inr ⟨by rw [← hn1];exact h1,hnown b⟩
  ·exact .inr ⟨by rw [← hn1];exact (g1.at l).1,hnown _⟩
 exact (Qc4 (k0:={ k with w:=k1.w }) g1 rfl (fun b hb h=>hok b hb (.inl h)) (.inr fun b hb h=>hok b hb (.inr h)) hv hy).1
theorem Qh3 (hF:Q1h P F) {f:Nat} {fn:Func} {fc:Fc} (hf:P.funcs[f]?=some fn) (hfc:Q9f P fn=some fc) {gp:List V→Option V}
  (hsp:∀ as v,gp as=some v→as.length=fc.np→wpm F md 0 fc.body ⟨as++Q1a (fc.ntm-fc.np),[]⟩ (Leaves fc.res v)):KnOk P f fc.np (Q13 gp):=by
 intro ro k as xs v h' g ha hlen hg Q hQ
 unfold Q13 at hg
 split at hg
 ·rename_i hh
  obtain ⟨v1,hv1,e⟩:=map_some hg
  simp only [jN] at e
  obtain ⟨rfl,rfl⟩:=e
  refine Qhq (ro:=0) hF hf hfc g ha hlen (Q:=Leaves fc.res v) (by rw [hh];exact hsp as v hv1 hlen) ?_
  rintro x s ⟨v0,h1,h2,h3⟩
  refine ⟨h1,v0,h2,fun y k' hh' g' e' hy=>?_⟩
  obtain ⟨q1,q2,q3⟩:=Qdq g hh g' e' (by rw [hh'];exact h3) hy
  exact hQ y { k with w:=k'.w } hh q1 (q2 ro) q3
 ·cases hg
theorem Qcz {f np:Nat} {gp:List V→Option V} {as:List V} {v:V} (hF:F f=some (knFc np f (Q13 gp))) (hn:as.length=np) (hg:gp as=some v) (hv:V.view [] depth v=some v):Fun F md f as v:=by
 refine ⟨_,hF,hn,1,.ret,⟨[v],[]⟩,v,fun m hm=>?_,.inr rfl,rfl,hv⟩
 cases m with
 | zero=>omega
 | succ m =>
  have e:(as++Q1a ((knFc np f (Q13 gp)).ntm-(knFc np f (Q13 gp)).np)).take np=as:=by
   show (as++Q1a (np-np)).take np=as
   rw [Nat.sub_self]
   simp only [Q1a,List.append_nil]
   exact List.take_of_length_le (by omega)
  show run F md (m+1) 0 (.kn np f) _=_
  simp only [run,hF]
  show (match some (Q13 gp) with
   | none=>none
   | some g=>match g 0 ((as++Q1a ((knFc np f (Q13 gp)).ntm-(knFc np f (Q13 gp)).np)).take np) [] with
    | none=>none
    | some (v,h)=>some (X.ret,(⟨[v],h⟩:St)))=_
  rw [e]
  simp only [Q13,hg,Option.map_some]
end Go.Dr
namespace Go.Dr
def Sub' (F H:Nat→Option Fc):Prop:=∀ f fc,F f=some fc→H f=some fc
variable {F H:Nat→Option Fc} {md:Nat→Nat}
theorem Q5w (hFG:Sub' F H) {rn rn':Nat→MC→St→Option (X × St)} (hle:RnLe rn rn') (ro:Nat):∀ (f:Nat) (caps as:List V) (h:List B) (r:V × List B),Q07 F md ro rn (.fn f caps) as h=some r→Q07 H md ro rn' (.fn f caps) as h=some r:=by
 intro f caps as h r e
 obtain ⟨fc,hF,hl,hc⟩:=Q3h e
 have hG:=hFG _ _ hF
 rcases hc with ⟨hm,as',x,st,v,v',h1,h2,hx,h3,h4,h5,rfl⟩|⟨hm,x,st,v,h2,hx,h3,rfl⟩|⟨hm0,hm1,x,st,v,h2,hx,h3,h4,rfl⟩
 ·have hcd:(blos 0 (as++caps)||v'.scalar||V.fresh st.h depth v)=true:=by rcases h5 with h|h|h<;>simp [h]
  simp only [Q07,hG,hl,if_true,hm,h1]
  rcases hx with rfl|rfl<;>simp only [hle _ _ _ _ h2,h3,h4,hcd,if_true]
 ·simp only [Q07,hG,hl,if_true,hm]
  rcases hx with rfl|rfl<;>simp only [hle _ _ _ _ h2,h3]
 ·cases hmm:mode md (.fn f caps) as with
  | zero=>exact absurd hmm hm0
  | succ k =>
   cases k with
   | zero=>exact absurd hmm hm1
   | succ k =>
    simp only [Q07,hG,hl,if_true,hmm]
    rcases hx with rfl|rfl<;>simp only [hle _ _ _ _ h2,h3,h4,if_true]
theorem Q6k (hFG:Sub' F H) {rn rn':Nat→MC→St→Option (X × St)} (hle:RnLe rn rn') (ro:Nat):Qfr (Q07 F md ro rn) (Q07 H md ro rn'):=by
 intro fv as h r e
 cases fv with
 | fn f caps=>exact Q5w hFG hle ro f caps as h r e
 | bf f v=>exact Q5w hFG hle ro f [] (v::as) h r e
 | yld id =>
  obtain ⟨p,tm,ps,asg,body,tm',st,p',tm2,ps2,a2,b2,x,st',h1,h2,h3,h4,h5,h6,rfl⟩:=Q4p e
  simp only [Q07,h1,h2,if_true,h3,hle _ _ _ _ h4,h5,hle _ _ _ _ h6]
  cases x<;>rfl
 | _=>simp [Q07] at e
theorem Q7u (hFG:Sub' F H):∀ (n:Nat),RnLe (run F md n) (run H md n)
 | 0,ro,c,st,r,e=>by simp [run] at e
 | n+1,ro,c,st,r,e=>by
  have ih:=Q7u hFG n
  have ihc:∀ ro,Qfr (Q07 F md ro (run F md n)) (Q07 H md ro (run H md n)):=fun ro=>Q6k hFG ih ro
  cases c with
  | skip=>rw [run] at e ⊢;exact e
  | exit id=>rw [run] at e ⊢;exact e
  | ret=>rw [run] at e ⊢;exact e
  | kn k f =>
   rw [run] at e ⊢
   cases hf:F f with
   | none=>rw [hf] at e;cases e
   | some fc=>rw [hf] at e;rw [hFG _ _ hf];exact e
  | reg draw na ops =>
   rw [run] at e ⊢
   try simp only at e ⊢
   split at e
   ·cases e
   ·rename_i tm h hq
    have:(if draw=true then Q1u md (Q07 H md ro (run H md n)) ro st.h.length 0 [] ops st.tm (if na=0 then st.h else st.h++Q0r na) else Q3f (Q07 H md ro (run H md n)) ro st.h.length ops st.tm (if na=0 then st.h else st.h++Q0r na))=some (tm,h):=by
     cases draw with
     | true=>exact Q8q (ihc ro) hq
     | false=>exact Qbh (ihc ro) hq
    rw [this];exact e
  | seq a b =>
   rw [run] at e ⊢
   try simp only at e ⊢
   split at e
   ·rename_i st1 h1
    rw [ih _ _ _ _ h1]
    exact ih _ _ _ _ e
   ·rename_i hne
    have:=ih _ _ _ _ e
    rw [this]
    split
    ·rename_i q hq
     simp only [jA] at hq
     exact absurd (e.trans (by rw [hq])) (hne _)
    ·rfl
  | cond x a b =>
   rw [run] at e ⊢
   try simp only at e ⊢
   split at e
   ·split at e
    ·rename_i h1;simp only [h1,if_true];exact ih _ _ _ _ e
    ·rename_i h1;simp only [h1];exact ih _ _ _ _ e
   ·cases e
  | block id c =>
   rw [run] at e ⊢
   try simp only at e ⊢
   split at e
   ·rename_i i st1 h1
    rw [ih _ _ _ _ h1];exact e
   ·rename_i hne
    have:=ih _ _ _ _ e
    rw [this]
    split
    ·rename_i i q hq
     simp only [jA] at hq
     exact absurd (e.trans (by rw [hq])) (hne _ _)
    ·rfl
  | loop c=>rw [run] at e ⊢;exact ih _ _ _ _ e
  | lp m hl c =>
   rw [run] at e ⊢
   try simp only at e ⊢
   split at e
   ·rename_i st1 h1
    rw [ih _ _ _ _ h1]
    exact ih _ _ _ _ e
   ·rename_i hne
    have:=ih _ _ _ _ e
    rw [this]
    split
    ·rename_i q hq
     simp only [jA] at hq
     exact absurd (e.trans (by rw [hq])) (hne _)
    ·rfl
  | rf x ps asg body =>
   rw [run] at e ⊢
   try simp only at e ⊢
   split at e
   ·cases e
   ·rename_i v h hq
    have:isFn (x.ev st.tm) (Q07 H md ro (run H md n) (x.ev st.tm) [.yld st.h.length] (st.h++[.lop true .nrm st.tm ps asg body]))=some (v,h):=by
     unfold isFn at hq ⊢
     split at hq
     ·rename_i f cs hx
      exact ihc ro _ _ _ _ hq
     ·cases hq
    rw [this];exact e
theorem Fun.tab (hFG:Sub' F H) {f:Nat} {as:List V} {v:V} (h:Fun F md f as v):Fun H md f as v:=by
 obtain ⟨fc,h1,h2,n,x,st,v0,h3,h4,h5,h6⟩:=h
 exact ⟨fc,hFG _ _ h1,h2,n,x,st,v0,fun m hm=>Q7u hFG m _ _ _ _ (h3 m hm),h4,h5,h6⟩
theorem FunF.tab (hFG:Sub' F H) {f:Nat} {as:List V} {v:V} (h:FunF F md f as v):FunF H md f as v:=by
 obtain ⟨fc,h1,h2,n,x,st,v0,h3,h4,h5,h6,h7⟩:=h
 exact ⟨fc,hFG _ _ h1,h2,n,x,st,v0,fun m hm=>Q7u hFG m _ _ _ _ (h3 m hm),h4,h5,h6,h7⟩
end Go.Dr
namespace Go.Dr
theorem Q01 {h g:List B} {i:Nat} {b:B} (e:bget h i=some b):bget (h++g) i=some b:=by
 rw [Q1t] at e ⊢
 have:=(jB.1 e).1
 rw [List.getElem?_append_left this];exact e
theorem bget_new {h g:List B} {i:Nat}:bget (h++g) (h.length+i)=bget g i:=by
 rw [Q1t,Q1t,List.getElem?_append_right (by omega)]
 congr 1;omega
theorem Q02 {h:List B} {i j:Nat} {b:B} (hne:i≠j):bget (bset h i b) j=bget h j:=by
 rw [Q0g,if_neg (fun h=>hne h.1)]
theorem Q0b {h:List B} {i:Nat} {b:B} (hi:i<h.length):bget (bset h i b) i=some b:=by
 rw [Q0g,if_pos ⟨rfl,hi⟩]
theorem Qbt {h g:List B} {i:Nat} {b:B} (hi:i<h.length):bset (h++g) i b=bset h i b++g:=by
 rw [Q1m,Q1m,List.set_append_left _ _ hi]
theorem Qqu {h g:List B} {i:Nat} {b:B}:bset (h++g) (h.length+i) b=h++bset g i b:=by
 rw [Q1m,Q1m,List.set_append_right _ _ (by omega)]
 congr 2;omega
theorem Q09 {h:List B} {i n:Nat} (hi:i<n):bget (h.take n) i=bget h i:=by
 rw [Q1t,Q1t,List.getElem?_take_of_lt hi]
theorem fLen.mk {l:List B} {n:Nat} {K:Nat→Prop} (h:K (l.length+n)):fLen l n K:=Q8p.2 (by rw [Nat.add_comm];exact h)
theorem fB.app {l g g':List B} {K:List B→Prop} (h:fB (g++g') fun r=>K (l++r)):fB ((l++g)++g') K:=Q1w.2 (by rw [jO];exact Q1w (K:=fun r=>K (l++r)).1 h)
theorem fB.new {l g:List B} {i:Nat} {b:B} {K:List B→Prop} (h:fB (bset g i b) fun r=>K (l++r)):fB (bset (l++g) (l.length+i) b) K:=Q1w.2 (by rw [Qqu];exact Q1w (K:=fun r=>K (l++r)).1 h)
theorem Get.new {l g:List B} {i:Nat} {a:B} {K:B→Prop} (e:bget g i=some a) (h:K a):Get (bget (l++g) (l.length+i)) K:=⟨a,bget_new.trans e,h⟩
theorem fB.tail {l g:List B} {K:List B→Prop} (h:fB g fun r=>K (l++r)):fB (l++g) K:=Q1w.2 (Q1w (K:=fun r=>K (l++r)).1 h)
theorem fB.newj (j:Nat) {l g:List B} {i:Nat} {b:B} {K:List B→Prop} (hi:i=l.length+j) (h:fB (bset g j b) fun r=>K (l++r)):fB (bset (l++g) i b) K:=by subst hi;exact fB.new h
theorem Get.newj (j:Nat) {l g:List B} {i:Nat} {a:B} {K:B→Prop} (hi:i=l.length+j) (e:bget g j=some a) (h:K a):Get (bget (l++g) i) K:=by subst hi;exact Get.new e h
theorem Q4h {n:Nat} {tm:List V}:∀ {k:Nat} {h:List B},h.length=n+k→∃ j,n≤j∧Q1k n tm k h=h.take j∧(j=h.length∨(blos j tm=true∧Q0a j (h.take j)=true))
 | 0,h,hl=>⟨h.length,by omega,by simp only [Q1k,List.take_length],.inl rfl⟩
 | k+1,h,hl=>by
  unfold Q1k
  split
  ·rename_i hc
   rw [jF] at hc
   obtain ⟨j,h1,h2,h3⟩:=Q4h (n:=n) (tm:=tm) (k:=k) (h:=h.take (n+k)) (by rw [jQ];omega)
   rcases h3 with h3|⟨h3,h4⟩
   ·rw [jQ] at h3
    have hj:j=n+k:=by omega
    subst hj
    exact ⟨n+k,h1,by rw [h2,List.take_take,Nat.min_self],.inr hc⟩
   ·by_cases hj:j≤n+k
    ·rw [List.take_take,Nat.min_eq_left hj] at h2 h4
     exact ⟨j,h1,h2,.inr ⟨h3,h4⟩⟩
    ·rw [List.take_take,Nat.min_eq_right (by omega)] at h2
     exact ⟨n+k,by omega,h2,.inr hc⟩
  ·exact ⟨h.length,by omega,by rw [List.take_length],.inl rfl⟩
theorem Q08 {n:Nat} {b:B}:∀ {h:List B},Q0a n h=true→b∈h→b.blo n=true
 | x::l,h,hm=>by
  simp only [Q0a,jF] at h
  rcases List.mem_cons.1 hm with rfl|hm
  ·exact h.1
  ·exact Q08 h.2 hm
theorem Q99 {n:Nat} {v:V}:∀ {l:List V},blos n l=true→v∈l→v.blo n=true
 | x::l,h,hm=>by
  simp only [blos,jF] at h
  rcases List.mem_cons.1 hm with rfl|hm
  ·exact h.1
  ·exact Q99 h.2 hm
theorem Qle {m:List Bool} {n:Nat} {tm:List V} {x:B} {l:List B} (hn:n≤l.length):∃ T,norm m (n+1) ⟨tm,x::l⟩=⟨Q0m m tm,x::T⟩∧n≤T.length∧∃ j,T=l.take j∧(j=l.length∨(blos (j+1) (Q0m m tm)=true∧x.blo (j+1)=true∧Q0a (j+1) T=true)):=by
 obtain ⟨j,h1,h2,h3⟩:=Q4h (n:=n+1) (tm:=Q0m m tm) (k:=l.length-n) (h:=x::l) (by rw [List.length_cons];omega)
 have e:(x::l).length-(n+1)=l.length-n:=by rw [List.length_cons];omega
 cases j with
 | zero=>omega
 | succ j =>
  have hjl:j=l.length∨j+1≤(x::l).length∨l.length<j:=by rw [List.length_cons];omega
  by_cases hj:j≤l.length
  ·refine ⟨l.take j,?_,by rw [jQ];omega,j,rfl,?_⟩
   ·simp only [norm,trunc,e,h2,List.take_succ_cons]
   ·rcases h3 with h3|⟨h3,h4⟩
    ·left;rw [List.length_cons] at h3;omega
    ·simp only [List.take_succ_cons,Q0a,jF] at h4
     exact .inr ⟨h3,h4.1,h4.2⟩
  ·refine ⟨l,?_,hn,l.length,(List.take_length ..).symm,.inl rfl⟩
   simp only [norm,trunc,e,h2,List.take_succ_cons]
   rw [List.take_of_length_le (by omega)]
@[irreducible] def hp (b:B) (l:List B):List B:=b::l
theorem Q4q (b:B) (l:List B):hp b l=b::l:=by unfold hp;rfl
theorem Qmh (b:B) (l g:List B):hp b l++g=hp b (l++g):=by rw [Q4q,Q4q];rfl
theorem Q22 (b:B) (l:List B):(hp b l).length=l.length+1:=by rw [Q4q];rfl
namespace HP
variable {m b:B} {l g g' : List B} {i n:Nat}
theorem len {K:Nat→Prop} (n:Nat) (hg:g.length=n) (h:K (l.length+1+n)):fLen (hp m l++g) 0 K:=fLen.mk (by rw [jD,Q22,hg];exact h)
theorem len0 {K:Nat→Prop} (h:K (l.length+1+0)):fLen (hp m l) 0 K:=fLen.mk (by rw [Q22];exact h)
theorem app {K:List B→Prop} (h:fB (g++g') fun r=>K (hp m l++r)):fB ((hp m l++g)++g') K:=fB.app h
theorem app0 {K:List B→Prop} (h:fB g fun r=>K (hp m l++r)):fB (hp m l++g) K:=fB.tail h
theorem get0 {K:B→Prop} (h:K m):Get (bget (hp m l++g) 0) K:=⟨m,by rw [Q4q];rfl,h⟩
theorem bget_n (j:Nat) (hi:i=l.length+1+j) (e:bget g j=some b):bget (hp m l++g) i=some b:=by
 subst hi;rw [← Q22 m l];exact bget_new.trans e
theorem bget_o (e:bget l i=some b):bget (hp m l++g) (i+1)=some b:=by rw [Q4q];exact Q01 e
theorem bget_0:bget (hp m l++g) 0=some m:=by rw [Q4q];rfl
theorem getn {K:B→Prop} (j:Nat) (hi:i=l.length+1+j) (e:bget g j=some b) (h:K b):Get (bget (hp m l++g) i) K:=⟨b,bget_n j hi e,h⟩
theorem geto {K:B→Prop} (e:bget l i=some b) (h:K b):Get (bget (hp m l++g) (i+1)) K:=⟨b,bget_o e,h⟩
theorem set0 {K:List B→Prop} (h:K (hp b l++g)):fB (bset (hp m l++g) 0 b) K:=fB.mk (by rw [Q4q];rw [Q4q] at h;exact h)
theorem setn {K:List B→Prop} (j:Nat) (hi:i=l.length+1+j) (h:fB (bset g j b) fun r=>K (hp m l++r)):fB (bset (hp m l++g) i b) K:=by
 subst hi;rw [← Q22 m l];exact fB.new h
end HP
theorem Qte {mk:List Bool} {hl:Nat} {tm:List V} {x x0:B} {l g l0:List B} (hh:hl=(hp x0 l0).length) (hn:l0.length≤l.length):∃ T,norm mk hl ⟨tm,hp x l++g⟩=⟨Q0m mk tm,hp x T⟩∧l0.length≤T.length∧∃ j,T=(l++g).take j∧(j=(l++g).length∨(blos (j+1) (Q0m mk tm)=true∧x.blo (j+1)=true∧Q0a (j+1) T=true)):=by
 rw [Q22] at hh
 subst hh
 obtain ⟨T,h1,h2⟩:=Qle (m:=mk) (tm:=tm) (x:=x) (l:=l++g) (n:=l0.length) (by rw [jD];omega)
 exact ⟨T,by rw [Qmh,Q4q,Q4q];exact h1,h2⟩
theorem Vw.ref {h:List B} {d id g off:Nat} {dat:Bool} {c cs r:List V} (h1:bget h id=some (.blk c dat)) (h2:c.length=g) (h3:part c off (g-off)=some cs) (h4:VwL h d cs r):Vw h (d+1) (.ref id g off) (.rp r 0) :=
 ⟨by simp only [V.view,h1,h2,if_true,h3,h4.1]⟩
theorem Vw.fn {h:List B} {d f:Nat} {l m:List V} (e:VwL h d l m):Vw h (d+1) (.fn f l) (.fn f m):=⟨by simp only [V.view];rw [e.1];rfl⟩
theorem Q28 {n:Nat} {tm:List V} {h:List B} (e:h.length=n):trunc n tm h=h:=by
 unfold trunc;rw [e,Nat.sub_self];rfl
theorem Q2w {mk:List Bool} {n:Nat} {tm:List V} {h:List B} (e:h.length=n):norm mk n ⟨tm,h⟩=⟨Q0m mk tm,h⟩:=by
 simp only [norm,Q28 e]
theorem Qhs {F:Nat→Option Fc} {md:Nat→Nat} {ro f np:Nat} {g:Nat→List V→List B→Option (V × List B)} {caps args:List V} {h h':List B} {v:V} {K:V→List B→Prop} (hm:mode md (.fn f caps) args=1) (hF:F f=some (knFc np f g)) (hn:(args++caps).length=np)
  (hg:g ro (args++caps) h=some (v,h')) (hk:K v (trunc h.length [v] h')):CallP F md ro (.fn f caps) args h K:=by
 refine ⟨v,_,⟨1,fun m hm'=>?_⟩,hk⟩
 cases m with
 | zero=>omega
 | succ m =>
  have e:(args++caps++Q1a ((knFc np f g).ntm-(knFc np f g).np)).take np=args++caps:=by
   show (args++caps++Q1a (np-np)).take np=args++caps
   rw [Nat.sub_self]
   simp only [Q1a,List.append_nil]
   exact List.take_of_length_le (by omega)
  have hr:run F md (m+1) ro (knFc np f g).body ⟨args++caps++Q1a ((knFc np f g).ntm-(knFc np f g).np),h⟩=some (.ret,⟨[v],h'⟩):=by
   show run F md (m+1) ro (.kn np f) _=_
   simp only [run,hF]
   show (match some g with
    | none=>none
    | some g=>match g ro ((args++caps++Q1a ((knFc np f g).ntm-(knFc np f g).np)).take np) h with
     | none=>none
     | some (v,h)=>some (X.ret,(⟨[v],h⟩:St)))=_
   simp only [e,hg]
  have hnp:(args++caps).length=(knFc np f g).np:=hn
  simp only [Q07,hF,hnp,if_true,hm,hr]
  rfl
variable {F:Nat→Option Fc} {md:Nat→Nat}
end Go.Dr
namespace Go.Dr
def cntG:List V→Option V
 | [.str s,.str [c]]=>some (.int .i64 (Lib.countByte s c))
 | _=>none
def idxG:List V→Option V
 | [.str s,.str [c]]=>some (.int .i64 (Lib.indexByte s c))
 | _=>none
def trmG:List V→Option V
 | [.str s,.str c]=>if s.length≤9223372036854775807∧c.length<4294967281∧c.all (fun b=>decide (b.toNat<128))=true then some (.str (Lib.trimS s c)) else none
 | _=>none
def ins1 (x:Int):List Int→List Int
 | []=>[x]
 | y::l=>if x≤y then x::y::l else y::ins1 x l
def Q0k:List Int→List Int
 | []=>[]
 | x::l=>ins1 x (Q0k l)
theorem Q8i (x:Int):∀ l,(ins1 x l).Perm (x::l)
 | []=>.refl _
 | y::l=>by
  unfold ins1
  split
  ·exact .refl _
  ·exact ((Q8i x l).cons y).trans (.swap x y l)
theorem Q11:∀ l,(Q0k l).Perm l
 | []=>.refl _
 | x::l=>(Q8i x _).trans ((Q11 l).cons x)
theorem Q8h (x:Int):∀ l:List Int,l.Pairwise (· ≤ ·)→(ins1 x l).Pairwise (· ≤ ·)
 | [],_=>by simp [ins1]
 | y::l,h=>by
  obtain ⟨h1,h2⟩:=List.pairwise_cons.1 h
  unfold ins1
  split
  ·rename_i hxy
   refine List.pairwise_cons.2 ⟨fun z hz=>?_,h⟩
   rcases List.mem_cons.1 hz with rfl|hz
   ·exact hxy
   ·exact Int.le_trans hxy (h1 z hz)
  ·rename_i hxy
   refine List.pairwise_cons.2 ⟨fun z hz=>?_,Q8h x l h2⟩
   rcases List.mem_cons.1 ((Q8i x l).mem_iff.1 hz) with rfl|hz
   ·omega
   ·exact h1 z hz
theorem Q2f:∀ l,(Q0k l).Pairwise (· ≤ ·)
 | []=>.nil
 | x::l=>Q8h x _ (Q2f l)
theorem Qeu (l:List Int):(l.mergeSort fun x y=>decide (x≤y))=Q0k l:=by
 refine List.Perm.eq_of_pairwise (le:=fun x y:Int=>x≤y) (fun a b _ _ h1 h2=>by omega) ?_ (Q2f l) ((List.mergeSort_perm l _).trans (Q11 l).symm)
 have:=List.pairwise_mergeSort (le:=fun x y:Int=>decide (x≤y)) (fun a b c h1 h2=>by simp only [jG] at *;omega) (fun a b=>by simp only [Bool.or_eq_true,jG];omega) l
 exact this.imp fun h=>by simpa using h
theorem Q21 (l:List Int):(Q0k l).length=l.length:=(Q11 l).length_eq
def Q4u:List V→Option (List Int)
 | []=>some []
 | .int .i64 n::l=>(Q4u l).map (n :: ·)
 | _::_=>none
def Q00 (l:List Int):List V:=l.map fun n=>.int .i64 n
theorem Q8g:∀ {l:List V} {zs:List Int},Q4u l=some zs→l=Q00 zs
 | [],zs,h=>by cases h;rfl
 | v::l,zs,h=>by
  cases v with
  | int kk n =>
   cases kk with
   | i64 =>
    obtain ⟨r,hr,rfl⟩:=map_some (show (Q4u l).map (n :: ·)=some zs from h)
    rw [Q8g hr];rfl
   | _=>cases h
  | _=>cases h
def srtG (ro:Nat):List V→List B→Option (V × List B)
 | [.nilsl],h=>some (.tup [],h)
 | [.ms 1 id g off len _],h =>
  if len=0 then some (.tup [],h) else
  match bget h id with
  | some (.blk c dat)=>if ro≤id∧g=c.length∧off+len≤c.length∧len<4611686018427387904 then
    match Q4u ((c.drop off).take len) with
    | some zs=>some (.tup [],bset h id (.blk (over c off (Q00 (Q0k zs))) dat))
    | none=>none
   else none
  | _=>none
 | _,_=>none
end Go.Dr
