/- The door: single operations, seventh part: strings' and arrays' elements, conversions of numbers, lengths, least and greatest, structs and arrays as values. -/
import Derived.Test.YtbnmdlnkhghbpaaGreatDoorDrB
import Derived.Laws.BytesString
import Derived.MapKept
namespace Go.Dr
open Go.RowKit (Below)
variable {P:Program} {k:K} {tm:List V} {ρ:Operand→Value} {o:Oper} {j base ro:Nat} {m:M} {p:Pl} {v:V} {h' : List B}
theorem Qgl:∀ (vs:List Value) (s off:Nat) (cs:List Value),off+s+vs.length≤cs.length →
  ((vs.zipIdx s).foldl (fun (cs:Array Value) (c,j)=>cs.setIfInBounds (off+j) c) (⟨cs⟩:Array Value))=⟨cs.take (off+s)++vs++cs.drop (off+s+vs.length)⟩
 | [],s,off,cs,h=>by simp
 | v::vs,s,off,cs,h=>by
  simp only [List.zipIdx_cons,List.foldl_cons]
  have e:(⟨cs⟩:Array Value).setIfInBounds (off+s) v=⟨cs.set (off+s) v⟩:=by simp
  rw [e,Qgl vs (s+1) off _ (by simp at h ⊢;omega)]
  congr 1
  have h1:off+s<cs.length:=by simp at h;omega
  rw [List.take_set,List.drop_set,if_pos (by omega)]
  rw [show off+(s+1)=(off+s)+1 by omega,List.take_succ_eq_append_getElem h1]
  have h2:(List.take (off+s) cs++[cs[off+s]]).set (off+s) v=List.take (off+s) cs++[v]:=by
   have hl:(cs.take (off+s)).length=off+s:=by rw [jQ];omega
   rw [List.set_append_right _ _ (by omega),hl];simp
  rw [h2]
  simp only [List.length_cons,jO,List.singleton_append]
  congr 3;omega
theorem Qmt (vs:Array Value) (off:Nat) (cs:List Value) (h:off+vs.size≤cs.length) :
  (vs.zipIdx.foldl (fun cs (c,j)=>cs.setIfInBounds (off+j) c) (⟨cs⟩:Array Value))=⟨cs.take off++vs.toList++cs.drop (off+vs.size)⟩:=by
 have:=Qgl vs.toList 0 off cs (by simpa using h)
 rw [← Array.foldl_toList,Array.toList_zipIdx]
 simpa using this
theorem Q5s (ht:Ops k tm ρ) {place:Nat→Option (Nat × Nat)}:∀ {ps:List (Nat × Operand)} {qs:List (Nat × Nat × O)},Q92 P place ps=some qs →
  ∀ {cs cs':List V} {xs:List Value},Q4r tm cs qs=some cs'→RL k cs xs→ones cs=true →
  ∃ xs',Instr.fill place ⟨xs⟩ (ps.map fun (i,x)=>(i,ρ x))=some ⟨xs'⟩∧RL k cs' xs'∧ones cs'=true∧cs'.length=cs.length
 | [],qs,hq,cs,cs',xs,hf,hl,ho=>by
  simp only [Q92,jA] at hq;subst hq
  simp only [Q4r,jA] at hf;subst hf
  exact ⟨xs,by simp [Instr.fill],hl,ho,rfl⟩
 | (i,x)::ps,qs,hq,cs,cs',xs,hf,hl,ho=>by
  simp only [Q92] at hq
  split at hq<;>(try (cases hq;done))
  rename_i off n y hpl hy
  split at hq<;>(try (cases hq;done))
  rename_i r hr
  cases hq
  simp only [Q4r] at hf
  split at hf<;>(try (cases hf;done))
  rename_i hcond
  simp only [jF,jG] at hcond
  obtain ⟨⟨h1,h2⟩,h3⟩:=hcond
  have hx:=ht.1 _ _ hy
  have hxc:=Qbo hx h3
  have hlen:=RL.len hxc
  have hlen2:=RL.len hl
  have hsz:(ρ x).cells.size=n:=by simpa [h1] using hlen
  have hover:=Q43 cs off _ (by rw [h1];exact h2)
  have hRL:RL k (over cs off (y.ev tm).cells) (xs.take off++(ρ x).cells.toList++xs.drop (off+(ρ x).cells.size)):=by
   rw [hover,h1,hsz]
   exact RL.append (RL.append (RL.take _ hl) hxc) (RL.drop _ hl)
  have hones:ones (over cs off (y.ev tm).cells)=true:=by
   rw [hover,ones_append,ones_append];simp [ones_take ho,ones_drop ho,h3]
  obtain ⟨xs',e1,e2,e3,e4⟩:=Q5s ht hr hf hRL hones
  refine ⟨xs',?_,e2,e3,by rw [e4,Qb0 _ _ _ (by rw [h1];exact h2)]⟩
  simp only [List.map_cons,Instr.fill,hpl]
  rw [if_neg (by simp [hsz];omega),Qmt _ _ _ (by rw [hsz,hlen2];exact h2)]
  exact e1
theorem Qis [GT P] {fs:Array Field} (h:Qbf P fs=true) (w:World) :
  ∃ ps:Array (Nat × Nat),(fs.mapM fun f=>do pure (f.offset,← sizeOf f.type):Sem (Array (Nat × Nat))).run P w=.ok ps w∧∀ i:Nat,ps[i]?=Q7h P fs i:=by
 have key:∀ (l:List Field),(l.all fun f=>(szOf P f.type).isSome)=true→∃ ps:List (Nat × Nat),(l.mapM (fun f=>do pure (f.offset,← sizeOf f.type)):Sem (List (Nat × Nat))).run P w=.ok ps w ∧
   ∀ i:Nat,ps[i]?=match l[i]? with|none=>none|some f=>(szOf P f.type).map (f.offset, ·):=by
  intro l
  induction l with
  | nil=>intro _;exact ⟨[],by simp,by simp⟩
  | cons f l ih =>
   intro hl
   simp only [List.all_cons,jF] at hl
   obtain ⟨ps,h1,h2⟩:=ih hl.2
   obtain ⟨n,hn⟩:=Option.isSome_iff_exists.1 hl.1
   refine ⟨(f.offset,n)::ps,by simp only [List.mapM_cons,Sem.run_bind,Q0x hn,Result.andThen_ok,Sem.run_pure,h1],?_⟩
   intro i
   cases i with
   | zero=>simp [hn]
   | succ i=>simpa using h2 i
 obtain ⟨ps,h1,h2⟩:=key fs.toList (by simpa [Qbf] using h)
 refine ⟨⟨ps⟩,?_,?_⟩
 ·rw [Array.mapM_eq_mapM_toList]
  simp only [Sem.run_map,h1,Result.andThen_ok]
 ·intro i
  have e:fs[i]?=fs.toList[i]?:=by simp
  have e2:(⟨ps⟩:Array (Nat × Nat))[i]?=ps[i]?:=by simp
  unfold Q7h
  rw [e,e2,h2 i];rfl
theorem Qne [GT P] (g:Good P k) (ht:Ops k tm ρ) {t:TypeId} {ps:Array (Nat × Operand)} (ho:o.op=.build t ps) (hc:cOp P j o.op=some m) (hp:plan base tm m=some p) (hg:p.go ro k.h=some (v,h')) :
  Did P ro k (execOp ρ o) v h':=by
 rw [ho] at hc;simp only [cOp] at hc
 split at hc<;>(try (cases hc;done))
 ·rename_i z fs hz hu
  split at hc<;>(try (cases hc;done))
  rename_i hok
  obtain ⟨qs,hq,rfl⟩:=map_some hc
  simp only [plan] at hp
  obtain ⟨z',hz',rfl⟩:=val?_some hp
  obtain ⟨cs',hcs,rfl⟩:=map_some hz'
  obtain ⟨zx,z1,z2,z3,z4⟩:=Q2s hz k.w k
  obtain ⟨pl,p1,p2⟩:=Qis hok k.w
  have hpl:(pl[·]?:Nat→Option (Nat × Nat))=Q7h P fs:=funext p2
  obtain ⟨xs',f1,f2,f3,f4⟩:=Q5s ht hq hcs z2 z4
  refine Q0f g rfl hg (y:=.agg ⟨xs'⟩) ?_ (by simp only [R];exact ⟨xs',rfl,f2⟩)
  simp only [execOp,ho];refine Q0c ?_
  simp only [Instr.build,Sem.run_bind,z1,Result.andThen_ok,run_underlying hu,p1,hpl]
  have e:(ps.map fun (i,x)=>(i,ρ x)).toList=ps.toList.map fun (i,x)=>(i,ρ x):=by simp
  rw [e]
  have e2:zx.cells=⟨zx.cells.toList⟩:=rfl
  rw [e2,f1];rfl
 ·rename_i z len el hz hu
  split at hc<;>(try (cases hc;done))
  rename_i n hn
  obtain ⟨qs,hq,rfl⟩:=map_some hc
  simp only [plan] at hp
  obtain ⟨z',hz',rfl⟩:=val?_some hp
  obtain ⟨cs',hcs,rfl⟩:=map_some hz'
  obtain ⟨zx,z1,z2,z3,z4⟩:=Q2s hz k.w k
  obtain ⟨xs',f1,f2,f3,f4⟩:=Q5s ht hq hcs z2 z4
  refine Q0f g rfl hg (y:=.agg ⟨xs'⟩) ?_ (by simp only [R];exact ⟨xs',rfl,f2⟩)
  simp only [execOp,ho];refine Q0c ?_
  simp only [Instr.build,Sem.run_bind,z1,Result.andThen_ok,run_underlying hu,Q0x hn]
  have e:(ps.map fun (i,x)=>(i,ρ x)).toList=ps.toList.map fun (i,x)=>(i,ρ x):=by simp
  rw [e]
  have e2:zx.cells=⟨zx.cells.toList⟩:=rfl
  rw [e2,f1];rfl
theorem Qna [GT P] (g:Good P k) (ht:Ops k tm ρ) {x i:Operand} {t:TypeId} (ho:o.op=.index t x i) (hc:cOp P j o.op=some m) (hp:plan base tm m=some p) (hg:p.go ro k.h=some (v,h')) :
  Did P ro k (execOp ρ o) v h':=by
 rw [ho] at hc;simp only [cOp] at hc
 split at hc<;>(try (cases hc;done))
 rename_i y iy hy hiy
 have h1:=ht.1 _ _ hy
 have h2:=ht.1 _ _ hiy
 split at hc<;>(try (cases hc;done))<;>rename_i hu
 ·cases hc
  simp only [plan] at hp
  split at hp<;>(try (cases hp;done))
  rename_i s ex
  rw [ex] at h1;simp only [R] at h1
  split at hp<;>(try (cases hp;done))
  rename_i jj hj
  obtain ⟨kk,q,hq,h0,hm,rfl⟩:=nat?_some hj
  rw [hq] at h2;simp only [R] at h2
  split at hp<;>(try (cases hp;done))
  rename_i b hb
  have hlt:q.toNat<s.length:=(jB.1 hb).1
  have hbb:(⟨s.toArray⟩:ByteArray)[q.toNat]?=some b:=by
   have hsz:q.toNat<(⟨s.toArray⟩:ByteArray).size:=by simpa [ByteArray.size] using hlt
   rw [getElem?_pos (⟨s.toArray⟩:ByteArray) q.toNat hsz]
   congr 1
   have:=(jB.1 hb).2
   simpa [ByteArray.getElem_eq_getElem_data] using this
  exact Q0f g hp hg (y:=.int .u8 b.toNat) (by
   simp only [execOp,ho,h1,h2];refine Q0c ?_
   simp only [Instr.index,asIntOf,Sem.run_bind,Sem.run_pure,Result.andThen_ok,run_underlying hu,if_pos h0,hbb]) (by simp only [R])
 ·rename_i len el
  split at hc<;>(try (cases hc;done))
  rename_i ga n hga hn
  split at hc<;>(try (cases hc;done))
  rename_i hgn
  cases hc
  simp only [plan] at hp
  split at hp<;>(try (cases hp;done))
  rename_i mm
  split at hp<;>(try (cases hp;done))
  rename_i jj hj
  obtain ⟨kk,q,hq,h0,hm,rfl⟩:=nat?_some hj
  rw [hq] at h2;simp only [R] at h2
  split at hp<;>(try (cases hp;done))
  rename_i cs e
  rw [e] at h1;simp only [R] at h1
  obtain ⟨xs,hx,hl⟩:=h1
  obtain ⟨z,hz,rfl⟩:=val?_some hp
  obtain ⟨rs,hr,hz'⟩:=Q2o hz
  have hgn':ga=true∨n=1:=by simpa using hgn
  have key:∃ y',(Go.part el ⟨xs⟩ (q.toNat*n)).run P k.w=.ok y' k.w∧R k z y':=by
   by_cases hn0:n=0
   ·subst hn0
    rcases hz' with ⟨rfl,rfl⟩|⟨rfl,rfl⟩
    ·obtain ⟨rfl,hlr⟩:=Q0v hr
     refine ⟨.agg #[],by simp [Go.part,Q3k hga,Q0x hn],?_⟩
     have:List.take 0 (List.drop (q.toNat*0) cs)=[]:=by simp
     rw [this];simp only [R];exact ⟨[],rfl,RL.nil⟩
    ·simp at hgn'
   ·obtain ⟨a,b,rfl,hla,hlr⟩:=Q9u hr (by omega)
    obtain ⟨xab,xb,rfl,hab,hb⟩:=RL.split hl
    obtain ⟨xa,xr,rfl,ha,hr'⟩:=RL.split hab
    have:=Q5g hn hga hgn' (pre:=xa) (post:=xb) (by rw [RL.len hr',hlr]) k.w
    rw [RL.len ha,hla] at this
    refine ⟨_,this,?_⟩
    rcases hz' with ⟨rfl,rfl⟩|⟨rfl,rfl⟩
    ·simp only [Q34,hga,if_true,R];exact ⟨xr,rfl,hr'⟩
    ·obtain ⟨x',r',rfl,hx',hr2⟩:=(by simpa [RL] using hr':∃ x' r,xr=x'::r∧R k z x'∧r=[])
     simpa [Q34,hga] using hx'
  obtain ⟨y',hr1,hr2⟩:=key
  exact Q0f g rfl hg (y:=y') (by
   simp only [execOp,ho,hx,h2];refine Q0c ?_
   have hlt:q<((mm+1:Nat):Int):=by omega
   simp only [Instr.index,asIntOf,Sem.run_bind,Sem.run_pure,Result.andThen_ok,run_underlying hu,if_pos (And.intro h0 hlt),Q0x hn,hr1]) hr2
theorem Q3u {w:World} {b:Nat} {cs:Array Value} {T:TypeId} {fr:Nat × Nat} (h:w.heap[b]?=some (.cells cs T fr)):∀ (vs:List Value) (off:Nat),(∀ i,i<vs.length→cs[off+i]?=vs[i]?)→cellsAt w b off vs
 | [],_,_=>trivial
 | v::vs,off,hv=>by
  refine ⟨?_,Q3u h vs (off+1) fun i hi=>?_⟩
  ·have:=hv 0 (by simp)
   simpa [World.cell?,h] using this
  ·have:=hv (i+1) (by simpa using hi)
   simpa [Nat.add_assoc,Nat.add_comm 1 i] using this
theorem ofBytes_R (k:K):∀ (s:List UInt8),RL k (ofBytes s) (s.map fun b=>.int .u8 b.toNat)
 | []=>by simp [ofBytes,RL]
 | b::s=>RL.cons (by simp only [R]) (ofBytes_R k s)
theorem ofBytes_pure:∀ (s:List UInt8),V.pure (ofBytes s)
 | []=>⟨rfl,rfl⟩
 | b::s=>⟨by simp [ofBytes,ones,V.one,(ofBytes_pure s).1],by simp [ofBytes,blos,V.blo,(ofBytes_pure s).2]⟩
theorem Qeg (s:List UInt8):(ofBytes s).length=s.length:=by induction s<;>simp_all [ofBytes]
theorem Qdj {k:K}:∀ {cs:List V} {s:List UInt8} {xs:List Value},Q32 cs=some s→RL k cs xs→∃ ns:List Int,xs=ns.map (Value.int .u8)∧s=ns.map fun n=>UInt8.ofNat n.toNat
 | [],s,xs,h,hl=>by simp [Q32] at h;simp [RL] at hl;subst h hl;exact ⟨[],rfl,rfl⟩
 | c::cs,s,xs,h,hl=>by
  obtain ⟨x,r,rfl,hx,hr⟩:=(by simpa [RL] using hl:∃ x r,xs=x::r∧R k c x∧RL k cs r)
  simp only [Q32] at h
  split at h<;>(try (cases h;done))
  rename_i b hb
  split at h<;>(try (cases h;done))
  rename_i s' hs'
  cases h
  obtain ⟨ns,rfl,rfl⟩:=Qdj hs' hr
  unfold Qhu at hb
  split at hb<;>cases hb
  simp only [R] at hx;subst hx
  rename_i n
  exact ⟨n::ns,rfl,rfl⟩
end Go.Dr
namespace Go.Dr
open Go.RowKit (Below)
variable {P:Program} {k:K} {tm:List V} {ρ:Operand→Value} {o:Oper} {j base ro:Nat} {m:M} {p:Pl} {v:V} {h' : List B}
theorem Q37 [GT P] (g:Good P k) {id:Nat} {c:List V} {dat:Bool} (hb:bget k.h id=some (.blk c dat)) {off n:Nat} {r:List V} (hp:part c off n=some r) {o':Nat} (ho:off=o'+(k.β id).2) :
  ∃ vs,cellsAt k.w (k.β id).1 o' vs∧RL k r vs∧vs.length=n:=by
 obtain ⟨h1,h2,h3,h4,xs,rest,T,h5,h6⟩:=g.blk id c dat hb
 obtain ⟨rfl,hl⟩:=Q0v hp
 refine ⟨(xs.drop o').take n,?_,?_,?_⟩
 ·have hall:cellsAt k.w (k.β id).1 0 xs:=Q3u h5 xs 0 fun i hi=>by simp [List.getElem?_append_left hi]
  have:=Q30 hall o' n
  simpa using this
 ·have:=RL.take n (RL.drop o' h6)
  rw [List.drop_drop,Nat.add_comm] at this
  rw [ho];exact this
 ·have:=RL.len h6
  simp only [jQ,List.length_drop] at hl this ⊢
  omega
theorem Q47 {w:World} {b off:Nat} {vs:List Value} (h:cellsAt w b off vs):(loadCells ⟨b,off,none⟩ vs.length).run P w=.ok ⟨vs⟩ w:=by
 refine run_loadCells_list w ⟨b,off,none⟩ vs fun j v hj=>?_
 rw [Addr.add_lit]
 have:∀ (vs:List Value) (off j:Nat) (v:Value),cellsAt w b off vs→vs[j]?=some v→w.cell? ⟨b,off+j,none⟩=some v:=by
  intro vs
  induction vs with
  | nil=>intro _ _ _ _ h;simp at h
  | cons x l ih =>
   intro off j v hc hj
   cases j with
   | zero=>simp at hj;subst hj;exact hc.1
   | succ j =>
    have:=ih (off+1) j v hc.2 (by simpa using hj)
    rw [show off+(j+1)=off+1+j by omega];exact this
 exact this vs off j v h hj
theorem Qde {w w':World} (h:w'.heap=w.heap) {b off:Nat} {vs:List Value} (hc:cellsAt w b off vs):cellsAt w' b off vs :=
 Q1d (by rw [h]) hc
theorem Q3n [GT P] (g:Good P k) {es:Nat} {x:V} {x':Value} (hx:R k x x') {rs:List Nat} {n:Nat} {f:List B→Option (List V)} (hs:src es x=some (rs,n,f)) {bs:List B} (hb:Q0n k.h rs=some bs) {ys:List V} (hf:f bs=some ys) :
  ys.length=n*es∧(∀ w:World,(Builtin.lenOf x').run P w=.ok n w)∧∃ vs,RL k ys vs∧(∀ m,m≤n→∀ w:World,w.heap=k.w.heap→(Builtin.firstCells es m x').run P w=.ok ⟨vs.take (m*es)⟩ w) ∧
   ((∃ a,x'=.slice a 0 0)∨(∃ b off cap,x'=.slice (some ⟨b,off,none⟩) n cap∧cellsAt k.w b off vs)∨∃ s,x=.str s):=by
 have fc:∀ (b off len cap m:Nat) (vs:List Value),cellsAt k.w b off vs→m*es≤vs.length→∀ w:World,w.heap=k.w.heap →
   (Builtin.firstCells es m (.slice (some ⟨b,off,none⟩) len cap)).run P w=.ok ⟨vs.take (m*es)⟩ w:=by
  intro b off len cap m vs hc hle w hw
  have:=Q47 (P:=P) (Qde hw (Q30 hc 0 (m*es)))
  simp only [Nat.add_zero,List.drop_zero,jQ,Nat.min_eq_left hle] at this
  simpa [Builtin.firstCells] using this
 unfold src at hs
 split at hs
 ·simp only [R] at hx;subst hx
  cases hs;cases hf
  exact ⟨by simp,by simp [Builtin.lenOf],[],RL.nil,by simp [Builtin.firstCells],.inl ⟨_,rfl⟩⟩
 ·simp only [R] at hx;obtain ⟨a,cap,rfl,hca⟩:=hx
  cases hs;cases hf
  refine ⟨by simp,by simp [Builtin.lenOf],[],RL.nil,fun m hm w _=>?_,?_⟩
  ·have:m=0:=by omega
   subst this;simp [Builtin.firstCells,loadCells,loadCellsFrom]
  ·rcases hca with rfl|hs
   ·exact .inl ⟨some a,rfl⟩
   ·obtain ⟨b,o,s⟩:=a
    simp only at hs;subst hs
    exact .inr (.inl ⟨b,o,cap,rfl,trivial⟩)
 ·split at hs<;>(try (cases hs;done))
  rename_i hl
  cases hs;cases hf
  simp only [R] at hx
  rcases hx with ⟨a,rfl,rfl,rfl⟩|⟨b,off,cap,vs,rfl,h1,h3,h4,h5,h6,h7⟩
  ·refine ⟨by simp,by simp [Builtin.lenOf],[],RL.nil,?_,.inl ⟨a,rfl⟩⟩
   intro m hm w hw
   have:m=0:=by omega
   subst this;cases a<;>simp [Builtin.firstCells,loadCells,loadCellsFrom]
  have hlen:=RL.len h4
  refine ⟨hl,by simp [Builtin.lenOf],vs,h4,?_,.inr (.inl ⟨b,off,cap,rfl,h3⟩)⟩
  intro m hm w hw
  exact fc _ _ _ _ _ _ h3 (by rw [hlen,hl];exact Nat.mul_le_mul_right es hm) w hw
 ·split at hs<;>(try (cases hs;done))
  rename_i s he;subst he
  cases hs;cases hf
  simp only [R] at hx;subst hx
  have hfc:∀ m,m≤s.length→∀ w:World,(Builtin.firstCells 1 m (.string ⟨s.toArray⟩)).run P w=.ok ⟨(s.map fun b=>Value.int .u8 b.toNat).take m⟩ w:=by
   intro m hm w
   simp only [Builtin.firstCells,Sem.run_pure]
   congr 1
   apply Array.ext'
   simp [ByteArray.data_extract,List.map_take]
  exact ⟨by simp [Qeg],by simp [Builtin.lenOf,ByteArray.size],s.map fun b=>Value.int .u8 b.toNat,ofBytes_R k s,fun m hm w _=>by rw [Nat.mul_one];exact hfc m hm w,.inr (.inr ⟨s,rfl⟩)⟩
 ·rename_i es' id gg off len clip
  split at hs<;>(try (cases hs;done))
  rename_i he;subst he
  cases hs
  simp only [R] at hx
  obtain ⟨b,o',cap,c,dat,rfl,hbk,hgc,hlc,hclip,hpos⟩:=hx
  simp only [Q0n,hbk] at hb
  cases hb
  simp only at hf
  split at hf<;>(try (cases hf;done))
  rename_i hcg
  obtain ⟨p1,p0,p2⟩:=hpos hcg.symm
  by_cases hc0:cap=0
  ·have hn0:n=0:=by omega
   subst hn0
   obtain ⟨rfl,hl⟩:=Q0v hf
   have hnil:List.take (0*es') (List.drop off c)=[]:=by simp
   rw [hnil]
   refine ⟨by simp,by simp [Builtin.lenOf],[],RL.nil,?_,.inr (.inl ⟨b,o',cap,rfl,trivial⟩)⟩
   intro m hm w hw
   have:m=0:=by omega
   subst this;simp [Builtin.firstCells,loadCells,loadCellsFrom]
  ·obtain ⟨p3,p4,p5⟩:=p2 hc0
   obtain ⟨vs,c1,c2,c3⟩:=Q37 g hbk hf p4
   rw [p3] at c1
   refine ⟨(Q0v hf).2,by simp [Builtin.lenOf],vs,c2,?_,.inr (.inl ⟨b,o',cap,rfl,c1⟩)⟩
   intro m hm w hw
   exact fc _ _ _ _ _ _ c1 (by rw [c3];exact Nat.mul_le_mul_right es' hm) w hw
 ·cases hs
theorem Pl.go_rd {ro:Nat} {h:List B} {p:Pl} (hw:p.w=none) (e:p.go ro h=some (v,h')):∃ bs,Q0n h p.rs=some bs∧p.f bs=some (v,none)∧h'=h:=by
 unfold Pl.go at e
 split at e<;>(try (cases e;done))
 rename_i bs hbs
 split at e<;>(try (cases e;done))
 ·cases e;exact ⟨bs,hbs,by assumption,rfl⟩
 ·rw [hw] at e;cases e
theorem Good.fresh [GT P] (g:Good P k) {w':World} (hlow:Below k.n0 k.w w') (hs:∀ b,b<k.w.heap.size→w'.heap[b]?=k.w.heap[b]?) {cs:Array Value} {T:TypeId} {fr:Nat × Nat}
  (hb:w'.heap[k.w.heap.size]?=some (.cells cs T fr)) {cells:List V} {vs:List Value} (hv:∀ i,i<vs.length→cs[i]?=vs[i]?) (hl:RL k cells vs) (hp:V.pure cells) {clip:Bool} {len cap:Nat} (hlc:len≤cap) (hcl:clip=true→cap=len) (ro:Nat) :
  Good P { k with w:=w' }∧Ev ro k.h.length k { k with w:=w' }∧R { k with w:=w' } (.sl clip len cells) (.slice (some ⟨k.w.heap.size,0,none⟩) len cap):=by
 obtain ⟨g1,e1⟩:=g.world hlow hs ro k.h.length
 refine ⟨g1,e1,?_⟩
 simp only [R]
 refine .inr ⟨k.w.heap.size,0,cap,vs,rfl,okv.mk (.inr ⟨g.size,?_⟩) (jP.1 hb).1,Q3u hb vs 0 (by simpa using hv),RL.ev e1 (RL.blos hl) hl,hp,hlc,hcl⟩
 rintro ⟨i,l,e⟩
 have h1:=(g.at (id:=i) l).2
 have h2:(k.β i).1=k.w.heap.size:=e
 omega
theorem Qff [GT P] (g:Good P k) (ht:Ops k tm ρ) {x:Operand} {s d:TypeId} (ho:o.op=.convert s d x) (hc:cOp P j o.op=some m) (hp:plan base tm m=some p) (hg:p.go ro k.h=some (v,h')) :
  Did P ro k (execOp ρ o) v h':=by
 rw [ho] at hc;simp only [cOp] at hc
 split at hc<;>(try (cases hc;done))
 rename_i y hy
 have h1:=ht.1 _ _ hy
 split at hc<;>(try (cases hc;done))<;>rename_i hs hd
 ·cases hc
  simp only [plan] at hp
  split at hp<;>(try (cases hp;done))
  rename_i kk n ex
  rw [ex] at h1;simp only [R] at h1
  rename_i kd _ _ 
  exact Q0f g hp hg (by simp only [execOp,ho,h1];exact Q0c (by simp only [Go.convert,Sem.run_bind,run_underlying hs,run_underlying hd,Result.andThen_ok,Conv.intToInt,Sem.run_pure];rfl)) (by simp only [R])
 ·cases hc
  simp only [plan] at hp
  split at hp<;>(try (cases hp;done))
  rename_i st ex
  rw [ex] at h1;simp only [R] at h1
  exact Q0f g hp hg (y:=.string ⟨st.toArray⟩) (by simp only [execOp,ho,h1];exact Q0c (by simp only [Go.convert,Sem.run_bind,run_underlying hs,run_underlying hd,Result.andThen_ok,Sem.run_pure])) (by simp only [R])
 ·split at hc<;>(try (cases hc;done))
  rename_i he
  cases hc
  simp only [plan] at hp
  split at hp<;>(try (cases hp;done))
  rename_i rs n f hsr
  split at hp
  ·cases hp
  rename_i hns
  cases hp
  obtain ⟨bs,b1,b2,rfl⟩:=Pl.go_rd rfl hg
  simp only at b1 b2
  split at b2<;>(try (cases b2;done))
  rename_i cs hcs
  split at b2<;>(try (cases b2;done))
  rename_i st hst
  cases b2
  obtain ⟨r1,r2,vs,r3,r4,r6⟩:=Q3n (P:=P) g h1 hsr b1 hcs
  obtain ⟨ns,rfl,rfl⟩:=Qdj hst r3
  have fin:∀ z,(Go.convert s d (ρ x)).run P k.w=.ok z k.w→R k (.str (ns.map fun n=>UInt8.ofNat n.toNat)) z→Did P ro k (execOp ρ o) (.str (ns.map fun n=>UInt8.ofNat n.toNat)) k.h :=
   fun z hz hr=>.val g (by simp only [execOp,ho];exact Q0c hz) hr
  rcases r6 with ⟨a6,hx⟩|⟨b,off,cap,hx,hca⟩|⟨s',hx⟩
  ·have:ns=[]:=by
    have r2':=r2 k.w;rw [hx] at r2';simp [Builtin.lenOf] at r2';subst r2'
    have:=RL.len r3
    simp at r1 this
    simpa [r1] using this
   subst this
   rw [hx] at fin
   refine fin (.string .empty) ?_ (by simp only [R];rfl)
   cases a6 <;>
   simp [Go.convert,Sem.run_bind,run_underlying hs,run_underlying hd,run_underlying he,Conv.bytesToString,loadCells,loadCellsFrom]
  ·have hl:=Q47 (P:=P) hca
   have hlen:(ns.map (Value.int .u8)).length=n:=by rw [RL.len r3,r1];simp
   rw [hlen] at hl
   rw [hx] at fin
   refine fin _ (by rw [run_convert_bytes_string k.w s d _ _ _ _ hs he hd];exact run_bytesToString k.w _ _ _ ns (by simpa using hl)) ?_
   simp only [R,Value.string.injEq]
   have:∀ (l:List Int) (s:ByteArray),l.foldl (fun r n=>r.push (UInt8.ofNat n.toNat)) s=⟨s.data++(l.map fun n=>UInt8.ofNat n.toNat).toArray⟩:=by
    intro l
    induction l with
    | nil=>intro s;cases s;simp
    | cons a l ih=>intro s;simp only [List.foldl_cons,ih];apply ByteArray.ext;simp [ByteArray.push]
   rw [this];apply ByteArray.ext;simp
  ·exact absurd hx (hns s')
 ·rename_i e
  split at hc<;>(try (cases hc;done))
  rename_i he
  cases hc
  simp only [plan] at hp
  split at hp<;>(try (cases hp;done))
  rename_i st ex
  rw [ex] at h1;simp only [R] at h1
  split at hp<;>(try (cases hp;done))
  rename_i hbig
  cases hp
  obtain ⟨rfl,rfl⟩:=Pl.go_val hg
  let q:=Question.appendCap st.length 0 e
  let cap:=q.cut (k.w.tape k.w.drawn q)
  have hcap:st.length≤cap:=by show _≤st.length+_;omega
  let row:Array Value:=((⟨st.toArray⟩:ByteArray).data.map fun b=>Value.int .u8 b.toNat)++Array.replicate (cap-st.length) (.int .u8 0)
  have hrs:row.size=cap:=by simp [row];omega
  let w1:World:={ k.w with drawn:=k.w.drawn+1,heap:=k.w.heap.push (.cells row e) }
  let w':World:=w1.freeze ⟨k.w.heap.size,cap,none⟩ 1
  have hw1:w1.heap[k.w.heap.size]?=some (.cells row e (0,0)):=by simp [w1]
  have hw':w'.heap[k.w.heap.size]?=some (.cells row e (cap,cap+1)):=by
   have hlt:k.w.heap.size<w1.heap.size:=by simp [w1]
   simp only [w',World.freeze,Nat.one_ne_zero,if_false,Array.getElem?_modify,if_pos,hw1,Option.map_some]
   simp
  have hold:∀ b,b<k.w.heap.size→w'.heap[b]?=k.w.heap[b]?:=by
   intro b hb
   simp only [w',World.freeze,Nat.one_ne_zero,if_false,Array.getElem?_modify]
   rw [if_neg (by omega)]
   simp only [w1,Array.getElem?_push];rw [if_neg (by omega)]
  have hlow:Below k.n0 k.w w':=by
   refine ⟨rfl,rfl,rfl,by simp [w',w1,World.freeze],fun b hb=>hold b (by have:=g.size;omega)⟩
  obtain ⟨g1,e1,r1⟩:=g.fresh (clip:=false) (len:=st.length) (cap:=cap) hlow hold hw' (vs:=st.map fun b=>Value.int .u8 b.toNat) (cells:=ofBytes st) (by
   intro i hi
   simp only [List.length_map] at hi
   simp [row,Array.getElem?_append,hi]) (ofBytes_R k st) (ofBytes_pure st) hcap (by simp) ro
  refine ⟨_,{ k with w:=w' },.inl ?_,rfl,g1,e1,r1⟩
  simp only [execOp,ho,h1];refine Q0c ?_
  have hf:q.forced=false:=rfl
  have hsz:(⟨st.toArray⟩:ByteArray).size=st.length:=by simp [ByteArray.size]
  simp only [Go.convert,Sem.run_bind,run_underlying hs,run_underlying hd,run_underlying he,Result.andThen_ok,Conv.stringToBytes,run_choose,hsz]
  rw [show (Question.appendCap st.length 0 e).forced=false from rfl]
  simp only [Bool.false_eq_true,if_false,Result.andThen_ok,newRow,Sem.run_bind,run_newObj,Sem.run_pure,markStringish,run_shape]
  have hsh:w1.shape? k.w.heap.size=some (e,cap):=by simp [World.shape?,hw1,hrs]
  have e2:({ heap:=k.w.heap.push (.cells (((⟨st.toArray⟩:ByteArray).data.map fun b=>Value.int .u8 b.toNat)++Array.replicate (Question.cut (Question.appendCap st.length 0 e) (k.w.tape k.w.drawn (Question.appendCap st.length 0 e))-st.length) (.int .u8 0)) e),tape:=k.w.tape,drawn:=k.w.drawn+1,os:=k.w.os,output:=k.w.output }:World)=w1:=rfl
  simp only [e2]
  rw [hsh]
  simp only [run_freeze,Result.andThen_ok]
  rfl
end Go.Dr
namespace Go.Dr
open Go.RowKit (Below)
variable {P:Program} {k:K} {tm:List V} {ρ:Operand→Value} {o:Oper} {j base ro:Nat} {m:M} {p:Pl} {v:V} {h' : List B}
theorem Q52 {t n:Nat} {ga:Bool} (hga:Q2i P t=some ga) (hn:szOf P t=some n) (hgn:ga=true∨n=1) {b a:Nat} {vs:List Value} {r:List V} {z:V} (hc:cellsAt k.w b a vs) (hl:RL k r vs) (hr:r.length=n)
  (hz:(ga=true∧z=.agg r)∨(ga=false∧r=[z])):∃ y,(loadVar t ⟨b,a,none⟩).run P k.w=.ok y k.w∧R k z y:=by
 rcases hz with ⟨rfl,rfl⟩|⟨rfl,rfl⟩
 ·have:=Q47 (P:=P) hc
  rw [RL.len hl,hr] at this
  exact ⟨.agg ⟨vs⟩,by simp [loadVar,Q3k hga,Q0x hn,this],by simp only [R];exact ⟨vs,rfl,hl⟩⟩
 ·obtain ⟨x,r',rfl,hx,hr'⟩:=(by simpa [RL] using hl:∃ x r,vs=x::r∧R k z x∧r=[])
  have:=hc.1
  exact ⟨x,by simp [loadVar,Q3k hga,this],hx⟩
theorem Qqa [GT P] (g:Good P k) (ht:Ops k tm ρ) {x:Operand} {t:TypeId} (ho:o.op=.load t x) (hc:cOp P j o.op=some m) (hp:plan base tm m=some p) (hg:p.go ro k.h=some (v,h')) :
  Did P ro k (execOp ρ o) v h':=by
 rw [ho] at hc;simp only [cOp] at hc
 split at hc<;>(try (cases hc;done))
 rename_i ga n y hga hn hy
 split at hc<;>(try (cases hc;done))
 rename_i hgn
 have hgn':ga=true∨n=1:=by simpa using hgn
 cases hc
 have h1:=ht.1 _ _ hy
 have hexec:∀ z,(loadVar t (match ρ x with|.pointer (some a)=>a|_=>⟨0,0,none⟩)).run P k.w=.ok z k.w→(∃ a,ρ x=.pointer (some a))→(execOp ρ o).run P k.w=.ok (.value z) k.w:=by
  rintro z hz ⟨a,ha⟩
  rw [ha] at hz
  simp only [execOp,ho,ha];exact Q0c (by simp only [Instr.loadAt,Instr.sureAddr,Sem.run_bind,Sem.run_pure,Result.andThen_ok];exact hz)
 simp only [plan] at hp
 split at hp<;>(try (cases hp;done))<;>(rename_i ex;rw [ex] at h1)<;>simp only [R] at h1
 ·rename_i cs off
  obtain ⟨b,o',vs,hx,hok,hca,hl,hpu⟩:=h1
  obtain ⟨z,hz,rfl⟩:=val?_some hp
  obtain ⟨r,hr,hz'⟩:=Q2o hz
  obtain ⟨e1,e2⟩:=Q0v hr
  have hc2:=Q30 hca off n
  have hl2:RL k r ((vs.drop off).take n):=by rw [e1];exact RL.take _ (RL.drop _ hl)
  obtain ⟨y',r1,r2⟩:=Q52 hga hn hgn' hc2 hl2 e2 hz'
  exact Q0f g rfl hg (hexec y' (by rw [hx];exact r1) ⟨_,hx⟩) r2
 ·rename_i id gg off
  obtain ⟨b,o',c,dat,hx,hbk,hgc,hpos⟩:=h1
  cases hp
  obtain ⟨bs,b1,b2,rfl⟩:=Pl.go_rd rfl hg
  simp only [Pl.rd,Q0n,hbk,jA] at b1
  subst b1
  simp only [Pl.rd] at b2
  split at b2<;>(try (cases b2;done))
  rename_i hcg
  obtain ⟨z,hz,e⟩:=map_some b2
  cases e
  obtain ⟨r,hr,hz'⟩:=Q2o hz
  obtain ⟨p1,p2⟩:=hpos hcg.symm
  obtain ⟨vs,c1,c2,c3⟩:=Q37 g hbk hr p2
  rw [p1] at c1
  obtain ⟨y',r1,r2⟩:=Q52 hga hn hgn' c1 c2 (Q0v hr).2 hz'
  exact .val g (hexec y' (by rw [hx];exact r1) ⟨_,hx⟩) r2
theorem Pl.go_new {ro id:Nat} {h:List B} {v0:V} {b0:B} (e:(Pl.new id v0 b0).go ro h=some (v,h')):bget h id=some .unborn∧ro≤id∧v=v0∧h'=bset h id b0:=by
 simp only [Pl.go,Pl.new,Q0n] at e
 split at e<;>(try (cases e;done))
 rename_i bs hbs
 split at hbs<;>(try (cases hbs;done))
 rename_i b hb
 cases hbs
 split at e<;>(try (cases e;done))
 ·rename_i hm;split at hm<;>cases hm
 ·rename_i v1 b1 hm
  split at hm
  ·rename_i heq
   cases heq;cases hm
   split at e<;>(try (cases e;done))
   rename_i hro
   cases e
   exact ⟨hb,hro,rfl,rfl⟩
  ·cases hm
theorem born [GT P] (g:Good P k) {id:Nat} {c:List V} {dat:Bool} {xs rest:List Value} {T:TypeId} (hb:bget k.h id=some .unborn) (hro:ro≤id) (hl:RL k c xs) (h1:ones c=true) (hd:dat=true→scalars c=true)
  {w':World} (hw:w'.heap=k.w.heap.push (.cells ⟨xs++rest⟩ T (0,0))) (hos:w'.os=k.w.os) (hta:w'.tape=k.w.tape) (hou:w'.output=k.w.output) :
  Good P (k.set id (.blk c dat) (k.w.heap.size,0) w')∧Ev ro k.h.length k (k.set id (.blk c dat) (k.w.heap.size,0) w'):=by
 have hnew:w'.heap[k.w.heap.size]?=some (.cells ⟨xs++rest⟩ T (0,0)):=by rw [hw];simp
 have hold:∀ b,b<k.w.heap.size→w'.heap[b]?=k.w.heap[b]?:=by
  intro b hb';rw [hw,Array.getElem?_push,if_neg (by omega)]
 exact g.upd (Q05 hb) hro (.inl hb) ⟨hos,hta,hou,by rw [hw];simp,fun b hb'=>hold b (by have:=g.size;omega)⟩
  (fun b hb' _=>hold b hb') g.size (.inl (Nat.le_refl _)) hnew (Nat.zero_le _) (by simpa using hl) h1 hd
theorem Qng [GT P] (g:Good P k) (_ht:Ops k tm ρ) {t:TypeId} (ho:o.op=.alloc t) (hc:cOp P j o.op=some m) (hp:plan base tm m=some p) (hg:p.go ro k.h=some (v,h')) :
  Did P ro k (execOp ρ o) v h':=by
 rw [ho] at hc;simp only [cOp] at hc;obtain ⟨z,hz,rfl⟩:=map_some hc
 simp only [plan] at hp;cases hp
 obtain ⟨b1,b2,rfl,rfl⟩:=Pl.go_new hg
 obtain ⟨zx,z1,z2,z3,z4⟩:=Q2s hz k.w k
 obtain ⟨g1,e1⟩:=born (ro:=ro) (dat:=false) (rest:=[]) (T:=t) g b1 b2 z2 z4 (by simp) (w':=k.w.alloc (.cells zx.cells t)) (by simp only [List.append_nil];rfl) rfl rfl rfl
 refine ⟨.pointer (some ⟨k.w.heap.size,0,none⟩),_,.inl ?_,rfl,g1,e1,?_⟩
 ·simp only [execOp,ho];exact Q0c (by simp [Instr.alloc,z1,newVar,newRow,K.set])
 ·simp only [R]
  exact ⟨k.w.heap.size,0,z,false,rfl,by simp only [K.set,Q0g,Q05 b1,and_self,if_true],Nat.le_refl _,fun _=>by simp [K.set]⟩
theorem Qun [GT P] (g:Good P k) (ht:Ops k tm ρ) {x:Operand} {t:TypeId} (ho:o.op=.box t x) (hc:cOp P j o.op=some m) (hp:plan base tm m=some p) (hg:p.go ro k.h=some (v,h')) :
  Did P ro k (execOp ρ o) v h':=by
 rw [ho] at hc;simp only [cOp] at hc;obtain ⟨y,hy,rfl⟩:=map_some hc
 have h1:=ht.1 _ _ hy
 simp only [plan] at hp
 split at hp<;>(try (cases hp;done))
 rename_i hones
 cases hp
 obtain ⟨b1,b2,rfl,rfl⟩:=Pl.go_new hg
 have hcR:=Qbo h1 hones
 obtain ⟨g1,e1⟩:=born (ro:=ro) (dat:=false) (rest:=[]) (T:=t) g b1 b2 hcR hones (by simp) (w':=k.w.alloc (.cells (ρ x).cells t)) (by simp only [List.append_nil];rfl) rfl rfl rfl
 refine ⟨.pointer (some ⟨k.w.heap.size,0,none⟩),_,.inl ?_,rfl,g1,e1,?_⟩
 ·simp only [execOp,ho];exact Q0c (by simp [Instr.box,newVar,newRow,K.set])
 ·simp only [R]
  exact ⟨k.w.heap.size,0,(y.ev tm).cells,false,rfl,by simp only [K.set,Q0g,Q05 b1,and_self,if_true],Nat.le_refl _,fun _=>by simp [K.set]⟩
theorem Pl.go_wr {ro id gg:Nat} {h:List B} {cells:List V} {f:List V→Option (V × List V)} (e:(Pl.wr id gg cells f).go ro h=some (v,h')) :
  ∃ c dat c',bget h id=some (.blk c dat)∧ro≤id∧c.length=gg∧(dat=true→scalars cells=true)∧f c=some (v,c')∧h'=bset h id (.blk c' dat):=by
 simp only [Pl.go,Pl.wr,Q0n] at e
 split at e<;>(try (cases e;done))
 rename_i bs hbs
 split at hbs<;>(try (cases hbs;done))
 rename_i b hb
 cases hbs
 split at e<;>(try (cases e;done))
 ·rename_i hm
  split at hm<;>(try (cases hm;done))
  split at hm<;>(try (cases hm;done))
  obtain ⟨z,_,e2⟩:=map_some hm
  cases e2
 ·rename_i v1 b1 hm
  split at hm<;>(try (cases hm;done))
  rename_i c dat heq
  cases heq
  split at hm<;>(try (cases hm;done))
  rename_i hcond
  simp only [jF,jG,Bool.or_eq_true,Bool.not_eq_true'] at hcond
  obtain ⟨z,hz,e2⟩:=map_some hm
  cases e2
  split at e<;>(try (cases e;done))
  rename_i hro
  cases e
  refine ⟨c,dat,z.2,hb,hro,hcond.1,?_,by rw [hz],rfl⟩
  intro hd
  rcases hcond.2 with h|h
  ·rw [hd] at h;cases h
  ·exact h
theorem scalars_append (a b:List V):scalars (a++b)=(scalars a&&scalars b):=by
 induction a with
 | nil=>simp [scalars]
 | cons c l ih=>simp [scalars,ih,Bool.and_assoc]
theorem Qe7 {cells:List V} (h:scalars cells=true) {v:V} (hv:v∈cells):v.scalar=true:=by
 induction cells with
 | nil=>simp at hv
 | cons c l ih =>
  simp only [scalars,jF] at h
  rcases List.mem_cons.1 hv with rfl|hv
  ·exact h.1
  ·exact ih h.2 hv
theorem Q4x {a:List V} (h:scalars a=true):∀ {b:List V},(∀ v∈b,v∈a)→scalars b=true
 | [],_=>rfl
 | v::b,hb=>by
  simp only [scalars,jF]
  exact ⟨Qe7 h (hb v (by simp)),Q4x h fun x hx=>hb x (by simp [hx])⟩
theorem Qs9 [GT P] (g:Good P k) {id:Nat} {c:List V} {dat:Bool} (hb:bget k.h id=some (.blk c dat)) (hro:ro≤id) {off:Nat} {l:List V} {ys:List Value} (hl:RL k l ys) (h1:ones l=true) (hd:dat=true→scalars l=true) (hle:off+l.length≤c.length)
  {o':Nat} (ho:off=o'+(k.β id).2) :
  ∃ xs rest T,k.w.heap[(k.β id).1]?=some (.cells ⟨xs++rest⟩ T (0,0))∧o'+ys.length≤xs.length ∧
   (let w':=k.w.setRow (k.β id).1 ⟨xs.take o'++ys++xs.drop (o'+ys.length)++rest⟩
    Good P (k.set id (.blk (over c off l) dat) (k.β id) w')∧Ev ro k.h.length k (k.set id (.blk (over c off l) dat) (k.β id) w')):=by
 obtain ⟨q1,q2,q3,q4,xs,rest,T,q5,q6⟩:=g.blk id c dat hb
 have hlx:=RL.len q6
 have hly:=RL.len hl
 simp only [List.length_drop] at hlx
 have hxs:o'+ys.length≤xs.length:=by omega
 refine ⟨xs,rest,T,q5,hxs,?_⟩
 have hover:=Q43 c off l hle
 have hnew:=setRow_heap k.w (k.β id).1 ⟨xs++rest⟩ ⟨xs.take o'++ys++xs.drop (o'+ys.length)++rest⟩ T (0,0) q5
 have hlt:(k.β id).1<k.w.heap.size:=(jP.1 q5).1
 have hother:∀ b,b≠(k.β id).1→(k.w.setRow (k.β id).1 ⟨xs.take o'++ys++xs.drop (o'+ys.length)++rest⟩).heap[b]?=k.w.heap[b]?:=fun b hne=>setRow_other k.w _ b _ hne
 have hlow:Below k.n0 k.w (k.w.setRow (k.β id).1 ⟨xs.take o'++ys++xs.drop (o'+ys.length)++rest⟩):=⟨rfl,rfl,rfl,by simp,fun b (hb':b<k.n0)=>hother b (by omega)⟩
 refine g.upd (p:=k.β id) (xs:=xs.take o'++ys++xs.drop (o'+ys.length)) (rest:=rest) (T:=T) (Q05 hb) hro (.inr ⟨c,hb,by rw [Qb0 _ _ _ hle];exact Nat.le_refl _,fun _=>⟨rfl,?_⟩⟩)
  hlow (fun b _ hne=>hother b (hne (Q0i hb))) q1 (.inr ⟨Q0i hb,rfl⟩) hnew ?_ ?_ ?_ ?_
 ·simp only [Q12,hnew,q5]
  congr 1
  simp;omega
 ·rw [Qb0 _ _ _ hle];exact q2
 ·rw [hover]
  have e1:(c.take off++l++c.drop (off+l.length)).drop (k.β id).2=(c.drop (k.β id).2).take o'++l++(c.drop (k.β id).2).drop (o'+l.length):=by
   have hle2:(k.β id).2≤off:=by omega
   have z1:off-(k.β id).2=o':=by omega
   have z2:(k.β id).2+(o'+l.length)=off+l.length:=by omega
   rw [jO,List.drop_append_of_le_length (by rw [jQ];omega),List.drop_take,List.drop_drop,jO,z1,z2]
  rw [e1]
  refine RL.append (RL.append (RL.take _ q6) hl) ?_
  rw [hly];exact RL.drop _ q6
 ·rw [hover,ones_append,ones_append];simp [ones_take q3,ones_drop q3,h1]
 ·intro hdd
  rw [hover,scalars_append,scalars_append,hd hdd]
  have hs:=q4 hdd
  rw [Q4x hs (fun v hv=>List.mem_of_mem_take hv),Q4x hs (fun v hv=>List.mem_of_mem_drop hv)];rfl
theorem R.ones' {k:K}:∀ {l:List V} {xs:List Value},RL k l xs→ones l=true→∀ x∈xs,x.oneCell'=true
 | [],xs,h,_,x,hx=>by simp [RL] at h;subst h;simp at hx
 | v::l,xs,h,ho,x,hx=>by
  obtain ⟨y,r,rfl,h1,h2⟩:=(by simpa [RL] using h:∃ x r,xs=x::r∧R k v x∧RL k l r)
  simp only [ones,jF] at ho
  rcases List.mem_cons.1 hx with rfl|hx
  ·exact R.one h1 ho.1
  ·exact R.ones' h2 ho.2 x hx
theorem Qn7 [GT P] (g:Good P k) (ht:Ops k tm ρ) {x y:Operand} {t:TypeId} (ho:o.op=.store t x y) (hc:cOp P j o.op=some m) (hp:plan base tm m=some p) (hg:p.go ro k.h=some (v,h')) :
  Did P ro k (execOp ρ o) v h':=by
 rw [ho] at hc;simp only [cOp] at hc
 split at hc<;>(try (cases hc;done))
 rename_i n x' y' hn hx hy
 cases hc
 have h1:=ht.1 _ _ hx
 have h2:=ht.1 _ _ hy
 simp only [plan] at hp
 split at hp<;>(try (cases hp;done))
 rename_i id gg off ex
 rw [ex] at h1;simp only [R] at h1
 obtain ⟨b,o',c0,dat0,hxp,hbk0,hgc,hpos⟩:=h1
 split at hp<;>(try (cases hp;done))
 rename_i hcond
 simp only [jF,jG] at hcond
 cases hp
 obtain ⟨c,dat,c',b1,b2,b3,b4,b5,rfl⟩:=Pl.go_wr hg
 rw [hbk0] at b1;cases b1
 split at b5<;>(try (cases b5;done))
 rename_i hle
 cases b5
 obtain ⟨p1,p2⟩:=hpos b3.symm
 have hcR:=Qbo h2 hcond.2
 have hlen:=RL.len hcR
 obtain ⟨xs,rest,T,w1,w2,g1,e1⟩:=Qs9 (ro:=ro) g hbk0 b2 hcR hcond.2 b4 (by rw [hcond.1];exact hle) p2
 refine ⟨undef,_,.inr ⟨?_,rfl⟩,rfl,g1,e1,by simp [R]⟩
 have hst:=run_storeCells_at P (k.β id).1 o' T (ρ y).cells.toList 0 ⟨xs++rest⟩ k.w w1 (by simp;simp at w2;omega) (R.ones' hcR hcond.2)
 have hsz:(ρ y).cells.size=n:=by have:=hlen;simp at this;omega
 simp only [execOp,ho,hxp,Instr.storeAt,Instr.sureAddr,Sem.run_bind,Sem.run_pure,Result.andThen_ok,storeVar,Q0x hn,hsz,ne_eq,not_true,if_false,← p1,hst]
 simp only [K.set]
 congr 3
 simp only [Nat.add_zero,Array.length_toList,hsz] at w2 ⊢
 have e2:(xs++rest).take o'=xs.take o':=List.take_append_of_le_length (by omega)
 have e3:(xs++rest).drop (o'+n)=xs.drop (o'+n)++rest:=List.drop_append_of_le_length (by omega)
 rw [e2,e3];simp
end Go.Dr
namespace Go.Dr
open Go.RowKit (Below)
variable {P:Program} [GT P] {k:K} {tm:List V} {ρ:Operand→Value} {o:Oper} {j base ro:Nat} {m:M} {p:Pl} {v:V} {h' : List B}
theorem reps_R {k:K} {z:List V} {xs:List Value} (h:RL k z xs):∀ (n:Nat),RL k (reps n z) (List.replicate n xs).flatten
 | 0=>by simp [reps,RL]
 | n+1=>by simp only [reps,List.replicate_succ,List.flatten_cons];exact RL.append h (reps_R h n)
theorem reps_ones {z:List V} (h:ones z=true):∀ (n:Nat),ones (reps n z)=true
 | 0=>rfl
 | n+1=>by simp [reps,ones_append,h,reps_ones h n]
theorem Qat (z:List V):∀ (n:Nat),(reps n z).length=n*z.length
 | 0=>by simp [reps]
 | n+1=>by simp [reps,Qat z n,Nat.succ_mul,Nat.add_comm]
theorem reps_scalars {z:List V} (h:scalars z=true):∀ (n:Nat),scalars (reps n z)=true
 | 0=>rfl
 | n+1=>by simp [reps,scalars_append,h,reps_scalars h n]
theorem Qce (xs:List Value) (hx:xs≠[]):∀ (n:Nat),(Array.range (n*xs.length)).map (fun i=>(⟨xs⟩:Array Value)[i%(⟨xs⟩:Array Value).size]!)=⟨(List.replicate n xs).flatten⟩:=by
 intro n
 apply Array.ext'
 simp only [Array.toList_map,Array.toList_range,List.size_toArray]
 have hpos:0<xs.length:=List.length_pos_iff.2 hx
 apply List.ext_getElem
 ·simp
 ·intro i h1 h2
  simp only [List.length_map,List.length_range] at h1
  simp only [List.getElem_map,List.getElem_range]
  have hm:i%xs.length<xs.length:=Nat.mod_lt _ hpos
  have e1:(⟨xs⟩:Array Value)[i%xs.length]! = xs[i%xs.length]:=by
   rw [getElem!_pos (⟨xs⟩:Array Value) (i%xs.length) (by simpa using hm)];simp
  rw [e1]
  have key:∀ (n i:Nat) (h:i<(List.replicate n xs).flatten.length),(List.replicate n xs).flatten[i]=xs[i%xs.length]'(Nat.mod_lt _ hpos):=by
   intro n
   induction n with
   | zero=>intro i h;simp at h
   | succ n ih =>
    intro i h
    simp only [List.replicate_succ,List.flatten_cons] at h ⊢
    by_cases hi:i<xs.length
    ·rw [List.getElem_append_left hi]
     simp [Nat.mod_eq_of_lt hi]
    ·rw [List.getElem_append_right (by omega)]
     rw [ih]
     congr 1
     exact (Nat.mod_eq_sub_mod (by omega)).symm
  exact (key n i h2).symm
theorem Qh6 {xs:List Value} {n l:Nat} (hl:xs.length=l) (h:n*l=0):(List.replicate n xs).flatten=[]:=by
 apply List.eq_nil_of_length_eq_zero;simp [hl,h]
theorem Q8v (g:Good P k) (ht:Ops k tm ρ) {t len:Nat} {ps:Array (Nat × Operand)} (ho:o.op=.buildSlice t len ps) (hc:cOp P j o.op=some m) (hp:plan base tm m=some p) (hg:p.go ro k.h=some (v,h')) :
  Did P ro k (execOp ρ o) v h':=by
 rw [ho] at hc;simp only [cOp] at hc
 split at hc<;>(try (cases hc;done))
 rename_i e hu
 split at hc<;>(try (cases hc;done))
 rename_i n z hn hz
 split at hc<;>(try (cases hc;done))
 rename_i hbig
 obtain ⟨qs,hq,rfl⟩:=map_some hc
 have key:∀ cs,Q4r tm (reps len z) qs=some cs→∃ xs',(execOp ρ o).run P k.w=.ok (.value (.slice (some ⟨k.w.heap.size,0,none⟩) len len)) (k.w.alloc (.cells ⟨xs'⟩ e))∧RL k cs xs'∧ones cs=true∧cs.length=len*n:=by
  intro cs hcs
  obtain ⟨zx,z1,z2,z3,z4⟩:=Q2s hz k.w k
  rw [hn] at z3;cases z3
  have hzl:=RL.len z2
  have hrow:=reps_R z2 len
  obtain ⟨xs',f1,f2,f3,f4⟩:=Q5s ht hq hcs hrow (reps_ones z4 len)
  have hexec:(execOp ρ o).run P k.w=.ok (.value (.slice (some ⟨k.w.heap.size,0,none⟩) len len)) (k.w.alloc (.cells ⟨xs'⟩ e)):=by
   simp only [execOp,ho];refine Q0c ?_
   simp only [Instr.buildSlice,Sem.run_bind,run_underlying hu,Result.andThen_ok,Q0x hn]
   have hb2:¬ (len*z.length>2 ^ 24):=by omega
   rw [if_neg hb2]
   have hmap:(ps.map fun (i,x)=>(i,ρ x)).toList=ps.toList.map fun (i,x)=>(i,ρ x):=by simp
   by_cases h0:len*z.length=0
   ·have hfl:=Qh6 hzl h0
    rw [hfl] at f1
    simp only [h0,if_true,Sem.run_pure,Sem.run_bind,Result.andThen_ok,hmap]
    have hr0:(Array.map (fun x=>(#[]:Array Value)[x%(#[]:Array Value).size]!) (Array.range 0))=⟨[]⟩:=by simp
    rw [hr0,f1]
    simp only [newRow,Sem.run_bind,run_newObj,Result.andThen_ok,Sem.run_pure]
    rfl
   ·have hne:zx.cells.toList≠[]:=by
     intro e0;rw [e0] at hzl;simp at hzl;rw [← hzl] at h0;simp at h0
    have hrm:=Qce zx.cells.toList hne len
    rw [hzl] at hrm
    simp only [h0,if_false,Sem.run_pure,Sem.run_bind,Result.andThen_ok,hmap,z1]
    have hr0:(Array.map (fun x=>zx.cells[x%zx.cells.size]!) (Array.range (len*z.length)))=⟨(List.replicate len zx.cells.toList).flatten⟩:=by simpa using hrm
    rw [hr0,f1]
    simp only [newRow,Sem.run_bind,run_newObj,Result.andThen_ok,Sem.run_pure]
    rfl
  exact ⟨xs',hexec,f2,f3,by rw [f4,Qat]⟩
 have hold:∀ xs' b,b<k.w.heap.size→(k.w.alloc (.cells ⟨xs'⟩ e)).heap[b]?=k.w.heap[b]?:=fun xs' b hb=>Below.heap_alloc _ _ _ hb
 have vals:∀ cs,Q4r tm (reps len z) qs=some cs→blos 0 cs=true→(Pl.val (.sl true len cs)).go ro k.h=some (v,h')→Did P ro k (execOp ρ o) v h':=by
  intro cs hcs hblo hg
  obtain ⟨rfl,rfl⟩:=Pl.go_val hg
  obtain ⟨xs',hexec,f2,f3,-⟩:=key cs hcs
  have hpure:V.pure cs:=⟨f3,hblo⟩
  have hnew:(k.w.alloc (.cells ⟨xs'⟩ e)).heap[k.w.heap.size]?=some (.cells ⟨xs'⟩ e (0,0)):=by simp [World.alloc,-World.alloc_eq]
  have hlow:Below k.n0 k.w (k.w.alloc (.cells ⟨xs'⟩ e)):=(Below.refl _ _).alloc g.size _
  obtain ⟨g1,e1,r1⟩:=g.fresh (clip:=true) (len:=len) (cap:=len) hlow (hold xs') hnew (vs:=xs') (cells:=cs) (by intro i _;simp) f2 hpure (Nat.le_refl _) (fun _=>rfl) ro
  exact ⟨_,{ k with w:=k.w.alloc (.cells ⟨xs'⟩ e) },.inl hexec,rfl,g1,e1,r1⟩
 by_cases hs:Ql5 z=true
 ·rw [if_pos hs] at hp
  simp only [plan] at hp
  split at hp<;>(try (cases hp;done))
  rename_i cs hcs
  split at hp<;>(try (cases hp;done))
  rename_i hblo
  cases hp
  exact vals cs hcs hblo hg
 ·rw [if_neg hs] at hp
  simp only [plan] at hp
  split at hp<;>(try (cases hp;done))
  rename_i cs hcs
  split at hp
  ·rename_i hblo
   cases hp
   exact vals cs hcs hblo hg
  cases hp
  obtain ⟨q1,q2,rfl,rfl⟩:=Pl.go_new hg
  obtain ⟨xs',hexec,f2,f3,f4⟩:=key cs hcs
  obtain ⟨g1,e1⟩:=born (ro:=ro) (dat:=false) (rest:=[]) (T:=e) g q1 q2 f2 f3 (by simp) (w':=k.w.alloc (.cells ⟨xs'⟩ e)) (by simp only [List.append_nil];rfl) rfl rfl rfl
  refine ⟨_,_,.inl hexec,rfl,g1,e1,?_⟩
  simp only [R]
  refine ⟨k.w.heap.size,0,len,cs,false,rfl,by simp only [K.set,Q0g,Q05 q1,and_self,if_true],by rw [f4];exact Nat.le_refl _,Nat.le_refl _,fun _=>rfl,fun _=>⟨by omega,by simp [K.set],fun _=>⟨by simp [K.set],by simp [K.set],fun h=>absurd h (by decide)⟩⟩⟩
theorem Qq9 (g:Good P k) (ht:Ops k tm ρ) {t:TypeId} {x y:Operand} (ho:o.op=.makeSlice t x y) (hc:cOp P j o.op=some m) (hp:plan base tm m=some p) (hg:p.go ro k.h=some (v,h')) :
  Did P ro k (execOp ρ o) v h':=by
 rw [ho] at hc;simp only [cOp] at hc
 split at hc<;>(try (cases hc;done))
 rename_i e hu
 split at hc<;>(try (cases hc;done))
 rename_i n by_ z l c hn hby hz hl hcc
 cases hc
 have h1:=ht.1 _ _ hl
 have h2:=ht.1 _ _ hcc
 simp only [plan] at hp
 split at hp<;>(try (cases hp;done))
 rename_i cn hcn
 split at hp<;>(try (cases hp;done))
 rename_i ln hln
 split at hp<;>(try (cases hp;done))
 rename_i hcond
 simp only [jF,jG,Bool.or_eq_true,Bool.not_eq_true'] at hcond
 obtain ⟨⟨hb1,hb2⟩,hb3⟩:=hcond
 cases hp
 obtain ⟨q1,q2,rfl,rfl⟩:=Pl.go_new hg
 obtain ⟨zx,z1,z2,z3,z4⟩:=Q2s hz k.w k
 have hzl:=RL.len z2
 obtain ⟨kk,ci,hce,c0,c1,rfl⟩:=nat?_some hcn
 obtain ⟨kk',li,hle,l0,l1,rfl⟩:=nat?_some hln
 rw [hce] at h2;rw [hle] at h1;simp only [R] at h1 h2
 obtain ⟨ti,ty1,ty2,ty3⟩:=Qhv hby k.w
 have hbig:(big:Int)=68719476736:=rfl
 rw [hbig] at c1
 have hwc:IntKind.i64.wrap ci=ci:=by
  rw [IntKind.wrap_i64];omega
 have hwl:IntKind.i64.wrap li=li:=by
  rw [IntKind.wrap_i64];omega
 have hmul:(ti.bytes:Int)*ci≤68719476736:=by
  have hh:ci.toNat*(by_+1)≤68719476736:=hb1
  have h3:by_*ci.toNat≤68719476736:=by rw [Nat.mul_add,Nat.mul_comm] at hh;omega
  rw [ty2]
  have h4:((by_*ci.toNat:Nat):Int)=(by_:Int)*ci:=by rw [Int.natCast_mul,Int.toNat_of_nonneg c0]
  rw [← h4];omega
 have hlen:((List.replicate (ci.toNat) zx.cells.toList).flatten).length=ci.toNat*n:=by simp [hzl,hb2]
 have hsplit:(List.replicate ci.toNat zx.cells.toList).flatten=(List.replicate li.toNat zx.cells.toList).flatten++(List.replicate (ci.toNat-li.toNat) zx.cells.toList).flatten:=by
  rw [← List.flatten_append,List.replicate_append_replicate];congr 2;omega
 have hrow:=reps_R z2 li.toNat
 have hdat:Qnk P e=true→scalars (reps li.toNat z)=true:=fun hd=>by
  rcases hb3 with h|h
  ·rw [hd] at h;cases h
  ·exact reps_scalars h _
 obtain ⟨g1,e1⟩:=born (ro:=ro) (dat:=Qnk P e) (rest:=(List.replicate (ci.toNat-li.toNat) zx.cells.toList).flatten) (T:=e) g q1 q2 hrow (reps_ones z4 _) hdat
  (w':=k.w.alloc (.cells ⟨(List.replicate ci.toNat zx.cells.toList).flatten⟩ e)) (by rw [hsplit];rfl) rfl rfl rfl
 refine ⟨.slice (some ⟨k.w.heap.size,0,none⟩) li.toNat ci.toNat,_,.inl ?_,rfl,g1,e1,?_⟩
 ·simp only [execOp,ho,h1,h2];refine Q0c ?_
  have htl:(decide (ci<0)||decide ((ti.bytes:Int)*ci>2 ^ 48))=false:=by
   simp only [jL,jI];constructor<;>omega
  simp only [Instr.makeSlice,Sem.run_bind,run_underlying hu,Result.andThen_ok,asInt,asIntOf,Sem.run_pure,ty1,hwc,hwl,htl,Bool.false_or]
  have hcond2:(decide (li<0)||decide (li>ci))=false:=by
   simp only [jL,jI];constructor<;>omega
  rw [hcond2]
  by_cases h0:ci.toNat*n=0
  ·have hfl:=Qh6 (hzl.trans hb2) h0
   simp only [Bool.false_eq_true,if_false,Sem.run_pure,Result.andThen_ok,run_askRoom,Q0x hn,h0,if_true,newRow,Sem.run_bind,run_newObj]
   have hr0:(Array.map (fun x=>(#[]:Array Value)[x%(#[]:Array Value).size]!) (Array.range 0))=⟨[]⟩:=by simp
   rw [hr0,hfl];rfl
  ·have hne:zx.cells.toList≠[]:=by
    intro e0;rw [e0] at hzl;simp at hzl;rw [← hb2,← hzl] at h0;simp at h0
   have hrm:=Qce zx.cells.toList hne ci.toNat
   rw [hzl,hb2] at hrm
   simp only [Bool.false_eq_true,if_false,Sem.run_pure,Result.andThen_ok,run_askRoom,Q0x hn,h0,z1,newRow,Sem.run_bind,run_newObj]
   have hr0:(Array.map (fun x=>zx.cells[x%zx.cells.size]!) (Array.range (ci.toNat*n)))=⟨(List.replicate ci.toNat zx.cells.toList).flatten⟩:=by simpa using hrm
   rw [hr0];rfl
 ·simp only [R]
  refine ⟨k.w.heap.size,0,ci.toNat,reps li.toNat z,Qnk P e,rfl,by simp only [K.set,Q0g,Q05 q1,and_self,if_true],by rw [Qat,hb2];exact Nat.le_refl _,by omega,fun h=>by simp only [jG] at h;omega,fun _=>⟨by omega,by simp [K.set],fun _=>⟨by simp [K.set],by simp [K.set],fun _ _ _=>?_⟩⟩⟩
  simp only [Q12,K.set]
  have:(k.w.alloc (.cells ⟨(List.replicate ci.toNat zx.cells.toList).flatten⟩ e)).heap[k.w.heap.size]?=some (.cells ⟨(List.replicate ci.toNat zx.cells.toList).flatten⟩ e (0,0)):=by simp [World.alloc,-World.alloc_eq]
  rw [this]
  simp only [List.size_toArray,hlen,Nat.zero_add]
end Go.Dr
namespace Go.Dr
open Go.RowKit (Below)
variable {P:Program} {k:K} {tm:List V} {ρ:Operand→Value} {o:Oper} {j base ro:Nat} {m:M} {p:Pl} {v:V} {h' : List B}
theorem Qmk (N c:Nat) (h:c≤N):Builtin.growBy N 4 c≤3*N+2000:=by
 simp only [Builtin.growBy]
 repeat' split
 all_goals omega
theorem Qip (N c:Nat) (h:c<N):Builtin.nextslicecap N c≤3*N+2000:=by
 unfold Builtin.nextslicecap
 have:=Qmk N c (by omega)
 repeat' split
 all_goals omega
theorem Qv0 {sT uT:TypeId} {ts:List TypeId} {e:TypeId} {d2:TypeDesc} (hs:P.underlying sT=some (.slice e)) (hu:P.underlying uT=some d2) (hd2:∀ kk,d2≠.int kk) {n:Nat} (hn:szOf P e=some n) (ty:TypeId) (base:Option Addr) (len cap:Nat) (x:Value) {nx:Nat} {w:World}
  (hl:(Builtin.lenOf x).run P w=.ok nx w) :
  (len+nx≤cap→∀ vs,(Builtin.firstCells n nx x).run P w=.ok ⟨vs⟩ w→∀ w',(match base with|some a=>storeCells (a.add (len*n)) vs|none=>pure ():Sem Unit).run P w=.ok () w' →
   (Builtin.append_ (sT::uT::ts).toArray ty #[.slice base len cap,x]).run P w=.ok (.slice base (len+nx) cap) w') ∧
  (cap<len+nx→∀ by_,byOf P e=some by_→(len+nx)*(by_+1)<big→∀ old new,(∀ w':World,w'.heap=w.heap→(Builtin.firstCells n len (.slice base len cap)).run P w'=.ok ⟨old⟩ w')→(∀ w':World,w'.heap=w.heap→(Builtin.firstCells n nx x).run P w'=.ok ⟨new⟩ w')→∀ z,Q6s P e=some z →
   ∃ (nc:Nat) (rest:List Value) (w':World),len+nx≤nc∧rest.length=(nc-(len+nx))*n∧w'.heap=w.heap.push (.cells ⟨old++new++rest⟩ e (0,0))∧w'.os=w.os∧w'.tape=w.tape∧w'.output=w.output ∧
    (Builtin.append_ (sT::uT::ts).toArray ty #[.slice base len cap,x]).run P w=.ok (.slice (some ⟨w.heap.size,0,none⟩) (len+nx) nc) w'):=by
 have hz:(match d2 with|.int _=>true|_=>false)=false:=by
  cases d2<;>first|rfl|exact absurd rfl (hd2 _)
 have a0:(sT::uT::ts).toArray[0]?=some sT:=by simp
 have a1:(sT::uT::ts).toArray[1]?=some uT:=by simp
 have b0:(#[Value.slice base len cap,x]:Array Value)[0]?=some (.slice base len cap):=rfl
 have b1:(#[Value.slice base len cap,x]:Array Value)[1]?=some x:=rfl
 constructor
 ·intro hle vs hv w' hw'
  unfold Builtin.append_
  simp only [a0,a1,b0,b1,Sem.run_bind,run_underlying hs,Result.andThen_ok,Q0x hn,run_underlying hu,Sem.run_pure,Bool.false_eq_true,if_false,hl,if_pos hle,Bool.not_false,if_true,hv]
  cases base with
  | none=>simp only [Sem.run_pure,Result.ok.injEq] at hw';simp [hw'.2]
  | some a=>simp only at hw';simp [hw']
 ·intro hlt by_ hby hbig old new ho hne z hz0
  obtain ⟨ti,ty1,ty2,ty3⟩:=Qhv hby w
  have hbg:big=68719476736:=rfl
  rw [hbg] at hbig
  have hneed:len+nx<68719476736:=Nat.lt_of_le_of_lt (Nat.le_mul_of_pos_right _ (by omega)) hbig
  have hmax:IntKind.i64.max=9223372036854775807:=by decide
  have hc1:¬ (((len+nx:Nat):Int)>IntKind.i64.max∧(false=true∨ti.bytes=0)):=by rw [hmax];omega
  have hc2:¬ Builtin.nextslicecap (len+nx) cap*ti.bytes>2 ^ 48:=by
   have h1:=Qip (len+nx) cap hlt
   have h2:=Nat.mul_le_mul_right ti.bytes h1
   rw [ty2] at h2 ⊢
   have h3:(len+nx)*by_≤68719476736:=by rw [Nat.mul_add] at hbig;omega
   have h4:by_<68719476736:=by
    have:1*(by_+1)≤(len+nx)*(by_+1):=Nat.mul_le_mul_right _ (by omega)
    omega
   have h5:(3*(len+nx)+2000)*by_=3*((len+nx)*by_)+2000*by_:=by rw [Nat.add_mul,Nat.mul_assoc]
   omega
  have hfl:¬ len+nx≤cap:=by omega
  obtain ⟨zx,z1,z2,z3,z4⟩:=Q2s hz0 { w with drawn:=w.drawn+1 } ⟨0,fun _=>False,[],fun _=>(0,0),w⟩
  rw [hn] at z3;cases z3
  have ty1':∀ w:World,(typeInfo e).run P w=.ok ti w:=fun w=>by simp [typeInfo,ty3]
  have hzl:=RL.len z2
  let q:=Question.appendCap (len+nx) cap e
  let nc:=q.cut (w.tape w.drawn q)
  have hnc:len+nx≤nc:=by show _≤(len+nx)+_;omega
  refine ⟨nc,(Builtin.zeroCells zx.cells (nc-(len+nx))).toList,{ w with drawn:=w.drawn+1,heap:=w.heap.push (.cells (⟨old⟩++⟨new⟩++Builtin.zeroCells zx.cells (nc-(len+nx))) e) },hnc,?_,?_,rfl,rfl,rfl,?_⟩
  ·simp only [Builtin.zeroCells]
   simp [← hzl]
  ·simp only
   congr 2
   apply Array.ext';simp
  ·unfold Builtin.append_
   simp only [a0,a1,b0,b1,Sem.run_bind,run_underlying hs,Result.andThen_ok,Q0x hn,run_underlying hu,Sem.run_pure,Bool.false_eq_true,if_false,hl,if_neg hfl,Bool.not_false,if_true,ty1',false_or]
   rw [if_neg (by simpa using hc1)]
   simp only [Sem.run_bind,ty1',Result.andThen_ok]
   rw [if_neg hc2]
   simp only [Sem.run_bind,ty1',Result.andThen_ok,run_choose]
   rw [show (Question.appendCap (len+nx) cap e).forced=false from rfl]
   simp only [Bool.false_eq_true,if_false,Result.andThen_ok,run_askRoom]
   rw [ho { w with drawn:=w.drawn+1 } rfl]
   simp only [Result.andThen_ok]
   rw [hne { w with drawn:=w.drawn+1 } rfl]
   simp only [Result.andThen_ok,z1,newRow,Sem.run_bind,run_newObj,Sem.run_pure]
   rfl
end Go.Dr
namespace Go.Dr
open Go.RowKit (Below)
variable {P:Program} {k:K} {tm:List V} {ρ:Operand→Value} {o:Oper} {j base ro:Nat} {m:M} {p:Pl} {v:V} {h' : List B}
theorem Q70 {b:Builtin} {args:Array Operand} {ts:Array TypeId} (ho:o.op=.call ⟨.builtin b,args,ts⟩) (w:World) :
  (execOp ρ o).run P w=(Go.builtin b ts o.type (args.map fun|.const _=>true|_=>false) (args.map ρ)).run P w:=by
 simp only [execOp,ho,resolve,Sem.run_bind,Sem.run_pure,Result.andThen_ok,invoke]
 rfl
theorem Qt9 [GT P] (g:Good P k) {id:Nat} {es bytes len n:Nat} {dat:Bool} {cs ys:List V} {r:V × Option B} {xs zs:List Value} (hid:bget k.h id=some .unborn) (hro:ro≤id) (_hes:es≠0)
  (ha:Q3z id es bytes dat len n cs ys=some r) (hcs:RL k cs xs) (hys:RL k ys zs) (h1:ones cs=true) (h2:ones ys=true) (hlc:cs.length=len*es) (hly:ys.length=n*es)
  {rest:List Value} {T:TypeId} {nc:Nat} (hnc:len+n≤nc) (hrest:rest.length=(nc-(len+n))*es) {w':World} (hw:w'.heap=k.w.heap.push (.cells ⟨xs++zs++rest⟩ T (0,0))) (hos:w'.os=k.w.os) (hta:w'.tape=k.w.tape) (hou:w'.output=k.w.output) :
  ∃ vv b,r=(vv,some b)∧∃ k',k'.h=bset k.h id b∧k'.w=w'∧Good P k'∧Ev ro k.h.length k k'∧R k' vv (.slice (some ⟨k.w.heap.size,0,none⟩) (len+n) nc):=by
 unfold Q3z at ha
 split at ha<;>(try (cases ha;done))
 rename_i hcond
 simp only [jF,jG,Bool.or_eq_true,Bool.not_eq_true'] at hcond
 cases ha
 obtain ⟨g1,e1⟩:=born (ro:=ro) (dat:=dat) (rest:=rest) (T:=T) g hid hro (RL.append hcs hys) (by rw [ones_append,h1,h2];rfl) (fun hd=>by rcases hcond.2 with h|h;(rw [hd] at h;cases h);exact h) hw hos hta hou
 refine ⟨_,_,rfl,_,rfl,rfl,g1,e1,?_⟩
 simp only [R]
 have hsz:(⟨xs++zs++rest⟩:Array Value).size=nc*es:=by
  have a1:=RL.len hcs
  have a2:=RL.len hys
  simp only [List.size_toArray,jD,a1,a2,hlc,hly,hrest]
  rw [← Nat.add_mul,← Nat.add_mul];congr 1;omega
 refine ⟨k.w.heap.size,0,nc,cs++ys,dat,rfl,by simp only [K.set,Q0g,Q05 hid,and_self,if_true],by simp,hnc,by simp,fun _=>⟨by rw [hlc,hly,← Nat.add_mul];omega,by simp [K.set],fun _=>⟨by simp [K.set],by simp [K.set],fun _ _ _=>?_⟩⟩⟩
 have hnew:w'.heap[k.w.heap.size]?=some (.cells ⟨xs++zs++rest⟩ T (0,0)):=by rw [hw];simp
 simp only [Q12,K.set,hnew,hsz,Nat.zero_add]
theorem Q9c (a:Addr) (w:World):(storeCells a []).run P w=.ok () w:=by simp [storeCells]
theorem Qge [GT P] (g:Good P k) {es:Nat} {x:V} {x':Value} (hx:R k x x') {rs:List Nat} {n:Nat} {f:List B→Option (List V)} (hs:src es x=some (rs,n,f)) {bs:List B} (hb:Q0n k.h rs=some bs) {ys:List V} (hf:f bs=some ys):ones ys=true:=by
 unfold src at hs
 split at hs
 ·cases hs;cases hf;rfl
 ·cases hs;cases hf;rfl
 ·split at hs<;>(try (cases hs;done))
  cases hs;cases hf
  simp only [R] at hx
  rcases hx with ⟨a,rfl,rfl,rfl⟩|⟨b,off,cap,vs,rfl,h1,h3,h4,h5,h6,h7⟩
  ·rfl
  exact h5.1
 ·split at hs<;>(try (cases hs;done))
  cases hs;cases hf;exact (ofBytes_pure _).1
 ·split at hs<;>(try (cases hs;done))
  cases hs
  simp only [R] at hx
  obtain ⟨b,o',cap,c,dat,rfl,hbk,_⟩:=hx
  simp only [Q0n,hbk] at hb
  cases hb
  simp only at hf
  split at hf<;>(try (cases hf;done))
  obtain ⟨rfl,_⟩:=Q0v hf
  exact ones_take (ones_drop (g.blk _ _ _ hbk).2.2.1 _) _
 ·cases hs
theorem Qao {clip:Bool} {len:Nat} {cs:List V} {x:Value} (h:R k (.sl clip len cs) x):∃ a cap,x=.slice a len cap∧V.pure cs∧len≤cap∧(clip=true→cap=len):=by
 simp only [R] at h
 rcases h with ⟨a,rfl,rfl,rfl⟩|⟨b,off,cap,vs,rfl,h1,h3,h4,h5,h6,h7⟩
 ·exact ⟨a,0,rfl,⟨rfl,rfl⟩,Nat.le_refl _,fun _=>rfl⟩
 ·exact ⟨_,cap,rfl,h5,h6,h7⟩
theorem Pl.go_cases {ro:Nat} {h:List B} {p:Pl} (e:p.go ro h=some (v,h')):∃ bs,Q0n h p.rs=some bs∧((p.f bs=some (v,none)∧h'=h)∨∃ b id,p.f bs=some (v,some b)∧p.w=some id∧ro≤id∧h'=bset h id b):=by
 unfold Pl.go at e
 split at e<;>(try (cases e;done))
 rename_i bs hbs
 split at e<;>(try (cases e;done))
 ·cases e;exact ⟨bs,hbs,.inl ⟨by assumption,rfl⟩⟩
 ·rename_i v1 b1 hf
  split at e<;>(try (cases e;done))
  rename_i id hw
  split at e<;>(try (cases e;done))
  rename_i hro
  cases e
  exact ⟨bs,hbs,.inr ⟨b1,id,hf,hw,hro,rfl⟩⟩
theorem Q0l {h:List B} {i:Nat} {l:List Nat} {bs:List B} (e:Q0n h (i::l)=some bs):∃ b r,bs=b::r∧bget h i=some b∧Q0n h l=some r:=by
 unfold Q0n at e
 split at e<;>(try (cases e;done))
 rename_i b hb
 split at e<;>(try (cases e;done))
 rename_i r hr
 cases e;exact ⟨b,r,rfl,hb,hr⟩
theorem Quz (ht:Ops k tm ρ) {args:Array Operand} {x y:O} (h:cOs args.toList=some [x,y]):∃ a b,args.map ρ = #[ρ a,ρ b]∧R k (x.ev tm) (ρ a)∧R k (y.ev tm) (ρ b):=by
 obtain ⟨l⟩:=args
 match l,h with
 | [],h=>simp [cOs] at h
 | [a],h=>simp only [cOs] at h;split at h<;>simp at h
 | [a,b],h =>
  simp only [cOs] at h
  split at h<;>(try (cases h;done))
  rename_i x' hx
  split at h<;>(try (cases h;done))
  rename_i r hr
  split at hr<;>(try (cases hr;done))
  rename_i y' hy
  cases hr;cases h
  exact ⟨a,b,by simp,ht.1 _ _ hx,ht.1 _ _ hy⟩
 | a::b::c::l,h =>
  simp only [cOs] at h
  split at h<;>(try (cases h;done))
  split at h<;>(try (cases h;done))
  rename_i r hr
  split at hr<;>(try (cases hr;done))
  split at hr<;>(try (cases hr;done))
  rename_i r2 hr2
  split at hr2<;>(try (cases hr2;done))
  split at hr2<;>(try (cases hr2;done))
  cases hr2;cases hr;cases h
theorem args1 (ht:Ops k tm ρ) {args:Array Operand} {x:O} (h:cOs args.toList=some [x]):∃ a,args.map ρ = #[ρ a]∧R k (x.ev tm) (ρ a):=by
 obtain ⟨l⟩:=args
 match l,h with
 | [],h=>simp [cOs] at h
 | [a],h =>
  simp only [cOs] at h
  split at h<;>(try (cases h;done))
  rename_i x' hx
  cases h
  exact ⟨a,by simp,ht.1 _ _ hx⟩
 | a::b::l,h =>
  simp only [cOs] at h
  split at h<;>(try (cases h;done))
  split at h<;>(try (cases h;done))
  rename_i r hr
  split at hr<;>(try (cases hr;done))
  split at hr<;>(try (cases hr;done))
  cases hr;cases h
theorem Qbw {id es bytes len n:Nat} {dat:Bool} {cs ys:List V} {v:V} (h:Q3z id es bytes dat len n cs ys=some (v,none)):False:=by
 unfold Q3z at h;split at h<;>simp at h
theorem Qdr {id es bytes len n:Nat} {dat:Bool} {cs ys:List V} {r:V × Option B} (h:Q3z id es bytes dat len n cs ys=some r):(cs.length+ys.length)*(bytes+1)<big:=by
 unfold Q3z at h
 split at h<;>(try (cases h;done))
 rename_i hcond
 simp only [jF,jG] at hcond
 exact hcond.1
theorem Qra {es i gg off len:Nat} {clip dat:Bool} {c cs:List V} (hg:c.length=gg) (hp:part c off (len*es)=some cs):∃ f,src es (.ms es i gg off len clip)=some ([i],len,f)∧f [.blk c dat]=some cs :=
 ⟨_,by simp only [src,if_true];rfl,by simp only [hg,if_true];exact hp⟩
theorem Qj5 [GT P] (g:Good P k) (ht:Ops k tm ρ) {args:Array Operand} {ts:Array TypeId} {as:List O} (hb:∀ (w:World),(execOp ρ o).run P w=((do pure (Next.value (← Builtin.append_ ts o.type (args.map ρ)))):Sem Next).run P w)
  (ha:cOs args.toList=some as) (hc:cApp P j as ts.toList=some m) (hp:plan base tm m=some p) (hg:p.go ro k.h=some (v,h')) :
  Did P ro k (execOp ρ o) v h':=by
 unfold cApp at hc
 split at hc<;>(try (cases hc;done))
 rename_i x y t u tl hts
 split at hc<;>(try (cases hc;done))
 rename_i e d hu hd
 split at hc<;>(try (cases hc;done))
 rename_i hsos
 split at hc<;>(try (cases hc;done))
 rename_i n by_ z hn hby hz
 cases hc
 obtain ⟨ax,ay,hargs,hx,hy⟩:=Quz (ht:=ht) ha
 have hd2:∀ kk,d≠.int kk:=by rintro kk rfl;simp [Q9o] at hsos
 have htsa:ts=(t::u::tl).toArray:=by rw [← hts]
 have hrun:=fun (bs len cap nx w)=>Qv0 (P:=P) (w:=w) hu hd hd2 hn o.type bs len cap (ρ ay) (ts:=tl) (nx:=nx)
 rw [← htsa] at hrun
 simp only [plan] at hp
 split at hp<;>(try (cases hp;done))
 rename_i hn0
 unfold Qay at hp
 split at hp<;>(try (cases hp;done))
 rename_i rs nn f hsrc
 -- nothing is appended
 have noop:∀ bs b len cap,Q0n k.h rs=some bs→(∃ ys,f bs=some ys)→nn=0→ρ ax=.slice b len cap→len≤cap→R k (x.ev tm) (.slice b len cap)→Did P ro k (execOp ρ o) (x.ev tm) k.h:=by
  rintro bs b len cap hbs ⟨ys,hys⟩ rfl hax hle hR
  obtain ⟨r1,r2,vs,r3,r4,r5⟩:=Q3n (P:=P) g hy hsrc hbs hys
  have:=(hrun b len cap 0 k.w (r2 k.w)).1 (by omega) [] (by have:=r4 0 (Nat.le_refl _) k.w rfl;simpa using this) k.w (by cases b<;>simp [storeCells])
  refine .val g ?_ hR
  rw [hb,hargs,hax]
  exact Q0c (by simpa using this)
 -- a new row
 have room:∀ bs ys b len cap (cs:List V) (xs:List Value),Q0n k.h rs=some bs→f bs=some ys→ρ ax=.slice b len cap→cap<len+nn→RL k cs xs→cs.length=len*n→(cs.length+ys.length)*(by_+1)<big →
   (∀ w':World,w'.heap=k.w.heap→(Builtin.firstCells n len (.slice b len cap)).run P w'=.ok ⟨xs⟩ w') →
   ∃ (vs:List Value) (nc:Nat) (rest:List Value) (w':World),RL k ys vs∧ys.length=nn*n∧ones ys=true∧len+nn≤nc∧rest.length=(nc-(len+nn))*n∧w'.heap=k.w.heap.push (.cells ⟨xs++vs++rest⟩ e (0,0))∧w'.os=k.w.os∧w'.tape=k.w.tape∧w'.output=k.w.output ∧
    (execOp ρ o).run P k.w=.ok (.value (.slice (some ⟨k.w.heap.size,0,none⟩) (len+nn) nc)) w':=by
  intro bs ys b len cap cs xs hbs hys hax hlt hcs hlc hbd hold
  obtain ⟨r1,r2,vs,r3,r4,r5⟩:=Q3n (P:=P) g hy hsrc hbs hys
  have h2:=Qge (P:=P) g hy hsrc hbs hys
  have hlv:vs.length=nn*n:=by rw [RL.len r3,r1]
  have hbound:(len+nn)*(by_+1)<big:=by
   refine Nat.lt_of_le_of_lt (Nat.mul_le_mul_right _ ?_) hbd
   rw [hlc,r1,← Nat.add_mul]
   exact Nat.le_mul_of_pos_right _ (by omega)
  obtain ⟨nc,rest,w',e1,e2,e3,e4,e5,e6,e7⟩:=(hrun b len cap nn k.w (r2 k.w)).2 hlt by_ hby hbound xs vs hold (fun w hw=>by
   have:=r4 nn (Nat.le_refl _) w hw;rw [this,List.take_of_length_le (by omega)]) z hz
  exact ⟨vs,nc,rest,w',r3,r1,h2,e1,e2,e3,e4,e5,e6,by rw [hb,hargs,hax];exact Q0c e7⟩
 have grow:∀ bs ys b len cap (cs:List V) (xs:List Value) id dat bb,Q0n k.h rs=some bs→f bs=some ys→bget k.h id=some .unborn→ro≤id→ρ ax=.slice b len cap→cap<len+nn→RL k cs xs→ones cs=true→cs.length=len*n →
   (∀ w':World,w'.heap=k.w.heap→(Builtin.firstCells n len (.slice b len cap)).run P w'=.ok ⟨xs⟩ w')→Q3z id n by_ dat len nn cs ys=some (v,some bb) →
   Did P ro k (execOp ρ o) v (bset k.h id bb):=by
  intro bs ys b len cap cs xs id dat bb hbs hys hid hro hax hlt hcs h1 hlc hold hap
  obtain ⟨vs,nc,rest,w',r3,r1,h2,e1,e2,e3,e4,e5,e6,e7⟩:=room bs ys b len cap cs xs hbs hys hax hlt hcs hlc (Qdr hap) hold
  obtain ⟨vv,b2,hrr,k',k1,k2,k3,k4,k5⟩:=Qt9 (ro:=ro) g hid hro hn0 hap hcs r3 h1 h2 hlc r1 e1 e2 e3 e4 e5 e6
  cases hrr
  exact ⟨_,k',.inl (by rw [k2];exact e7),k1,k3,k4,k5⟩
 split at hp<;>(try (cases hp;done))
 ·-- nil
  rename_i ex
  have hx':=hx
  rw [ex] at hx;simp only [R] at hx
  cases hp
  obtain ⟨bs,hbs,hcase⟩:=Pl.go_cases hg
  obtain ⟨b0,br,rfl,hb0,hbr⟩:=Q0l hbs
  simp only at hcase
  rcases hcase with ⟨hf,rfl⟩|⟨bb,id,hf,hw,hro,rfl⟩
  ·split at hf<;>(try (cases hf;done))
   rename_i heq;cases heq
   split at hf<;>(try (cases hf;done))
   rename_i ys hys
   split at hf
   ·rename_i hz0
    cases hf
    have:=noop br none 0 0 hbr ⟨ys,hys⟩ hz0 hx (Nat.le_refl _) (hx▸hx')
    rw [ex] at this;exact this
   ·exact (Qbw hf).elim
  ·cases hw
   split at hf<;>(try (cases hf;done))
   rename_i heq;cases heq
   split at hf<;>(try (cases hf;done))
   rename_i ys hys
   split at hf
   ·cases hf
   ·exact grow br ys none 0 0 [] [] _ _ _ hbr hys hb0 hro hx (by omega) RL.nil rfl (by simp) (fun w _=>by simp [Builtin.firstCells]) hf
 ·-- a snapshot that is clipped
  rename_i len cs ex
  have hx':=hx
  rw [ex] at hx
  obtain ⟨a,cap,hax,h5,h6,h7⟩:=Qao hx
  split at hp<;>(try (cases hp;done))
  rename_i hlc
  cases hp
  obtain ⟨bs,hbs,hcase⟩:=Pl.go_cases hg
  obtain ⟨b0,br,rfl,hb0,hbr⟩:=Q0l hbs
  simp only at hcase
  rcases hcase with ⟨hf,rfl⟩|⟨bb,id,hf,hw,hro,rfl⟩
  ·split at hf<;>(try (cases hf;done))
   rename_i heq;cases heq
   split at hf<;>(try (cases hf;done))
   rename_i ys hys
   split at hf
   ·rename_i hz0
    cases hf
    have:=noop br _ len cap hbr ⟨ys,hys⟩ hz0 hax h6 (hax▸hx')
    rw [ex] at this;exact this
   ·exact (Qbw hf).elim
  ·cases hw
   split at hf<;>(try (cases hf;done))
   rename_i heq;cases heq
   split at hf<;>(try (cases hf;done))
   rename_i ys hys
   split at hf
   ·cases hf
   ·obtain ⟨s1,s2,xs',s3,s4,s5⟩:=Q3n (P:=P) (es:=n) g hx (rs:=[]) (n:=len) (f:=fun _=>some cs) (by simp [src,hlc]) (bs:=[]) rfl (ys:=cs) rfl
    have hl':=RL.len s3
    refine grow br ys _ len cap cs xs' _ _ _ hbr hys hb0 hro hax (by have:=h7 rfl;omega) s3 h5.1 hlc (fun w hw=>?_) hf
    have:=s4 len (Nat.le_refl _) w hw
    rw [hax,List.take_of_length_le (by omega)] at this;exact this
 ·-- a snapshot with unknown room
  rename_i len cs ex
  have hx':=hx
  rw [ex] at hx
  obtain ⟨a,cap,hax,h5,h6,h7⟩:=Qao hx
  split at hp<;>(try (cases hp;done))
  rename_i hz0
  cases hp
  obtain ⟨bs,hbs,hf,rfl⟩:=Pl.go_rd rfl hg
  simp only at hf hbs
  split at hf<;>(try (cases hf;done))
  rename_i ys hys
  cases hf
  have:=noop bs _ len cap hbs ⟨ys,hys⟩ hz0 hax h6 (hax▸hx')
  rw [ex] at this;exact this
 ·-- an own slice that is clipped
  rename_i es' i gg off len ex
  have hx':=hx
  rw [ex] at hx
  obtain ⟨b,o',cap,c0,dat0,hax,h1,h2,h3,h4,h5⟩:=(by simpa only [R] using hx:∃ b o' cap c dat,ρ ax=.slice (some ⟨b,o',none⟩) len cap∧bget k.h i=some (.blk c dat)∧gg≤c.length∧len≤cap∧(true=true→cap=len) ∧
   (gg=c.length→off+len*es'≤gg∧(k.β i).1=b∧(cap≠0→(k.β i).1=b∧off=o'+(k.β i).2∧(true=false→0<es'→off+len*es'=gg→Q12 k.w b=some (o'+cap*es')))))
  split at hp<;>(try (cases hp;done))
  rename_i hes
  subst hes
  cases hp
  obtain ⟨bs,hbs,hcase⟩:=Pl.go_cases hg
  obtain ⟨b0,bt,rfl,hb0,hbt⟩:=Q0l hbs
  obtain ⟨b1,br,rfl,hb1,hbr⟩:=Q0l hbt
  rw [h1] at hb1;cases hb1
  simp only at hcase
  rcases hcase with ⟨hf,rfl⟩|⟨bb,id,hf,hw,hro,rfl⟩
  ·split at hf<;>(try (cases hf;done))
   rename_i heq;cases heq
   split at hf<;>(try (cases hf;done))
   rename_i ys hys
   split at hf<;>(try (cases hf;done))
   split at hf
   ·rename_i hz0
    cases hf
    have:=noop br _ len cap hbr ⟨ys,hys⟩ hz0 hax h3 (hax▸hx')
    rw [ex] at this;exact this
   ·split at hf<;>(try (cases hf;done))
    exact (Qbw hf).elim
  ·cases hw
   split at hf<;>(try (cases hf;done))
   rename_i heq;cases heq
   split at hf<;>(try (cases hf;done))
   rename_i ys hys
   split at hf<;>(try (cases hf;done))
   rename_i hgl
   split at hf
   ·cases hf
   ·split at hf<;>(try (cases hf;done))
    rename_i cs hcs
    obtain ⟨fx,hfx,hfy⟩:=Qra (i:=i) (clip:=true) (dat:=dat0) hgl hcs
    obtain ⟨s1,s2,xs',s3,s4,s5⟩:=Q3n (P:=P) g hx hfx (by simp [Q0n,h1]) hfy
    have hl':=RL.len s3
    have hpart:=Q0v hcs
    have h1c:=(g.blk _ _ _ h1).2.2.1
    refine grow br ys _ len cap cs xs' _ _ _ hbr hys hb0 hro hax (by have:=h4 rfl;omega) s3 (by rw [hpart.1];exact ones_take (ones_drop h1c _) _) hpart.2 (fun w hw=>?_) hf
    have:=s4 len (Nat.le_refl _) w hw
    rw [hax,List.take_of_length_le (by omega)] at this;exact this
 ·-- an own slice up to its block's end
  rename_i es' i gg off len ex
  have hx':=hx
  rw [ex] at hx
  obtain ⟨b,o',cap,c0,dat0,hax,h1,h2,h3,h4,h5⟩:=(by simpa only [R] using hx:∃ b o' cap c dat,ρ ax=.slice (some ⟨b,o',none⟩) len cap∧bget k.h i=some (.blk c dat)∧gg≤c.length∧len≤cap∧(false=true→cap=len) ∧
   (gg=c.length→off+len*es'≤gg∧(k.β i).1=b∧(cap≠0→(k.β i).1=b∧off=o'+(k.β i).2∧(false=false→0<es'→off+len*es'=gg→Q12 k.w b=some (o'+cap*es')))))
  split at hp<;>(try (cases hp;done))
  rename_i hes
  subst hes
  cases hp
  obtain ⟨bs,hbs,hcase⟩:=Pl.go_cases hg
  obtain ⟨b1,br,rfl,hb1,hbr⟩:=Q0l hbs
  rw [h1] at hb1;cases hb1
  simp only at hcase
  rcases hcase with ⟨hf,rfl⟩|⟨bb,id,hf,hw,hro,rfl⟩
  ·split at hf<;>(try (cases hf;done))
   rename_i ys hys
   split at hf<;>(try (cases hf;done))
   split at hf
   ·rename_i hz0
    cases hf
    have:=noop br _ len cap hbr ⟨ys,hys⟩ hz0 hax h3 (hax▸hx')
    rw [ex] at this;exact this
   ·split at hf<;>cases hf
  ·cases hw
   split at hf<;>(try (cases hf;done))
   rename_i ys hys
   split at hf<;>(try (cases hf;done))
   rename_i hgl
   split at hf
   ·cases hf
   rename_i hnz
   split at hf<;>(try (cases hf;done))
   rename_i hcond
   simp only [jF,jG,Bool.or_eq_true,Bool.not_eq_true'] at hcond
   obtain ⟨⟨hoff,hbd⟩,hdat⟩:=hcond
   cases hf
   obtain ⟨-,h5⟩:=h5 hgl.symm
   obtain ⟨r1,r2,vs,r3,r4,r5⟩:=Q3n (P:=P) g hy hsrc hbr hys
   have hones:=Qge (P:=P) g hy hsrc hbr hys
   have hlv:=RL.len r3
   have hpos:0<nn*es':=Nat.mul_pos (by omega) (by omega)
   obtain ⟨q1,q2,q3,q4,xs,rest,T,q5,q6⟩:=g.blk i c0 dat0 h1
   have hlx:=RL.len q6
   simp only [List.length_drop] at hlx
   have hd2:dat0=true→scalars (c0++ys)=true:=fun hd=>by
    rw [scalars_append,q4 hd]
    rcases hdat with h|h
    ·rw [hd] at h;cases h
    ·simpa using h
   have h1':ones (c0++ys)=true:=by rw [ones_append,q3,hones];rfl
   by_cases hcap:len+nn≤cap
   ·-- in place
    obtain ⟨p1,p2,p3⟩:=h5.2 (by omega)
    have p3:=p3 rfl (by omega) hoff
    subst p1
    simp only [Q12,q5,jA] at p3
    simp only [List.size_toArray,jD] at p3
    have hxl:xs.length=o'+len*es':=by omega
    have hcl:cap*es'=len*es'+(cap-len)*es':=by rw [← Nat.add_mul];congr 1;omega
    have hrl:nn*es'≤rest.length:=by
     have:nn*es'≤(cap-len)*es':=Nat.mul_le_mul_right _ (by omega)
     omega
    have hst:=run_storeCells_at P (k.β i).1 (o'+len*es') T vs 0 ⟨xs++rest⟩ k.w q5 (by simp;omega) (R.ones' r3 hones)
    have hnew:=setRow_heap k.w (k.β i).1 ⟨xs++rest⟩ ⟨xs++vs++rest.drop vs.length⟩ T (0,0) q5
    have hother:∀ b,b≠(k.β i).1→(k.w.setRow (k.β i).1 ⟨xs++vs++rest.drop vs.length⟩).heap[b]?=k.w.heap[b]?:=fun b hne=>setRow_other k.w _ b _ hne
    have hlow:Below k.n0 k.w (k.w.setRow (k.β i).1 ⟨xs++vs++rest.drop vs.length⟩):=⟨rfl,rfl,rfl,by simp,fun b (hb':b<k.n0)=>hother b (by omega)⟩
    obtain ⟨g1,e1⟩:=g.upd (c':=c0++ys) (dat:=dat0) (p:=k.β i) (ro:=ro) (xs:=xs++vs) (rest:=rest.drop vs.length) (T:=T) (Q05 h1) hro
     (.inr ⟨c0,h1,by simp,fun hl=>by rw [jD] at hl;omega⟩) hlow (fun b _ hne=>hother b (hne (Q0i h1))) q1 (.inr ⟨Q0i h1,rfl⟩) hnew
     (by simp;omega) (by rw [List.drop_append_of_le_length q2];exact RL.append q6 r3) h1' hd2
    refine ⟨.slice (some ⟨(k.β i).1,o',none⟩) (len+nn) cap,_,.inl ?_,rfl,g1,e1,?_⟩
    ·rw [hb,hargs,hax]
     refine Q0c ((hrun _ len cap nn k.w (r2 k.w)).1 hcap vs ?_ _ ?_)
     ·have:=r4 nn (Nat.le_refl _) k.w rfl
      rw [List.take_of_length_le (by omega)] at this;exact this
     ·simp only [Addr.add_lit]
      rw [hst]
      simp only [K.set]
      congr 3
      simp only [Nat.add_zero] 
      have e2:(xs++rest).take (o'+len*es')=xs:=by rw [← hxl];simp
      have e3:(xs++rest).drop (o'+len*es'+vs.length)=rest.drop vs.length:=by rw [← hxl];simp
      rw [e2,e3]
    ·simp only [R]
     refine ⟨(k.β i).1,o',cap,c0++ys,dat0,rfl,by simp only [K.set,Q0g,Q05 h1,and_self,if_true],by simp [hgl],by omega,by simp,fun _=>⟨by rw [Nat.add_mul];omega,by simp [K.set],fun _=>⟨by simp [K.set],by simp [K.set];omega,fun _ _ _=>?_⟩⟩⟩
     simp only [Q12,K.set,hnew,jA]
     simp;omega
   ·-- a new block
    have hlen_old:(c0.drop off).length=len*es':=by simp;omega
    have hbd':((c0.drop off).length+ys.length)*(by_+1)<big:=Nat.lt_of_le_of_lt (Nat.mul_le_mul_right _ (by simp)) hbd
    have hpt:part c0 off (len*es')=some (c0.drop off):=by rw [Qla (by omega),List.take_of_length_le (by omega)]
    obtain ⟨fx,hfx,hfy⟩:=Qra (i:=i) (clip:=false) (dat:=dat0) hgl hpt
    obtain ⟨s1,s2,xs',s3,s4,s5⟩:=Q3n (P:=P) g hx hfx (by simp [Q0n,h1]) hfy
    have hl':=RL.len s3
    obtain ⟨vs',nc,rest',w',t3,t1,t2,e1,e2,e3,e4,e5,e6,e7⟩:=room br ys _ len cap (c0.drop off) xs' hbr hys hax (by omega) s3 hlen_old hbd' (fun w hw=>by
     have:=s4 len (Nat.le_refl _) w hw
     rw [hax,List.take_of_length_le (by omega)] at this;exact this)
    have hnew:w'.heap[k.w.heap.size]?=some (.cells ⟨xs'++vs'++rest'⟩ e (0,0)):=by rw [e3];simp
    have hold:∀ b,b<k.w.heap.size→w'.heap[b]?=k.w.heap[b]?:=by
     intro b hb';rw [e3,Array.getElem?_push,if_neg (by omega)]
    have hlv':=RL.len t3
    obtain ⟨g1,ev1⟩:=g.upd (c':=c0++ys) (dat:=dat0) (p:=(k.w.heap.size,off)) (ro:=ro) (xs:=xs'++vs') (rest:=rest') (T:=e) (Q05 h1) hro
     (.inr ⟨c0,h1,by simp,fun hl=>by rw [jD] at hl;omega⟩) ⟨e4,e5,e6,by rw [e3];simp,fun b hb'=>hold b (by have:=g.size;omega)⟩ (fun b hb' _=>hold b hb') g.size (.inl (Nat.le_refl _)) hnew
     (by simp;omega) (by simp only;rw [List.drop_append_of_le_length (by omega)];exact RL.append s3 t3) h1' hd2
    refine ⟨_,_,.inl e7,rfl,g1,ev1,?_⟩
    simp only [R]
    refine ⟨k.w.heap.size,0,nc,c0++ys,dat0,rfl,by simp only [K.set,Q0g,Q05 h1,and_self,if_true],by simp [hgl],by omega,by simp,fun _=>⟨by rw [Nat.add_mul];omega,by simp [K.set],fun _=>⟨by simp [K.set],by simp [K.set],fun _ _ _=>?_⟩⟩⟩
    simp only [Q12,K.set,hnew,jA]
    have hnc:nc*es'=(len+nn)*es'+(nc-(len+nn))*es':=by rw [← Nat.add_mul];congr 1;omega
    have:(len+nn)*es'=len*es'+nn*es':=Nat.add_mul _ _ _
    simp;omega
theorem Qnz {h:List B} {id:Nat} {b:B} (e:bget h id=some b):bset h id b=h:=by
 induction h generalizing id with
 | nil=>simp [bset]
 | cons c l ih=>cases id with
  | zero=>simp only [bget,jA] at e;simp [bset,e]
  | succ id=>simp only [bget] at e;simp [bset,ih e]
theorem Qqc [GT P] (g:Good P k) (ht:Ops k tm ρ) {args:Array Operand} {ts:Array TypeId} {as:List O} (hb:∀ (w:World),(execOp ρ o).run P w=((do pure (Next.value (← Builtin.copy_ ts o.type (args.map ρ)))):Sem Next).run P w)
  (ha:cOs args.toList=some as) (hc:cCpy P as ts.toList=some m) (hp:plan base tm m=some p) (hg:p.go ro k.h=some (v,h')) :
  Did P ro k (execOp ρ o) v h':=by
 unfold cCpy at hc
 split at hc<;>(try (cases hc;done))
 rename_i x y t tl hts
 split at hc<;>(try (cases hc;done))
 rename_i e hu
 obtain ⟨n,hn,rfl⟩:=map_some hc
 obtain ⟨ax,ay,hargs,hx,hy⟩:=Quz (ht:=ht) ha
 have htsa:ts[0]?=some t:=by
  rw [← Array.getElem?_toList,hts];rfl
 simp only [plan] at hp
 split at hp<;>(try (cases hp;done))
 rename_i hn0
 unfold Qax at hp
 split at hp<;>(try (cases hp;done))
 rename_i rs nn f hsrc
 have a1:(#[ρ ax,ρ ay]:Array Value)[0]?=some (ρ ax):=rfl
 have a2:(#[ρ ax,ρ ay]:Array Value)[1]?=some (ρ ay):=rfl
 split at hp<;>(try (cases hp;done))
 ·rename_i ex
  rw [ex] at hx;simp only [R] at hx
  cases hp
  obtain ⟨bs,hbs,hf,rfl⟩:=Pl.go_rd rfl hg
  simp only at hf hbs
  split at hf<;>(try (cases hf;done))
  rename_i ys hys
  cases hf
  obtain ⟨r1,r2,vs,r3,r4,r5⟩:=Q3n (P:=P) g hy hsrc hbs hys
  refine .val g (x:=.int .i64 0) ?_ (by simp [R])
  rw [hb,hargs]
  refine Q0c ?_
  have:=r4 0 (Nat.zero_le _) k.w rfl
  rw [hx] at a1 a2 ⊢
  simp only [Builtin.copy_,htsa,a1,a2,Sem.run_bind,run_underlying hu,Result.andThen_ok,r2,Q0x hn]
  have h0:Nat.min nn 0=0:=Nat.min_zero _
  rw [h0,this]
  simp [goInt]
 ·rename_i es' i gg off len clip ex
  rw [ex] at hx
  obtain ⟨b,o',cap,c0,dat0,hax,h1,h2,h3,h4,h5⟩:=(by simpa only [R] using hx:∃ b o' cap c dat,ρ ax=.slice (some ⟨b,o',none⟩) len cap∧bget k.h i=some (.blk c dat)∧gg≤c.length∧len≤cap∧(clip=true→cap=len) ∧
   (gg=c.length→off+len*es'≤gg∧(k.β i).1=b∧(cap≠0→(k.β i).1=b∧off=o'+(k.β i).2∧(clip=false→0<es'→off+len*es'=gg→Q12 k.w b=some (o'+cap*es')))))
  split at hp<;>(try (cases hp;done))
  rename_i hes
  subst hes
  cases hp
  obtain ⟨bs,hbs,hcase⟩:=Pl.go_cases hg
  obtain ⟨b1,br,rfl,hb1,hbr⟩:=Q0l hbs
  rw [h1] at hb1;cases hb1
  simp only at hcase
  rcases hcase with ⟨hf,rfl⟩|⟨bb,id,hf,hw,hro,rfl⟩
  ·split at hf<;>(try (cases hf;done))
   split at hf<;>cases hf
  ·cases hw
   split at hf<;>(try (cases hf;done))
   rename_i ys hys
   split at hf<;>(try (cases hf;done))
   rename_i hcond
   simp only [jF,jG,Bool.or_eq_true,Bool.not_eq_true'] at hcond
   obtain ⟨⟨⟨hgl,hoff⟩,hdat⟩,hones⟩:=hcond
   cases hf
   obtain ⟨-,h5⟩:=h5 hgl.symm
   obtain ⟨r1,r2,vs,r3,r4,r5⟩:=Q3n (P:=P) g hy hsrc hbr hys
   have hlv:=RL.len r3
   simp only [Q3m] at hdat hones ⊢
   have hR:=RL.take (min nn len*es') r3
   have hmn:min nn len*es'≤nn*es':=Nat.mul_le_mul_right _ (Nat.min_le_left _ _)
   have hml:min nn len*es'≤len*es':=Nat.mul_le_mul_right _ (Nat.min_le_right _ _)
   have hzl:(ys.take (min nn len*es')).length=min nn len*es':=by simp;omega
   have hvl:(vs.take (min nn len*es')).length=min nn len*es':=by simp;omega
   have hrd:=r4 (min nn len) (Nat.min_le_left _ _) k.w rfl
   have hexec:∀ w',(storeCells ⟨b,o',none⟩ (vs.take (min nn len*es'))).run P k.w=.ok () w'→(execOp ρ o).run P k.w=.ok (.value (.int .i64 (min nn len:Nat))) w':=by
    intro w' hst
    rw [hb,hargs]
    refine Q0c ?_
    rw [hax] at a1 a2 ⊢
    simp only [Builtin.copy_,htsa,a1,a2,Sem.run_bind,run_underlying hu,Result.andThen_ok,r2,Q0x hn]
    have:Nat.min nn len=min nn len:=rfl
    rw [this,hrd]
    simp only [Result.andThen_ok,hst,Sem.run_pure,goInt]
   by_cases hcap:cap=0
   ·have hl0:len=0:=by omega
    subst hl0
    simp only [Nat.min_zero,Nat.zero_mul,List.take_zero] at hexec ⊢
    have hov:over c0 off []=c0:=by rw [Q43 _ _ _ (by simp at hoff ⊢;omega)];simp
    rw [hov,Qnz h1]
    exact .val g (hexec k.w (Q9c _ _)) (by simp [R])
   ·obtain ⟨p1,p2,-⟩:=h5.2 hcap
    obtain ⟨xs,rest,T,w1,w2,g1,e1⟩:=Qs9 (ro:=ro) g h1 hro hR hones (fun hd=>by
     rcases hdat with h|h
     ·rw [hd] at h;cases h
     ·exact h) (by rw [hzl];omega) p2
    have hst:=run_storeCells_at P (k.β i).1 o' T (vs.take (min nn len*es')) 0 ⟨xs++rest⟩ k.w w1 (by simp only [List.size_toArray,jD];omega) (R.ones' hR hones)
    refine ⟨.int .i64 (min nn len:Nat),_,.inl (hexec _ ?_),rfl,g1,e1,by simp [R]⟩
    subst p1
    rw [hst]
    simp only [K.set]
    congr 3
    simp only [Nat.add_zero]
    have e2:(xs++rest).take o'=xs.take o':=List.take_append_of_le_length (by omega)
    have e3:(xs++rest).drop (o'+(vs.take (min nn len*es')).length)=xs.drop (o'+(vs.take (min nn len*es')).length)++rest:=List.drop_append_of_le_length (by omega)
    rw [e2,e3];simp
theorem Qul [GT P] (g:Good P k) (ht:Ops k tm ρ) {args:Array Operand} {ts:Array TypeId} {as:List O} (hb:∀ (w:World),(execOp ρ o).run P w=((do pure (Next.value (← Builtin.len_ ts o.type (args.map ρ)))):Sem Next).run P w)
  (ha:cOs args.toList=some as) (hc:cLen P as ts.toList=some m) (hp:plan base tm m=some p) (hg:p.go ro k.h=some (v,h')) :
  Did P ro k (execOp ρ o) v h':=by
 unfold cLen at hc
 split at hc<;>(try (cases hc;done))
 rename_i x t tl hts
 have htsa:ts[0]?=some t:=by
  rw [← Array.getElem?_toList,hts];rfl
 obtain ⟨ax,hargs,hx⟩:=args1 (ht:=ht) ha
 have a1:(#[ρ ax]:Array Value)[0]?=some (ρ ax):=rfl
 split at hc<;>(try (cases hc;done))
 ·rename_i hu
  cases hc
  simp only [plan] at hp
  split at hp<;>(try (cases hp;done))
  rename_i s ex
  rw [ex] at hx;simp only [R] at hx
  simp only [if_true] at hp
  cases hp
  obtain ⟨rfl,rfl⟩:=Pl.go_val hg
  refine .val g (x:=.int .i64 s.length) ?_ (by simp [R])
  rw [hb,hargs]
  rw [hx] at a1 ⊢
  exact Q0c (by simp only [Builtin.len_,htsa,a1,Sem.run_bind,run_underlying hu,Result.andThen_ok,Sem.run_pure,goInt,ByteArray.size,List.size_toArray];try rfl)
 ·rename_i e hu
  cases hc
  simp only [plan] at hp
  split at hp<;>(try (cases hp;done))<;>rename_i ex<;>simp only [Bool.false_eq_true,if_false] at hp<;>cases hp<;>rw [ex] at hx<;>obtain ⟨rfl,rfl⟩:=Pl.go_val hg
  ·simp only [R] at hx
   refine .val g (x:=.int .i64 0) ?_ (by simp [R])
   rw [hb,hargs]
   rw [hx] at a1 ⊢
   exact Q0c (by simp only [Builtin.len_,htsa,a1,Sem.run_bind,run_underlying hu,Result.andThen_ok,Sem.run_pure,goInt,ByteArray.size];try rfl)
  ·simp only [R] at hx
   obtain ⟨a,cap,hax,_⟩:=hx
   refine .val g (x:=.int .i64 0) ?_ (by simp [R])
   rw [hb,hargs]
   rw [hax] at a1 ⊢
   exact Q0c (by simp only [Builtin.len_,htsa,a1,Sem.run_bind,run_underlying hu,Result.andThen_ok,Sem.run_pure,goInt,ByteArray.size];try rfl)
  ·obtain ⟨a,cap,hax,_⟩:=Qao hx
   refine Did.val g ?_ (by simp only [R];rfl)
   rw [hb,hargs]
   rw [hax] at a1 ⊢
   exact Q0c (by simp only [Builtin.len_,htsa,a1,Sem.run_bind,run_underlying hu,Result.andThen_ok,Sem.run_pure,goInt,ByteArray.size];try rfl)
  ·simp only [R] at hx
   obtain ⟨b,off,cap,c,d,hax,_⟩:=hx
   refine Did.val g ?_ (by simp only [R];rfl)
   rw [hb,hargs]
   rw [hax] at a1 ⊢
   exact Q0c (by simp only [Builtin.len_,htsa,a1,Sem.run_bind,run_underlying hu,Result.andThen_ok,Sem.run_pure,goInt,ByteArray.size];try rfl)
 ·rename_i kt e hu
  cases hc
  simp only [plan] at hp
  split at hp<;>(try (cases hp;done))<;>rename_i ex
  ·cases hp
   rename_i mid
   rw [ex] at hx;simp only [R] at hx
   obtain ⟨hax,b0,hbk,hmap⟩:=hx
   obtain ⟨bs,hbs,hf,rfl⟩:=Pl.go_rd rfl hg
   obtain ⟨b,r,rfl,hb1,hb2⟩:=Q0l hbs
   simp only [Q0n,jA] at hb2
   rw [hbk] at hb1;cases hb1;subst hb2
   have hlen:∃ (es:Array MapEntry) (ck:Nat),k.w.heap[(k.β mid).1]?=some (.map es ck)∧mlen [b0]=some (.int .i64 es.size,none):=by
    have hod:=g.od _ _ hbk (B.isMap.odd hmap)
    cases b0 with
    | mp ks vs =>
     obtain ⟨_,es,h2,_,h4,_⟩:=hod
     have hl:=h4.len
     rw [List.length_map,Array.length_toList] at hl
     exact ⟨es,_,h2,by simp only [mlen,hl]⟩
    | mq st ck ks vs =>
     obtain ⟨_,es,h2,_,_,_,h4,_⟩:=hod
     have hl:=h4.len
     rw [List.length_map,Array.length_toList] at hl
     exact ⟨es,_,h2,by simp only [mlen,hl]⟩
    | _=>cases hmap
   obtain ⟨es,ck,h2,hml⟩:=hlen
   have hf:=hml.symm.trans hf
   simp only [jA,jN,and_true] at hf
   subst hf
   refine .val g (x:=.int .i64 es.size) ?_ (by simp [R])
   rw [hb,hargs]
   rw [hax] at a1 ⊢
   exact Q0c (by simp only [Builtin.len_,htsa,a1,Sem.run_bind,run_underlying hu,MapKept.run_getObj_map h2,Result.andThen_ok,Sem.run_pure,goInt];try rfl)
  ·cases hp
   rw [ex] at hx;simp only [R] at hx
   obtain ⟨rfl,rfl⟩:=Pl.go_val hg
   refine .val g (x:=.int .i64 0) ?_ (by simp [R])
   rw [hb,hargs]
   rw [hx] at a1 ⊢
   exact Q0c (by simp only [Builtin.len_,htsa,a1,Sem.run_bind,run_underlying hu,Result.andThen_ok,Sem.run_pure,goInt];try rfl)
  ·rename_i ks vs
   cases hp
   rw [ex] at hx;simp only [R] at hx
   obtain ⟨b0,kv,vv,hax,_,_,⟨es,h2,_,rfl,rfl⟩,h4,_⟩:=hx
   obtain ⟨rfl,rfl⟩:=Pl.go_val hg
   have hl:=h4.len
   rw [List.length_map,Array.length_toList] at hl
   refine .val g (x:=.int .i64 es.size) ?_ (by simp [R,hl])
   rw [hb,hargs]
   rw [hax] at a1 ⊢
   exact Q0c (by simp only [Builtin.len_,htsa,a1,Sem.run_bind,run_underlying hu,MapKept.run_getObj_map h2,Result.andThen_ok,Sem.run_pure,goInt];try rfl)
theorem Qb5 (mx:Bool):∀ (l:List V) (v r:V) (x:Value) (xs:List Value),maxs mx v l=some r→R k v x→RL k l xs→∃ y,(∀ w,(xs.foldlM (if mx then Builtin.max2 else Builtin.min2) x).run P w=.ok y w)∧R k r y
 | [],v,r,x,xs,h,hx,hl=>by
  simp only [maxs] at h;cases h
  have:=RL.len hl
  cases xs<;>simp at this
  exact ⟨x,by simp,hx⟩
 | v'::l,v,r,x,xs,h,hx,hl=>by
  obtain ⟨x',xr,rfl,hx',hl'⟩:=(by simpa [RL] using hl:∃ x r,xs=x::r∧R k v' x∧RL k l r)
  unfold maxs at h
  split at h<;>(try (cases h;done))
  ·rename_i he;cases he
  rename_i kk a kk' b l2 he
  cases he
  split at h<;>(try (cases h;done))
  rename_i hk;subst hk
  simp only [R] at hx hx'
  subst hx;subst hx'
  cases mx
  ·obtain ⟨y,h1,h2⟩:=Qb5 false l _ r (.int kk (if b<a then b else a)) xr h (by simp [R]) hl'
   refine ⟨y,fun w=>?_,h2⟩
   simp only [List.foldlM_cons,Sem.run_bind,Bool.false_eq_true,if_false,Builtin.min2,Sem.run_pure,Result.andThen_ok]
   simpa using h1 w
  ·obtain ⟨y,h1,h2⟩:=Qb5 true l _ r (.int kk (if a<b then b else a)) xr h (by simp [R]) hl'
   refine ⟨y,fun w=>?_,h2⟩
   simp only [List.foldlM_cons,Sem.run_bind,if_true,Builtin.max2,Sem.run_pure,Result.andThen_ok]
   simpa using h1 w
theorem Qrx [GT P] (g:Good P k) (ht:Ops k tm ρ) {mx:Bool} {args:Array Operand} {ts:Array TypeId} {as:List O}
  (hb:∀ (w:World),(execOp ρ o).run P w=((do pure (Next.value (← (if mx then Builtin.max_ else Builtin.min_) ts o.type (args.map ρ)))):Sem Next).run P w)
  (ha:cOs args.toList=some as) (hp:plan base tm (.mm mx as)=some p) (hg:p.go ro k.h=some (v,h')) :
  Did P ro k (execOp ρ o) v h':=by
 simp only [plan] at hp
 have hl:=ht.2 _ _ ha
 split at hp<;>(try (cases hp;done))
 rename_i v0 l ev
 rw [ev] at hl
 obtain ⟨x0,xs,hxs,h0,hr⟩:=(by simpa [RL] using hl:∃ x r,args.toList.map ρ=x::r∧R k v0 x∧RL k l r)
 obtain ⟨r,hr1,rfl⟩:=map_some hp
 obtain ⟨rfl,rfl⟩:=Pl.go_val hg
 obtain ⟨y,y1,y2⟩:=Qb5 (P:=P) mx l v0 _ x0 xs hr1 h0 hr
 refine .val g (x:=y) ?_ y2
 rw [hb]
 refine Q0c ?_
 cases mx
 ·simp only [Bool.false_eq_true,if_false,Builtin.min_,Array.toList_map,hxs]
  simpa using y1 k.w
 ·simp only [if_true,Builtin.max_,Array.toList_map,hxs]
  simpa using y1 k.w
theorem Qfg [GT P] (g:Good P k) (ht:Ops k tm ρ) {b:Builtin} (hdel:b≠.delete) {args:Array Operand} {ts:Array TypeId} {as:List O} (ho:o.op=.call ⟨.builtin b,args,ts⟩)
  (ha:cOs args.toList=some as) (hc:Q3v P j b as ts.toList=some m) (hp:plan base tm m=some p) (hg:p.go ro k.h=some (v,h')) :
  Did P ro k (execOp ρ o) v h':=by
 have hrun:=Q70 (P:=P) (ρ:=ρ) ho
 unfold Q3v at hc
 split at hc<;>(try (cases hc;done))
 ·exact Qul g ht (fun w=>hrun w) ha hc hp hg
 ·exact Qj5 g ht (fun w=>hrun w) ha hc hp hg
 ·exact Qqc g ht (fun w=>hrun w) ha hc hp hg
 ·exact absurd rfl hdel
 ·cases hc;exact Qrx (mx:=true) (ts:=ts) g ht (fun w=>hrun w) ha hp hg
 ·cases hc;exact Qrx (mx:=false) (ts:=ts) g ht (fun w=>hrun w) ha hp hg
end Go.Dr
namespace Go.Dr
open Go.RowKit (Below)
variable {P:Program} {k:K} {tm:List V} {ρ:Operand→Value} {o:Oper} {j base ro:Nat} {m:M} {p:Pl} {v:V} {h' : List B}
theorem Good.updo [GT P] (g:Good P k) {id:Nat} {b':B} {p:Nat × Nat} {w':World} {ro:Nat} (ho':b'.odd=true)
  (hid:id<k.h.length) (hro:ro≤id)
  (hold:bget k.h id=some .unborn∨∃ b0,bget k.h id=some b0∧b0.odd=true∧b0.kin b'∧p=k.β id)
  (hlow:Below k.n0 k.w w')
  (hsame:∀ b,b<k.w.heap.size→(live k.h id→b≠(k.β id).1)→w'.heap[b]?=k.w.heap[b]?)
  (hfresh:k.w.heap.size≤p.1∨(live k.h id∧p.1=(k.β id).1))
  (hnew:Ev ro k.h.length k (k.set id b' p w')→OddOk (k.set id b' p w') id b') :
  Good P (k.set id b' p w')∧Ev ro k.h.length k (k.set id b' p w'):=by
 have hget:∀ i,bget (bset k.h id b') i=if i=id then some b' else bget k.h i:=by
  intro i;rw [Q0g]
  by_cases e:id=i
  ·subst e;simp [hid]
  ·simp [e,Ne.symm e]
 have hlive:∀ i,i≠id→live (bset k.h id b') i→live k.h i:=by
  rintro i hne ⟨b,hb,hn⟩;rw [hget,if_neg hne] at hb;exact ⟨b,hb,hn⟩
 have hne:∀ i,i≠id→live k.h i→(live k.h id→(k.β i).1≠(k.β id).1):=fun i hi l l' e=>hi (g.inj i id l l' e)
 have hpne:∀ i,i≠id→live k.h i→(k.β i).1≠p.1:=by
  intro i hi l e
  rcases hfresh with hf|⟨l',hf⟩
  ·have:=(g.at l).2;omega
  ·exact hi (g.inj i id l l' (e.trans hf))
 have hnb:∀ c dat,bget k.h id≠some (.blk c dat):=by
  intro c dat hc
  rcases hold with hu|⟨_,hu,ho,_⟩<;>rw [hc] at hu<;>cases hu
  cases ho
 have hnl:∀ r q tm ps a b,bget k.h id≠some (.lop r q tm ps a b):=by
  intro r q tm ps a b hc
  rcases hold with hu|⟨_,hu,ho,_⟩<;>rw [hc] at hu<;>cases hu
  cases ho
 have ev:Ev ro k.h.length k (k.set id b' p w'):=by
  refine ⟨rfl,rfl,hlow,?_,?_,?_,?_,fun i h1 h2 b hb=>by
   have hii:i≠id:=by omega
   simp only [K.set,hget,hii,if_false];exact hb,?_⟩
  ·intro b hb hlt
   refine ⟨?_,hsame b hlt fun l=>Qil g l hb⟩
   rcases hb with ⟨hb,hA⟩|⟨hb,hA⟩
   ·exact .inl ⟨hb,hA⟩
   ·refine .inr ⟨hb,?_⟩
    rintro ⟨i,l,e⟩
    by_cases hi:i=id
    ·simp only [K.set,hi,if_true] at e
     rcases hfresh with hf|⟨l',hf⟩
     ·omega
     ·exact hA ⟨id,l',hf.symm.trans e⟩
    ·simp only [K.set,hi,if_false] at e
     exact hA ⟨i,hlive i hi l,e⟩
  ·intro i hi c d hc
   have hii:i≠id:=by rintro rfl;exact hnb _ _ hc
   refine ⟨c,by simp only [K.set,hget,hii,if_false];exact hc,Nat.le_refl _,fun _=>⟨by simp [K.set,hii],?_⟩⟩
   have:=hsame (k.β i).1 (g.at (Q0i hc)).2 (hne i hii (Q0i hc))
   simp only [Q12,K.set,this]
  ·intro i hi r q tm ps a b hc
   have hii:i≠id:=by rintro rfl;exact hnl _ _ _ _ _ _ hc
   exact ⟨by simp [K.set,hii],r,q,by simp only [K.set,hget,hii,if_false];exact hc⟩
  ·intro i h1 h2 l
   have hii:i≠id:=by omega
   refine ⟨by simp only [K.set,hget,hii,if_false],by simp [K.set,hii],?_⟩
   exact hsame (k.β i).1 (g.at l).2 (hne i hii l)
  ·intro i hi b hc hob
   by_cases hii:i=id
   ·subst hii
    rcases hold with hu|⟨b0,hu,_,hk,hp'⟩
    ·rw [hc] at hu;cases hu;cases hob
    ·rw [hc] at hu;cases hu
     exact ⟨by simp [K.set,hp'],b',by simp [K.set,hget],hk⟩
   ·exact ⟨by simp [K.set,hii],b,by simp only [K.set,hget,hii,if_false];exact hc,.refl hob⟩
 refine ⟨⟨Nat.le_trans g.size hlow.size,?_,?_,?_,?_,g.tab.ev ev⟩,ev⟩
 ·intro i c d hc
  have hii:i≠id:=by
   rintro rfl;simp only [K.set,hget,if_true] at hc;cases hc;cases ho'
  simp only [K.set,hget,hii,if_false] at hc
  obtain ⟨a1,a2,a3,a4,xs',rest',T',a5,a6⟩:=g.blk i c d hc
  refine ⟨by simpa [K.set,hii] using a1,by simpa [K.set,hii] using a2,a3,a4,xs',rest',T',?_,?_⟩
  ·have:=hsame (k.β i).1 (g.at (Q0i hc)).2 (hne i hii (Q0i hc))
   simp only [K.set,hii,if_false,this];exact a5
  ·have:=RL.ev ev (RL.blos a6) a6
   simpa [K.set,hii] using this
 ·intro i r q tm ps a b hc
  have hii:i≠id:=by
   rintro rfl;simp only [K.set,hget,if_true] at hc;cases hc;cases ho'
  simp only [K.set,hget,hii,if_false] at hc
  obtain ⟨a1,lp,a2,a3,a4,a5,a6⟩:=g.lop i r q tm ps a b hc
  refine ⟨by simpa [K.set,hii] using a1,lp,?_,a3,a4,RL.ev ev (RL.blos a5) a5,a6⟩
  have:=hsame (k.β i).1 (g.at (Q1j hc)).2 (hne i hii (Q1j hc))
  simp only [K.set,hii,if_false,this];exact a2
 ·intro i j hi hj e
  by_cases h1:i=id<;>by_cases h2:j=id
  ·omega
  ·simp only [K.set,h1,h2,if_true,if_false] at e
   exact absurd e.symm (hpne j h2 (hlive j h2 hj))
  ·simp only [K.set,h1,h2,if_true,if_false] at e
   exact absurd e (hpne i h1 (hlive i h1 hi))
  ·simp only [K.set,h1,h2,if_false] at e
   exact g.inj i j (hlive i h1 hi) (hlive j h2 hj) e
 ·intro i b hc hob
  by_cases hii:i=id
  ·subst hii
   have hc':b'=b:=by simpa [K.set,hget] using hc
   subst hc'
   exact hnew ev
  ·simp only [K.set,hget,hii,if_false] at hc
   exact OddOk.ev ev (by simp [K.set,hii]) (hsame (k.β i).1 (g.at (Q1i hc hob)).2 (hne i hii (Q1i hc hob))) (OddOk.blo hob (g.od i b hc hob)) (g.od i b hc hob)
def MapPre (k:K):B→Array MapEntry→Nat→Prop
 | .mp ks vs,es,ck=>ck=es.size∧(∀ i (h:i<es.size),es[i].born=i)∧RL k ks (es.toList.map (·.key))∧RL k vs (es.toList.map (·.val))
 | .mq st c ks vs,es,ck=>ck=c∧(es.toList.map (·.born)=st∧st.Pairwise (· < ·)∧∀ s∈st,s<ck)∧RL k ks (es.toList.map (·.key))∧RL k vs (es.toList.map (·.val))
 | _,_,_=>False
theorem MapPre.ents {b:B} {es:Array MapEntry} {ck:Nat} (h:MapPre k b es ck):∃ st ks vs,b.ents=some (st,ck,ks,vs)∧st=es.toList.map (·.born)∧st.Pairwise (· < ·)∧(∀ s∈st,s<ck)∧RL k ks (es.toList.map (·.key))∧RL k vs (es.toList.map (·.val)):=by
 cases b with
 | mp ks vs =>
  obtain ⟨rfl,h2,h3,h4⟩:=h
  have hl:=h3.len
  rw [List.length_map,Array.length_toList] at hl
  refine ⟨List.range ks.length,ks,vs,by simp only [B.ents,hl],?_,?_,?_,h3,h4⟩
  ·refine List.ext_getElem (by simp [hl]) fun i q1 q2=>?_
   simp only [List.getElem_range,List.getElem_map,Array.getElem_toList]
   exact (h2 i (by simpa using q2)).symm
  ·exact List.pairwise_lt_range
  ·intro s hs;have:=List.mem_range.1 hs;omega
 | mq st c ks vs =>
  obtain ⟨rfl,⟨h1,h2,h3⟩,h4,h5⟩:=h
  exact ⟨st,ks,vs,rfl,h1.symm,h2,h3,h4,h5⟩
 | _=>exact h.elim
theorem MapPre.odd {b:B} {es:Array MapEntry} {ck:Nat} {ro m:Nat} {k k':K} (e:Ev ro m k k') {id:Nat} (hm:m=k.h.length) (h:MapPre k b es ck) (h0:k'.n0≤(k'.β id).1) (hw:k'.w.heap[(k'.β id).1]?=some (.map es ck)):OddOk k' id b:=by
 subst hm
 cases b with
 | mp ks vs =>
  obtain ⟨rfl,h2,h3,h4⟩:=h
  exact ⟨h0,es,hw,h2,RL.ev e (RL.blos h3) h3,RL.ev e (RL.blos h4) h4⟩
 | mq st c ks vs =>
  obtain ⟨rfl,⟨h1,h2,h3⟩,h4,h5⟩:=h
  exact ⟨h0,es,hw,h1,h2,h3,RL.ev e (RL.blos h4) h4,RL.ev e (RL.blos h5) h5⟩
 | _=>exact h.elim
theorem Good.map [GT P] (g:Good P k) {id:Nat} {b:B} (hb:bget k.h id=some b) (hm:b.isMap=true):k.n0≤(k.β id).1∧∃ es ck,k.w.heap[(k.β id).1]?=some (.map es ck)∧MapPre k b es ck:=by
 have h:=g.od id b hb (B.isMap.odd hm)
 cases b with
 | mp ks vs =>
  obtain ⟨h1,es,h2,h3,h4,h5⟩:=h
  exact ⟨h1,es,_,h2,rfl,h3,h4,h5⟩
 | mq st ck ks vs =>
  obtain ⟨h1,es,h2,h3,h4,h5,h6,h7⟩:=h
  exact ⟨h1,es,_,h2,rfl,⟨h3,h4,h5⟩,h6,h7⟩
 | _=>cases hm
def B.upd (vs':List V):B→B
 | .mp ks _=>.mp ks vs'
 | .mq st ck ks _=>.mq st ck ks vs'
 | b=>b
def B.psh (key v:V):B→B
 | .mp ks vs=>.mp (ks++[key]) (vs++[v])
 | .mq st ck ks vs=>.mq (st++[ck]) (ck+1) (ks++[key]) (vs++[v])
 | b=>b
theorem B.upd_kin {vs':List V}:∀ {b:B},b.isMap=true→b.kin (b.upd vs')
 | .mp _ _,_=>trivial
 | .mq _ _ _ _,_=>trivial
theorem B.psh_kin {key v:V}:∀ {b:B},b.isMap=true→b.kin (b.psh key v)
 | .mp _ _,_=>trivial
 | .mq _ _ _ _,_=>trivial
theorem Qlo {kd:Nat} {key v:V} {b:B} {st:List Nat} {ck:Nat} {ks vs:List V} (h:b.ents=some (st,ck,ks,vs)) :
  mput kd key v [b]=(match Q0w kd key ks 0 with
   | none=>none
   | some (some i)=>some (.dead,some (b.upd (tset vs i v)))
   | some none=>some (.dead,some (b.psh key v))):=by
 cases b<;>simp only [B.ents,jA,jN,reduceCtorEq] at h
 ·obtain ⟨_,_,rfl,rfl⟩:=h;rfl
 ·obtain ⟨rfl,rfl,rfl,rfl⟩:=h;rfl
theorem Qls {kd:Nat} {ok:Bool} {zero key:V} {b:B} {st:List Nat} {ck:Nat} {ks vs:List V} (h:b.ents=some (st,ck,ks,vs)) :
  mget kd ok zero key [b]=(match Q0w kd key ks 0 with
   | none=>none
   | some (some i)=>some (if ok then .tup [tg vs i,.bool true] else tg vs i,none)
   | some none=>some (if ok then .tup [zero,.bool false] else zero,none)):=by
 cases b<;>simp only [B.ents,jA,jN,reduceCtorEq] at h
 ·obtain ⟨_,_,rfl,rfl⟩:=h;rfl
 ·obtain ⟨rfl,rfl,rfl,rfl⟩:=h;rfl
theorem MapPre.upd {b:B} {es es':Array MapEntry} {ck:Nat} {st:List Nat} {c:Nat} {ks vs vs':List V} (h:MapPre k b es ck) (he:b.ents=some (st,c,ks,vs)) (hs:es'.size=es.size) (hborn:es'.toList.map (·.born)=es.toList.map (·.born)) (hkey:es'.toList.map (·.key)=es.toList.map (·.key)) (hval:RL k vs' (es'.toList.map (·.val))):MapPre k (b.upd vs') es' ck:=by
 cases b<;>simp only [B.ents,jA,jN,reduceCtorEq] at he
 ·obtain ⟨_,_,rfl,rfl⟩:=he
  obtain ⟨h1,h2,h3,h4⟩:=h
  refine ⟨by rw [hs];exact h1,fun i hi=>?_,by rw [hkey];exact h3,hval⟩
  have hi':i<es.size:=by omega
  have:=congrArg (fun l=>l[i]?) hborn
  simp only [jH,Array.getElem?_toList,Array.getElem?_eq_getElem hi,Array.getElem?_eq_getElem hi',Option.map_some,jA] at this
  rw [this];exact h2 i hi'
 ·obtain ⟨rfl,rfl,rfl,rfl⟩:=he
  obtain ⟨h1,⟨h2,h3,h4⟩,h5,h6⟩:=h
  exact ⟨h1,⟨by rw [hborn];exact h2,h3,h4⟩,by rw [hkey];exact h5,hval⟩
theorem MapPre.psh {b:B} {es:Array MapEntry} {ck:Nat} {key v:V} {key' v':Value} (h:MapPre k b es ck) (hk:R k key key') (hv:R k v v'):MapPre k (b.psh key v) (es.push { key:=key',val:=v',born:=ck }) (ck+1):=by
 cases b with
 | mp ks vs =>
  obtain ⟨rfl,h2,h3,h4⟩:=h
  refine ⟨by simp,fun q hq=>?_,?_,?_⟩
  ·rw [Array.getElem_push]
   split
   ·exact h2 q ‹_›
   ·simp at hq ⊢;omega
  ·rw [Array.toList_push,List.map_append];exact RL.append h3 (RL.cons hk RL.nil)
  ·rw [Array.toList_push,List.map_append];exact RL.append h4 (RL.cons hv RL.nil)
 | mq st c ks vs =>
  obtain ⟨rfl,⟨h1,h2,h3⟩,h4,h5⟩:=h
  refine ⟨rfl,⟨by rw [Array.toList_push,List.map_append,h1];rfl,?_,fun s hs=>?_⟩,?_,?_⟩
  ·rw [List.pairwise_append]
   exact ⟨h2,by simp,fun a ha b hb=>by rw [jJ] at hb;rw [hb];exact h3 a ha⟩
  ·rcases jK.1 hs with hs|hs
   ·have:=h3 s hs;omega
   ·rw [jJ] at hs;omega
  ·rw [Array.toList_push,List.map_append];exact RL.append h4 (RL.cons hk RL.nil)
  ·rw [Array.toList_push,List.map_append];exact RL.append h5 (RL.cons hv RL.nil)
 | _=>exact h.elim
def KdOk (P:Program) (kt kd:Nat) (d:TypeDesc):Prop:=P.underlying kt=some d∧((kd=0∧∃ kk,d=.int kk)∨(kd=1∧d=.bool)∨(kd=2∧d=.string)∨(3≤kd∧∃ fs,d=.struct fs∧Q33 P 16 kt=some (kdks kd)))
theorem Qgz {t kd:Nat} (h:Qpm P t=some kd):∃ d,P.underlying t=some d∧KdOk P t kd d:=by
 unfold Qpm at h
 split at h
 ·cases h;rename_i hu;exact ⟨_,hu,hu,.inl ⟨rfl,_,rfl⟩⟩
 ·cases h;rename_i hu;exact ⟨_,hu,hu,.inr (.inl ⟨rfl,rfl⟩)⟩
 ·cases h;rename_i hu;exact ⟨_,hu,hu,.inr (.inr (.inl ⟨rfl,rfl⟩))⟩
 ·rename_i fs hu
  split at h<;>(try (cases h;done))
  rename_i ks hks
  split at h<;>(try (cases h;done))
  rename_i hc
  cases h
  exact ⟨_,hu,hu,.inr (.inr (.inr ⟨hc.1,fs,rfl,by rw [hc.2];exact hks⟩))⟩
 ·cases h
theorem Q4d [GT P] {t:Nat} {f:Nat→V→Option M} (h:cMap P t f=some m):∃ kt e kd z d,P.underlying t=some (.map kt e)∧P.underlying kt=some d∧KdOk P kt kd d∧Qjd P e=some z∧f kd z=some m:=by
 unfold cMap at h
 split at h<;>(try (cases h;done))
 rename_i kt e hu
 split at h<;>(try (cases h;done))
 rename_i kd z hk hz
 obtain ⟨d,hd,hkd⟩:=Qgz hk
 exact ⟨kt,e,kd,z,d,hu,hd,hkd,hz,h⟩
theorem Qn1 {kd:Nat} {d:TypeDesc} (hd:(kd=0∧∃ kk,d=.int kk)∨(kd=1∧d=.bool)∨(kd=2∧d=.string)) {x y:V} {b:Bool} (h:eq1 kd x y=some b) {x' y':Value} (hx:R k x x') (hy:R k y y') :
  Instr.sameNow d x' y'=some b∧(b=true→x'=y')∧Q53 kd x=true:=by
 rcases hd with ⟨rfl,kk,rfl⟩|⟨rfl,rfl⟩|⟨rfl,rfl⟩
 ·cases x<;>cases y<;>simp only [eq1] at h<;>(try (cases h;done))
  simp only [R] at hx hy
  subst hx hy
  split at h<;>cases h
  rename_i e
  subst e
  refine ⟨?_,fun hb=>?_,rfl⟩
  ·simp only [Instr.sameNow,if_true,jA]
   rw [Bool.eq_iff_iff];simp
  ·simp only [jG] at hb;rw [hb]
 ·cases x<;>cases y<;>simp only [eq1] at h<;>(try (cases h;done))
  simp only [R] at hx hy
  subst hx hy
  cases h
  exact ⟨rfl,fun hb=>by rw [beq_iff_eq] at hb;rw [hb],rfl⟩
 ·cases x<;>cases y<;>simp only [eq1] at h<;>(try (cases h;done))
  rename_i s t
  simp only [R] at hx hy
  subst hx hy
  cases h
  refine ⟨?_,fun hb=>by rw [beq_iff_eq] at hb;rw [hb],rfl⟩
  simp only [Instr.sameNow,jA]
  rw [show ((⟨s.toArray⟩:ByteArray)==⟨t.toArray⟩)=(s.toArray==t.toArray) from rfl,Bool.eq_iff_iff,beq_iff_eq,beq_iff_eq]
  constructor
  ·intro e;simpa using e
  ·intro e;rw [e]
theorem bself (b:List UInt8):((⟨b.toArray⟩:ByteArray)==⟨b.toArray⟩)=true:=by
 rw [show ((⟨b.toArray⟩:ByteArray)==⟨b.toArray⟩)=(b.toArray==b.toArray) from rfl];simp
theorem Qd4:∀ {ks:List Nat} {xs ys:List V} {xs' ys':List Value} {b:Bool},eqc0 ks xs ys=some b→RL k xs xs'→RL k ys ys'→(b=true→xs'=ys')∧kinds ks xs=true
 | [],[],[],xs',ys',b,h,hx,hy=>by
  simp only [RL] at hx hy
  subst hx hy
  exact ⟨fun _=>rfl,rfl⟩
 | i::ks,x::l,y::r,xs',ys',b,h,hx,hy=>by
  simp only [eqc0] at h
  split at h
  ·cases h
  ·rename_i e he
   split at h
   ·cases h
   ·rename_i f hf
    cases h
    simp only [RL] at hx hy
    obtain ⟨x1,x2,rfl,h1,h2⟩:=hx
    obtain ⟨y1,y2,rfl,h3,h4⟩:=hy
    obtain ⟨q1,q2⟩:=Qd4 hf h2 h4
    unfold eq0 at he
    split at he
    ·simp only [R] at h1 h3
     subst h1 h3
     simp only [jA] at he
     refine ⟨fun hb=>?_,q2⟩
     simp only [jF] at hb
     rw [q1 hb.2]
     rw [hb.1,beq_iff_eq] at he
     rw [he]
    ·simp only [R] at h1 h3
     subst h1 h3
     split at he<;>(try (cases he;done))
     rename_i e1
     subst e1
     simp only [jA] at he
     refine ⟨fun hb=>?_,q2⟩
     simp only [jF] at hb
     rw [q1 hb.2]
     rw [hb.1,jG] at he
     rw [he]
    ·simp only [R] at h1 h3
     subst h1 h3
     simp only [jA] at he
     refine ⟨fun hb=>?_,q2⟩
     simp only [jF] at hb
     rw [q1 hb.2]
     rw [hb.1,beq_iff_eq] at he
     rw [he]
    ·cases he
 | [],[],_::_,_,_,_,h,_,_|[],_::_,_,_,_,_,h,_,_|_::_,[],_,_,_,_,h,_,_|_::_,_::_,[],_,_,_,h,_,_=>by simp [eqc0] at h
theorem Q48:∀ {ks:List Nat} {xs:List V},kinds ks xs=true→xs.length=ks.length
 | [],[],_=>rfl
 | 0::ks,.int _ _::l,h|1::ks,.bool _::l,h|2::ks,.str _::l,h=>by
  simp only [kinds] at h
  rw [List.length_cons,List.length_cons,Q48 h]
 | [],_::_,h=>by simp [kinds] at h
 | _::_,[],h=>by simp [kinds] at h
 | 0::_,v::_,h=>by cases v<;>first|(simp [kinds] at h;done)|(simp only [kinds] at h;rw [List.length_cons,List.length_cons,Q48 h])
 | 1::_,v::_,h=>by cases v<;>first|(simp [kinds] at h;done)|(simp only [kinds] at h;rw [List.length_cons,List.length_cons,Q48 h])
 | 2::_,v::_,h=>by cases v<;>first|(simp [kinds] at h;done)|(simp only [kinds] at h;rw [List.length_cons,List.length_cons,Q48 h])
 | (_+3)::_,_::_,h=>by simp [kinds] at h
theorem Qdb [GT P] {sz:Nat→Option (List Nat)} {n:Nat} {e:Bool} (hsz:∀ t s,sz t=some s→∃ g,Q2i P t=some g∧(g=true∨s.length=1))
  (ih:∀ t s,sz t=some s→∀ (xs:List Value) (w:World),xs.length=s.length→(Instr.checkKey e n t (Q34 P t xs)).run P w=.ok () w) :
  ∀ (fs:List Field) (acc:Nat) (ks:List Nat),Q8n P sz acc fs=some ks→∀ (p xs:List Value) (w:World),p.length=acc→xs.length=ks.length →
   (forIn fs PUnit.unit (fun f (_ : PUnit) => (if f.name ≠ "_" then (do
    let x ← Go.part f.type ⟨p++xs⟩ f.offset
    Instr.checkKey e n f.type x
    pure (ForInStep.yield PUnit.unit)) else pure (ForInStep.yield PUnit.unit):Sem (ForInStep PUnit)))).run P w=.ok PUnit.unit w
 | [],acc,ks,hf,p,xs,w,hp,hx=>by simp
 | f::fs,acc,ks,hf,p,xs,w,hp,hx=>by
  simp only [Q8n] at hf
  split at hf
  ·rename_i hname
   split at hf
   ·rename_i s hs
    split at hf
    ·rename_i hs2
     split at hf
     ·rename_i r hr
      cases hf
      obtain ⟨g,hg,hg1⟩:=hsz _ _ hs
      rw [jD] at hx
      have e1:xs=xs.take s.length++xs.drop s.length:=(List.take_append_drop _ xs).symm
      have l1:(xs.take s.length).length=s.length:=by simp;omega
      have r1:=Q5g hs2 hg hg1 (pre:=p) (post:=xs.drop s.length) l1 w
      rw [jO,List.take_append_drop,hp] at r1
      have r3:=ih _ _ hs (xs.take s.length) w l1
      have r4:=Qdb hsz ih fs (acc+s.length) r hr (p++xs.take s.length) (xs.drop s.length) w (by simp;omega) (by simp;omega)
      rw [jO,List.take_append_drop] at r4
      simp only [List.forIn_cons,Sem.run_bind,hname.1,ne_eq,not_false_eq_true,if_true,hname.2,r1,r3,Result.andThen_ok,Sem.run_pure]
      exact r4
     ·cases hf
    ·cases hf
   ·cases hf
  ·cases hf
theorem Qnr [GT P]:∀ (m t:Nat) (s:List Nat),Q33 P m t=some s→∀ n,m≤n→∀ (e:Bool) (xs:List Value) (w:World),xs.length=s.length →
  (Instr.checkKey e n t (Q34 P t xs)).run P w=.ok () w
 | 0,t,s,h,_,_,_,_,_,_=>by simp [Q33] at h
 | m+1,t,s,h,n,hn,e,xs,w,hx=>by
  obtain ⟨n,rfl⟩:∃ q,n=q+1:=⟨n-1,by omega⟩
  simp only [Q33] at h
  split at h<;>(try (cases h;done))<;>rename_i hu
  ·unfold Instr.checkKey
   simp [Sem.run_bind,run_underlying hu,Result.andThen]
  ·unfold Instr.checkKey
   simp [Sem.run_bind,run_underlying hu,Result.andThen]
  ·unfold Instr.checkKey
   simp [Sem.run_bind,run_underlying hu,Result.andThen]
  ·rename_i fs
   split at h
   ·cases h
   ·have ha:Q2i P t=some true:=by simp [Q2i,hu]
    simp only [Q34,ha,if_true]
    unfold Instr.checkKey
    simp only [Sem.run_bind,run_underlying hu,Result.andThen_ok]
    rw [← Array.forIn_toList]
    have:=Qdb (n:=n) (e:=e) (fun t s h=>Qa3 h) (fun t s h xs w hl=>Qnr m t s h n (by omega) e xs w hl) fs.toList 0 s h [] xs w rfl hx
    rw [List.nil_append] at this
    rw [this]
    rfl
theorem Qcd:∀ {ks:List Nat} {xs:List V} {xs':List Value} {n:Nat},kinds ks xs=true→RL k xs xs'→((xs'.zip xs').all fun (x,y)=>Instr.sameBits n x y)=true
 | [],[],xs',n,_,h=>by simp only [RL] at h;subst h;rfl
 | i::ks,x::l,xs',n,hk,h=>by
  simp only [RL] at h
  obtain ⟨y,r,rfl,h1,h2⟩:=h
  have hkl:kinds ks l=true∧Instr.sameBits n y y=true:=by
   match i,x,hk,h1 with
   | 0,.int _ _,hk,h1=>simp only [R] at h1;subst h1;exact ⟨hk,by simp [Instr.sameBits]⟩
   | 1,.bool _,hk,h1=>simp only [R] at h1;subst h1;exact ⟨hk,by simp [Instr.sameBits]⟩
   | 2,.str _,hk,h1=>simp only [R] at h1;subst h1;exact ⟨hk,by simp [Instr.sameBits,bself]⟩
  have:=Qcd (n:=n) hkl.1 h2
  simp only [List.zip_cons_cons,List.all_cons,hkl.2,this,Bool.and_self]
 | [],_::_,_,_,h,_=>by simp [kinds] at h
 | _::_,[],_,_,h,_=>by simp [kinds] at h
theorem Q3c [GT P] {kt kd:Nat} {d:TypeDesc} (hd:KdOk P kt kd d) {x:V} {x':Value} (hx:R k x x') (hk:Q53 kd x=true) (w:World) (e:Bool) :
  (Instr.checkKey e 10000 kt x').run P w=.ok () w∧(Instr.keyThatStays x' x').run P w=.ok x' w:=by
 obtain ⟨hu,hd⟩:=hd
 rcases hd with ⟨rfl,kk,rfl⟩|⟨rfl,rfl⟩|⟨rfl,rfl⟩|⟨h3,fs,rfl,hf⟩
 rotate_left 3
 ·obtain ⟨q,rfl⟩:∃ q,kd=q+3:=⟨kd-3,by omega⟩
  cases x with
  | agg cs =>
   simp only [R] at hx
   obtain ⟨vs,rfl,hl⟩:=hx
   simp only [Q53] at hk
   have hlen:=Q48 hk
   rw [← RL.len hl] at hlen
   have ha:Q2i P kt=some true:=by simp [Q2i,hu]
   have:=Qnr 16 kt _ hf 10000 (by decide) e vs w hlen
   simp only [Q34,ha,if_true] at this
   refine ⟨this,?_⟩
   have hs:Instr.sameBits 10000 (.agg ⟨vs⟩) (.agg ⟨vs⟩)=true:=by
    show Instr.sameBits (9999+1) _ _=true
    simp only [Instr.sameBits,beq_self_eq_true,Bool.true_and]
    exact Qcd hk hl
   simp [Instr.keyThatStays,hs]
  | _=>simp [Q53] at hk
 all_goals
  unfold Instr.checkKey
  simp only [Sem.run_bind,run_underlying hu,Result.andThen]
  cases x<;>simp only [Q53,Bool.false_eq_true] at hk<;>simp only [R] at hx<;>subst hx<;>simp [Instr.keyThatStays,Instr.sameBits,bself]
theorem Qcp {kd:Nat} {d:TypeDesc} (hd:(kd=0∧∃ kk,d=.int kk)∨(kd=1∧d=.bool)∨(kd=2∧d=.string)) {key:V} {x:Value} (hx:R k key x):∀ {ks:List V} {es:List MapEntry} {i:Nat} {r:Option Nat},Q0w kd key ks i=some r→RL k ks (es.map (·.key)) →
  Q53 kd key=true∧(match r with
   | some n=>∃ a e,n=i+a∧es[a]?=some e∧e.key=x∧Instr.findNow d x es i=some (some (n,e.val))
   | none=>Instr.findNow d x es i=some none)
 | [],es,i,r,h,hl=>by
  simp only [Q0w] at h
  split at h<;>cases h
  rename_i hk
  simp only [RL,List.map_eq_nil_iff] at hl
  subst hl
  exact ⟨hk,rfl⟩
 | y::ks,es,i,r,h,hl=>by
  simp only [Q0w] at h
  cases es with
  | nil=>simp [RL] at hl
  | cons e es =>
   rw [List.map_cons,RL.cons_iff] at hl
   split at h<;>(try (cases h;done))
   ·rename_i hb
    cases h
    obtain ⟨q1,q2,q3⟩:=Qn1 hd hb hx hl.1
    exact ⟨q3,0,e,rfl,rfl,(q2 rfl).symm,by simp only [Instr.findNow,q1]⟩
   ·rename_i hb
    obtain ⟨q1,q2,q3⟩:=Qn1 hd hb hx hl.1
    have ih:=Qcp hd hx h hl.2
    refine ⟨q3,?_⟩
    cases r with
    | none=>simp only [Instr.findNow,q1];exact ih.2
    | some n =>
     obtain ⟨_,a,e',h1,h2,h3,h4⟩:=ih
     exact ⟨a+1,e',by omega,by simpa using h2,h3,by simp only [Instr.findNow,q1];exact h4⟩
theorem Q8a [GT P] {kt q:Nat} {fs:Array Field} (hu:P.underlying kt=some (.struct fs)) (hf:Q33 P 16 kt=some (kdks (q+3))) {cs:List V} {vs:List Value} (hx:RL k cs vs) (w:World):∀ {ks:List V} {es:List MapEntry} {i:Nat} {r:Option Nat},Q0w (q+3) (.agg cs) ks i=some r→RL k ks (es.map (·.key)) →
  Q53 (q+3) (.agg cs)=true∧(match r with
   | some n=>∃ a e,n=i+a∧es[a]?=some e∧e.key=.agg ⟨vs⟩∧(Instr.findAsking kt (.agg ⟨vs⟩) es i).run P w=.ok (some (n,e.val)) w
   | none=>(Instr.findAsking kt (.agg ⟨vs⟩) es i).run P w=.ok none w)
 | [],es,i,r,h,hl=>by
  simp only [Q0w] at h
  split at h<;>cases h
  rename_i hk
  simp only [RL,List.map_eq_nil_iff] at hl
  subst hl
  exact ⟨hk,by simp [Instr.findAsking]⟩
 | y::ks,es,i,r,h,hl=>by
  simp only [Q0w] at h
  cases es with
  | nil=>simp [RL] at hl
  | cons e es =>
   rw [List.map_cons,RL.cons_iff] at hl
   have key:∀ b,eq1 (q+3) (.agg cs) y=some b→(Op.equal kt (.agg ⟨vs⟩) e.key).run P w=.ok b w∧(b=true→(Value.agg ⟨vs⟩)=e.key)∧Q53 (q+3) (.agg cs)=true:=by
    intro b hb
    cases y with
    | agg ds =>
     simp only [eq1] at hb
     have hy:=hl.1
     simp only [R] at hy
     obtain ⟨us,hus,hy⟩:=hy
     obtain ⟨s1,s2⟩:=Qd4 hb hx hy
     have ha:Q2i P kt=some true:=by simp [Q2i,hu]
     have:=Q6i 16 kt _ hf Op.maxDepth (by decide) cs ds vs us b w hx hy (Qha hb)
     simp only [Q34,ha,if_true] at this
     rw [hus]
     exact ⟨this,fun e=>by rw [s1 e],s2⟩
    | _=>simp [eq1] at hb
   split at h<;>(try (cases h;done))
   ·rename_i hb
    cases h
    obtain ⟨q1,q2,q3⟩:=key _ hb
    exact ⟨q3,0,e,rfl,rfl,(q2 rfl).symm,by simp [Instr.findAsking,q1,Result.andThen]⟩
   ·rename_i hb
    obtain ⟨q1,q2,q3⟩:=key _ hb
    have ih:=Q8a hu hf hx w h hl.2
    refine ⟨q3,?_⟩
    cases r with
    | none =>
     have ih2:=ih.2
     simp only [Instr.findAsking,Sem.run_bind,q1,Result.andThen_ok,Bool.false_eq_true,if_false]
     exact ih2
    | some n =>
     obtain ⟨_,a,e',h1,h2,h3,h4⟩:=ih
     refine ⟨a+1,e',by omega,by simpa using h2,h3,?_⟩
     simp only [Instr.findAsking,Sem.run_bind,q1,Result.andThen_ok,Bool.false_eq_true,if_false]
     exact h4
theorem Q38 [GT P] {kt kd:Nat} {d:TypeDesc} (hd:KdOk P kt kd d) {key:V} {x:Value} (hx:R k key x) {ks:List V} {es:List MapEntry} {r:Option Nat} (h:Q0w kd key ks 0=some r) (hl:RL k ks (es.map (·.key))) :
  Q53 kd key=true∧(match (generalizing:=false) r with
   | some n=>∃ a e,n=0+a∧es[a]?=some e∧e.key=x∧∀ w,(Instr.findKey kt x es).run P w=.ok (some (n,e.val)) w
   | none=>∀ w,(Instr.findKey kt x es).run P w=.ok none w):=by
 obtain ⟨hu,hd⟩:=hd
 have now:((kd=0∧∃ kk,d=.int kk)∨(kd=1∧d=.bool)∨(kd=2∧d=.string))→(Q53 kd key=true∧(match (generalizing:=false) r with
   | some n=>∃ a e,n=0+a∧es[a]?=some e∧e.key=x∧∀ w,(Instr.findKey kt x es).run P w=.ok (some (n,e.val)) w
   | none=>∀ w,(Instr.findKey kt x es).run P w=.ok none w)):=fun hd=>by
  obtain ⟨h1,h2⟩:=Qcp hd hx h hl
  refine ⟨h1,?_⟩
  cases r with
  | none=>exact fun w=>MapKept.run_findKey (w:=w) hu h2
  | some n =>
   obtain ⟨a,e,q1,q2,q3,q4⟩:=h2
   exact ⟨a,e,q1,q2,q3,fun w=>MapKept.run_findKey (w:=w) hu q4⟩
 rcases hd with h1|h1|h1|⟨h3,fs,rfl,hf⟩
 ·exact now (.inl h1)
 ·exact now (.inr (.inl h1))
 ·exact now (.inr (.inr h1))
 obtain ⟨q,rfl⟩:∃ q,kd=q+3:=⟨kd-3,by omega⟩
 have hag:∃ cs,key=.agg cs:=by
  cases ks with
  | nil =>
   simp only [Q0w] at h
   split at h<;>(try (cases h;done))
   rename_i hk
   cases key<;>first|exact ⟨_,rfl⟩|(simp [Q53] at hk;done)
  | cons y ks =>
   simp only [Q0w] at h
   split at h<;>(try (cases h;done))
   all_goals
    rename_i hb
    cases key<;>first|exact ⟨_,rfl⟩|(simp [eq1] at hb;done)
 obtain ⟨cs,rfl⟩:=hag
 simp only [R] at hx
 obtain ⟨vs,rfl,hx⟩:=hx
 have fk:∀ w,∀ es:List MapEntry,(Instr.findKey kt (.agg ⟨vs⟩) es).run P w=(Instr.findAsking kt (.agg ⟨vs⟩) es 0).run P w:=fun w es=>by
  unfold Instr.findKey
  simp only [Sem.run_bind,run_underlying hu,Result.andThen_ok]
  cases es with
  | nil=>simp [Instr.findNow,Instr.findAsking]
  | cons e es=>simp [Instr.findNow,Instr.sameNow]
 refine ⟨(Q8a hu hf hx default h hl).1,?_⟩
 have all:=fun w=>(Q8a hu hf hx w h hl).2
 cases r with
 | none=>exact fun w=>(fk w es).trans (all w)
 | some n =>
  obtain ⟨a,e,q1,q2,q3,_⟩:=all default
  refine ⟨a,e,q1,q2,q3,fun w=>?_⟩
  obtain ⟨a',e',q1',q2',_,q4'⟩:=all w
  obtain rfl:a=a':=by omega
  rw [q2] at q2'
  cases q2'
  exact (fk w es).trans q4'
theorem RL.get' {l:List V} {xs:List Value} (h:RL k l xs) {n:Nat} {x:Value} (hx:xs[n]?=some x):R k (tg l n) x:=by
 have:=RL.get n h
 rw [jM,hx] at this
 exact this
theorem Qb7 {w:World} {b:Nat} {ob ob':Obj} (hb:w.heap[b]?=some ob):({ w with heap:=w.heap.setIfInBounds b ob' }:World).heap[b]?=some ob'∧∀ i,i≠b→({ w with heap:=w.heap.setIfInBounds b ob' }:World).heap[i]?=w.heap[i]?:=by
 have hlt:b<w.heap.size:=(jP.1 hb).1
 refine ⟨by simp [hlt],fun i hi=>by simp [Ne.symm hi]⟩
theorem Qtn [GT P] (g:Good P k) {id:Nat} (l:live k.h id) (ob:Obj):Below k.n0 k.w { k.w with heap:=k.w.heap.setIfInBounds (k.β id).1 ob }:=by
 refine ⟨rfl,rfl,rfl,by simp,fun b hb=>?_⟩
 have:=(g.at l).1
 simp only
 rw [Array.getElem?_setIfInBounds_ne (by omega)]
theorem Q6b [GT P] (g:Good P k) {id:Nat} {b b':B} (hb:bget k.h id=some b) (hm:b.isMap=true) (hk:b.kin b') (hro:ro≤id) {es:Array MapEntry} {ck:Nat} (hpre:MapPre k b' es ck) :
  Good P (k.set id b' (k.β id) { k.w with heap:=k.w.heap.setIfInBounds (k.β id).1 (.map es ck) })∧Ev ro k.h.length k (k.set id b' (k.β id) { k.w with heap:=k.w.heap.setIfInBounds (k.β id).1 (.map es ck) }):=by
 obtain ⟨h1,es0,ck0,h2,_⟩:=g.map hb hm
 have hl:=Q1i hb (B.isMap.odd hm)
 have hp:=Qb7 (ob':=.map es ck) h2
 exact g.updo hk.odd (Q05 hb) hro (.inr ⟨b,hb,B.isMap.odd hm,hk,rfl⟩) (Qtn g hl _) (fun b _ hl'=>hp.2 b (hl' hl)) (.inr ⟨hl,rfl⟩)
  (fun ev=>hpre.odd ev rfl (by simpa [K.set] using h1) (by simpa [K.set] using hp.1))
theorem Q8t [GT P] (g:Good P k) {t:TypeId} (he:execOp ρ o=(do pure (Next.value (← Instr.makeMap t none)):Sem Next)) {b0:B} (h0:b0=.mp [] []∨b0=.mq [] 0 [] []) (hg:(Pl.new (base+j) (.mr (base+j)) b0).go ro k.h=some (v,h')) :
  Did P ro k (execOp ρ o) v h':=by
 obtain ⟨b1,b2,rfl,rfl⟩:=Pl.go_new hg
 have hold:∀ b,b<k.w.heap.size→(k.w.alloc (.map #[] 0)).heap[b]?=k.w.heap[b]?:=by
  intro b hb'
  show (k.w.heap.push _)[b]?=_
  rw [Array.getElem?_push,if_neg (by omega)]
 have hodd:b0.odd=true∧b0.isMap=true∧MapPre k b0 #[] 0:=by
  rcases h0 with rfl|rfl
  ·exact ⟨rfl,rfl,rfl,by simp,by simp [RL],by simp [RL]⟩
  ·exact ⟨rfl,rfl,rfl,⟨rfl,by simp,by simp⟩,by simp [RL],by simp [RL]⟩
 obtain ⟨o1,o2,o3⟩:=hodd
 obtain ⟨g1,e1⟩:=g.updo (id:=base+j) (b':=b0) (p:=(k.w.heap.size,0)) (w':=k.w.alloc (.map #[] 0)) (ro:=ro) o1 (Q05 b1) b2 (.inl b1)
  ⟨rfl,rfl,rfl,by show _≤(k.w.heap.push _).size;simp,fun b hb'=>hold b (by have:=g.size;omega)⟩ (fun b hb' _=>hold b hb') (.inl (Nat.le_refl _))
  (fun ev=>o3.odd ev rfl (by simpa [K.set] using g.size) (by show (k.w.heap.push _)[_]?=_;simp [K.set]))
 refine ⟨.map (some k.w.heap.size),_,.inl ?_,rfl,g1,e1,?_⟩
 ·rw [he];exact Q0c (by simp [Instr.makeMap,K.set,newObj,Sem.run,Result.andThen])
 ·simp only [R]
  exact ⟨by simp [K.set],b0,by simp only [K.set,Q0g,Q05 b1,and_self,if_true],o2⟩
theorem Qd8 [GT P] (g:Good P k) {t:TypeId} {r:Option Operand} (ho:o.op=.makeMap t r) (hc:cOp P j o.op=some m) (hp:plan base tm m=some p) (hg:p.go ro k.h=some (v,h')) :
  Did P ro k (execOp ρ o) v h':=by
 rw [ho] at hc
 cases r with
 | some r=>simp [cOp] at hc
 | none =>
  simp only [cOp] at hc
  split at hc<;>(try (cases hc;done))
  split at hc<;>cases hc<;>simp only [plan] at hp<;>cases hp
  ·exact Q8t (t:=t) g (by simp only [execOp,ho,Option.map_none]) (.inr rfl) hg
  ·exact Q8t (t:=t) g (by simp only [execOp,ho,Option.map_none]) (.inl rfl) hg
theorem Qmv {s:Sem Unit} {w w':World} (h:s.run P w=.ok () w'):(do s;pure Next.skip:Sem Next).run P w=.ok .skip w':=by simp [h]
theorem Qk5 (l:List V) (n:Nat) (v:V):tset l n v=l.set n v:=by
 induction l generalizing n with
 | nil=>rfl
 | cons x l ih=>cases n with
  | zero=>rfl
  | succ n=>simp [tset,ih]
theorem Q4m {α:Type} {f:MapEntry→α} {es:Array MapEntry} {n:Nat} {en en':MapEntry} (hea:es.toList[n]?=some en) (hf:f en'=f en) (hlt:n<es.size):(es.set n en' hlt).toList.map f=es.toList.map f:=by
 rw [Array.toList_set,List.map_set]
 refine List.ext_getElem? fun q=>?_
 rw [List.getElem?_set]
 split
 ·rename_i e;subst e
  split
  ·rw [jH,hea,hf];rfl
  ·rename_i hh;simp at hh;omega
 ·rfl
theorem Quj [GT P] (g:Good P k) {t:TypeId} {x i y:V} {x' i' y':Value} (hx:R k x x') (hi:R k i i') (hy:R k y y') (he:execOp ρ o=(do Instr.mapUpdate t x' i' y';pure Next.skip)) {id kd:Nat} {kt e:TypeId} {d:TypeDesc} (hu:P.underlying t=some (.map kt e)) (hd:P.underlying kt=some d) (hkd:KdOk P kt kd d)
  (ex:x=.mr id) (hg:Pl.go ro ⟨[id],some id,mput kd i y⟩ k.h=some (v,h')) :
  Did P ro k (execOp ρ o) v h':=by
 subst ex
 simp only [R] at hx
 obtain ⟨rfl,b0,hb,hmap⟩:=hx
 obtain ⟨bs,hbs,hf⟩:=Pl.go_cases hg
 obtain ⟨b,r,rfl,hb1,hb2⟩:=Q0l hbs
 simp only [Q0n,jA] at hb2
 rw [hb] at hb1;cases hb1;subst hb2
 obtain ⟨h1,es,ck,h2,hpre⟩:=g.map hb hmap
 obtain ⟨st,ks,vs,hents,_,_,_,h4,h5⟩:=hpre.ents
 replace hf:(mput kd i y [b0]=some (v,none)∧h'=k.h)∨(∃ b id',mput kd i y [b0]=some (v,some b)∧some id=some id'∧ro≤id'∧h'=bset k.h id' b):=hf
 rw [Qlo hents] at hf
 cases hm:Q0w kd i ks 0 with
 | none=>rw [hm] at hf;rcases hf with ⟨hf,_⟩|⟨_,_,hf,_⟩<;>cases hf
 | some r =>
  obtain ⟨hk,hfd⟩:=Q38 hkd hi hm h4
  obtain ⟨hc1,hc2⟩:=Q3c hkd hi hk k.w false
  rw [hm] at hf
  cases r with
  | some n =>
   obtain ⟨a,en,hna,hea,hek,hfn⟩:=hfd
   obtain rfl:n=a:=by omega
   rcases hf with ⟨hf,_⟩|⟨b,id',hf,hw,hro,rfl⟩
   ·cases hf
   ·simp only [jA,jN] at hf hw
    obtain ⟨rfl,rfl⟩:=hf
    subst hw
    have hlt:n<es.size:=by
     have:=(jB.1 hea).1;simpa using this
    have hel:es[n]=en:=by
     have:=(jB.1 hea).2;simpa using this
    have hmod:es.modify n (fun e=>{ e with key:=i',val:=y' })=es.set n { en with val:=y' } hlt:=by
     refine Array.ext (by simp) fun q q1 q2=>?_
     rw [Array.getElem_modify,Array.getElem_set]
     by_cases e:n=q
     ·subst e;simp [hel,hek]
     ·simp [e]
    obtain ⟨g1,e1⟩:=Q6b (ro:=ro) (es:=es.set n { en with val:=y' } hlt) (ck:=ck) g hb hmap (B.upd_kin hmap) hro
     (hpre.upd (vs':=tset vs n y) hents (by simp) (Q4m (f:=(·.born)) (en':={ en with val:=y' }) hea rfl hlt) (Q4m (f:=(·.key)) (en':={ en with val:=y' }) hea rfl hlt) (by
      rw [Array.toList_set,List.map_set]
      exact RL.set hy n h5))
    refine ⟨undef,_,.inr ⟨?_,rfl⟩,rfl,g1,e1,by simp [R]⟩
    rw [he]
    refine Qmv ?_
    have hfk:=hfn k.w
    have hke:(es[n]?.map (·.key)).getD i'=i':=by simp [hlt,hel,hek]
    simp [Instr.mapUpdate,run_underlying hu,MapKept.run_getObj_map h2,hc1,hfk,hke,hc2,MapKept.run_setObj_map _ h2,Result.andThen,hmod,K.set]
  | none =>
   rcases hf with ⟨hf,_⟩|⟨b,id',hf,hw,hro,rfl⟩
   ·cases hf
   ·simp only [jA,jN] at hf hw
    obtain ⟨rfl,rfl⟩:=hf
    subst hw
    obtain ⟨g1,e1⟩:=Q6b (ro:=ro) g hb hmap (B.psh_kin hmap) hro (hpre.psh hi hy)
    refine ⟨undef,_,.inr ⟨?_,rfl⟩,rfl,g1,e1,by simp [R]⟩
    rw [he]
    refine Qmv ?_
    have hfk:=hfd k.w
    simp [Instr.mapUpdate,run_underlying hu,MapKept.run_getObj_map h2,hc1,hfk,MapKept.run_setObj_map _ h2,Result.andThen,K.set]
theorem Qa9 [GT P] (g:Good P k) (ht:Ops k tm ρ) {t:TypeId} {x i y:Operand} (he:execOp ρ o=(do Instr.mapUpdate t (ρ x) (ρ i) (ρ y);pure Next.skip)) (hc:(match cO x,cO i,cO y with
   | some x,some i,some y=>cMap P t fun kd _=>some (.mu kd x i y)
   | _,_,_=>none)=some m) (hp:plan base tm m=some p) (hg:p.go ro k.h=some (v,h')) :
  Did P ro k (execOp ρ o) v h':=by
 split at hc<;>(try (cases hc;done))
 rename_i x' i' y' hx hi hy
 obtain ⟨kt,e,kd,z,d,hu,hd,hkd,_,hm⟩:=Q4d hc
 cases hm
 simp only [plan] at hp
 split at hp<;>(try (cases hp;done))
 rename_i id ex
 cases hp
 exact Quj g (ht.1 _ _ hx) (ht.1 _ _ hi) (ht.1 _ _ hy) he hu hd hkd ex hg
theorem Qmi {w:World} {b:Nat} {ob:Obj} (hb:w.heap[b]?=some ob):({ w with heap:=w.heap.setIfInBounds b ob }:World)=w:=by
 have:w.heap.setIfInBounds b ob=w.heap:=by
  refine Array.ext (by simp) fun q q1 q2=>?_
  rw [Array.getElem_setIfInBounds]
  split
  ·rename_i e;subst e
   exact (jP.1 hb).2.symm
  ·rfl
 rw [this]
theorem Qj1 [GT P] (g:Good P k) (ht:Ops k tm ρ) {t:TypeId} {x i:Operand} {ok:Bool} (ho:o.op=.lookup t x i ok) (hc:cOp P j o.op=some m) (hp:plan base tm m=some p) (hg:p.go ro k.h=some (v,h')) :
  Did P ro k (execOp ρ o) v h':=by
 rw [ho] at hc;simp only [cOp] at hc
 split at hc<;>(try (cases hc;done))
 rename_i x' i' hx hi
 obtain ⟨kt,e,kd,z,d,hu,hd,hkd,hz,hm⟩:=Q4d hc
 cases hm
 have hxR:=ht.1 _ _ hx
 have hiR:=ht.1 _ _ hi
 obtain ⟨zx,hz1,hz2⟩:=Q57 hz k.w k
 simp only [plan] at hp
 split at hp<;>(try (cases hp;done))<;>rename_i ex
 ·cases hp
  rw [ex] at hxR;simp only [R] at hxR
  obtain ⟨hax,b0,hb,hmap⟩:=hxR
  obtain ⟨bs,hbs,hf,rfl⟩:=Pl.go_rd rfl hg
  obtain ⟨b,r,rfl,hb1,hb2⟩:=Q0l hbs
  simp only [Q0n,jA] at hb2
  rw [hb] at hb1;cases hb1;subst hb2
  obtain ⟨h1,es,ck,h2,hpre⟩:=g.map hb hmap
  obtain ⟨st,ks,vs,hents,_,_,_,h4,h5⟩:=hpre.ents
  replace hf:mget kd ok z (i'.ev tm) [b0]=some (v,none):=hf
  rw [Qls hents] at hf
  cases hm:Q0w kd (i'.ev tm) ks 0 with
  | none=>rw [hm] at hf;cases hf
  | some r =>
   obtain ⟨hk,hfd⟩:=Q38 hkd hiR hm h4
   obtain ⟨hc1,_⟩:=Q3c hkd hiR hk k.w es.isEmpty
   rw [hm] at hf
   cases r with
   | some n =>
    obtain ⟨a,en,hna,hea,hek,hfn⟩:=hfd
    obtain rfl:n=a:=by omega
    simp only [jA,jN,and_true] at hf
    subst hf
    have hfk:=hfn k.w
    have hv:R k (tg vs n) en.val:=RL.get' h5 (by rw [jH,hea];rfl)
    refine .val g (x:=if ok then .tuple #[en.val,.bool true] else en.val) ?_ ?_
    ·simp only [execOp,ho,hax]
     refine Q0c ?_
     cases ok<;>simp [Instr.lookup,run_underlying hu,MapKept.run_getObj_map h2,hc1,hfk,Result.andThen]
    ·cases ok
     ·exact hv
     ·simp only [if_true,R];exact ⟨_,rfl,RL.cons hv (RL.cons (by simp only [R]) RL.nil)⟩
   | none =>
    simp only [jA,jN,and_true] at hf
    subst hf
    have hfk:=hfd k.w
    refine .val g (x:=if ok then .tuple #[zx,.bool false] else zx) ?_ ?_
    ·simp only [execOp,ho,hax]
     refine Q0c ?_
     cases ok<;>simp [Instr.lookup,run_underlying hu,MapKept.run_getObj_map h2,hc1,hfk,hz1,Result.andThen]
    ·cases ok
     ·exact hz2
     ·simp only [if_true,R];exact ⟨_,rfl,RL.cons hz2 (RL.cons (by simp only [R]) RL.nil)⟩
 ·split at hp<;>(try (cases hp;done))
  rename_i hk
  cases hp
  rw [ex] at hxR;simp only [R] at hxR
  obtain ⟨rfl,rfl⟩:=Pl.go_val hg
  obtain ⟨hc1,_⟩:=Q3c hkd hiR hk k.w true
  have hfk:=(Q38 hkd hiR (ks:=[]) (es:=[]) (r:=none) (by simp only [Q0w,hk,if_true]) RL.nil).2 k.w
  refine .val g (x:=if ok then .tuple #[zx,.bool false] else zx) ?_ ?_
  ·simp only [execOp,ho,hxR]
   refine Q0c ?_
   cases ok<;>simp [Instr.lookup,run_underlying hu,hc1,hfk,hz1,Result.andThen]
  ·cases ok
   ·exact hz2
   ·simp only [if_true,R];exact ⟨_,rfl,RL.cons hz2 (RL.cons (by simp only [R]) RL.nil)⟩
 ·rename_i ks vs
  split at hp<;>(try (cases hp;done))
  rename_i v0 hf
  cases hp
  rw [ex] at hxR;simp only [R] at hxR
  obtain ⟨b0,kv,vv,hax,_,_,⟨es,h2,_,rfl,rfl⟩,h4,h5,_⟩:=hxR
  obtain ⟨rfl,rfl⟩:=Pl.go_val hg
  simp only [mget] at hf
  cases hm:Q0w kd (i'.ev tm) ks 0 with
  | none=>rw [hm] at hf;cases hf
  | some r =>
   obtain ⟨hk,hfd⟩:=Q38 hkd hiR hm h4
   obtain ⟨hc1,_⟩:=Q3c hkd hiR hk k.w es.isEmpty
   rw [hm] at hf
   cases r with
   | some n =>
    obtain ⟨a,en,hna,hea,hek,hfn⟩:=hfd
    obtain rfl:n=a:=by omega
    simp only [jA,jN,and_true] at hf
    subst hf
    have hfk:=hfn k.w
    have hv:R k (tg vs n) en.val:=RL.get' h5 (by rw [jH,hea];rfl)
    refine .val g (x:=if ok then .tuple #[en.val,.bool true] else en.val) ?_ ?_
    ·simp only [execOp,ho,hax]
     refine Q0c ?_
     cases ok<;>simp [Instr.lookup,run_underlying hu,MapKept.run_getObj_map h2,hc1,hfk,Result.andThen]
    ·cases ok
     ·exact hv
     ·simp only [if_true,R];exact ⟨_,rfl,RL.cons hv (RL.cons (by simp only [R]) RL.nil)⟩
   | none =>
    simp only [jA,jN,and_true] at hf
    subst hf
    have hfk:=hfd k.w
    refine .val g (x:=if ok then .tuple #[zx,.bool false] else zx) ?_ ?_
    ·simp only [execOp,ho,hax]
     refine Q0c ?_
     cases ok<;>simp [Instr.lookup,run_underlying hu,MapKept.run_getObj_map h2,hc1,hfk,hz1,Result.andThen]
    ·cases ok
     ·exact hz2
     ·simp only [if_true,R];exact ⟨_,rfl,RL.cons hz2 (RL.cons (by simp only [R]) RL.nil)⟩
theorem Qnd [GT P] (g:Good P k) (ht:Ops k tm ρ) {t:TypeId} {x i:Operand} (ho:o.op=.mapEntry t x i) (hc:cOp P j o.op=some m) (hp:plan base tm m=some p) (hg:p.go ro k.h=some (v,h')) :
  Did P ro k (execOp ρ o) v h':=by
 rw [ho] at hc;simp only [cOp] at hc
 split at hc<;>(try (cases hc;done))
 rename_i x' i' hx hi
 obtain ⟨kt,e,kd,z,d,hu,hd,hkd,hz,hm⟩:=Q4d hc
 cases hm
 have hxR:=ht.1 _ _ hx
 have hiR:=ht.1 _ _ hi
 obtain ⟨zx,hz1,hz2⟩:=Q57 hz k.w k
 simp only [plan] at hp
 split at hp<;>(try (cases hp;done))
 rename_i id ex
 cases hp
 rw [ex] at hxR;simp only [R] at hxR
 obtain ⟨hax,b0,hb,hmap⟩:=hxR
 obtain ⟨bs,hbs,hf⟩:=Pl.go_cases hg
 obtain ⟨b,r,rfl,hb1,hb2⟩:=Q0l hbs
 simp only [Q0n,jA] at hb2
 rw [hb] at hb1;cases hb1;subst hb2
 cases b0 with
 | mp ks vs=>?_
 | _=>simp only [ment] at hf;rcases hf with ⟨hf,_⟩|⟨_,_,hf,_⟩<;>cases hf
 obtain ⟨h1,es,h2,h3,h4,h5⟩:=g.mp id ks vs hb
 have hle:=h4.len
 rw [List.length_map,Array.length_toList] at hle
 simp only [ment] at hf
 cases hm:Q0w kd (i'.ev tm) ks 0 with
 | none=>rw [hm] at hf;rcases hf with ⟨hf,_⟩|⟨_,_,hf,_⟩<;>cases hf
 | some r =>
  obtain ⟨hk,hfd⟩:=Q38 hkd hiR hm h4
  obtain ⟨hc1,hc2⟩:=Q3c hkd hiR hk k.w false
  rw [hm] at hf
  cases r with
  | some n =>
   obtain ⟨a,en,hna,hea,hek,hfn⟩:=hfd
   obtain rfl:n=a:=by omega
   rcases hf with ⟨hf,rfl⟩|⟨b,id',hf,hw,hro,rfl⟩
   ·cases hf
    have hlt:n<es.size:=by
     have:=(jB.1 hea).1;simpa using this
    have hel:es[n]=en:=by
     have:=(jB.1 hea).2;simpa using this
    have hmod:es.modify n (fun e=>{ e with key:=ρ i })=es:=by
     refine Array.ext (by simp) fun q q1 q2=>?_
     rw [Array.getElem_modify]
     by_cases e:n=q
     ·subst e;simp [hel,hek.symm]
     ·simp [e]
    have hv:R k (tg vs n) en.val:=RL.get' h5 (by rw [jH,hea];rfl)
    have hfk:=hfn k.w
    have hke:(es[n]?.map (·.key)).getD (ρ i)=ρ i:=by simp [hlt,hel,hek]
    have hbo:(Option.map (fun x:MapEntry=>(x.born:Int)) es[n]?).getD 0=n:=by simp [hlt,h3 n hlt]
    refine .val g (x:=.tuple #[en.val,goInt n]) ?_ ?_
    ·simp only [execOp,ho,hax]
     refine Q0c ?_
     simp [Instr.mapEntry,run_underlying hu,MapKept.run_getObj_map h2,hc1,hfk,hke,hbo,hc2,MapKept.run_setObj_map _ h2,Result.andThen,hmod,Qmi h2]
    ·simp only [R];exact ⟨_,rfl,RL.cons hv (RL.cons (by simp [R,goInt]) RL.nil)⟩
   ·cases hf
  | none =>
   rcases hf with ⟨hf,_⟩|⟨b,id',hf,hw,hro,rfl⟩
   ·cases hf
   ·cases hf;cases hw
    obtain ⟨g1,e1⟩:=Q6b (ro:=ro) (b':=.mp (ks++[i'.ev tm]) (vs++[z])) g hb rfl trivial hro (MapPre.psh (b:=.mp ks vs) (ck:=es.size) ⟨rfl,h3,h4,h5⟩ hiR hz2)
    have hfk:=hfd k.w
    refine ⟨.tuple #[zx,goInt es.size],_,.inl ?_,rfl,g1,e1,?_⟩
    ·simp only [execOp,ho,hax]
     refine Q0c ?_
     simp [Instr.mapEntry,run_underlying hu,MapKept.run_getObj_map h2,hc1,hfk,hz1,MapKept.run_setObj_map _ h2,Result.andThen,K.set]
    ·simp only [R]
     exact ⟨_,rfl,RL.cons (by
      obtain ⟨zx',q1,q2⟩:=Q57 hz k.w (k.set id (.mp (ks++[i'.ev tm]) (vs++[z])) (k.β id) { k.w with heap:=k.w.heap.setIfInBounds (k.β id).1 (.map (es.push { key:=ρ i,val:=zx,born:=es.size }) (es.size+1)) })
      rw [hz1] at q1;cases q1;exact q2) (RL.cons (by simp [R,goInt,hle]) RL.nil)⟩
theorem Q8u [GT P] (g:Good P k) (ht:Ops k tm ρ) {t:TypeId} {x i y:Operand} (ho:o.op=.entryStore t x i y) (hc:cOp P j o.op=some m) (hp:plan base tm m=some p) (hg:p.go ro k.h=some (v,h')) :
  Did P ro k (execOp ρ o) v h':=by
 rw [ho] at hc;simp only [cOp] at hc
 split at hc<;>(try (cases hc;done))
 rename_i x' i' y' hx hi hy
 cases hc
 have hxR:=ht.1 _ _ hx
 have hiR:=ht.1 _ _ hi
 have hyR:=ht.1 _ _ hy
 simp only [plan] at hp
 split at hp<;>(try (cases hp;done))
 rename_i id ex
 cases hp
 rw [ex] at hxR;simp only [R] at hxR
 obtain ⟨hax,b0,hb,hmap⟩:=hxR
 obtain ⟨bs,hbs,hf⟩:=Pl.go_cases hg
 obtain ⟨b,r,rfl,hb1,hb2⟩:=Q0l hbs
 simp only [Q0n,jA] at hb2
 rw [hb] at hb1;cases hb1;subst hb2
 cases b0 with
 | mp ks vs=>?_
 | _=>simp only [msto] at hf;rcases hf with ⟨hf,_⟩|⟨_,_,hf,_⟩<;>cases hf
 obtain ⟨h1,es,h2,h3,h4,h5⟩:=g.mp id ks vs hb
 have hle:=h4.len
 rw [List.length_map,Array.length_toList] at hle
 simp only [msto] at hf
 split at hf
 ·rename_i n en
  rw [en] at hiR;simp only [R] at hiR
  split at hf
  ·rename_i hn
   rcases hf with ⟨hf,_⟩|⟨b,id',hf,hw,hro,rfl⟩
   ·cases hf
   ·cases hf;cases hw
    have hlt:n.toNat<es.size:=by omega
    have hfi:es.findIdx? (fun e=>(e.born:Int)==n)=some n.toNat:=by
     rw [Array.findIdx?_eq_some_iff_getElem]
     refine ⟨hlt,by rw [h3 _ hlt,beq_iff_eq];omega,fun q hq=>?_⟩
     rw [h3 _ (by omega)]
     simp only [beq_iff_eq]
     omega
    have hmod:es.modify n.toNat (fun e=>{ e with val:=ρ y })=es.set n.toNat { es[n.toNat] with val:=ρ y } hlt:=by
     refine Array.ext (by simp) fun q q1 q2=>?_
     rw [Array.getElem_modify,Array.getElem_set]
     by_cases e:n.toNat=q
     ·subst e;simp
     ·simp [e]
    have hea:es.toList[n.toNat]?=some es[n.toNat]:=by simp [hlt]
    obtain ⟨g1,e1⟩:=Q6b (ro:=ro) (es:=es.set n.toNat { es[n.toNat] with val:=ρ y } hlt) (ck:=es.size) (b':=.mp ks (tset vs n.toNat (y'.ev tm))) g hb rfl trivial hro
     (MapPre.upd (b:=.mp ks vs) (es:=es) (ck:=es.size) ⟨rfl,h3,h4,h5⟩ rfl (by simp) (Q4m (f:=(·.born)) (en':={ es[n.toNat] with val:=ρ y }) hea rfl hlt) (Q4m (f:=(·.key)) (en':={ es[n.toNat] with val:=ρ y }) hea rfl hlt) (by
      rw [Array.toList_set,List.map_set]
      exact RL.set hyR _ h5))
    refine ⟨undef,_,.inr ⟨?_,rfl⟩,rfl,g1,e1,by simp [R]⟩
    simp only [execOp,ho,hax,hiR]
    refine Qmv ?_
    simp [Instr.entryStore,MapKept.run_getObj_map h2,asInt,asIntOf,hfi,MapKept.run_setObj_map _ h2,Result.andThen,hmod,K.set]
  ·rcases hf with ⟨hf,_⟩|⟨_,_,hf,_⟩<;>cases hf
 ·rcases hf with ⟨hf,_⟩|⟨_,_,hf,_⟩<;>cases hf
end Go.Dr
namespace Go.Dr
open Go.RowKit (Below)
variable {P:Program} [GT P] {k:K} {tm:List V} {ρ:Operand→Value} {o:Oper} {j base ro:Nat} {m:M} {p:Pl} {v:V} {h' : List B}
theorem Qhd {b:B} {x:List Nat × Nat × List V × List V} (h:b.ents=some x):b.isMap=true:=by
 cases b<;>simp [B.ents] at h<;>rfl
theorem Qn9 (g:Good P k) (ht:Ops k tm ρ) {t:TypeId} {x:Operand} (ho:o.op=.range t x) (hc:cOp P j o.op=some m) (hp:plan base tm m=some p) (hg:p.go ro k.h=some (v,h')) :
  Did P ro k (execOp ρ o) v h':=by
 rw [ho] at hc;simp only [cOp] at hc
 split at hc<;>(try (cases hc;done))
 rename_i kt e hu
 obtain ⟨x',hx,rfl⟩:=map_some hc
 have hxR:=ht.1 _ _ hx
 simp only [plan] at hp
 split at hp<;>(try (cases hp;done))
 ·rename_i id ex
  cases hp
  rw [ex] at hxR;simp only [R] at hxR
  obtain ⟨hax,b0,hb,hmap⟩:=hxR
  obtain ⟨bs,hbs,hf⟩:=Pl.go_cases hg
  obtain ⟨b1,r1,rfl,hb1,hr1⟩:=Q0l hbs
  obtain ⟨b2,r2,rfl,hb2,hr2⟩:=Q0l hr1
  simp only [Q0n,jA] at hr2
  subst hr2
  rw [hb] at hb2;cases hb2
  replace hf:(mrng (base+j) id [b1,b0]=some (v,none)∧h'=k.h)∨(∃ b id',mrng (base+j) id [b1,b0]=some (v,some b)∧some (base+j)=some id'∧ro≤id'∧h'=bset k.h id' b):=hf
  obtain ⟨h1,es,ck,h2,hpre⟩:=g.map hb hmap
  obtain ⟨st,ks,vs,hents,_,_,_,h4,h5⟩:=hpre.ents
  cases b1 with
  | unborn =>
   simp only [mrng,hents] at hf
   rcases hf with ⟨hf,_⟩|⟨b,id',hf,hw,hro,rfl⟩
   ·simp at hf
   ·simp only [jA,jN] at hf hw
    obtain ⟨rfl,rfl⟩:=hf
    subst hw
    have hne:id≠base+j:=by rintro rfl;rw [hb] at hb1;cases hb1;cases hmap
    have hold:∀ b,b<k.w.heap.size→(k.w.alloc (.mapIter (some (k.β id).1) ck #[] ck)).heap[b]?=k.w.heap[b]?:=by
     intro b hb'
     show (k.w.heap.push _)[b]?=_
     rw [Array.getElem?_push,if_neg (by omega)]
    obtain ⟨g1,e1⟩:=g.updo (id:=base+j) (b':=.it id ck ck []) (p:=(k.w.heap.size,0)) (w':=k.w.alloc (.mapIter (some (k.β id).1) ck #[] ck)) (ro:=ro) rfl (Q05 hb1) hro (.inl hb1)
     ⟨rfl,rfl,rfl,by show _≤(k.w.heap.push _).size;simp,fun b hb'=>hold b (by have:=g.size;omega)⟩ (fun b hb' _=>hold b hb') (.inl (Nat.le_refl _))
     (fun ev=>⟨by simpa [K.set] using g.size,⟨b0,by simp only [K.set,Q0g];rw [if_neg (by omega)];exact hb,hmap⟩,Nat.le_refl _,by
      show (k.w.heap.push _)[_]?=_
      simp [K.set,hne]⟩)
    refine ⟨.pointer (some ⟨k.w.heap.size,0,none⟩),_,.inl ?_,rfl,g1,e1,?_⟩
    ·simp only [execOp,ho,hax]
     refine Q0c ?_
     simp [Instr.range,run_underlying hu,MapKept.run_getObj_map h2,newObj,Sem.run,Result.andThen,K.set]
    ·simp only [R]
     exact ⟨by simp [K.set],ck,ck,[],by simp only [K.set,Q0g,Q05 hb1,and_self,if_true]⟩
  | _=>simp only [mrng] at hf;rcases hf with ⟨hf,_⟩|⟨_,_,hf,_⟩<;>cases hf
 ·rename_i ks vs ex
  cases hp
  rw [ex] at hxR;simp only [R] at hxR
  obtain ⟨b0,kv,vv,hax,o1,o2,o3,h4,h5,h6,h7⟩:=hxR
  obtain ⟨bs,hbs,hf⟩:=Pl.go_cases hg
  obtain ⟨b1,r1,rfl,hb1,hr1⟩:=Q0l hbs
  simp only [Q0n,jA] at hr1
  subst hr1
  replace hf:(Qei (base+j) ks vs [b1]=some (v,none)∧h'=k.h)∨(∃ b id',Qei (base+j) ks vs [b1]=some (v,some b)∧some (base+j)=some id'∧ro≤id'∧h'=bset k.h id' b):=hf
  obtain ⟨es,h2,e1,e2,e3⟩:=o3
  have hlen:kv.length=es.size:=by rw [← e2];simp
  cases b1 with
  | unborn =>
   simp only [Qei] at hf
   rcases hf with ⟨hf,_⟩|⟨b,id',hf,hw,hro,rfl⟩
   ·simp at hf
   ·simp only [jA,jN] at hf hw
    obtain ⟨rfl,rfl⟩:=hf
    subst hw
    have hold:∀ b,b<k.w.heap.size→(k.w.alloc (.mapIter (some b0) es.size #[] es.size)).heap[b]?=k.w.heap[b]?:=by
     intro b hb'
     show (k.w.heap.push _)[b]?=_
     rw [Array.getElem?_push,if_neg (by omega)]
    obtain ⟨g1,e1'⟩:=g.updo (id:=base+j) (b':=.ir ks vs []) (p:=(k.w.heap.size,0)) (w':=k.w.alloc (.mapIter (some b0) es.size #[] es.size)) (ro:=ro) rfl (Q05 hb1) hro (.inl hb1)
     ⟨rfl,rfl,rfl,by show _≤(k.w.heap.push _).size;simp,fun b hb'=>hold b (by have:=g.size;omega)⟩ (fun b hb' _=>hold b hb') (.inl (Nat.le_refl _))
     (fun ev=>by
      obtain ⟨p1,p2⟩:=ev.prot b0 o1 o2
      exact ⟨by simpa [K.set] using g.size,b0,kv,vv,p1,Nat.lt_of_lt_of_le o2 ev.low.size,mapAt.same p2 ⟨es,h2,e1,e2,e3⟩,RL.ev ev (Q0o (Nat.zero_le _) _ h6) h4,RL.ev ev (Q0o (Nat.zero_le _) _ h7) h5,h6,h7,by
       show (k.w.heap.push _)[_]?=_
       simp [K.set,hlen]⟩)
    refine ⟨.pointer (some ⟨k.w.heap.size,0,none⟩),_,.inl ?_,rfl,g1,e1',?_⟩
    ·simp only [execOp,ho,hax]
     refine Q0c ?_
     simp [Instr.range,run_underlying hu,MapKept.run_getObj_map h2,newObj,Sem.run,Result.andThen,K.set]
    ·simp only [R]
     exact ⟨by simp [K.set],ks,vs,[],by simp only [K.set,Q0g,Q05 hb1,and_self,if_true]⟩
  | _=>simp only [Qei] at hf;rcases hf with ⟨hf,_⟩|⟨_,_,hf,_⟩<;>cases hf
theorem Q6f:∀ {l:List Nat} {s:Nat},lastO l=some s→(⟨l⟩:Array Nat).back?=some s
 | [a],s,h=>by simp only [lastO] at h;simpa using h
 | a::b::l,s,h=>by
  have:=Q6f (l:=b::l) (s:=s) (by simpa [lastO] using h)
  simp only [Array.back?,List.size_toArray,List.getElem?_toArray] at this ⊢
  simpa using this
theorem Qum (g:Good P k) (ht:Ops k tm ρ) {x:Operand} (ho:o.op=.entry x) (hc:cOp P j o.op=some m) (hp:plan base tm m=some p) (hg:p.go ro k.h=some (v,h')) :
  Did P ro k (execOp ρ o) v h':=by
 rw [ho] at hc;simp only [cOp] at hc
 obtain ⟨x',hx,rfl⟩:=map_some hc
 have hxR:=ht.1 _ _ hx
 simp only [plan] at hp
 split at hp<;>(try (cases hp;done))
 ·rename_i id m0 ex
  cases hp
  rw [ex] at hxR;simp only [R] at hxR
  obtain ⟨hax,s0,t0,l0,hb⟩:=hxR
  obtain ⟨bs,hbs,hf,rfl⟩:=Pl.go_rd rfl hg
  obtain ⟨b1,r1,rfl,hb1,hr1⟩:=Q0l hbs
  obtain ⟨b2,r2,rfl,hb2,hr2⟩:=Q0l hr1
  simp only [Q0n,jA] at hr2
  subst hr2
  rw [hb] at hb1;cases hb1
  replace hf:mcur m0 [.it m0 s0 t0 l0,b2]=some (v,none):=hf
  obtain ⟨_,⟨_,_,_⟩,hst,hit⟩:=g.od _ _ hb rfl
  simp only [mcur,if_true] at hf
  split at hf<;>(try (cases hf;done))
  rename_i s st ck ks vs hlast hents
  split at hf<;>(try (cases hf;done))
  rename_i hcond
  simp only [jF,jG] at hcond
  obtain ⟨rfl,hlt⟩:=hcond
  simp only [jA,jN,and_true] at hf
  subst hf
  obtain ⟨_,es,ck',h2,hpre⟩:=g.map hb2 (Qhd hents)
  obtain ⟨st',ks',vs',hents',hst',hsort,_,h4,h5⟩:=hpre.ents
  rw [hents] at hents'
  simp only [jA,jN] at hents'
  obtain ⟨rfl,rfl,rfl,rfl⟩:=hents'
  subst hst'
  have hlt':List.idxOf s (List.map (fun x=>x.born) es.toList)<es.toList.length:=by simpa using hlt
  have hborn:(es.toList[List.idxOf s (List.map (fun x=>x.born) es.toList)]).born=s:=by
   have:=List.getElem_idxOf (x:=s) (xs:=List.map (fun x=>x.born) es.toList) hlt
   rw [List.getElem_map] at this;exact this
  have hfind:es.find? (fun e=>e.born==s)=some (es.toList[List.idxOf s (List.map (fun x=>x.born) es.toList)]):=by
   rw [← Array.find?_toList,List.find?_eq_some_iff_getElem]
   refine ⟨by rw [hborn];simp,_,hlt',rfl,fun q hq=>?_⟩
   have:=List.pairwise_iff_getElem.1 hsort q _ (by rw [List.length_map];omega) hlt hq
   simp only [List.getElem_map] at this
   rw [hborn] at this
   simp only [Bool.not_eq_true',beq_eq_false_iff_ne,ne_eq]
   omega
  generalize hj:List.idxOf s (List.map (fun x=>x.born) es.toList)=J at *
  refine .val g (x:=.tuple #[(es.toList[J]).key,(es.toList[J]).val]) ?_ ?_
  ·simp only [execOp,ho,hax]
   refine Q0c ?_
   simp [Instr.entry,getObj,Sem.run,hit,h2,Q6f hlast,hfind,Result.andThen]
  ·simp only [R]
   exact ⟨_,rfl,RL.cons (RL.get' h4 (by rw [jH,jC hlt'];rfl)) (RL.cons (RL.get' h5 (by rw [jH,jC hlt'];rfl)) RL.nil)⟩
 ·rename_i id ex
  cases hp
  rw [ex] at hxR;simp only [R] at hxR
  obtain ⟨hax,ks,vs,l0,hb⟩:=hxR
  obtain ⟨bs,hbs,hf,rfl⟩:=Pl.go_rd rfl hg
  obtain ⟨b1,r1,rfl,hb1,hr1⟩:=Q0l hbs
  simp only [Q0n,jA] at hr1
  subst hr1
  rw [hb] at hb1;cases hb1
  replace hf:Qcr [.ir ks vs l0]=some (v,none):=hf
  obtain ⟨_,b0,kv,vv,o1,o2,⟨es,h2,hborn,e2,e3⟩,h4,h5,_,_,hit⟩:=g.od _ _ hb rfl
  simp only [Qcr] at hf
  split at hf<;>(try (cases hf;done))
  rename_i s hlast
  split at hf<;>(try (cases hf;done))
  rename_i hlt
  simp only [jA,jN,and_true] at hf
  subst hf
  have hks:=h4.len
  have hlt':s<es.size:=by rw [← e2] at hks;simp at hks;omega
  have hfind:es.find? (fun e=>e.born==s)=some es[s]:=by
   rw [← Array.find?_toList,List.find?_eq_some_iff_getElem]
   refine ⟨by rw [hborn];simp,s,by simpa using hlt',rfl,fun q hq=>?_⟩
   have:=hborn q (by omega)
   simp only [Array.getElem_toList,this,Bool.not_eq_true',beq_eq_false_iff_ne,ne_eq]
   omega
  subst e2 e3
  refine .val g (x:=.tuple #[es[s].key,es[s].val]) ?_ ?_
  ·simp only [execOp,ho,hax]
   refine Q0c ?_
   simp [Instr.entry,getObj,Sem.run,hit,h2,Q6f hlast,hfind,Result.andThen]
  ·simp only [R]
   exact ⟨_,rfl,RL.cons (RL.get' h4 (by rw [jH,Array.getElem?_toList,Array.getElem?_eq_getElem hlt'];rfl)) (RL.cons (RL.get' h5 (by rw [jH,Array.getElem?_toList,Array.getElem?_eq_getElem hlt'];rfl)) RL.nil)⟩
theorem Q5m {α β:Type} (f:α→β):∀ (l:List α) (n:Nat),(l.eraseIdx n).map f=(l.map f).eraseIdx n
 | [],_=>by simp
 | x::l,0=>rfl
 | x::l,n+1=>by simp [Q5m f l n]
theorem RL.erase {l:List V} {xs:List Value} (n:Nat) (h:RL k l xs):RL k (l.eraseIdx n) (xs.eraseIdx n):=by
 induction l generalizing xs n with
 | nil =>
  simp only [RL] at h;subst h
  simp [RL]
 | cons v l ih =>
  obtain ⟨x,r,rfl,hx,hr⟩:=(by simpa [RL] using h:∃ x r,xs=x::r∧R k v x∧RL k l r)
  cases n with
  | zero=>exact hr
  | succ n=>exact RL.cons hx (ih n hr)
theorem Qj2 (g:Good P k) (ht:Ops k tm ρ) {args:Array Operand} {ts:Array TypeId} {as:List O} (ho:o.op=.call ⟨.builtin .delete,args,ts⟩)
  (ha:cOs args.toList=some as) (hc:Q3v P j .delete as ts.toList=some m) (hp:plan base tm m=some p) (hg:p.go ro k.h=some (v,h')) :
  Did P ro k (execOp ρ o) v h':=by
 have hrun:=Q70 (P:=P) (ρ:=ρ) ho
 simp only [Q3v] at hc
 split at hc<;>(try (cases hc;done))
 rename_i x y t tl hts
 split at hc<;>(try (cases hc;done))
 rename_i kt e hu
 obtain ⟨kd,hkd0,rfl⟩:=map_some hc
 obtain ⟨d,hd,hkd⟩:=Qgz hkd0
 obtain ⟨a,b,hargs,hxR,hyR⟩:=Quz ht ha
 simp only [plan] at hp
 split at hp<;>(try (cases hp;done))
 rename_i id ex
 cases hp
 rw [ex] at hxR;simp only [R] at hxR
 obtain ⟨hax,b0,hb,hmap⟩:=hxR
 obtain ⟨bs,hbs,hf⟩:=Pl.go_cases hg
 obtain ⟨b1,r1,rfl,hb1,hr1⟩:=Q0l hbs
 simp only [Q0n,jA] at hr1
 subst hr1
 rw [hb] at hb1;cases hb1
 replace hf:(mdel kd (y.ev tm) [b0]=some (v,none)∧h'=k.h)∨(∃ b id',mdel kd (y.ev tm) [b0]=some (v,some b)∧some id=some id'∧ro≤id'∧h'=bset k.h id' b):=hf
 obtain ⟨h1,es,ck,h2,hpre⟩:=g.map hb hmap
 have htsa:ts[0]?=some t:=by
  rw [← Array.getElem?_toList,hts];rfl
 cases b0 with
 | mq st c ks vs =>
  obtain ⟨rfl,⟨q1,q2,q3⟩,h4,h5⟩:=hpre
  simp only [mdel] at hf
  cases hm:Q0w kd (y.ev tm) ks 0 with
  | none=>rw [hm] at hf;rcases hf with ⟨hf,_⟩|⟨_,_,hf,_⟩<;>cases hf
  | some r =>
   obtain ⟨hk,hfd⟩:=Q38 hkd hyR hm h4
   obtain ⟨hc1,hc2⟩:=Q3c hkd hyR hk k.w es.isEmpty
   rw [hm] at hf
   cases r with
   | some n =>
    obtain ⟨a',en,hna,hea,hek,hfn⟩:=hfd
    obtain rfl:n=a':=by omega
    rcases hf with ⟨hf,_⟩|⟨b',id',hf,hw,hro,rfl⟩
    ·simp at hf
    ·simp only [jA,jN] at hf hw
     obtain ⟨rfl,rfl⟩:=hf
     subst hw
     have hlt:n<es.size:=by
      have:=(jB.1 hea).1;simpa using this
     have htl:(es.eraseIdxIfInBounds n).toList=es.toList.eraseIdx n:=by
      unfold Array.eraseIdxIfInBounds
      rw [dif_pos hlt];simp
     have hsub:(st.eraseIdx n).Sublist st:=List.eraseIdx_sublist _ _
     obtain ⟨g1,e1⟩:=Q6b (ro:=ro) (es:=es.eraseIdxIfInBounds n) (ck:=ck) (b':=.mq (st.eraseIdx n) ck (ks.eraseIdx n) (vs.eraseIdx n)) g hb hmap trivial hro
      ⟨rfl,⟨by rw [htl,← q1,Q5m],q2.sublist hsub,fun s hs=>q3 s (hsub.subset hs)⟩,
       by rw [htl,Q5m];exact RL.erase n h4,by rw [htl,Q5m];exact RL.erase n h5⟩
     refine ⟨.tuple #[],_,.inl ?_,rfl,g1,e1,by simp only [R];exact ⟨[],rfl,RL.nil⟩⟩
     rw [hrun,hargs]
     have hfk:=hfn k.w
     simp [Go.builtin,Builtin.delete_,htsa,hax,run_underlying hu,MapKept.run_getObj_map h2,hc1,hfk,MapKept.run_setObj_map _ h2,Result.andThen,K.set]
   | none =>
    rcases hf with ⟨hf,_⟩|⟨b',id',hf,hw,hro,rfl⟩
    ·simp at hf
    ·simp only [jA,jN] at hf hw
     obtain ⟨rfl,rfl⟩:=hf
     subst hw
     obtain ⟨g1,e1⟩:=Q6b (ro:=ro) (es:=es) (ck:=ck) (b':=.mq st ck ks vs) g hb hmap trivial hro ⟨rfl,⟨q1,q2,q3⟩,h4,h5⟩
     refine ⟨.tuple #[],_,.inl ?_,rfl,g1,e1,by simp only [R];exact ⟨[],rfl,RL.nil⟩⟩
     rw [hrun,hargs]
     have hfk:=hfd k.w
     simp [Go.builtin,Builtin.delete_,htsa,hax,run_underlying hu,MapKept.run_getObj_map h2,hc1,hfk,MapKept.run_setObj_map _ h2,Result.andThen,K.set]
 | _=>simp only [mdel] at hf;rcases hf with ⟨hf,_⟩|⟨_,_,hf,_⟩<;>cases hf
end Go.Dr
namespace Go.Dr
open Go.RowKit (Below)
variable {P:Program} [GT P] {k:K} {tm:List V} {ρ:Operand→Value} {o:Oper} {j base ro:Nat} {m:M} {p:Pl} {v:V} {h' : List B}
theorem op_did (g:Good P k) (ht:Ops k tm ρ) (hc:cOp P j o.op=some m) (hp:plan base tm m=some p) (hg:p.go ro k.h=some (v,h')) :
  Did P ro k (execOp ρ o) v h':=by
 have hc':=hc
 cases ho:o.op with
 | move x=>exact Qq8 g ht ho hc hp hg
 | assign x=>exact Qj3 g ht ho hc hp hg
 | pick=>exact Qq7 g ht ho hc hp hg
 | alloc=>exact Qng g ht ho hc hp hg
 | box=>exact Qun g ht ho hc hp hg
 | build=>exact Qne g ht ho hc hp hg
 | buildSlice=>exact Q8v g ht ho hc hp hg
 | load=>exact Qqa g ht ho hc hp hg
 | store=>exact Qn7 g ht ho hc hp hg
 | nilCheck=>exact Quk g ht ho hc hp hg
 | binOp=>exact Qnf g ht ho hc hp hg
 | unOp=>exact Qq6 g ht ho hc hp hg
 | convert=>exact Qff g ht ho hc hp hg
 | makeInterface=>exact Qnb g ht ho hc hp hg
 | makeSlice=>exact Qq9 g ht ho hc hp hg
 | slice=>exact Qn8 g ht ho hc hp hg
 | fieldAddr=>exact Q9e g ht ho hc hp hg
 | field=>exact Qnc g ht ho hc hp hg
 | indexAddr=>exact Q9d g ht ho hc hp hg
 | index=>exact Qna g ht ho hc hp hg
 | typeAssert=>exact Qj4 g ht ho hc hp hg
 | extract=>exact Qfe g ht ho hc hp hg
 | makeFunc=>exact Qqb g ht ho hc hp hg
 | makeMap=>exact Qd8 g ho hc hp hg
 | lookup=>exact Qj1 g ht ho hc hp hg
 | mapEntry=>exact Qnd g ht ho hc hp hg
 | entryStore=>exact Q8u g ht ho hc hp hg
 | mapUpdate=>rw [ho] at hc';exact Qa9 g ht (by simp only [execOp,ho]) hc' hp hg
 | range=>exact Qn9 g ht ho hc hp hg
 | entry=>exact Qum g ht ho hc hp hg
 | next x s =>
  rw [ho] at hc'
  cases s<;>simp only [cOp] at hc'
  ·obtain ⟨_,_,rfl⟩:=map_some hc';simp [plan] at hp
  ·cases hc'
 | insert=>rw [ho] at hc';exact Qa9 g ht (by simp only [execOp,ho]) hc' hp hg
 | panic =>
  rw [ho] at hc';simp only [cOp] at hc';cases hc';simp [plan] at hp
 | call c =>
  obtain ⟨callee,args,ts⟩:=c
  cases callee with
  | builtin b =>
   rw [ho] at hc';simp only [cOp] at hc'
   split at hc'<;>(try (cases hc';done))
   rename_i as has
   by_cases hd:b=.delete
   ·subst hd;exact Qj2 g ht ho has hc' hp hg
   ·exact Qfg g ht hd ho has hc' hp hg
  | value f =>
   rw [ho] at hc';simp only [cOp] at hc'
   split at hc'<;>(try (cases hc';done))
   cases hc';simp [plan] at hp
  | invoke x name =>
   rw [ho] at hc'
   cases x<;>simp only [cOp] at hc'<;>(try (cases hc';done))
   split at hc'<;>(try (cases hc';done))
   cases hc';simp [plan] at hp
 | _=>rw [ho] at hc';simp only [cOp] at hc';cases hc'
end Go.Dr
