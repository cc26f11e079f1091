/- Top, of chapter 08: functions of Go's library that are known by the shelf's contracts: strings.Count and Index of one byte, strings.Trim of ASCII letters, strings.Join, strconv.Itoa. -/
import Derived.Test.YtbnmdlnkhghbpaaGreatDoorG0
import Derived.Test.YtbnmdlnkhghbpaaGreatDoorDrE
import Derived.Shelf.Strings.SlTrimAscii
import Derived.Shelf.Strings.Count
import Derived.Shelf.Strings.Search3
import Derived.Shelf.Strings.OnBuilder
import Derived.Shelf.Strconv.Itoa3
import Derived.Shelf.Sort.Plain
import Derived.Shelf.Slices.In.SortNone
namespace Go.Dr
open Go.RowKit (Below)
open Go.Shelf Go.Proofs
variable {P:Program} [GT P] {k:K}
theorem Q5p {f np:Nat} {gp:List V→Option V}
  (hc:∀ (ls:List V) (v:V) (k:K) (xs:List Value),Good P k→gp ls=some v→RL k ls xs→∃ y,(∀ k':K,R k' v y)∧Calls P f ⟨xs⟩ k.w (fun e w'=>e=.returned y∧Below k.w.heap.size k.w w')):KnOk P f np (Q13 gp):=by
 intro ro k ls xs v h' g ha hlen hg Q hQ
 unfold Q13 at hg
 split at hg
 ·rename_i hh
  obtain ⟨v1,hv1,e⟩:=map_some hg
  simp only [jN] at e
  obtain ⟨e1,e2⟩:=e
  subst e1
  obtain ⟨y,hy,hcc⟩:=hc ls _ k xs g hv1 ha
  refine hcc.mono ?_
  rintro e w' ⟨rfl,hb⟩
  obtain ⟨g1,e1⟩:=g.world (hb.mono g.size) hb.block ro k.h.length
  exact hQ y { k with w:=w' } (hh.trans e2.symm) g1 e1 (hy _)
 ·cases hg
theorem RL.two {a b:V} {xs:List Value} (h:RL k [a,b] xs):∃ x y,xs=[x,y]∧R k a x∧R k b y:=by
 simp only [RL] at h
 obtain ⟨x,r,rfl,h1,y,r',rfl,h2,rfl⟩:=h
 exact ⟨x,y,rfl,h1,h2⟩
theorem Qpq {ρ:Ren} (L:Lays.n138 P ρ):KnOk P (ρ.f 138) 2 (Q13 cntG):=by
 refine Q5p fun ls v k xs _ hg ha=>?_
 unfold cntG at hg
 split at hg<;>(try (cases hg;done))
 cases hg
 obtain ⟨x,y,rfl,h1,h2⟩:=RL.two ha
 simp only [R] at h1 h2
 subst h1;subst h2
 refine ⟨_,fun k'=>by simp only [R];rfl,(Any.strings_Count_one L _ _ _).mono ?_⟩
 rintro e w' ⟨rfl,rfl⟩
 exact ⟨rfl,.refl _ _⟩
theorem Qpp {ρ:Ren} (L:Lays.n143 P ρ):KnOk P (ρ.f 143) 2 (Q13 idxG):=by
 refine Q5p fun ls v k xs _ hg ha=>?_
 unfold idxG at hg
 split at hg<;>(try (cases hg;done))
 cases hg
 obtain ⟨x,y,rfl,h1,h2⟩:=RL.two ha
 simp only [R] at h1 h2
 subst h1;subst h2
 refine ⟨_,fun k'=>by simp only [R];rfl,(Any.strings_Index_one L _ _ _).mono ?_⟩
 rintro e w' ⟨rfl,rfl⟩
 exact ⟨rfl,.refl _ _⟩
theorem Qtz {ρ:Ren} (L:Lays.n160 P ρ) (h116:(P.info? (ρ.t 116)).map (fun i=>(i.zero,i.size))=some (some (.agg (Array.replicate 256 (.bool false))),256)):KnOk P (ρ.f 160) 2 (Q13 trmG):=by
 refine Q5p fun ls v k xs _ hg ha=>?_
 unfold trmG at hg
 split at hg<;>(try (cases hg;done))
 rename_i s c
 split at hg<;>(try (cases hg;done))
 rename_i hcond
 cases hg
 obtain ⟨x,y,rfl,h1,h2⟩:=RL.two ha
 simp only [R] at h1 h2
 subst h1;subst h2
 refine ⟨_,fun k'=>by simp only [R];rfl,(Any.strings_Trim_laid L h116 ⟨s.toArray⟩ ⟨c.toArray⟩ _ (by simpa [ByteArray.size] using hcond.1) (by simpa [ByteArray.size] using hcond.2.1) (ascii_of_all (by simpa using hcond.2.2))).mono ?_⟩
 rintro e w' ⟨rfl,h⟩
 exact ⟨rfl,h⟩
theorem Qu2 {ρ : Ren} (L : LaysM.n171 P ρ) (hT : ∀ w, GT.ok P w → Lib.TabIs P w "internal/strconv.uint64pow10" .u64 Lib.pow10Tab) : KnOk P (ρ.f 171) 1 (Q13 T.decG) := by
 refine Q5p fun ls v k xs gk hg ha=>?_
 unfold T.decG at hg
 split at hg<;>(try (cases hg;done))
 rename_i n
 split at hg<;>(try (cases hg;done))
 rename_i hcond
 cases hg
 simp only [RL] at ha
 obtain ⟨x,r,rfl,h1,rfl⟩:=ha
 simp only [R] at h1
 subst h1
 refine ⟨_,fun k'=>by simp only [R];rfl,(Any.strconv_Itoa L n hcond.1 hcond.2 k.w (hT _ gk.tab.2)).mono ?_⟩
 rintro e w' ⟨rfl,d,os,rfl⟩
 exact ⟨rfl,⟨rfl,rfl,rfl,by simp [Go.Sort.grow,World.drewN],fun b hb=>Array.getElem?_append_left hb⟩⟩
theorem Qc8 {k:K}:∀ {cs:List V} {l:List (List UInt8)} {xs:List Value},T.strsOf cs=some l→RL k cs xs→xs=(l.map fun s=>(⟨s.toArray⟩:ByteArray)).map Value.string
 | [],l,xs,h,hx=>by
  simp only [T.strsOf,jA] at h
  subst h
  simpa [RL] using hx
 | v::cs,l,xs,h,hx=>by
  simp only [RL] at hx
  obtain ⟨x,r,rfl,h1,h2⟩:=hx
  cases v with
  | str s =>
   simp only [T.strsOf] at h
   obtain ⟨l',h3,rfl⟩:=map_some h
   simp only [R] at h1
   rw [h1,Qc8 h3 h2]
   rfl
  | _=>simp [T.strsOf] at h
theorem Qdd {w:World} {b:Nat}:∀ {vs:List Value} {off:Nat},cellsAt w b off vs→∀ {j:Nat} {x:Value},vs[j]?=some x→w.cell? ⟨b,off+j,none⟩=some x
 | v::vs,off,h,0,x,hx=>by
  simp only [List.getElem?_cons_zero,jA] at hx
  subst hx
  exact h.1
 | v::vs,off,h,j+1,x,hx=>by
  have:=Qdd h.2 (j:=j) (by simpa using hx)
  rwa [show off+1+j=off+(j+1) by omega] at this
theorem Qu1 {ρ:Ren} (L:Lays.n156 P ρ) (X:Builder.Extra P ρ):KnOk P (ρ.f 156) 2 (Q13 T.joiG):=by
 refine Q5p fun ls v k xs gk hg ha=>?_
 unfold T.joiG at hg
 split at hg<;>(try (cases hg;done))
 rename_i c n cs sep
 split at hg<;>(try (cases hg;done))
 rename_i l hl
 split at hg<;>(try (cases hg;done))
 rename_i hcond
 obtain ⟨rfl,hn,hlen⟩:=hcond
 cases hg
 obtain ⟨x,y,rfl,h1,h2⟩:=RL.two ha
 simp only [R] at h1 h2
 subst h2
 refine ⟨.string ⟨(Lib.join l sep).toArray⟩,fun k'=>by simp only [R],?_⟩
 have none0:∀ a c,l=[]→Calls P (ρ.f 156) ⟨[.slice a 0 c,.string ⟨sep.toArray⟩]⟩ k.w (fun e w'=>e=.returned (.string ⟨(Lib.join l sep).toArray⟩)∧Below k.w.heap.size k.w w'):=fun a c e=>by
  subst e
  refine (Any.strings_Join_none L X a c ⟨sep.toArray⟩ k.w).mono ?_
  rintro e w' ⟨rfl,rfl⟩
  exact ⟨rfl,.refl _ _⟩
 rcases h1 with ⟨a,rfl,h3,_⟩|⟨b,off,cap,vs,rfl,hok,hcl,hRL,_,hcap,_⟩
 ·have:l=[]:=List.eq_nil_of_length_eq_zero h3
  subst this
  exact none0 a 0 rfl
 ·have hvs:=Qc8 hl hRL
  by_cases h0:l=[]
  ·subst h0
   exact none0 _ cap rfl
  ·have hb:b<k.w.heap.size:=by
    rcases hok with h|h
    ·rw [h] at hvs
     have:=congrArg List.length hvs
     simp at this
     exact absurd (List.eq_nil_of_length_eq_zero this.symm) h0
    ·exact h.2
   have hmm:(l.map fun s=>(⟨s.toArray⟩:ByteArray)).map (fun x=>x.data.toList)=l:=by
    rw [List.map_map]
    conv=>rhs;rw [← List.map_id l]
    exact List.map_congr_left fun s _=>rfl
   have:=Any.strings_Join L X b off cap (l.map fun s=>(⟨s.toArray⟩:ByteArray)) ⟨sep.toArray⟩ k.w (fun j x hx=>Qdd hcl (by rw [hvs,jH,hx];rfl)) hb (by simpa using hn) (by simpa using hcap) (by rw [hmm];exact hlen)
   rw [hmm,List.length_map] at this
   exact this
end Go.Dr
namespace Go.Dr
open Go.RowKit (Below)
open Go.Shelf Go.Proofs
variable {P:Program} [GT P] {k:K}
theorem Qgu {k:K}:∀ zs:List Int,RL k (Q00 zs) (zs.map fun n=>.int .i64 n)
 | []=>.nil
 | _::l=>RL.cons (by simp only [R]) (Qgu l)
theorem Q86:∀ zs:List Int,ones (Q00 zs)=true
 | []=>rfl
 | _::l=>by simp only [Q00,List.map_cons,ones,jF];exact ⟨rfl,Q86 l⟩
theorem Q4s:∀ zs:List Int,scalars (Q00 zs)=true
 | []=>rfl
 | _::l=>by simp only [Q00,List.map_cons,scalars,jF];exact ⟨rfl,Q4s l⟩
theorem Q84 {k:K}:∀ {zs:List Int} {xs:List Value},RL k (Q00 zs) xs→xs=zs.map fun n=>.int .i64 n
 | [],xs,h=>by simpa [Q00,RL] using h
 | n::l,xs,h=>by
  simp only [Q00,List.map_cons,RL] at h
  obtain ⟨x,r,rfl,h1,h2⟩:=h
  simp only [R] at h1
  rw [h1,Q84 h2];rfl
theorem Qaw (zs:List Int) (a m b:List Value) (hm:m.length=zs.length) :
  Go.Sort.putCells (Value.int .i64) a.length zs.toArray ⟨a++m++b⟩=⟨a++(zs.map fun n=>.int .i64 n)++b⟩:=by
 apply Array.ext_getElem?
 intro i
 simp only [Go.Sort.putCells,Array.getElem?_mapIdx,List.getElem?_toArray,List.size_toArray]
 by_cases h1:i<a.length
 ·have e1:(a++m++b)[i]?=a[i]?:=by rw [jO,List.getElem?_append_left h1]
  have e2:(a++(zs.map fun n=>Value.int .i64 n)++b)[i]?=a[i]?:=by rw [jO,List.getElem?_append_left h1]
  rw [e1,e2,jC h1,Option.map_some,if_neg (by omega)]
 ·by_cases h2:i<a.length+zs.length
  ·have e1:(a++m++b)[i]?=m[i-a.length]?:=by rw [jO,List.getElem?_append_right (by omega),List.getElem?_append_left (by omega)]
   have e2:(a++(zs.map fun n=>Value.int .i64 n)++b)[i]?=(zs.map fun n=>Value.int .i64 n)[i-a.length]?:=by
    rw [jO,List.getElem?_append_right (by omega),List.getElem?_append_left (by simp;omega)]
   rw [e1,e2,jC (show i-a.length<m.length by omega),Option.map_some,if_pos ⟨by omega,h2⟩,jH,jC (show i-a.length<zs.length by omega),Option.map_some,
    getElem!_pos zs.toArray (i-a.length) (by simp;omega)]
   simp
  ·have e1:(a++m++b)[i]?=b[i-(a.length+zs.length)]?:=by rw [List.getElem?_append_right (by simp;omega)];simp [hm]
   have e2:(a++(zs.map fun n=>Value.int .i64 n)++b)[i]?=b[i-(a.length+zs.length)]?:=by rw [List.getElem?_append_right (by simp;omega)];simp
   rw [e1,e2]
   cases b[i-(a.length+zs.length)]? with
   | none=>rfl
   | some y=>rw [Option.map_some,if_neg (by omega)]
theorem Qev (g:Good P k) (n:Nat) (os:Array Obj) (ro m:Nat):Good P { k with w:=Go.Sort.grow (Go.Sort.ahead k.w n) os }∧Ev ro m k { k with w:=Go.Sort.grow (Go.Sort.ahead k.w n) os }:=by
 have h2:∀ b,b<k.w.heap.size→(Go.Sort.grow (Go.Sort.ahead k.w n) os).heap[b]?=k.w.heap[b]?:=fun b hb=>Array.getElem?_append_left hb
 have h1:Below k.n0 k.w (Go.Sort.grow (Go.Sort.ahead k.w n) os):=⟨rfl,rfl,rfl,by simp,fun b hb=>h2 b (Nat.lt_of_lt_of_le hb g.size)⟩
 exact g.world h1 h2 ro m
theorem Qu0 {ρ:Ren} (L:Lays.n189 P ρ):KnOk P (ρ.f 189) 1 srtG:=by
 intro ro k ls xs v h' g ha hlen hg Q hQ
 unfold srtG at hg
 split at hg
 ·cases hg
  simp only [RL] at ha
  obtain ⟨x,r,rfl,h1,rfl⟩:=ha
  simp only [R] at h1
  subst h1
  refine (Any.slices_Sort_int_none L none 0 _).mono ?_
  rintro e w' ⟨rfl,rfl⟩
  exact hQ _ k rfl g (.refl _ _ _) (by simp only [R];exact ⟨[],rfl,by simp [RL]⟩)
 ·rename_i id gg off len clip
  simp only [RL] at ha
  obtain ⟨x,r,rfl,h1,rfl⟩:=ha
  obtain ⟨b,o',cap,c0,dat0,rfl,hb0,hgc,hlc,hcl,hpos⟩:=(by simpa only [R] using h1:∃ b o cap c dat,x=.slice (some ⟨b,o,none⟩) len cap∧bget k.h id=some (.blk c dat)∧gg≤c.length∧len≤cap∧(clip=true→cap=len) ∧
   (gg=c.length→off+len*1≤gg∧(k.β id).1=b∧(cap≠0→(k.β id).1=b∧off=o+(k.β id).2∧(clip=false→0<1→off+len*1=gg→Q12 k.w b=some (o+cap*1)))))
  split at hg
  ·rename_i h0
   subst h0
   cases hg
   refine (Any.slices_Sort_int_none L (some ⟨b,o',none⟩) cap _).mono ?_
   rintro e w' ⟨rfl,rfl⟩
   exact hQ _ k rfl g (.refl _ _ _) (by simp only [R];exact ⟨[],rfl,by simp [RL]⟩)
  ·rename_i h0
   split at hg<;>(try (cases hg;done))
   rename_i c dat hb
   rw [hb] at hb0
   simp only [jA,B.blk.injEq] at hb0
   obtain ⟨rfl,rfl⟩:=hb0
   split at hg<;>(try (cases hg;done))
   rename_i hcond
   obtain ⟨hro,hgl,hle,hsz⟩:=hcond
   split at hg<;>(try (cases hg;done))
   rename_i zs hzs
   cases hg
   obtain ⟨_,rfl,hp⟩:=hpos hgl
   obtain ⟨_,ho,_⟩:=hp (by omega)
   have hseg:=Q8g hzs
   have hzl:zs.length=len:=by
    have:=congrArg List.length hseg
    simp [Q00] at this;omega
   have hil:(Q0k zs).length=len:=by rw [Q21,hzl]
   obtain ⟨xs,rest,T,w1,w2,g1,e1⟩:=Qs9 (ro:=ro) g hb hro (Qgu (Q0k zs)) (Q86 _) (fun _=>Q4s _) (off:=off) (by simp [Q00,hil];omega) ho
   obtain ⟨q1,q2,q3,q4,xs',rest',T',q5,q6⟩:=g.blk id c dat hb
   simp only [List.length_map,hil] at w2
   -- the cells that are sorted
   have hxl:=RL.len q6
   simp only [List.length_drop] at hxl
   have hmid:((xs'.drop o').take len)=zs.map fun n=>Value.int .i64 n:=by
    refine Q84 (k:=k) ?_
    rw [← hseg]
    have:c.drop off=(c.drop (k.β id).2).drop o':=by rw [List.drop_drop];congr 1;omega
    rw [this]
    exact RL.take _ (RL.drop _ q6)
   rw [w1] at q5
   have hcs:xs++rest=xs'++rest':=by
    have:=q5
    simp only [jA,Obj.cells.injEq] at this
    simpa using this.1
   have hxle:o'+len≤xs'.length:=by omega
   have hdec:xs++rest=(xs'.take o')++(zs.map fun n=>Value.int .i64 n)++(xs'.drop (o'+len)++rest'):=by
    rw [hcs,← hmid,← jO]
    congr 1
    rw [← List.drop_drop,jO,List.take_append_drop,List.take_append_drop]
   have htk:(xs'.take o').length=o':=by simp;omega
   have hH:Go.Sort.Holds (Value.int .i64) k.w (k.β id).1 o' zs.toArray:=by
    intro j hj
    simp only [List.size_toArray] at hj
    have hcell:(xs++rest)[o'+j]?=some (Value.int .i64 zs[j]):=by
     rw [hdec,jO,List.getElem?_append_right (by omega),List.getElem?_append_left (by simp;omega),jH,show o'+j-(xs'.take o').length=j by omega,jC hj]
     rfl
    refine ⟨?_,?_⟩
    ·rw [getElem!_pos zs.toArray j (by simpa using hj)]
     simp only [World.cell?,w1]
     simpa using hcell
    ·simp [World.frozen?,w1]
   have hlt:(k.β id).1<k.w.heap.size:=(jP.1 w1).1
   rw [← hzl]
   refine (Any.slices_Sort_int L (k.β id).1 o' cap zs k.w hH hlt (by omega)).mono ?_
   rintro e w' ⟨rfl,n,os,rfl⟩
   rw [Qeu,Go.Sort.putRow_ahead]
   have hput:Go.Sort.putRow (Value.int .i64) k.w (k.β id).1 o' (Q0k zs).toArray=k.w.setRow (k.β id).1 ⟨xs.take o'++(Q0k zs).map (fun n=>Value.int .i64 n)++xs.drop (o'+((Q0k zs).map fun n=>Value.int .i64 n).length)++rest⟩:=by
    have hs:k.w.setRow (k.β id).1 ⟨xs.take o'++(Q0k zs).map (fun n=>Value.int .i64 n)++xs.drop (o'+((Q0k zs).map fun n=>Value.int .i64 n).length)++rest⟩=Go.Sort.mapBlock k.w (k.β id).1 (fun _=>⟨xs.take o'++(Q0k zs).map (fun n=>Value.int .i64 n)++xs.drop (o'+((Q0k zs).map fun n=>Value.int .i64 n).length)++rest⟩):=by
     unfold World.setRow Go.Sort.mapBlock
     congr 1
    rw [hs]
    unfold Go.Sort.putRow
    refine Go.Sort.mapBlock_congr _ _ _ _ fun cc e fr hcc=>?_
    rw [w1] at hcc
    simp only [jA,Obj.cells.injEq] at hcc
    obtain ⟨rfl,_,_⟩:=hcc
    have htx:(xs.take o').length=o':=by simp;omega
    have hsp:xs++rest=xs.take o'++(xs.drop o').take len++(xs.drop (o'+len)++rest):=by
     rw [← jO,← List.drop_drop,jO (xs.take o'),List.take_append_drop,List.take_append_drop]
    have:=Qaw (Q0k zs) (xs.take o') ((xs.drop o').take len) (xs.drop (o'+len)++rest) (by simp;omega)
    rw [htx,← hsp] at this
    rw [this,List.length_map,hil,← jO]
   rw [hput]
   obtain ⟨g2,e2⟩:=Qev g1 n os ro k.h.length
   exact hQ _ _ rfl g2 (e1.trans e2) (by simp only [R];exact ⟨[],rfl,by simp [RL]⟩)
 ·cases hg
end Go.Dr
