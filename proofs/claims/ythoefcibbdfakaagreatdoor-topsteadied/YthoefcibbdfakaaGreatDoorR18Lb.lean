/- Top, of chapter 08: functions of Go's library that are known by the shelf's contracts: strings.Count and Index of one byte, strings.Trim of ASCII letters, strings.Join, strconv.Itoa. -/
import Derived.Test.YthoefcibbdfakaaGreatDoorG0
import Derived.Test.YthoefcibbdfakaaGreatDoorDrE
import Derived.Shelf.Strings.SlTrimAscii
import Derived.Shelf.Strings.Count
import Derived.Shelf.Strings.Search3
import Derived.Shelf.Strings.OnBuilder
import Derived.Shelf.Strconv.Itoa3
namespace Go.Dr
open Go.RowKit (Below)
open Go.Shelf Go.Proofs
variable {P:Program} [GT P] {k:K}
theorem Q4v {f np:Nat} {gp:List V→Option V}
  (hc:∀ (ls:List V) (v:V) (k:K) (xs:List Value),Good P k→gp ls=some v→RL k ls xs→∃ y,(∀ k' : K,R k' v y)∧Calls P f ⟨xs⟩ k.w (fun e w' => e = .returned y∧Below k.w.heap.size k.w w')):KnOk P f np (Q12 gp):=by
 intro ro k ls xs v h' g ha hlen hg Q hQ
 unfold Q12 at hg
 split at hg
 ·rename_i hh
  obtain ⟨v1,hv1,e⟩:=map_some hg
  simp only [Prod.mk.injEq] at e
  obtain ⟨e1,e2⟩:=e
  subst e1
  obtain ⟨y,hy,hcc⟩:=hc ls _ k xs g hv1 ha
  refine hcc.mono ?_
  rintro e w' ⟨rfl,hb⟩
  obtain ⟨g1,e1⟩:=g.world (hb.mono g.size) hb.block ro k.h.length
  exact hQ y { k with w:=w' } (hh.trans e2.symm) g1 e1 (hy _)
 ·cases hg
theorem RL.two {a b:V} {xs:List Value} (h:RL k [a,b] xs):∃ x y,xs=[x,y]∧R k a x∧R k b y:=by
 simp only [RL] at h
 obtain ⟨x,r,rfl,h1,y,r', rfl,h2,rfl⟩:=h
 exact ⟨x,y,rfl,h1,h2⟩
theorem Qmi {ρ:Ren} (L:Lays.n138 P ρ):KnOk P (ρ.f 138) 2 (Q12 cntG):=by
 refine Q4v fun ls v k xs _ hg ha => ?_
 unfold cntG at hg
 split at hg <;> (try (cases hg;done))
 cases hg
 obtain ⟨x,y,rfl,h1,h2⟩:=RL.two ha
 simp only [R] at h1 h2
 subst h1;subst h2
 refine ⟨_,fun k' => by simp only [R];rfl,(Any.strings_Count_one L _ _ _).mono ?_⟩
 rintro e w' ⟨rfl,rfl⟩
 exact ⟨rfl,.refl _ _⟩
theorem Qmh {ρ:Ren} (L:Lays.n143 P ρ):KnOk P (ρ.f 143) 2 (Q12 idxG):=by
 refine Q4v fun ls v k xs _ hg ha => ?_
 unfold idxG at hg
 split at hg <;> (try (cases hg;done))
 cases hg
 obtain ⟨x,y,rfl,h1,h2⟩:=RL.two ha
 simp only [R] at h1 h2
 subst h1;subst h2
 refine ⟨_,fun k' => by simp only [R];rfl,(Any.strings_Index_one L _ _ _).mono ?_⟩
 rintro e w' ⟨rfl,rfl⟩
 exact ⟨rfl,.refl _ _⟩
theorem Qqb {ρ:Ren} (L:Lays.n160 P ρ) (h116:(P.info? (ρ.t 116)).map (fun i=>(i.zero,i.size))=some (some (.agg (Array.replicate 256 (.bool false))),256)):KnOk P (ρ.f 160) 2 (Q12 trmG):=by
 refine Q4v fun ls v k xs _ hg ha => ?_
 unfold trmG at hg
 split at hg <;> (try (cases hg;done))
 rename_i s c
 split at hg <;> (try (cases hg;done))
 rename_i hcond
 cases hg
 obtain ⟨x,y,rfl,h1,h2⟩:=RL.two ha
 simp only [R] at h1 h2
 subst h1;subst h2
 refine ⟨_,fun k' => by simp only [R];rfl,(Any.strings_Trim_laid L h116 ⟨s.toArray⟩ ⟨c.toArray⟩ _ (by simpa [ByteArray.size] using hcond.1) (by simpa [ByteArray.size] using hcond.2.1) (ascii_of_all (by simpa using hcond.2.2))).mono ?_⟩
 rintro e w' ⟨rfl,h⟩
 exact ⟨rfl,h⟩
theorem Qqd {ρ : Ren} (L : LaysM.n171 P ρ) (hT : ∀ w, GT.ok P w → Lib.TabIs P w "internal/strconv.uint64pow10" .u64 Lib.pow10Tab) : KnOk P (ρ.f 171) 1 (Q12 T.decG) := by
 refine Q4v fun ls v k xs gk hg ha => ?_
 unfold T.decG at hg
 split at hg <;> (try (cases hg;done))
 rename_i n
 split at hg <;> (try (cases hg;done))
 rename_i hcond
 cases hg
 simp only [RL] at ha
 obtain ⟨x,r,rfl,h1,rfl⟩:=ha
 simp only [R] at h1
 subst h1
 refine ⟨_,fun k' => by simp only [R];rfl,(Any.strconv_Itoa L n hcond.1 hcond.2 k.w (hT _ gk.tab.2)).mono ?_⟩
 rintro e w' ⟨rfl,d,os,rfl⟩
 exact ⟨rfl,⟨rfl,rfl,rfl,by simp [Go.Sort.grow,World.drewN],fun b hb=>Array.getElem?_append_left hb⟩⟩
theorem Qan {k:K}:∀ {cs:List V} {l:List (List UInt8)} {xs:List Value},T.strsOf cs=some l→RL k cs xs→xs=(l.map fun s=>(⟨s.toArray⟩:ByteArray)).map Value.string
 | [],l,xs,h,hx=>by
  simp only [T.strsOf,Option.some.injEq] at h
  subst h
  simpa [RL] using hx
 | v :: cs,l,xs,h,hx=>by
  simp only [RL] at hx
  obtain ⟨x,r,rfl,h1,h2⟩:=hx
  cases v with
  | str s =>
   simp only [T.strsOf] at h
   obtain ⟨l', h3,rfl⟩:=map_some h
   simp only [R] at h1
   rw [h1,Qan h3 h2]
   rfl
  | _=>simp [T.strsOf] at h
theorem Qbj {w:World} {b:Nat}:∀ {vs:List Value} {off:Nat},cellsAt w b off vs→∀ {j:Nat} {x:Value},vs[j]?=some x→w.cell? ⟨b,off+j,none⟩=some x
 | v :: vs,off,h,0,x,hx=>by
  simp only [List.getElem?_cons_zero,Option.some.injEq] at hx
  subst hx
  exact h.1
 | v :: vs,off,h,j+1,x,hx=>by
  have:=Qbj h.2 (j:=j) (by simpa using hx)
  rwa [show off+1+j=off+(j+1) by omega] at this
theorem Qqc {ρ:Ren} (L:Lays.n156 P ρ) (X:Builder.Extra P ρ):KnOk P (ρ.f 156) 2 (Q12 T.joiG):=by
 refine Q4v fun ls v k xs gk hg ha => ?_
 unfold T.joiG at hg
 split at hg <;> (try (cases hg;done))
 rename_i c n cs sep
 split at hg <;> (try (cases hg;done))
 rename_i l hl
 split at hg <;> (try (cases hg;done))
 rename_i hcond
 obtain ⟨rfl,hn,hlen⟩:=hcond
 cases hg
 obtain ⟨x,y,rfl,h1,h2⟩:=RL.two ha
 simp only [R] at h1 h2
 subst h2
 refine ⟨.string ⟨(Lib.join l sep).toArray⟩,fun k' => by simp only [R],?_⟩
 have none0:∀ a c,l=[]→Calls P (ρ.f 156) ⟨[.slice a 0 c,.string ⟨sep.toArray⟩]⟩ k.w (fun e w' => e = .returned (.string ⟨(Lib.join l sep).toArray⟩)∧Below k.w.heap.size k.w w'):=fun a c e=>by
  subst e
  refine (Any.strings_Join_none L X a c ⟨sep.toArray⟩ k.w).mono ?_
  rintro e w' ⟨rfl,rfl⟩
  exact ⟨rfl,.refl _ _⟩
 rcases h1 with ⟨a,rfl,h3,_⟩ | ⟨b,off,cap,vs,rfl,hok,hcl,hRL,_,hcap,_⟩
 ·have:l=[]:=List.eq_nil_of_length_eq_zero h3
  subst this
  exact none0 a 0 rfl
 ·have hvs:=Qan hl hRL
  by_cases h0:l=[]
  ·subst h0
   exact none0 _ cap rfl
  ·have hb:b<k.w.heap.size:=by
    rcases hok with h | h
    ·rw [h] at hvs
     have:=congrArg List.length hvs
     simp at this
     exact absurd (List.eq_nil_of_length_eq_zero this.symm) h0
    ·exact h.2
   have hmm:(l.map fun s=>(⟨s.toArray⟩:ByteArray)).map (fun x=>x.data.toList)=l:=by
    rw [List.map_map]
    conv=>rhs;rw [← List.map_id l]
    exact List.map_congr_left fun s _=>rfl
   have:=Any.strings_Join L X b off cap (l.map fun s=>(⟨s.toArray⟩:ByteArray)) ⟨sep.toArray⟩ k.w (fun j x hx=>Qbj hcl (by rw [hvs,List.getElem?_map,hx];rfl)) hb (by simpa using hn) (by simpa using hcap) (by rw [hmm];exact hlen)
   rw [hmm,List.length_map] at this
   exact this
end Go.Dr
