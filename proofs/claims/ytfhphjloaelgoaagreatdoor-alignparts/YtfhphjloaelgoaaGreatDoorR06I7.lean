/- Chapter 06: the arguments of AlignParts. -/
import Derived.Test.YtfhphjloaelgoaaGreatDoorR06I6
namespace Go.Dr.T
theorem us_cells:∀ {xs:List (List V)},(∀ x∈xs,x.length=1∧(Ty.int .u64).has x)→∃ l:List Int,xs.flatten=ofU l∧xs.length=l.length
 | [],_=>⟨[],rfl,rfl⟩
 | x :: xs,h=>by
  obtain ⟨l,h1,h2⟩:=us_cells (xs:=xs) fun y hy=>h y (by simp [hy])
  obtain ⟨_,hx⟩:=h x (by simp)
  simp only [Ty.has] at hx
  obtain ⟨a,rfl,_⟩:=hx
  exact ⟨a :: l,by simp only [List.flatten_cons,h1];rfl,by simp [h2]⟩
abbrev TyUs:Ty:=.slice 1 (.int .u64)
theorem us_val {v:V} (h:TyUs.val v):∃ l:List Int,v = .sl false l.length (ofU l):=by
 rw [TyUs] at h
 simp only [Ty.val] at h
 rw [Ty.has] at h
 obtain ⟨xs,e,hx⟩:=h
 simp only [List.cons.injEq,and_true] at e
 subst e
 obtain ⟨l,h1,h2⟩:=us_cells (xs:=xs) hx
 exact ⟨l,by rw [h1,h2]⟩
theorem bool_val {v:V} (h:Ty.bool.val v):∃ b,v = .bool b:=by
 simp only [Ty.val,Ty.has] at h
 obtain ⟨b,e⟩:=h
 simp only [List.cons.injEq,and_true] at e
 exact ⟨b,e⟩
theorem bulks_shI:∀ l:List (Int × Int),2 * l.length≤bulks (shC l)
 | []=>Nat.zero_le _
 | p :: l=>by
  have:=bulks_shI l
  simp only [shC,bulks,V.bulk,List.length_cons]
  omega
theorem bulks_us:∀ l:List Int,l.length≤bulks (ofU l)
 | []=>Nat.zero_le _
 | b :: l=>by
  have:=bulks_us l
  simp only [ofU,List.map_cons,bulks,V.bulk,List.length_cons] at this ⊢
  omega
theorem parts_bulk {x:El} {c wh:Bool} {bs:List Int} (hb:bulks [elA x,.sl c bs.length (ofU bs),.bool wh]≤1048576):x.l.length≤1000000∧bs.length≤1048576:=by
 have h1:=bulks_shI x.l
 have h2:=bulks_us bs
 unfold elA at hb
 rw [show x.v=[.str x.nm,.sl x.c x.l.length (shC x.l),.int .i64 x.g] from rfl] at hb
 simp only [bulks,V.bulk] at hb
 constructor <;> omega
end Go.Dr.T
