/- Top, of chapter 08: Awake: the calls of which the document says what they return. -/
import Derived.Test.YtbnmdlnkhghbpaaGreatDoorG17
import Derived.Test.YtbnmdlnkhghbpaaGreatDoorG10
namespace Go.Dr.T
def kwn (l:List V) (v:V) (as:List V):Option V:=match veqs as l with
 | true=>some v
 | false=>none
theorem kwn_eq {l:List V} {v w:V} {as:List V} (h:kwn l v as=some w):as=l∧w=v:=by
 unfold kwn at h
 split at h<;>cases h
 rename_i e
 exact ⟨Q66 e,rfl⟩
def filC:List V:=[.int .i64 3,.int .i64 2,.sl true 6 (ofBytes [10,20,30,40,50,60]),.int .i64 3,.int .i64 2,.sl true 6 (ofBytes [10,20,30,40,90,60])]
def filV:V:=.sl true 2 filC
def stL:List V:=[.int .i64 6,.int .i64 0,.int .i64 0,.sl true 1 (Q00 [0,0,1,0]),.int .i64 200,.int .i64 0,.int .i64 0,.sl true 0 []]
def chC:List (Int × Int × Int × Int)→List V
 | []=>[]
 | (a,b,c,d)::l=>.int .i64 a::.int .i64 b::.int .u8 c::.int .u8 d::chC l
def liC:List V:=chC [(0,2,30,230),(0,3,40,240),(0,4,50,250),(0,5,60,255)]
def stsC:List V:=[.int .i64 1,.int .i64 0,.int .i64 1,.nilsl,.int .i64 1,.int .i64 0,.int .i64 7,.nilsl,.int .i64 6,.int .i64 1,.int .i64 1,.nilsl,.int .i64 5,.int .i64 0,.int .i64 0,.nilsl]
def vts:List Vt:=[⟨[97,110,110],0,true⟩,⟨[98,111,98],0,true⟩,⟨[97,110,110],1,true⟩,⟨[99,108,101,111],1,true⟩,⟨[98,111,98],1,false⟩,⟨[98,111,98],1,true⟩]
def S0 (_:Nat):Option (List V→Option V):=none
theorem Qh2:Qfs FB1 md S0:=by
 intro fn g hg
 cases hg
def txt:List UInt8:=[76,79,71,32,49,10,83,84,69,80,32,52,10,48,32,50,32,51,48,32,50,51,48,10,48,32,51,32,52,48,32,50,52,48,10,48,32,52,32,53,48,32,50,53,48,10,48,32,53,32,54,48,32,50,53,53,10,69,78,68,32,54,10]
def filR:V:=.sl false 2 [.int .i64 3,.int .i64 2,.sl false 6 (ofBytes [10,20,230,240,250,255]),.int .i64 3,.int .i64 2,.sl false 6 (ofBytes [10,20,30,40,90,60])]
theorem do_doc:Fun FB1 md 18 [filV,.agg stL] (.tup [filR,.sl false 4 liC,.int .i64 0]):=Qa1 Qh2 (n:=300) (by decide +kernel)
theorem Qkc:Fun FB1 md 11 [filV,.sl true 2 stsC,.int .i64 0,.int .i64 5] (.tup [.agg [.int .i64 0,.int .i64 4],.sl false 1 (Q00 [0]),.int .i64 0]):=Qa1 Qh2 (n:=300) (by decide +kernel)
theorem Qoj:Fun FB1 md 9 [filV,.sl true 2 [.nilsl,.sl true 4 liC]] (.tup [.sl true 0 [],.int .i64 1,.int .i64 181]):=Qa1 Qh2 (n:=300) (by decide +kernel)
theorem Qjj:Fun FB1 md 23 [.sl true 1 [.sl true 4 liC]] (.tup [.str txt,.int .i64 0]):=Qa1 Qh2 (n:=300) (by decide +kernel)
theorem Qjx:votA 2 (vts.take 5) 2=[0]∧votE 2 (vts.take 5) 2=0:=⟨by decide +kernel,by decide +kernel⟩
theorem Qjw:Fun FB1 md 21 [.int .i64 2,.sl false 5 (vtC (vts.take 5)),.int .i64 2] (.tup [.sl false 1 (Q00 [0]),.int .i64 0]):=by
 have:=FunF.fun (Qi6 (c:=false) (n:=2) (need:=2) (l:=vts.take 5))
 rw [Qjx.1,Qjx.2] at this
 exact this
def S1 (n:Nat):Option (List V→Option V) :=
 match n with
 | 18=>some (kwn [filV,.agg stL] (.tup [filR,.sl false 4 liC,.int .i64 0]))
 | 11=>some (kwn [filV,.sl true 2 stsC,.int .i64 0,.int .i64 5] (.tup [.agg [.int .i64 0,.int .i64 4],.sl false 1 (Q00 [0]),.int .i64 0]))
 | 21=>some (kwn [.int .i64 2,.sl false 5 (vtC (vts.take 5)),.int .i64 2] (.tup [.sl false 1 (Q00 [0]),.int .i64 0]))
 | 9=>some (kwn [filV,.sl true 2 [.nilsl,.sl true 4 liC]] (.tup [.sl true 0 [],.int .i64 1,.int .i64 181]))
 | 23=>some (kwn [.sl true 1 [.sl true 4 liC]] (.tup [.str txt,.int .i64 0]))
 | _=>none
theorem known1:Qfs FB1 md S1:=by
 intro fn g hg as v h
 unfold S1 at hg
 split at hg
 all_goals (try (cases hg;done))
 all_goals
  cases hg
  obtain ⟨rfl,rfl⟩:=kwn_eq h
 ·exact do_doc
 ·exact Qkc
 ·exact Qjw
 ·exact Qoj
 ·exact Qjj
theorem Qqz:Fun FB1 md 5 [] (.bool true):=Qa1 known1 (n:=300) (by decide +kernel)
end Go.Dr.T
namespace Go.Dr.T
theorem tabF {f:Nat} {l:List V} {v:V} (h:Fun FB md f l v):Fun FB1 md f l v:=h.tab sub1
theorem Qpj {NU:Nat→UInt8} {p:List UInt8} {m:Nat} (h:m<p.length):(mixP NU p p.length).getD m 0=NU m:=by
 unfold mixP
 rw [List.drop_length,List.append_nil,jM,jH,List.getElem?_range h]
 rfl
end Go.Dr.T
