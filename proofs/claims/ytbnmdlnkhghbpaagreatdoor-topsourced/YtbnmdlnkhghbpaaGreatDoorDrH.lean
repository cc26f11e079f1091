/- The door: ways that meet again: what comes behind is walked once. Slots that hold nothing in the state that is named there are forgotten. -/
import Derived.Test.YtbnmdlnkhghbpaaGreatDoorDrF
namespace Go.Dr
variable {F:Nat→Option Fc} {md:Nat→Nat} {ro:Nat}
def Qrq:List (Nat × V)→List V→Prop
 | [],_=>True
 | (i,v)::l,tm=>tg tm i=v∧Qrq l tm
inductive Meet (n:Nat) (s:St) (us:List (Nat × V)) (h:List B):Prop where
 | mk:s.tm.length=n→Qrq us s.tm→s.h=h→Meet n s us h
inductive EndsC (F:Nat→Option Fc) (md:Nat→Nat) (ro:Nat) (c:MC) (st:St) (Q:X→St→Prop):Prop where
 | mk:Qjb F md ro c st Q→EndsC F md ro c st Q
end Go.Dr
