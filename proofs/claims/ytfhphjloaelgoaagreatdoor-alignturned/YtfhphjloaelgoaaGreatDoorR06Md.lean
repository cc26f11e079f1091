/- Chapter 06: how functions are called; the table without the functions that range over maps. -/
import Derived.Test.YtfhphjloaelgoaaGreatDoorR06Lit
import Derived.Test.YtfhphjloaelgoaaGreatDoorDrF
import Derived.Test.YtfhphjloaelgoaaGreatDoorDrG
import Derived.Test.YtfhphjloaelgoaaGreatDoorDrG
namespace Go.Dr.T
def md : Nat → Nat
  | 59 | 66 | 98 | 100 => 1
  | 93 | 97 => 2
  | 63 | 95 => 3
  | 92 => 6
  | _ => 0
def FB : Nat → Option Fc
  | 33 | 65 | 67 => none
  | 86 => some (knFc 2 86 (plainKn trmG))
  | 98 => some (knFc 1 98 srtG)
  | 119 => some (knFc 2 119 (plainKn cntG))
  | 120 => some (knFc 2 120 (plainKn idxG))
  | n => F n
end Go.Dr.T
