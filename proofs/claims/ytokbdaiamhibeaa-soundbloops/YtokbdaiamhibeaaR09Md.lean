/- Chapter 09: how functions are called. -/
import Derived.Test.YtokbdaiamhibeaaR09Lit
import Derived.Test.YtokbdaiamhibeaaDrF
namespace Go.Dr.T

def md : Nat → Nat
  | 78 => 1
  | 87 | 89 | 103 => 1
  | 67 | 70 | 81 | 92 | 93 | 94 | 96 | 97 | 100 | 101 => 3
  | 13 | 14 | 42 | 44 | 48 | 50 | 82 => 4
  | _ => 0

end Go.Dr.T
