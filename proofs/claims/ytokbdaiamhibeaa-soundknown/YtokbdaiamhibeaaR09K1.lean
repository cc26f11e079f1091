/- Chapter 09: the examples of the document, first part. -/
import Derived.Test.YtokbdaiamhibeaaR09Awk
namespace Go.Dr.T
def offR (a i : Int) : V := .tup [.int .i64 a, .int .i64 i, .int .i64 0]
theorem off1_doc : Fun F md 35 [taskV, .int .i64 1000000, .int .i64 10000] (offR 320 37) := fun_is known1 (n := 400) (by decide +kernel)
theorem off2_doc : Fun F md 35 [taskV, .int .i64 1000000, .int .i64 10100] (offR 420 37) := fun_is known1 (n := 400) (by decide +kernel)
end Go.Dr.T
