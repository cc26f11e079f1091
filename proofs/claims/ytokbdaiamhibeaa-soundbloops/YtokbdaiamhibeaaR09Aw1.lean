/- Chapter 09: Fit of the document's task. -/
import Derived.Test.YtokbdaiamhibeaaR09Kn
namespace Go.Dr.T
def taskV : V := .agg [.int .i64 100, .int .i64 990, .int .i64 1010, .sl true 4 [.int .i64 10, .int .i64 20000, .int .i64 50, .int .i64 60, .int .i64 70000, .int .i64 100, .int .i64 61, .int .i64 72000, .int .i64 10, .int .i64 90, .int .i64 100200, .int .i64 0], .sl true 2 [.int .i64 1000000, .int .i64 1005000]]
theorem fit_doc : Fun F md 33 [taskV] (.tup [.agg [.int .i64 1000000, .int .i64 10000, .int .i64 320], .sl false 2 [.int .i64 1000000, .int .i64 37, .int .i64 37, .int .i64 320, .int .i64 1005000, .int .i64 0, .int .i64 38, .int .i64 330], .int .i64 0]) :=
  fun_is known1 (n := 1000) (by decide +kernel)
end Go.Dr.T
