/- Chapter 07: Steady of the document's frames. -/
import Derived.Test.YtigcchafpenhiaaR07Kn
namespace Go.Dr.T
theorem steady_doc : Fun F md 24 [frA, frB, .agg [.int .i64 1, .int .i64 3, .int .i64 1, .int .i64 2], .int .i64 2] (.tup [.agg [.int .i64 1, .int .i64 (-1), .int .i64 0], .int .i64 0]) :=
  fun_is known1 (n := 300) (by decide +kernel)
end Go.Dr.T
