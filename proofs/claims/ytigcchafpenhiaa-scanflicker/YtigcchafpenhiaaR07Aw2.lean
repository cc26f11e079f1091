/- Chapter 07: Spots, Write, Move of the document's frame. -/
import Derived.Test.YtigcchafpenhiaaR07Kn
namespace Go.Dr.T
theorem spots_doc : Fun F md 35 [frA] (.tup [.sl false 1 [.int .i64 0, .int .i64 5, .int .i64 1, .int .i64 3, .int .i64 12], .int .i64 0]) :=
  fun_is known1 (n := 500) (by decide +kernel)
theorem write_doc : FunF F md 49 [.sl true 1 [.int .i64 6, .int .i64 4, .sl true 24 (ofBytes [0, 0, 0, 0, 0, 0, 0, 9, 9, 5, 0, 0, 0, 9, 200, 5, 0, 0, 7, 7, 7, 7, 7, 7])]] (.tup [bytesW, .int .i64 0]) :=
  funF_is known1 (n := 300) (by decide +kernel)
theorem move_doc : Fun F md 21 [frA, .int .i64 1, .int .i64 (-1), .int .u8 3] (.tup [frB', .int .i64 0]) :=
  fun_is known1 (n := 200) (by decide +kernel)
theorem frame_doc : Fun F md 43 [] frA := fun_is known1 (n := 30) (by decide +kernel)
theorem moved_doc : Fun F md 44 [] frB := fun_is known1 (n := 30) (by decide +kernel)
theorem area_doc : Fun F md 45 [.int .i64 1, .int .i64 3, .int .i64 1, .int .i64 2] (.agg [.int .i64 1, .int .i64 3, .int .i64 1, .int .i64 2]) := fun_is known1 (n := 30) (by decide +kernel)
theorem span_doc : Fun F md 46 [.int .i64 400000, .int .i64 409999] (.agg [.int .i64 400000, .int .i64 409999]) := fun_is known1 (n := 30) (by decide +kernel)
theorem light_doc : Fun F md 29 [.sl true 2 [.int .i64 1000, .int .i64 255, .int .i64 100, .int .i64 40]] (.tup [.agg [.int .i64 400000, .int .i64 409999], .int .i64 (-1), .int .i64 0]) :=
  fun_is known1 (n := 100) (by decide +kernel)
theorem check_doc : Fun F md 17 [.agg [.int .i64 1, .int .i64 49, .sl true 0 []]] (.int .i64 7) := fun_is known1 (n := 100) (by decide +kernel)
theorem same_doc : Fun F md 19 [frB', frB] (.bool true) := fun_is known1 (n := 100) (by decide +kernel)
end Go.Dr.T
