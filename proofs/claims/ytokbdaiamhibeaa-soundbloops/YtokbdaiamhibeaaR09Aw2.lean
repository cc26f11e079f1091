/- Chapter 09: the other calls of Awake. -/
import Derived.Test.YtokbdaiamhibeaaR09Aw1
namespace Go.Dr.T
def stripF : V := .agg [.int .i64 4, .int .i64 3, .sl true 12 (ofBytes [0, 200, 127, 128, 255, 255, 0, 0, 10, 20, 30, 40])]
def stripM : V := .agg [.int .i64 4, .int .i64 3, .sl true 12 (ofBytes [0, 1, 0, 0, 0, 0, 0, 0, 0, 0, 0, 255])]
theorem strip_doc : Fun F md 53 [] (.tup [stripF, stripM]) := fun_is known1 (n := 30) (by decide +kernel)
theorem task_doc : Fun F md 54 [] taskV := fun_is known1 (n := 30) (by decide +kernel)
theorem track_doc : Fun F md 17 [stripF, stripM, .int .i64 2] (.tup [.sl true 3 [.int .i64 255, .int .i64 510, .int .i64 510, .int .i64 510, .int .i64 60, .int .i64 315], .int .i64 0]) := fun_is known1 (n := 200) (by decide +kernel)
theorem where75 : Fun F md 29 [taskV, .int .i64 75] (.tup [.agg [.int .i64 85050, .int .i64 85250], .int .i64 0]) := fun_is known1 (n := 200) (by decide +kernel)
theorem where100 : Fun F md 29 [taskV, .int .i64 100] (.tup [.agg [.int .i64 0, .int .i64 0], .int .i64 7]) := fun_is known1 (n := 200) (by decide +kernel)
theorem slip_doc : Fun F md 21 [.int .i64 100, .int .i64 20, .sl true 1 [.int .i64 30, .int .i64 39], .int .i64 25] (.tup [.int .i64 10, .int .i64 0]) := fun_is known1 (n := 200) (by decide +kernel)
theorem bloop_doc : Fun F md 42 [.sl true 5 [.int .i64 1, .int .i64 2, .int .i64 90, .int .i64 4, .int .i64 5], .sl true 1 [.int .i64 2], .int .i64 1] (.tup [.sl false 5 [.int .i64 1, .int .i64 2, .int .i64 3, .int .i64 4, .int .i64 5], .sl false 3 [.int .i64 2, .int .i64 90, .int .i64 4], .int .i64 0]) := fun_is known1 (n := 200) (by decide +kernel)
end Go.Dr.T
