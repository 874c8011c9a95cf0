import Derived.Test.YtaaibffnehmaiaaGreatDoorSE
import Derived.KernelRfl
/-! NodeNobody's run. -/
namespace Go.Fx
theorem run_nodeNobody (a b c d e f g h i n : Int) (s : List Nat) : chkD 3 [.agg (chain [.int .i64 a, .int .i64 b, .int .i64 c, .int .i64 d, .int .i64 e, .int .i64 f, .int .i64 g, .int .i64 h, .int .i64 i, .str s]), .int .i64 n] = true := by kernel_rfl
end Go.Fx
