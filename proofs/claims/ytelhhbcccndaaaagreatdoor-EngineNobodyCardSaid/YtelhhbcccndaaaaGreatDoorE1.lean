import Derived.Test.YtelhhbcccndaaaaGreatDoorS5
/-! EngineNobody's run. -/
namespace Go.Fx
theorem run_engineNobody (n : Int) (s : List Nat) : chk 3 [.int .i64 n, .str s] = true := by kernel_rfl
end Go.Fx
