import Derived.Test.YtjgnjjaofaapjaaGreatEvEnv
namespace Go.Ev
theorem fact_judge4 : gives (.tuple #[.int .i64 (-1), .int .i64 0]) (evalCall E1 100000 9 [shownV, toldV 4] (canon (shownObjs ++ toldObjs))) = true := by kernel_rfl
end Go.Ev
