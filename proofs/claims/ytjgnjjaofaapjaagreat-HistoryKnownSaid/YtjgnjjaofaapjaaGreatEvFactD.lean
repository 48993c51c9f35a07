import Derived.Test.YtjgnjjaofaapjaaGreatEvEnv
namespace Go.Ev
theorem fact_judge3 : gives (.tuple #[.int .i64 3, .int .i64 0]) (evalCall E1 100000 9 [shownV, toldV 3] (canon (shownObjs ++ toldObjs))) = true := by kernel_rfl
end Go.Ev
