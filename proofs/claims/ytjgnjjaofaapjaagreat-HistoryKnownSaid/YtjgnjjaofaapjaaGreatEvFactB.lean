import Derived.Test.YtjgnjjaofaapjaaGreatEvEnv
namespace Go.Ev
theorem fact_count : gives countV (evalCall E1 100000 7 [shownV] (canon shownObjs)) = true := by kernel_rfl
end Go.Ev
