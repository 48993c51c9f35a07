import Derived.Test.YtjgnjjaofaapjaaGreatEvEnv
namespace Go.Ev
theorem fact_awake : says true (evalCall E1 100000 11 [] AH.empty) = true := by kernel_rfl
end Go.Ev
