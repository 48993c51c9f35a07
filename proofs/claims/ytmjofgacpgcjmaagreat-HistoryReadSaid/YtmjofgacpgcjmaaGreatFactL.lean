import Derived.Test.YtmjofgacpgcjmaaGreatEnvL
import Derived.Test.YtmjofgacpgcjmaaGreatSeB
namespace Go.Ev
open Go.RowKit Go.Proofs
theorem fact_awake : says true (evalCall E1 100000 5 [] AH.empty) = true := by kernel_rfl
theorem awake_ok (w : World) : Calls Tryz.prog 5 #[] w fun e w' => e = .returned (.bool true) ∧ Below w.heap.size w w' := closed_bool sound1 100000 5 fact_awake w
end Go.Ev
