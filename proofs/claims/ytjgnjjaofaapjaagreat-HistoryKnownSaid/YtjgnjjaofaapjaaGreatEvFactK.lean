import Derived.Test.YtjgnjjaofaapjaaGreatEvKnown
namespace Go.Ev
open Go.RowKit Go.Proofs
theorem fact_known : says true (evalCall E2 100000 3 [] AH.empty) = true := by kernel_rfl
theorem known_true (w : World) : Calls Tryz.prog 3 #[] w fun e w' => e = .returned (.bool true) ∧ Below w.heap.size w w' := closed_bool sound2 100000 3 fact_known w
end Go.Ev
