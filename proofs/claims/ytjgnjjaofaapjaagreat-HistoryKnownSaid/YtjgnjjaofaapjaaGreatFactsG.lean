import Derived.Test.YtjgnjjaofaapjaaGreatRows
import Derived.JoinedOf
namespace Go.Proofs.YtjgnjjaofaapjaaGreat.historyKnown
theorem heard : Tryz.prog.stopsHeard = true := by kernel_rfl
end Go.Proofs.YtjgnjjaofaapjaaGreat.historyKnown
