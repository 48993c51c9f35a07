import Derived.Test.YtjgnjjaofaapjaaGreatRows
import Derived.JoinedOf
namespace Go.Proofs.YtjgnjjaofaapjaaGreat.historyKnown
theorem rowed : mapsRowed Tryz.prog = true := by kernel_rfl
end Go.Proofs.YtjgnjjaofaapjaaGreat.historyKnown
