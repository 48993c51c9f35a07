import Derived.Test.YtjgnjjaofaapjaaGreatRows
import Derived.JoinedOf
namespace Go.Proofs.YtjgnjjaofaapjaaGreat.historyKnown
theorem unf : (Rows.historyKnownRow.unfollowed == Tryz.prog.unfollowed 3) = true := by kernel_rfl
end Go.Proofs.YtjgnjjaofaapjaaGreat.historyKnown
