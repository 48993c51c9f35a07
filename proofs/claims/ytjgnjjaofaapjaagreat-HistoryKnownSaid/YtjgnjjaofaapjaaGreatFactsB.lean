import Derived.Test.YtjgnjjaofaapjaaGreatRows
import Derived.JoinedOf
namespace Go.Proofs.YtjgnjjaofaapjaaGreat.historyKnown
theorem inpl : (Rows.historyKnownRow.inPlace == Tryz.prog.inPlace 3) = true := by kernel_rfl
end Go.Proofs.YtjgnjjaofaapjaaGreat.historyKnown
