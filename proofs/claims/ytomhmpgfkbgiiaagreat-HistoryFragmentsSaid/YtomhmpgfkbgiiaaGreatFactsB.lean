import Derived.Test.YtomhmpgfkbgiiaaGreatRows
import Derived.JoinedOf
namespace Go.Proofs.YtomhmpgfkbgiiaaGreat.historyFragments
theorem inpl : (Rows.historyFragmentsRow.inPlace == Tryz.prog.inPlace 3) = true := by kernel_rfl
end Go.Proofs.YtomhmpgfkbgiiaaGreat.historyFragments
