import Derived.Test.YtomhmpgfkbgiiaaGreatRows
import Derived.JoinedOf
namespace Go.Proofs.YtomhmpgfkbgiiaaGreat.historyFragments
theorem unf : (Rows.historyFragmentsRow.unfollowed == Tryz.prog.unfollowed 3) = true := by kernel_rfl
end Go.Proofs.YtomhmpgfkbgiiaaGreat.historyFragments
