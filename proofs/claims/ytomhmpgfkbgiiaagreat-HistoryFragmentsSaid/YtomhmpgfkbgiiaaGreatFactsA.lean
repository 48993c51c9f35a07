import Derived.Test.YtomhmpgfkbgiiaaGreatRows
import Derived.JoinedOf
namespace Go.Proofs.YtomhmpgfkbgiiaaGreat.historyFragments
theorem laid : laidOutB Tryz.prog = true := by kernel_rfl
end Go.Proofs.YtomhmpgfkbgiiaaGreat.historyFragments
