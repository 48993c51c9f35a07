import Derived.Test.YtomhmpgfkbgiiaaGreatRows
import Derived.JoinedOf
namespace Go.Proofs.YtomhmpgfkbgiiaaGreat.historyFragments
theorem enter : Tryz.prog.mayEnter = true := by kernel_rfl
end Go.Proofs.YtomhmpgfkbgiiaaGreat.historyFragments
