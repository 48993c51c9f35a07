import Derived.Test.YtomhmpgfkbgiiaaGreatRows
import Derived.JoinedOf
namespace Go.Proofs.YtomhmpgfkbgiiaaGreat.historyBytes
theorem heard : Tryz.prog.stopsHeard = true := by kernel_rfl
end Go.Proofs.YtomhmpgfkbgiiaaGreat.historyBytes
