import Derived.Test.YtomhmpgfkbgiiaaGreatRows
import Derived.JoinedOf
namespace Go.Proofs.YtomhmpgfkbgiiaaGreat.historyBytes
theorem recu : (Rows.historyBytesRow.recurses == Tryz.prog.recurses 4) = true := by kernel_rfl
end Go.Proofs.YtomhmpgfkbgiiaaGreat.historyBytes
