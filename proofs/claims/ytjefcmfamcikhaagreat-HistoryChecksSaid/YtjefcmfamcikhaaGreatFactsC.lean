import Derived.Test.YtjefcmfamcikhaaGreatRows
import Derived.JoinedOf
namespace Go.Proofs.YtjefcmfamcikhaaGreat.historyChecks
theorem unf : (Rows.historyChecksRow.unfollowed == Tryz.prog.unfollowed 3) = true := by kernel_rfl
end Go.Proofs.YtjefcmfamcikhaaGreat.historyChecks
