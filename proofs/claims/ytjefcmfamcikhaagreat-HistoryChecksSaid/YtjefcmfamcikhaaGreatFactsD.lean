import Derived.Test.YtjefcmfamcikhaaGreatRows
import Derived.JoinedOf
namespace Go.Proofs.YtjefcmfamcikhaaGreat.historyChecks
theorem recu : (Rows.historyChecksRow.recurses == Tryz.prog.recurses 3) = true := by kernel_rfl
end Go.Proofs.YtjefcmfamcikhaaGreat.historyChecks
