import Derived.Test.YtjefcmfamcikhaaGreatRows
import Derived.JoinedOf
namespace Go.Proofs.YtjefcmfamcikhaaGreat.historyChecks
theorem laid : laidOutB Tryz.prog = true := by kernel_rfl
end Go.Proofs.YtjefcmfamcikhaaGreat.historyChecks
