import Derived.Test.YtjefcmfamcikhaaGreatRows
import Derived.JoinedOf
namespace Go.Proofs.YtjefcmfamcikhaaGreat.historyChecks
theorem rowed : mapsRowed Tryz.prog = true := by kernel_rfl
end Go.Proofs.YtjefcmfamcikhaaGreat.historyChecks
