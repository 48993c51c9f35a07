import Derived.Test.YtjefcmfamcikhaaGreatRows
import Derived.JoinedOf
namespace Go.Proofs.YtjefcmfamcikhaaGreat.historyChecks
theorem enter : Tryz.prog.mayEnter = true := by kernel_rfl
end Go.Proofs.YtjefcmfamcikhaaGreat.historyChecks
