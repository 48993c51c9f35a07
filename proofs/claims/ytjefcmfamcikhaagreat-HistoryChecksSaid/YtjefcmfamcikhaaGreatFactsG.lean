import Derived.Test.YtjefcmfamcikhaaGreatRows
import Derived.JoinedOf
namespace Go.Proofs.YtjefcmfamcikhaaGreat.historyChecks
theorem heard : Tryz.prog.stopsHeard = true := by kernel_rfl
end Go.Proofs.YtjefcmfamcikhaaGreat.historyChecks
