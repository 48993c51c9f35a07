import Derived.Test.YtmjofgacpgcjmaaGreatRows
import Derived.JoinedOf
namespace Go.Proofs.YtmjofgacpgcjmaaGreat.historyRead
theorem heard : Tryz.prog.stopsHeard = true := by kernel_rfl
end Go.Proofs.YtmjofgacpgcjmaaGreat.historyRead
