import Derived.Test.YtmjofgacpgcjmaaGreatRows
import Derived.JoinedOf
namespace Go.Proofs.YtmjofgacpgcjmaaGreat.historyRead
theorem rowed : mapsRowed Tryz.prog = true := by kernel_rfl
end Go.Proofs.YtmjofgacpgcjmaaGreat.historyRead
