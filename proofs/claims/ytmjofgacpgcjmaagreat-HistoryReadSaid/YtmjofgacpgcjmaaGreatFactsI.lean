import Derived.Test.YtmjofgacpgcjmaaGreatRows
import Derived.JoinedOf
namespace Go.Proofs.YtmjofgacpgcjmaaGreat.historyRead
theorem enter : Tryz.prog.mayEnter = true := by kernel_rfl
end Go.Proofs.YtmjofgacpgcjmaaGreat.historyRead
