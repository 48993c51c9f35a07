import Derived.Test.YtmjofgacpgcjmaaGreatRows
import Derived.JoinedOf
namespace Go.Proofs.YtmjofgacpgcjmaaGreat.historyRead
theorem recu : (Rows.historyReadRow.recurses == Tryz.prog.recurses 3) = true := by kernel_rfl
end Go.Proofs.YtmjofgacpgcjmaaGreat.historyRead
