import Derived.Test.YtmjofgacpgcjmaaGreatRows
import Derived.JoinedOf
namespace Go.Proofs.YtmjofgacpgcjmaaGreat.historyRead
theorem pk : (Rows.historyReadRow.plainKeys == Tryz.prog.plainKeys) = true := by kernel_rfl
end Go.Proofs.YtmjofgacpgcjmaaGreat.historyRead
