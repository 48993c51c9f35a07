import Derived.Test.YtmjofgacpgcjmaaGreatFactsA
import Derived.Test.YtmjofgacpgcjmaaGreatFactsB
import Derived.Test.YtmjofgacpgcjmaaGreatFactsC
import Derived.Test.YtmjofgacpgcjmaaGreatFactsD
import Derived.Test.YtmjofgacpgcjmaaGreatFactsE
import Derived.Test.YtmjofgacpgcjmaaGreatFactsF
import Derived.Test.YtmjofgacpgcjmaaGreatFactsG
import Derived.Test.YtmjofgacpgcjmaaGreatFactsH
import Derived.Test.YtmjofgacpgcjmaaGreatFactsI
import Derived.Test.YtmjofgacpgcjmaaGreatRows
import Derived.JoinedOf
namespace Go.Proofs.YtmjofgacpgcjmaaGreat.historyRead
theorem and_t {a b : Bool} (h : a = true) (k : b = true) : (a && b) = true := by rw [h, k]; rfl
theorem facts : joinedFacts Tryz.prog 3 Tryz.f3 Rows.historyReadSpec Rows.historyReadRow = true := by
  unfold joinedFacts
  exact (and_t (and_t (and_t (and_t (and_t (and_t (and_t (and_t (and_t (and_t (and_t (and_t (and_t (and_t (and_t (and_t (and_t (and_t (and_t (and_t (and_t (and_t (and_t (and_t (and_t (and_t (and_t (and_t (and_t (and_t (and_t (by kernel_rfl) laid) rowed) (by kernel_rfl)) (by kernel_rfl)) (by kernel_rfl)) (by kernel_rfl)) (by kernel_rfl)) (by kernel_rfl)) inpl) unf) recu) named) (by kernel_rfl)) (by kernel_rfl)) (by kernel_rfl)) (by kernel_rfl)) (by kernel_rfl)) (by kernel_rfl)) (by kernel_rfl)) (by kernel_rfl)) (by kernel_rfl)) pk) (by kernel_rfl)) heard) enter) (by kernel_rfl)) (by kernel_rfl)) (by kernel_rfl)) (by kernel_rfl)) (by kernel_rfl)) (by kernel_rfl))
end Go.Proofs.YtmjofgacpgcjmaaGreat.historyRead
