import Derived.Test.YtjefcmfamcikhaaGreatFactsA
import Derived.Test.YtjefcmfamcikhaaGreatFactsB
import Derived.Test.YtjefcmfamcikhaaGreatFactsC
import Derived.Test.YtjefcmfamcikhaaGreatFactsD
import Derived.Test.YtjefcmfamcikhaaGreatFactsE
import Derived.Test.YtjefcmfamcikhaaGreatFactsF
import Derived.Test.YtjefcmfamcikhaaGreatFactsG
import Derived.Test.YtjefcmfamcikhaaGreatFactsH
import Derived.Test.YtjefcmfamcikhaaGreatFactsI
import Derived.Test.YtjefcmfamcikhaaGreatRows
import Derived.JoinedOf
namespace Go.Proofs.YtjefcmfamcikhaaGreat.historyChecks
theorem and_t {a b : Bool} (h : a = true) (k : b = true) : (a && b) = true := by rw [h, k]; rfl
theorem facts : joinedFacts Tryz.prog 3 Tryz.f3 Rows.historyChecksSpec Rows.historyChecksRow = true := by
  unfold joinedFacts
  exact (and_t (and_t (and_t (and_t (and_t (and_t (and_t (and_t (and_t (and_t (and_t (and_t (and_t (and_t (and_t (and_t (and_t (and_t (and_t (and_t (and_t (and_t (and_t (and_t (and_t (and_t (and_t (and_t (and_t (and_t (and_t (by kernel_rfl) laid) rowed) (by kernel_rfl)) (by kernel_rfl)) (by kernel_rfl)) (by kernel_rfl)) (by kernel_rfl)) (by kernel_rfl)) inpl) unf) recu) named) (by kernel_rfl)) (by kernel_rfl)) (by kernel_rfl)) (by kernel_rfl)) (by kernel_rfl)) (by kernel_rfl)) (by kernel_rfl)) (by kernel_rfl)) (by kernel_rfl)) pk) (by kernel_rfl)) heard) enter) (by kernel_rfl)) (by kernel_rfl)) (by kernel_rfl)) (by kernel_rfl)) (by kernel_rfl)) (by kernel_rfl))
end Go.Proofs.YtjefcmfamcikhaaGreat.historyChecks
