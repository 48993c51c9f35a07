import Derived.Test.YtjgnjjaofaapjaaGreatFactsA
import Derived.Test.YtjgnjjaofaapjaaGreatFactsB
import Derived.Test.YtjgnjjaofaapjaaGreatFactsC
import Derived.Test.YtjgnjjaofaapjaaGreatFactsD
import Derived.Test.YtjgnjjaofaapjaaGreatFactsE
import Derived.Test.YtjgnjjaofaapjaaGreatFactsF
import Derived.Test.YtjgnjjaofaapjaaGreatFactsG
import Derived.Test.YtjgnjjaofaapjaaGreatFactsH
import Derived.Test.YtjgnjjaofaapjaaGreatFactsI
import Derived.Test.YtjgnjjaofaapjaaGreatRows
import Derived.JoinedOf
namespace Go.Proofs.YtjgnjjaofaapjaaGreat.historyKnown
theorem and_t {a b : Bool} (h : a = true) (k : b = true) : (a && b) = true := by rw [h, k]; rfl
theorem facts : joinedFacts Tryz.prog 3 Tryz.f3 Rows.historyKnownSpec Rows.historyKnownRow = true := by
  unfold joinedFacts
  exact (and_t (and_t (and_t (and_t (and_t (and_t (and_t (and_t (and_t (and_t (and_t (and_t (and_t (and_t (and_t (and_t (and_t (and_t (and_t (and_t (and_t (and_t (and_t (and_t (and_t (and_t (and_t (and_t (and_t (and_t (and_t (by kernel_rfl) laid) rowed) (by kernel_rfl)) (by kernel_rfl)) (by kernel_rfl)) (by kernel_rfl)) (by kernel_rfl)) (by kernel_rfl)) inpl) unf) recu) named) (by kernel_rfl)) (by kernel_rfl)) (by kernel_rfl)) (by kernel_rfl)) (by kernel_rfl)) (by kernel_rfl)) (by kernel_rfl)) (by kernel_rfl)) (by kernel_rfl)) pk) (by kernel_rfl)) heard) enter) (by kernel_rfl)) (by kernel_rfl)) (by kernel_rfl)) (by kernel_rfl)) (by kernel_rfl)) (by kernel_rfl))
end Go.Proofs.YtjgnjjaofaapjaaGreat.historyKnown
