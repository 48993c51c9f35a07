import Derived.Test.YtomhmpgfkbgiiaaGreatFactsA
import Derived.Test.YtomhmpgfkbgiiaaGreatFactsB
import Derived.Test.YtomhmpgfkbgiiaaGreatFactsC
import Derived.Test.YtomhmpgfkbgiiaaGreatFactsD
import Derived.Test.YtomhmpgfkbgiiaaGreatFactsE
import Derived.Test.YtomhmpgfkbgiiaaGreatFactsF
import Derived.Test.YtomhmpgfkbgiiaaGreatFactsG
import Derived.Test.YtomhmpgfkbgiiaaGreatFactsH
import Derived.Test.YtomhmpgfkbgiiaaGreatFactsI
import Derived.Test.YtomhmpgfkbgiiaaGreatRows
import Derived.JoinedOf
namespace Go.Proofs.YtomhmpgfkbgiiaaGreat.historyFragments
theorem and_t {a b : Bool} (h : a = true) (k : b = true) : (a && b) = true := by rw [h, k]; rfl
theorem facts : joinedFacts Tryz.prog 3 Tryz.f3 Rows.historyFragmentsSpec Rows.historyFragmentsRow = true := by
  unfold joinedFacts
  exact (and_t (and_t (and_t (and_t (and_t (and_t (and_t (and_t (and_t (and_t (and_t (and_t (and_t (and_t (and_t (and_t (and_t (and_t (and_t (and_t (and_t (and_t (and_t (and_t (and_t (and_t (and_t (and_t (and_t (and_t (and_t (by kernel_rfl) laid) rowed) (by kernel_rfl)) (by kernel_rfl)) (by kernel_rfl)) (by kernel_rfl)) (by kernel_rfl)) (by kernel_rfl)) inpl) unf) recu) named) (by kernel_rfl)) (by kernel_rfl)) (by kernel_rfl)) (by kernel_rfl)) (by kernel_rfl)) (by kernel_rfl)) (by kernel_rfl)) (by kernel_rfl)) (by kernel_rfl)) pk) (by kernel_rfl)) heard) enter) (by kernel_rfl)) (by kernel_rfl)) (by kernel_rfl)) (by kernel_rfl)) (by kernel_rfl)) (by kernel_rfl))
end Go.Proofs.YtomhmpgfkbgiiaaGreat.historyFragments
