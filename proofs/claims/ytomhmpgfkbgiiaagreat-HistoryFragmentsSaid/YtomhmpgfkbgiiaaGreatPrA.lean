import Derived.Test.YtomhmpgfkbgiiaaGreatEvB
import Derived.Recover
import Derived.WalkKit
import Derived.Below
import Derived.Test.YtomhmpgfkbgiiaaGreatProg
namespace Go.Ev
open Go.RowKit Go.Proofs
theorem caught_idle (p : Value) (w : World) : CallsD Tryz.prog 106 #[p] .returning w fun e u' w' => e = .returned (.tuple #[]) ∧ u' = .returning ∧ w' = w := by
  have hnil : ∀ w : World, (binOp BinOp.eql 20 .nilIface .nilIface).run Tryz.prog w = .ok (.bool true) w := fun _ => by kernel_rfl
  refine callsD_of_wpS Tryz.func106 rfl fun c₀ cs hu => ?_
  apply wpS_seq
  apply wpS_region
  simp [wpOpsS, go_sem, recoverD, hu, Tryz.ntmps106, Exit.thenS]
  refine wpS_of_wp ?_
  have ht : #[p] ++ (Array.replicate 14 undef).setIfInBounds 4 Value.nilIface = #[p, undef, undef, undef, undef, .nilIface, undef, undef, undef, undef, undef, undef, undef, undef, undef] := by rfl
  rw [ht]
  go_wp2
  cases c₀
  simp_all [bodyPostS, results, Tryz.results106]
end Go.Ev
