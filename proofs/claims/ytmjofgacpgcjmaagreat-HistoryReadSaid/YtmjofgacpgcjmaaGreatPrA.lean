import Derived.Test.YtmjofgacpgcjmaaGreatEvB
import Derived.Recover
import Derived.WalkKit
import Derived.Below
import Derived.Test.YtmjofgacpgcjmaaGreatProg
namespace Go.Ev
open Go.RowKit Go.Proofs
theorem caught_idle (p : Value) (w : World) : CallsD Tryz.prog 128 #[p] .returning w fun e u' w' => e = .returned (.tuple #[]) ∧ u' = .returning ∧ w' = w := by
  have hnil : ∀ w : World, (binOp BinOp.eql 20 .nilIface .nilIface).run Tryz.prog w = .ok (.bool true) w := fun _ => by kernel_rfl
  refine callsD_of_wpS Tryz.func128 rfl fun c₀ cs hu => ?_
  apply wpS_seq
  apply wpS_region
  simp [wpOpsS, go_sem, recoverD, hu, Tryz.ntmps128, Exit.thenS]
  refine wpS_of_wp ?_
  have ht : #[p] ++ (Array.replicate 14 undef).setIfInBounds 4 Value.nilIface = #[p, undef, undef, undef, undef, .nilIface, undef, undef, undef, undef, undef, undef, undef, undef, undef] := by rfl
  rw [ht]
  go_wp2
  cases c₀
  simp_all [bodyPostS, results, Tryz.results128]
end Go.Ev
