import Derived.Test.YtmjofgacpgcjmaaGreatPrB
import Derived.WalkKit
import Derived.OwnWalkIn
import Derived.TacticsInMore
namespace Go.Ev
open Go.RowKit Go.Proofs Go.Maps Go.Sort Go.Shelf

theorem sort_nil (w : World) : Calls Tryz.prog 372 #[.slice none 0 0] w fun e w' => e = .returned (.tuple #[]) ∧ Below w.heap.size w w' :=
  closed_unit sound0 1000 372 #[.slice none 0 0] (by kernel_rfl) rfl w

theorem none_no (a : Addr) (r : Nat) (w : World) (hsp : a.spot = none) (hc : w.cell? a = some (.map (some r))) :
    Calls Tryz.prog 305 #[.pointer (some a)] w fun e w' => e = .returned (.bool false) ∧ w' = w := by
  obtain ⟨b, o, sp⟩ := a
  simp only at hsp
  subst hsp
  have h1 : ∀ (x : Addr) (w : World), (binOp BinOp.eql 270 (.pointer (some x)) (.pointer none)).run Tryz.prog w = .ok (.bool false) w := fun _ _ => by kernel_rfl
  have h2 : ∀ (x : Nat) (w : World), (binOp BinOp.eql 309 (.map (some x)) (.map none)).run Tryz.prog w = .ok (.bool false) w := fun _ _ => by kernel_rfl
  go_enter Tryz.func305, Tryz.ntmps305
  go_wp2
  go_ret
  exact ⟨rfl, rfl⟩

theorem sorted_empty (r clk : Nat) (w : World) (hm : w.heap[r]? = some (.map #[] clk)) :
    Calls Tryz.prog 324 #[.func (.func 373) #[] #[.pointer (some ⟨w.heap.size, 0, none⟩)]] (w.alloc (.cells #[.map (some r)] 309)) fun e w' => e = .returned (.slice none 0 0) ∧ Below (w.alloc (.cells #[.map (some r)] 309)).heap.size (w.alloc (.cells #[.map (some r)] 309)) w' := by
  have hc := (callsIn_wide).1 (Tryz.collect_empty r clk w hm)
  go_enter Tryz.func324, Tryz.ntmps324
  go_wp2_with (first
    | (go_at_call 371; refine hc.mono ?_; rintro e w1 ⟨rfl, hb⟩)
    | (go_at_call 372; refine (sort_nil _).mono ?_; rintro e w2 ⟨rfl, hb2⟩))
  go_ret
  exact ⟨rfl, hb.trans (hb2.mono hb.size)⟩

theorem ids_empty (a : Addr) (r clk : Nat) (w : World) (hsp : a.spot = none) (hc : w.cell? a = some (.map (some r))) (hm : w.heap[r]? = some (.map #[] clk)) :
    Calls Tryz.prog 262 #[.pointer (some a)] w fun e w' => e = .returned (.slice none 0 0) ∧ Below w.heap.size w w' := by
  have hn := none_no a r w hsp hc
  have hs := sorted_empty r clk w hm
  have hk : ∀ mb W, Calls Tryz.prog 325 #[.map mb] W fun e w' => e = .returned (.func (.func 373) #[] #[.pointer (some ⟨W.heap.size, 0, none⟩)]) ∧ w' = W.alloc (.cells #[.map mb] 309) :=
    fun mb W => (callsIn_wide (n := 5)).1 (AnyZI.keys_in Tryz.keys325 Fence.wide 5 trivial rfl mb W)
  obtain ⟨b, o, sp⟩ := a
  simp only at hsp
  subst hsp
  go_enter Tryz.func262, Tryz.ntmps262
  go_wp2_with (first
    | (go_at_call 305; refine hn.mono ?_; rintro e w1 ⟨rfl, rfl⟩)
    | (go_at_call 325; refine (hk _ _).mono ?_; rintro e w1 ⟨rfl, rfl⟩)
    | (go_at_call 324; refine hs.mono ?_; rintro e w1 ⟨rfl, hb⟩))
  go_ret
  exact ⟨rfl, Below.trans ((Below.refl _ _).alloc (Nat.le_refl _) _) (hb.mono (by simp))⟩
end Go.Ev
