import Derived.Test.YtjefcmfamcikhaaGreatPrB
import Derived.WalkKit
import Derived.OwnWalkIn
import Derived.TacticsInMore
namespace Go.Ev
open Go.RowKit Go.Proofs Go.Maps Go.Sort Go.Shelf

theorem sort_nil (w : World) : Calls Tryz.prog 344 #[.slice none 0 0] w fun e w' => e = .returned (.tuple #[]) ∧ Below w.heap.size w w' :=
  closed_unit sound0 1000 344 #[.slice none 0 0] (by kernel_rfl) rfl w

theorem none_no (a : Addr) (r : Nat) (w : World) (hsp : a.spot = none) (hc : w.cell? a = some (.map (some r))) :
    Calls Tryz.prog 277 #[.pointer (some a)] w fun e w' => e = .returned (.bool false) ∧ w' = w := by
  obtain ⟨b, o, sp⟩ := a
  simp only at hsp
  subst hsp
  have h1 : ∀ (x : Addr) (w : World), (binOp BinOp.eql 231 (.pointer (some x)) (.pointer none)).run Tryz.prog w = .ok (.bool false) w := fun _ _ => by kernel_rfl
  have h2 : ∀ (x : Nat) (w : World), (binOp BinOp.eql 274 (.map (some x)) (.map none)).run Tryz.prog w = .ok (.bool false) w := fun _ _ => by kernel_rfl
  go_enter Tryz.func277, Tryz.ntmps277
  go_wp2
  go_ret
  exact ⟨rfl, rfl⟩

theorem sorted_empty (r clk : Nat) (w : World) (hm : w.heap[r]? = some (.map #[] clk)) :
    Calls Tryz.prog 296 #[.func (.func 345) #[] #[.pointer (some ⟨w.heap.size, 0, none⟩)]] (w.alloc (.cells #[.map (some r)] 274)) fun e w' => e = .returned (.slice none 0 0) ∧ Below (w.alloc (.cells #[.map (some r)] 274)).heap.size (w.alloc (.cells #[.map (some r)] 274)) w' := by
  have hc := (callsIn_wide).1 (Tryz.collect_empty r clk w hm)
  go_enter Tryz.func296, Tryz.ntmps296
  go_wp2_with (first
    | (go_at_call 343; refine hc.mono ?_; rintro e w1 ⟨rfl, hb⟩)
    | (go_at_call 344; refine (sort_nil _).mono ?_; rintro e w2 ⟨rfl, hb2⟩))
  go_ret
  exact ⟨rfl, hb.trans (hb2.mono hb.size)⟩

theorem ids_empty (a : Addr) (r clk : Nat) (w : World) (hsp : a.spot = none) (hc : w.cell? a = some (.map (some r))) (hm : w.heap[r]? = some (.map #[] clk)) :
    Calls Tryz.prog 234 #[.pointer (some a)] w fun e w' => e = .returned (.slice none 0 0) ∧ Below w.heap.size w w' := by
  have hn := none_no a r w hsp hc
  have hs := sorted_empty r clk w hm
  have hk : ∀ mb W, Calls Tryz.prog 297 #[.map mb] W fun e w' => e = .returned (.func (.func 345) #[] #[.pointer (some ⟨W.heap.size, 0, none⟩)]) ∧ w' = W.alloc (.cells #[.map mb] 274) :=
    fun mb W => (callsIn_wide (n := 5)).1 (AnyZI.keys_in Tryz.keys297 Fence.wide 5 trivial rfl mb W)
  obtain ⟨b, o, sp⟩ := a
  simp only at hsp
  subst hsp
  go_enter Tryz.func234, Tryz.ntmps234
  go_wp2_with (first
    | (go_at_call 277; refine hn.mono ?_; rintro e w1 ⟨rfl, rfl⟩)
    | (go_at_call 297; refine (hk _ _).mono ?_; rintro e w1 ⟨rfl, rfl⟩)
    | (go_at_call 296; refine hs.mono ?_; rintro e w1 ⟨rfl, hb⟩))
  go_ret
  exact ⟨rfl, Below.trans ((Below.refl _ _).alloc (Nat.le_refl _) _) (hb.mono (by simp))⟩
end Go.Ev
