import Derived.Test.YtmjofgacpgcjmaaGreatEvB
import Derived.Test.YtmjofgacpgcjmaaGreatPrA
import Derived.Shelf.SlIterI.Nil
import Derived.Shelf.SlGeneric
import Derived.Ground.GgzProg
import Derived.Test.YtmjofgacpgcjmaaGreatShelf
namespace Go.Proofs
open Go.RowKit Go.Maps Go.Sort Go.Shelf

theorem Tryz.collect_empty (b clk : Nat) (w : World) (hm : w.heap[b]? = some (.map #[] clk)) :
    CallsIn Fence.wide 5 Tryz.prog 371 #[.func (.func 373) #[] #[.pointer (some ⟨w.heap.size, 0, none⟩)]] (w.alloc (.cells #[.map (some b)] 309)) fun e w' => e = .returned (.slice none 0 0) ∧ Below (w.alloc (.cells #[.map (some b)] 309)).heap.size (w.alloc (.cells #[.map (some b)] 309)) w' := by
  have hown : w.ownsMap (H := Unit) Tryz.prog 3 (fun _ => none) b 0 (.map []) := ⟨#[], clk, hm, ⟨Nat.zero_le _, by constructor <;> simp, by simp⟩, Nat.le_refl _, rfl⟩
  have hbl := hown.lt
  have hseq : SeqGives Fence.wide 3 Tryz.prog 373 #[.pointer (some ⟨w.heap.size, 0, none⟩)] encZ (fun ss => ss.Perm (intKeys (H := Unit) (.map []))) 0 (w.alloc (.cells #[.map (some b)] 309)) :=
    AnyZI.keys_gives (ρ := Tryz.keys325_ren) { Tryz.keys325 with } Fence.wide _ trivial rfl (by omega) w.heap.size b 0 (.map []) _ (by simp) (by simp) (by
      obtain ⟨es, clock, hb, Ft, hs, hD⟩ := hown
      exact ⟨es, clock, (Below.heap_alloc _ _ b hbl).trans hb, Ft, hs, hD⟩)
  refine (AnyZI.collect_in Tryz.collect371 Fence.wide 5 trivial trivial rfl (by omega) 373 #[.pointer (some ⟨w.heap.size, 0, none⟩)] trivial (enters_of Tryz.func373 (by kernel_rfl) rfl) _ 0 (Nat.zero_le _) (by omega) _ hseq).mono ?_
  rintro e w' ⟨v, ss, rfl, hS, hrow, hnil, hb⟩
  have : ss = [] := by
    have := hS.length_eq
    simpa [intKeys] using this
  exact ⟨by rw [hnil.2 this], hb⟩
end Go.Proofs
