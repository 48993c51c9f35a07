/-
  DERIVED: THE SHELF's CONTRACTS AT THIS DUMP, IN PLAIN WORDS (tools/lay-plain.mjs out of 'YtjgnjjaofaapjaaGreatEvLay.lean', which tools/lay-shelf.mjs wrote): THE SAME DECLARATIONS UNDER THE SAME NAMES: 'import', 'namespace', 'open', 'def', 'theorem' AND NOTHING ELSE: no command of the shelf's: FOR A HAND-IN. Each laying: the table of numbers ('.._ren') and one theorem, a field a fact of the dump's own or the kernel's comparison; each contract: ONE APPLICATION.
-/
import Derived.Shelf.SlIterI.Nil
import Derived.Shelf.SlGeneric
import Derived.Ground.GgzProg
import Derived.Test.YtjgnjjaofaapjaaGreatProg
namespace Go.Proofs
open Go.Shelf
def Tryz.keys293_ren : Go.Shelf.Ren := ⟨fun | 7 => 293 | 10 => 340 | n => n, fun | 23 => 282 | 26 => 3 | 3 => 70 | 28 => 451 | 0 => 0 | 27 => 450 | 33 => 103 | 4 => 4 | n => n, fun | n => n⟩
theorem Tryz.keys293 : Go.Proofs.SlLaysZI.n7 Tryz.prog Tryz.keys293_ren := {
  mixed := by kernel_rfl
  f7 := ⟨Tryz.f293.name, by decide, Tryz.func293.trans (congrArg some (by kernel_rfl))⟩
  f10 := ⟨Tryz.f340.name, by decide, Tryz.func340.trans (congrArg some (by kernel_rfl))⟩
  t0 := Tryz.underlying0
  a0 := Tryz.isAgg0
  z0 := Tryz.sizeOf0
  v0 := Tryz.zeroValue0
  t4 := Tryz.underlying4
  a4 := Tryz.isAgg4
  z4 := Tryz.sizeOf4
  v4 := Tryz.zeroValue4
  t23 := Tryz.underlying282
  a23 := Tryz.isAgg282
  z23 := Tryz.sizeOf282
  v23 := Tryz.zeroValue282
  t26 := Tryz.underlying3
  a26 := Tryz.isAgg3
  z26 := Tryz.sizeOf3
  v26 := Tryz.zeroValue3
  t27 := Tryz.underlying450
  a27 := Tryz.isAgg450
  z27 := Tryz.sizeOf450
  v27 := Tryz.zeroValue450
  t28 := Tryz.underlying451
  a28 := Tryz.isAgg451
  z28 := Tryz.sizeOf451
  v28 := Tryz.zeroValue451
  t33 := Tryz.underlying103
  a33 := Tryz.isAgg103
  z33 := Tryz.sizeOf103
  v33 := Tryz.zeroValue103 }
def Tryz.collect338_ren : Go.Shelf.Ren := ⟨fun | 8 => 338 | 11 => 396 | n => n, fun | 26 => 3 | 28 => 451 | 24 => 101 | 0 => 0 | 33 => 103 | 4 => 4 | n => n, fun | n => n⟩
theorem Tryz.collect338 : Go.Proofs.SlLaysZI.n8 Tryz.prog Tryz.collect338_ren := {
  mixed := by kernel_rfl
  f8 := ⟨Tryz.f338.name, by decide, Tryz.func338.trans (congrArg some (by kernel_rfl))⟩
  f11 := ⟨Tryz.f396.name, by decide, Tryz.func396.trans (congrArg some (by kernel_rfl))⟩
  t0 := Tryz.underlying0
  a0 := Tryz.isAgg0
  z0 := Tryz.sizeOf0
  v0 := Tryz.zeroValue0
  t24 := Tryz.underlying101
  a24 := Tryz.isAgg101
  z24 := Tryz.sizeOf101
  v24 := Tryz.zeroValue101
  t26 := Tryz.underlying3
  a26 := Tryz.isAgg3
  z26 := Tryz.sizeOf3
  v26 := Tryz.zeroValue3
  t28 := Tryz.underlying451
  a28 := Tryz.isAgg451
  z28 := Tryz.sizeOf451
  v28 := Tryz.zeroValue451
  i26 := by kernel_rfl }
end Go.Proofs
