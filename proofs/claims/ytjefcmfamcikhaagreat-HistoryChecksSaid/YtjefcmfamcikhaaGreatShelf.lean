/-
  DERIVED: THE SHELF's CONTRACTS AT THIS DUMP, IN PLAIN WORDS (tools/lay-plain.mjs out of 'YtjefcmfamcikhaaGreatLay.lean', which tools/lay-shelf.mjs wrote): THE SAME DECLARATIONS UNDER THE SAME NAMES: 'import', 'namespace', 'open', 'def', 'theorem' AND NOTHING ELSE: no command of the shelf's: FOR A HAND-IN. Each laying: the table of numbers ('.._ren') and one theorem, a field a fact of the dump's own or the kernel's comparison; each contract: ONE APPLICATION.
-/
import Derived.Shelf.SlIterI.Nil
import Derived.Shelf.SlGeneric
import Derived.Ground.GgzProg
import Derived.Test.YtjefcmfamcikhaaGreatProg
namespace Go.Proofs
open Go.Shelf
def Tryz.keys297_ren : Go.Shelf.Ren := ⟨fun | 7 => 297 | 10 => 345 | n => n, fun | 23 => 274 | 26 => 3 | 3 => 134 | 28 => 448 | 0 => 0 | 27 => 447 | 33 => 202 | 4 => 4 | n => n, fun | n => n⟩
theorem Tryz.keys297 : Go.Proofs.SlLaysZI.n7 Tryz.prog Tryz.keys297_ren := {
  mixed := by kernel_rfl
  f7 := ⟨Tryz.f297.name, by decide, Tryz.func297.trans (congrArg some (by kernel_rfl))⟩
  f10 := ⟨Tryz.f345.name, by decide, Tryz.func345.trans (congrArg some (by kernel_rfl))⟩
  t0 := Tryz.underlying0
  a0 := Tryz.isAgg0
  z0 := Tryz.sizeOf0
  v0 := Tryz.zeroValue0
  t4 := Tryz.underlying4
  a4 := Tryz.isAgg4
  z4 := Tryz.sizeOf4
  v4 := Tryz.zeroValue4
  t23 := Tryz.underlying274
  a23 := Tryz.isAgg274
  z23 := Tryz.sizeOf274
  v23 := Tryz.zeroValue274
  t26 := Tryz.underlying3
  a26 := Tryz.isAgg3
  z26 := Tryz.sizeOf3
  v26 := Tryz.zeroValue3
  t27 := Tryz.underlying447
  a27 := Tryz.isAgg447
  z27 := Tryz.sizeOf447
  v27 := Tryz.zeroValue447
  t28 := Tryz.underlying448
  a28 := Tryz.isAgg448
  z28 := Tryz.sizeOf448
  v28 := Tryz.zeroValue448
  t33 := Tryz.underlying202
  a33 := Tryz.isAgg202
  z33 := Tryz.sizeOf202
  v33 := Tryz.zeroValue202 }
def Tryz.collect343_ren : Go.Shelf.Ren := ⟨fun | 8 => 343 | 11 => 401 | n => n, fun | 26 => 3 | 28 => 448 | 24 => 226 | 0 => 0 | 33 => 202 | 4 => 4 | n => n, fun | n => n⟩
theorem Tryz.collect343 : Go.Proofs.SlLaysZI.n8 Tryz.prog Tryz.collect343_ren := {
  mixed := by kernel_rfl
  f8 := ⟨Tryz.f343.name, by decide, Tryz.func343.trans (congrArg some (by kernel_rfl))⟩
  f11 := ⟨Tryz.f401.name, by decide, Tryz.func401.trans (congrArg some (by kernel_rfl))⟩
  t0 := Tryz.underlying0
  a0 := Tryz.isAgg0
  z0 := Tryz.sizeOf0
  v0 := Tryz.zeroValue0
  t24 := Tryz.underlying226
  a24 := Tryz.isAgg226
  z24 := Tryz.sizeOf226
  v24 := Tryz.zeroValue226
  t26 := Tryz.underlying3
  a26 := Tryz.isAgg3
  z26 := Tryz.sizeOf3
  v26 := Tryz.zeroValue3
  t28 := Tryz.underlying448
  a28 := Tryz.isAgg448
  z28 := Tryz.sizeOf448
  v28 := Tryz.zeroValue448
  i26 := by kernel_rfl }
end Go.Proofs
