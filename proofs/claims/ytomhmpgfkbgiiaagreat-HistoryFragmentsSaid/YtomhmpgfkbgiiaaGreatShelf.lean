/-
  DERIVED: THE SHELF's CONTRACTS AT THIS DUMP, IN PLAIN WORDS (tools/lay-plain.mjs out of 'YtomhmpgfkbgiiaaGreatLay.lean', which tools/lay-shelf.mjs wrote): THE SAME DECLARATIONS UNDER THE SAME NAMES: 'import', 'namespace', 'open', 'def', 'theorem' AND NOTHING ELSE: no command of the shelf's: FOR A HAND-IN. Each laying: the table of numbers ('.._ren') and one theorem, a field a fact of the dump's own or the kernel's comparison; each contract: ONE APPLICATION.
-/
import Derived.Shelf.SlIterI.Nil
import Derived.Shelf.SlGeneric
import Derived.Ground.GgzProg
import Derived.Test.YtomhmpgfkbgiiaaGreatProg
namespace Go.Proofs
open Go.Shelf
def Tryz.keys307_ren : Go.Shelf.Ren := ⟨fun | 7 => 307 | 10 => 354 | n => n, fun | 23 => 278 | 26 => 3 | 3 => 145 | 28 => 457 | 0 => 0 | 27 => 456 | 33 => 62 | 4 => 4 | n => n, fun | n => n⟩
theorem Tryz.keys307 : Go.Proofs.SlLaysZI.n7 Tryz.prog Tryz.keys307_ren := {
  mixed := by kernel_rfl
  f7 := ⟨Tryz.f307.name, by decide, Tryz.func307.trans (congrArg some (by kernel_rfl))⟩
  f10 := ⟨Tryz.f354.name, by decide, Tryz.func354.trans (congrArg some (by kernel_rfl))⟩
  t0 := Tryz.underlying0
  a0 := Tryz.isAgg0
  z0 := Tryz.sizeOf0
  v0 := Tryz.zeroValue0
  t4 := Tryz.underlying4
  a4 := Tryz.isAgg4
  z4 := Tryz.sizeOf4
  v4 := Tryz.zeroValue4
  t23 := Tryz.underlying278
  a23 := Tryz.isAgg278
  z23 := Tryz.sizeOf278
  v23 := Tryz.zeroValue278
  t26 := Tryz.underlying3
  a26 := Tryz.isAgg3
  z26 := Tryz.sizeOf3
  v26 := Tryz.zeroValue3
  t27 := Tryz.underlying456
  a27 := Tryz.isAgg456
  z27 := Tryz.sizeOf456
  v27 := Tryz.zeroValue456
  t28 := Tryz.underlying457
  a28 := Tryz.isAgg457
  z28 := Tryz.sizeOf457
  v28 := Tryz.zeroValue457
  t33 := Tryz.underlying62
  a33 := Tryz.isAgg62
  z33 := Tryz.sizeOf62
  v33 := Tryz.zeroValue62 }
def Tryz.collect352_ren : Go.Shelf.Ren := ⟨fun | 8 => 352 | 11 => 410 | n => n, fun | 26 => 3 | 28 => 457 | 24 => 33 | 0 => 0 | 33 => 62 | 4 => 4 | n => n, fun | n => n⟩
theorem Tryz.collect352 : Go.Proofs.SlLaysZI.n8 Tryz.prog Tryz.collect352_ren := {
  mixed := by kernel_rfl
  f8 := ⟨Tryz.f352.name, by decide, Tryz.func352.trans (congrArg some (by kernel_rfl))⟩
  f11 := ⟨Tryz.f410.name, by decide, Tryz.func410.trans (congrArg some (by kernel_rfl))⟩
  t0 := Tryz.underlying0
  a0 := Tryz.isAgg0
  z0 := Tryz.sizeOf0
  v0 := Tryz.zeroValue0
  t24 := Tryz.underlying33
  a24 := Tryz.isAgg33
  z24 := Tryz.sizeOf33
  v24 := Tryz.zeroValue33
  t26 := Tryz.underlying3
  a26 := Tryz.isAgg3
  z26 := Tryz.sizeOf3
  v26 := Tryz.zeroValue3
  t28 := Tryz.underlying457
  a28 := Tryz.isAgg457
  z28 := Tryz.sizeOf457
  v28 := Tryz.zeroValue457
  i26 := by kernel_rfl }
end Go.Proofs
