/-
  DERIVED: THE SHELF's CONTRACTS AT THIS DUMP, IN PLAIN WORDS (tools/lay-plain.mjs out of 'YtmjofgacpgcjmaaGreatLay.lean', which tools/lay-shelf.mjs wrote): THE SAME DECLARATIONS UNDER THE SAME NAMES: 'import', 'namespace', 'open', 'def', 'theorem' AND NOTHING ELSE: no command of the shelf's: FOR A HAND-IN. Each laying: the table of numbers ('.._ren') and one theorem, a field a fact of the dump's own or the kernel's comparison; each contract: ONE APPLICATION.
-/
import Derived.Shelf.SlIterI.Nil
import Derived.Shelf.SlGeneric
import Derived.Ground.GgzProg
import Derived.Test.YtmjofgacpgcjmaaGreatProg
namespace Go.Proofs
open Go.Shelf
def Tryz.keys325_ren : Go.Shelf.Ren := ⟨fun | 7 => 325 | 10 => 373 | n => n, fun | 23 => 309 | 26 => 3 | 3 => 115 | 28 => 472 | 0 => 0 | 27 => 471 | 33 => 246 | 4 => 4 | n => n, fun | n => n⟩
theorem Tryz.keys325 : Go.Proofs.SlLaysZI.n7 Tryz.prog Tryz.keys325_ren := {
  mixed := by kernel_rfl
  f7 := ⟨Tryz.f325.name, by decide, Tryz.func325.trans (congrArg some (by kernel_rfl))⟩
  f10 := ⟨Tryz.f373.name, by decide, Tryz.func373.trans (congrArg some (by kernel_rfl))⟩
  t0 := Tryz.underlying0
  a0 := Tryz.isAgg0
  z0 := Tryz.sizeOf0
  v0 := Tryz.zeroValue0
  t4 := Tryz.underlying4
  a4 := Tryz.isAgg4
  z4 := Tryz.sizeOf4
  v4 := Tryz.zeroValue4
  t23 := Tryz.underlying309
  a23 := Tryz.isAgg309
  z23 := Tryz.sizeOf309
  v23 := Tryz.zeroValue309
  t26 := Tryz.underlying3
  a26 := Tryz.isAgg3
  z26 := Tryz.sizeOf3
  v26 := Tryz.zeroValue3
  t27 := Tryz.underlying471
  a27 := Tryz.isAgg471
  z27 := Tryz.sizeOf471
  v27 := Tryz.zeroValue471
  t28 := Tryz.underlying472
  a28 := Tryz.isAgg472
  z28 := Tryz.sizeOf472
  v28 := Tryz.zeroValue472
  t33 := Tryz.underlying246
  a33 := Tryz.isAgg246
  z33 := Tryz.sizeOf246
  v33 := Tryz.zeroValue246 }
def Tryz.collect371_ren : Go.Shelf.Ren := ⟨fun | 8 => 371 | 11 => 429 | n => n, fun | 26 => 3 | 28 => 472 | 24 => 40 | 0 => 0 | 33 => 246 | 4 => 4 | n => n, fun | n => n⟩
theorem Tryz.collect371 : Go.Proofs.SlLaysZI.n8 Tryz.prog Tryz.collect371_ren := {
  mixed := by kernel_rfl
  f8 := ⟨Tryz.f371.name, by decide, Tryz.func371.trans (congrArg some (by kernel_rfl))⟩
  f11 := ⟨Tryz.f429.name, by decide, Tryz.func429.trans (congrArg some (by kernel_rfl))⟩
  t0 := Tryz.underlying0
  a0 := Tryz.isAgg0
  z0 := Tryz.sizeOf0
  v0 := Tryz.zeroValue0
  t24 := Tryz.underlying40
  a24 := Tryz.isAgg40
  z24 := Tryz.sizeOf40
  v24 := Tryz.zeroValue40
  t26 := Tryz.underlying3
  a26 := Tryz.isAgg3
  z26 := Tryz.sizeOf3
  v26 := Tryz.zeroValue3
  t28 := Tryz.underlying472
  a28 := Tryz.isAgg472
  z28 := Tryz.sizeOf472
  v28 := Tryz.zeroValue472
  i26 := by kernel_rfl }
end Go.Proofs
