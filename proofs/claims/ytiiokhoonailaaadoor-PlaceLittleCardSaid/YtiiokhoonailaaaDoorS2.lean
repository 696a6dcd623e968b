/-
  DERIVED: THE SHELF's CONTRACTS AT THIS DUMP, IN PLAIN WORDS (tools/lay-plain.mjs out of 'TrydShelf2.lean', which tools/lay-shelf.mjs wrote): THE SAME DECLARATIONS UNDER THE SAME NAMES: 'import', 'namespace', 'open', 'def', 'theorem' AND NOTHING ELSE: no command of the shelf's: FOR A HAND-IN. Each laying: the table of numbers ('.._ren') and one theorem, a field a fact of the dump's own or the kernel's comparison; each contract: ONE APPLICATION.
-/
import Derived.Shelf.Lays2
import Derived.Test.YtiiokhoonailaaaDoorProg
namespace Go.Proofs
open Go.Shelf
def Tryd.laysInsert_ren : Go.Shelf.Ren := ⟨fun | 21 => 32 | 27 => 36 | 28 => 37 | 35 => 41 | 39 => 14 | n => n, fun | 22 => 23 | 3 => 3 | 4 => 4 | 0 => 0 | n => n, fun | n => n⟩
theorem Tryd.laysInsert : Go.Proofs.Lays2.n21 Tryd.prog Tryd.laysInsert_ren := {
  mixed := by kernel_rfl
  f21 := Tryd.func32.trans (congrArg some (by kernel_rfl))
  f27 := Tryd.func36.trans (congrArg some (by kernel_rfl))
  f28 := Tryd.func37.trans (congrArg some (by kernel_rfl))
  f35 := Tryd.func41.trans (congrArg some (by kernel_rfl))
  f39 := Tryd.func14.trans (congrArg some (by kernel_rfl))
  t0 := Tryd.underlying0
  a0 := Tryd.isAgg0
  z0 := Tryd.sizeOf0
  v0 := Tryd.zeroValue0
  t3 := Tryd.underlying3
  a3 := Tryd.isAgg3
  z3 := Tryd.sizeOf3
  v3 := Tryd.zeroValue3
  t4 := Tryd.underlying4
  a4 := Tryd.isAgg4
  z4 := Tryd.sizeOf4
  v4 := Tryd.zeroValue4
  t22 := Tryd.underlying23
  a22 := Tryd.isAgg23
  z22 := Tryd.sizeOf23
  v22 := Tryd.zeroValue23
  i3 := by kernel_rfl }
end Go.Proofs
