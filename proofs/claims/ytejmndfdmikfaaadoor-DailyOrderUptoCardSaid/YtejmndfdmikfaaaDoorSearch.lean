/-
  DERIVED: THE SHELF's CONTRACTS AT THIS DUMP, IN PLAIN WORDS (tools/lay-plain.mjs out of 'TrydSearch.lean', which tools/lay-shelf.mjs wrote): THE SAME DECLARATIONS UNDER THE SAME NAMES: 'import', 'namespace', 'open', 'def', 'theorem' AND NOTHING ELSE: no command of the shelf's: FOR A HAND-IN. Each laying: the table of numbers ('.._ren') and one theorem, a field a fact of the dump's own or the kernel's comparison; each contract: ONE APPLICATION.
-/
import Derived.Shelf.SlSorted.Search
import Derived.Test.YtejmndfdmikfaaaDoorProg
namespace Go.Proofs
open Go.Shelf
def Tryd.laysSlso16_ren : Go.Shelf.Ren := ⟨fun | 16 => 45 | n => n, fun | 3 => 3 | 35 => 96 | 4 => 4 | 38 => 129 | n => n, fun | n => n⟩
theorem Tryd.laysSlso16 : Go.Proofs.SlLaysO.n16 Tryd.prog Tryd.laysSlso16_ren := {
  mixed := by kernel_rfl
  f16 := Tryd.func45.trans (congrArg some (by kernel_rfl))
  t3 := Tryd.underlying3
  a3 := Tryd.isAgg3
  z3 := Tryd.sizeOf3
  v3 := Tryd.zeroValue3
  t4 := Tryd.underlying4
  a4 := Tryd.isAgg4
  z4 := Tryd.sizeOf4
  v4 := Tryd.zeroValue4
  t35 := Tryd.underlying96
  a35 := Tryd.isAgg96
  z35 := Tryd.sizeOf96
  v35 := Tryd.zeroValue96
  t38 := Tryd.underlying129
  a38 := Tryd.isAgg129
  z38 := Tryd.sizeOf129
  v38 := Tryd.zeroValue129 }
end Go.Proofs
