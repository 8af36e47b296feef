/- The closed facts of the row DiskChanges, apart: the kernel's memory. -/
import Derived.Test.YtekcoeonlfmebaaGreatDoorRows
import Derived.ProofKit
import Derived.JoinedCond
namespace Go.Proofs.YtekcoeonlfmebaaGreatDoor.ZChanges
open Go.ChangeShapes Go.WideShapes Go.ChangeAt Go.RowKit
theorem named : Tryz.pinned.checked.prog.funcNamed Rows.diskChangesRow.func = some 4 := by kernel_rfl
theorem closed : joinedFacts Tryz.prog 4 Tryz.f4 (OpenSpec.ofChange Rows.diskChangesSpec).bare Rows.diskChangesRow = true := by kernel_rfl
end Go.Proofs.YtekcoeonlfmebaaGreatDoor.ZChanges
