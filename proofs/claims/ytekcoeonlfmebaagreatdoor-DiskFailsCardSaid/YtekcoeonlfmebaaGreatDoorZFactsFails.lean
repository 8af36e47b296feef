/- The closed facts of the row DiskFails, apart: the kernel's memory. -/
import Derived.Test.YtekcoeonlfmebaaGreatDoorRows
import Derived.ProofKit
import Derived.JoinedCond
namespace Go.Proofs.YtekcoeonlfmebaaGreatDoor.ZFails
open Go.ChangeShapes Go.WideShapes Go.ChangeAt Go.RowKit
theorem named : Tryz.pinned.checked.prog.funcNamed Rows.diskFailsRow.func = some 6 := by kernel_rfl
theorem closed : joinedFacts Tryz.prog 6 Tryz.f6 (OpenSpec.ofChange Rows.diskFailsSpec).bare Rows.diskFailsRow = true := by kernel_rfl
end Go.Proofs.YtekcoeonlfmebaaGreatDoor.ZFails
